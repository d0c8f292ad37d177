/- The law MarkGauges at chapter 6, walked: it returns true. -/
import Derived.Test.YtfoocifhifpbdaaDoorGaugeO
namespace Go.Proofs.YtfoocifhifpbdaaDoor
open Go.ChangeShapes Go.WideShapes Go.ChangeAt Go.RowKit
set_option maxRecDepth 100000

def newO (b : Int) : Option Gauge := if 0 ≤ b ∧ b ≤ 1000000000 then some ⟨b, -1000000000000, false⟩ else none
def errN (b : Int) : Int := if 0 ≤ b ∧ b ≤ 1000000000 then 0 else 7
def errP : Option Gauge → Int | none => 2 | some _ => 0
theorem newO_canon (b : Int) : CanonO (newO b) := by
  unfold newO
  split
  · rename_i h
    exact ⟨h.1, h.2, fun h => (by cases h), fun _ => (by have := h.1; have := h.2; show (-1000000000000 : Int) ≤ -1000000000000 ∧ (-1000000000000 : Int) ≤ 1000000000000 - b + 1; omega)⟩
  · trivial
theorem newO_of {w w' : World} {b : Int} {e : Ending} (h : NewGauge w b e w') : ∃ p, e = .returned (.tuple #[.pointer p, .int .i64 (errN b)]) ∧ PAt w' w.heap.size p (newO b) ∧ Below w.heap.size w w' := by
  unfold newO errN
  split
  · rename_i hb
    obtain ⟨rfl, hg, hs, hB⟩ := NewGauge_yes h hb
    exact ⟨_, rfl, ⟨_, Nat.le_refl _, rfl, hg⟩, hB⟩
  · rename_i hb
    obtain ⟨rfl, rfl⟩ := NewGauge_no h hb
    exact ⟨none, rfl, rfl, Below.refl _ _⟩
theorem gO_new (b : Int) (w : World) : Calls Tryd.prog 15 #[.int .i64 b] w fun e w' => ∃ p, e = .returned (.tuple #[.pointer p, .int .i64 (errN b)]) ∧ PAt w' w.heap.size p (newO b) ∧ Below w.heap.size w w' := (gnew_any b w).mono fun _ _ h => newO_of h
theorem rO_new (b : Int) (w : World) : Calls Tryd.prog 16 #[.int .i64 b] w fun e w' => ∃ p, e = .returned (.tuple #[.pointer p, .int .i64 (errN b)]) ∧ PAt w' w.heap.size p (newO b) ∧ Below w.heap.size w w' := (rnew_any b w).mono fun _ _ h => newO_of h
theorem gText_ne (b m : Int) (c : Bool) : gText b m c ≠ [] := by unfold gText; simp
theorem gO_parse {x : Option Gauge} (hc : CanonO x) (w : World) (hT : Tryd.Tab w) (hE : Tryd.Errs w) (hM : Tryd.MaxIs w) :
    Calls Tryd.prog 6 #[.string (textO x)] w fun e w' => ∃ p, e = .returned (.tuple #[.pointer p, .int .i64 (errP x)]) ∧ PAt w' w.heap.size p x ∧ Below w.heap.size w w' := by
  cases x with
  | none =>
    refine (gparse_any ⟨#[]⟩ w (by decide) hT hE hM).mono fun e w' h => ?_
    obtain ⟨rfl, hb⟩ := h.isBad (by decide) (parseG_none fun b m c _ => gText_ne b m c)
    exact ⟨none, rfl, rfl, hb⟩
  | some y =>
    have hs : y.text.size ≤ 43 := gText_len hc
    refine (gparse_any y.text w (by unfold maxLen; omega) hT hE hM).mono fun e w' h => ?_
    obtain ⟨g, hg, rfl, ha, hb⟩ := h.isGood (by omega) (show parseG (gText y.bound y.mark y.closed) = _ from parseG_some hc)
    exact ⟨_, rfl, ⟨g, hg, rfl, ha⟩, hb⟩

structure Two (w0 w : World) (p q : Option Addr) (x : Option Gauge) : Prop where
  px : PAt w w0.heap.size p x
  qx : PAt w w0.heap.size q x
  dj : ∀ k, blkOf p k → ¬ blkOf q k
  cn : CanonO x
  bl : Below w0.heap.size w0 w
theorem Two.pure {w0 w w' : World} {p q : Option Addr} {x : Option Gauge} (h : Two w0 w p q x) (hb : Below w.heap.size w w') : Two w0 w' p q x :=
  ⟨h.px.below hb, h.qx.below hb, h.dj, h.cn, h.bl.trans (hb.mono h.bl.size)⟩
theorem Two.q1 {w0 w w1 : World} {p q : Option Addr} {x : Option Gauge} (h : Two w0 w p q x) (hk : Keeps (blkOf p) w w1) : PAt w1 w0.heap.size q x := h.qx.keeps hk (fun k hq hp => h.dj k hp hq)
theorem Two.step {w0 w w1 w2 : World} {p q : Option Addr} {x x' : Option Gauge} (h : Two w0 w p q x) (hk : Keeps (blkOf p) w w1) (hp : PAt w1 w0.heap.size p x') (hk2 : Keeps (blkOf q) w1 w2) (hq : PAt w2 w0.heap.size q x') (hc : CanonO x') : Two w0 w2 p q x' :=
  ⟨hp.keeps hk2 (fun k h1 h2 => h.dj k h1 h2), hq, h.dj, hc, Keeps.belowStep (Keeps.belowStep h.bl hk (fun k hk => (h.px.lt hk).1) h.bl.size) hk2 (fun k hk => (h.qx.lt hk).1) (Nat.le_trans h.bl.size hk.size)⟩
theorem Two.new {w0 w w' : World} {p p' q : Option Addr} {x : Option Gauge} (h : Two w0 w p q x) (hb : Below w.heap.size w w') (hp : PAt w' w.heap.size p' x) : Two w0 w' p' q x := by
  have h' := h.pure hb
  refine ⟨?_, h'.qx, fun k h1 h2 => ?_, h.cn, h'.bl⟩
  · cases x with
    | none => exact hp
    | some y =>
      obtain ⟨g, hg, hp, ha⟩ := hp
      exact ⟨g, Nat.le_trans h.bl.size hg, hp, ha⟩
  · have := (hp.lt h1).1
    have := (h.qx.lt h2).2
    omega
theorem Two.first {w w1 w2 : World} {p q : Option Addr} {x : Option Gauge} (hp : PAt w1 w.heap.size p x) (hb1 : Below w.heap.size w w1) (hq : PAt w2 w1.heap.size q x) (hb2 : Below w1.heap.size w1 w2) (hc : CanonO x) : Two w w2 p q x := by
  have s1 := hb1.size
  refine ⟨hp.below hb2, ?_, fun k h1 h2 => ?_, hc, hb1.trans (hb2.mono s1)⟩
  · cases x with
    | none => exact hq
    | some y =>
      obtain ⟨g, hg, hq, ha⟩ := hq
      exact ⟨g, Nat.le_trans s1 hg, hq, ha⟩
  · have := (hp.lt h1).2
    have := (hq.lt h2).1
    omega
theorem Two.cell {w0 w : World} {p q : Option Addr} {x : Option Gauge} {b o : Nat} {v : Value} (h : Two w0 w p q x) (hc : w0.cell? ⟨b, o, none⟩ = some v) : w.cell? ⟨b, o, none⟩ = some v := (mem_of_block (h.bl.block b (mem_lt hc)) _).trans hc

structure Act where
  kind : Int
  time : Int
  deriving Inhabited
def tAct : Ty Act := ⟨2, fun _ cs x => cs = [.int .i64 x.kind, .int .i64 x.time] ∧ inI64 x.kind ∧ inI64 x.time, fun _ _ _ h => by rw [h.1]; rfl, fun _ _ _ _ _ h => h⟩
theorem act_at {m : Mem} {b o : Nat} {x : Act} (h : tAct.at m b o x) : m b o = some (.int .i64 x.kind) ∧ m b (o + 1) = some (.int .i64 x.time) ∧ inI64 x.kind ∧ inI64 x.time := by
  obtain ⟨cs, hc, rfl, hk, ht⟩ := h
  exact ⟨hc 0 _ rfl, hc 1 _ rfl, hk, ht⟩
set_option maxRecDepth 100000 in
theorem reads_act : Reads Tryd.prog 39 tAct := fun H enc w n cs d h => by
  obtain ⟨xs, n', _, _, hl, hx, hg⟩ := DataW.trod_struct Tryd.underlying39 h
  rw [show Tryd.prog.cellsOf 39 = 2 from by kernel_rfl] at hl
  have g0 := hg 0 _ rfl
  obtain ⟨x0, r0⟩ := field_read (reads_int Tryd.underlying3) 0 1 rfl rfl (by kernel_rfl) g0 (by rw [hx]; decide)
  have g1 := hg 1 _ rfl
  obtain ⟨x1, r1⟩ := field_read (reads_int Tryd.underlying3) 1 1 rfl rfl (by kernel_rfl) g1 (by rw [hx]; decide)
  match cs, hl with
  | [c0, c1], _ =>
    obtain ⟨e0, i0⟩ := r0
    obtain ⟨e1, i1⟩ := r1
    simp at e0 e1
    exact ⟨⟨x0, x1⟩, by rw [e0, e1], i0, i1⟩
theorem reads_acts : Reads Tryd.prog 35 (tSlice tAct) := reads_slice Tryd.underlying35 (by kernel_rfl) (by decide) reads_act

set_option maxHeartbeats 16000000 in
theorem markGauges_any (b : Int) (acts : List Act) (v : Value) (w : World) (hb64 : inI64 b) (hv : (tSlice tAct).rv (mem w) [v] acts) (hT : Tryd.Tab w) (hE : Tryd.Errs w) (hM : Tryd.MaxIs w) :
    Calls Tryd.prog 4 #[.int .i64 b, v] w fun e w' => e = .returned (.bool true) ∧ Below w.heap.size w w' := by
  obtain ⟨a, cap, rfl, hl, hm, hv⟩ := slice_form hv
  have hcap : cap ≤ 9223372036854775807 := by unfold maxLen at hm; exact hm
  have HA := Lib.hid awake_any
  have HTab := Lib.hid (fun (wr : World) (h : Below w.heap.size w wr) => Tryd.tabStays hT h)
  have HP := Lib.hid (fun (x : Option Gauge) (hc : CanonO x) (wr : World) (h : Below w.heap.size w wr) => gO_parse hc wr (Tryd.tabStays hT h) (Tryd.errsStay hE h) (Tryd.maxStays hM h))
  clear hT hE hM hm
  by_cases h300 : 300 < acts.length
  · go_enter Tryd.func4, Tryd.ntmps4
    go_wp2_with (first | (go_at_call 5; refine (HA.out _).mono ?_; rintro e w' ⟨rfl, hb⟩) | fail)
    go_ret
    exact ⟨rfl, hb⟩
  have HN1 := Lib.hid (gO_new b w)
  have HN2 := Lib.hid (rO_new b)
  have HC := Lib.hid (newO_canon b)
  generalize newO b = xn at HN1 HN2 HC
  generalize errN b = er at HN1 HN2
  go_enter Tryd.func4, Tryd.ntmps4
  go_wp2_with fail
  refine HN1.out.mono ?_
  rintro e w1 ⟨p, rfl, hp, hb1⟩
  go_wp2_with fail
  refine (HN2.out _).mono ?_
  rintro e w2 ⟨q, rfl, hq, hb2⟩
  have HT2 := Lib.hid (Two.first hp hb1 hq hb2 HC.out)
  clear HN1 HN2 HC hp hb1 hq hb2
  go_wp2_with fail
  go_loopw [5, 9] (fun xp i wr => ∃ k : Nat, k ≤ acts.length ∧ i = .int .i64 k ∧ ∃ p x, xp = .pointer p ∧ Two w wr p q x) (fun _ i _ => acts.length - (intOf i).toNat)
  case atStart => exact ⟨0, by omega, rfl, _, _, rfl, HT2.out⟩
  case round =>
    clear HT2
    obtain ⟨k, hk, rfl, p, x, rfl, h2⟩ := hrel
    by_cases hlt : k < acts.length
    · obtain ⟨bb, o, rfl, hat⟩ := slice_at (t := tAct) hv hlt
      obtain ⟨c0, c1, i0, i1⟩ := act_at hat
      have d0 : wr.cell? ⟨bb, o + k * 2, none⟩ = some (.int .i64 acts[k].kind) := h2.cell c0
      have HD := Lib.hid (fun (wq : World) (p q : Option Addr) (x : Option Gauge) (h : Two w wq p q x) => (h.cell c1 : wq.cell? ⟨bb, o + k * 2 + 1, none⟩ = some (.int .i64 acts[k].time)))
      have HDB := Lib.hid (fun (wq : World) (h : Below w.heap.size w wq) => (show wq.cell? ⟨bb, o + k * 2 + 1, none⟩ = some (.int .i64 acts[k].time) from (mem_of_block (h.block bb (mem_lt c1)) _).trans c1))
      clear hat hv
      generalize acts[k] = act at d0 HD HDB i0 i1
      clear c0 c1
      obtain ⟨kd, tm⟩ := act
      simp only at d0 HD HDB i0 i1
      have H2 := Lib.hid h2
      clear h2
      by_cases h0 : kd = 0
      · subst h0
        have d1 := HD.out _ _ _ _ H2.out
        have HU := Lib.hid (seeO_up x tm)
        have HLT := Lib.hid (seeO_late x tm)
        have HCN := Lib.hid (seeO_canon H2.out.cn tm)
        have HS := Lib.hid (gO_see H2.out.px tm)
        have HR := Lib.hid (fun (w1 : World) (hk : Keeps (blkOf p) wr w1) => rO_see (H2.out.q1 hk) tm)
        generalize seeO x tm = r at HU HLT HCN HS HR
        obtain ⟨x', la, er⟩ := r
        go_wp2_with (first | (go_at_call 9; refine (gO_mark H2.out.px).mono ?_; rintro e w' ⟨rfl, rfl⟩) | fail)
        refine HS.out.mono ?_
        rintro e w3 ⟨rfl, hp3, hk3⟩
        have HP3 := Lib.hid hp3
        have HK3 := Lib.hid hk3
        have d3 := HDB.out w3 (Keeps.belowStep H2.out.bl hk3 (fun k hk => (H2.out.px.lt hk).1) H2.out.bl.size)
        clear hp3 hk3 d0 d1 HS
        go_wp2_with fail
        refine (HR.out _ HK3.out).mono ?_
        rintro e w4 ⟨rfl, hq4, hk4⟩
        have H4 := Lib.hid (H2.out.step HK3.out HP3.out hk4 hq4 HCN.out)
        have d4 := HD.out _ _ _ _ H4.out
        have hup : markO x ≤ markO x' := HU.out
        have hup' : ¬ markO x' < markO x := by omega
        clear hq4 hk4 HR HK3 HP3 d3 HU
        by_cases her : er = 0
        · subst her
          obtain rfl : la = decide (tm < markO x) := HLT.out rfl
          have HL := Lib.hid (late_any tm (markO x))
          clear HLT
          generalize decide (tm < markO x) = la at HL
          cases la
          · have ecl : (closedO x' != closedO x') = false := by simp
            have ecl' : (closedO x' == closedO x') = true := by simp
            go_wp2_with (first | (go_at_call 17; refine (HL.out _).mono ?_; rintro e w' ⟨rfl, rfl⟩) | (go_at_call 9; refine (gO_mark H4.out.px).mono ?_; rintro e w' ⟨rfl, rfl⟩) | (go_at_call 10; refine (rO_mark H4.out.qx).mono ?_; rintro e w' ⟨rfl, rfl⟩) | (go_at_call 11; refine (gO_closed H4.out.px).mono ?_; rintro e w' ⟨rfl, rfl⟩) | (go_at_call 12; refine (rO_closed H4.out.qx).mono ?_; rintro e w' ⟨rfl, rfl⟩) | fail)
            go_roundw
            case rel => exact ⟨k + 1, by omega, by go_num, _, _, rfl, H4.out⟩
            case measure => simp [intOf]; omega
          · have ecl : (closedO x' != closedO x') = false := by simp
            have ecl' : (closedO x' == closedO x') = true := by simp
            go_wp2_with (first | (go_at_call 17; refine (HL.out _).mono ?_; rintro e w' ⟨rfl, rfl⟩) | (go_at_call 9; refine (gO_mark H4.out.px).mono ?_; rintro e w' ⟨rfl, rfl⟩) | (go_at_call 10; refine (rO_mark H4.out.qx).mono ?_; rintro e w' ⟨rfl, rfl⟩) | (go_at_call 11; refine (gO_closed H4.out.px).mono ?_; rintro e w' ⟨rfl, rfl⟩) | (go_at_call 12; refine (rO_closed H4.out.qx).mono ?_; rintro e w' ⟨rfl, rfl⟩) | fail)
            go_roundw
            case rel => exact ⟨k + 1, by omega, by go_num, _, _, rfl, H4.out⟩
            case measure => simp [intOf]; omega
        · clear HLT
          have HL := ()
          cases la
          · have ecl : (closedO x' != closedO x') = false := by simp
            have ecl' : (closedO x' == closedO x') = true := by simp
            go_wp2_with (first | (go_at_call 17; refine (HL.out _).mono ?_; rintro e w' ⟨rfl, rfl⟩) | (go_at_call 9; refine (gO_mark H4.out.px).mono ?_; rintro e w' ⟨rfl, rfl⟩) | (go_at_call 10; refine (rO_mark H4.out.qx).mono ?_; rintro e w' ⟨rfl, rfl⟩) | (go_at_call 11; refine (gO_closed H4.out.px).mono ?_; rintro e w' ⟨rfl, rfl⟩) | (go_at_call 12; refine (rO_closed H4.out.qx).mono ?_; rintro e w' ⟨rfl, rfl⟩) | fail)
            go_roundw
            case rel => exact ⟨k + 1, by omega, by go_num, _, _, rfl, H4.out⟩
            case measure => simp [intOf]; omega
          · have ecl : (closedO x' != closedO x') = false := by simp
            have ecl' : (closedO x' == closedO x') = true := by simp
            go_wp2_with (first | (go_at_call 17; refine (HL.out _).mono ?_; rintro e w' ⟨rfl, rfl⟩) | (go_at_call 9; refine (gO_mark H4.out.px).mono ?_; rintro e w' ⟨rfl, rfl⟩) | (go_at_call 10; refine (rO_mark H4.out.qx).mono ?_; rintro e w' ⟨rfl, rfl⟩) | (go_at_call 11; refine (gO_closed H4.out.px).mono ?_; rintro e w' ⟨rfl, rfl⟩) | (go_at_call 12; refine (rO_closed H4.out.qx).mono ?_; rintro e w' ⟨rfl, rfl⟩) | fail)
            go_roundw
            case rel => exact ⟨k + 1, by omega, by go_num, _, _, rfl, H4.out⟩
            case measure => simp [intOf]; omega
      · by_cases h1 : kd = 1
        · subst h1
          go_wp2_with (first | (go_at_call 9; refine (gO_mark H2.out.px).mono ?_; rintro e w' ⟨rfl, rfl⟩) | fail)
          refine (gO_close H2.out.px).mono ?_
          rintro e w3 ⟨rfl, hp3, hk3⟩
          have HP3 := Lib.hid hp3
          have HK3 := Lib.hid hk3
          clear hp3 hk3 d0
          go_wp2_with fail
          refine (rO_close (H2.out.q1 HK3.out)).mono ?_
          rintro e w4 ⟨rfl, hq4, hk4⟩
          have H4 := Lib.hid (H2.out.step HK3.out HP3.out hk4 hq4 (shutO_canon H2.out.cn))
          have hup : markO x ≤ markO (shutO x) := shutO_up H2.out.cn
          generalize shutO x = x' at H4 HP3 hup
          have hup' : ¬ markO x' < markO x := by omega
          clear hq4 hk4 HK3 HP3 hup
          have ecl : (closedO x' != closedO x') = false := by simp
          have ecl' : (closedO x' == closedO x') = true := by simp
          go_wp2_with (first | (go_at_call 9; refine (gO_mark H4.out.px).mono ?_; rintro e w' ⟨rfl, rfl⟩) | (go_at_call 10; refine (rO_mark H4.out.qx).mono ?_; rintro e w' ⟨rfl, rfl⟩) | (go_at_call 11; refine (gO_closed H4.out.px).mono ?_; rintro e w' ⟨rfl, rfl⟩) | (go_at_call 12; refine (rO_closed H4.out.qx).mono ?_; rintro e w' ⟨rfl, rfl⟩) | fail)
          go_roundw
          case rel => exact ⟨k + 1, by omega, by go_num, _, _, rfl, H4.out⟩
          case measure => simp [intOf]; omega
        · by_cases h22 : kd = 2
          · subst h22
            have HQ := Lib.hid (fun (wq : World) (h : Two w wq p q x) => HP.out x h.cn wq h.bl)
            have HX := Lib.hid (gO_text H2.out.px (HTab.out _ H2.out.bl))
            have HY := Lib.hid (fun (wq : World) (h : Two w wq p q x) => rO_text h.qx (HTab.out _ h.bl))
            generalize textO x = s at HQ HX HY
            have es : (s.toList == s.toList) = true := by simp
            have es' : (s.toList != s.toList) = false := by simp
            go_wp2_with (first | (go_at_call 9; refine (gO_mark H2.out.px).mono ?_; rintro e w' ⟨rfl, rfl⟩) | fail)
            refine HX.out.mono ?_
            rintro e w3 ⟨rfl, hb3⟩
            have H3 := Lib.hid (H2.out.pure hb3)
            clear hb3 d0 HX
            go_wp2_with fail
            refine (HY.out _ H3.out).mono ?_
            rintro e w4 ⟨rfl, hb4⟩
            have H5 := Lib.hid (H3.out.pure hb4)
            clear hb4 H3 HY
            go_wp2_with fail
            refine (HQ.out _ H5.out).mono ?_
            rintro e w5 ⟨p', rfl, hp5, hb5⟩
            have H4 := Lib.hid (H5.out.new hb5 hp5)
            have H6 := Lib.hid (H5.out.pure hb5)
            have hup' : ¬ markO x < markO x := by omega
            clear hp5 hb5 HQ H5
            cases x with
            | none =>
              obtain rfl : p' = none := H4.out.px
              obtain rfl : p = none := H2.out.px
              rw [show errP none = 2 from rfl]
              have ecl : (closedO (none) != closedO (none)) = false := by simp
              have ecl' : (closedO (none) == closedO (none)) = true := by simp
              go_wp2_with (first | (go_at_call 9; refine (gO_mark H6.out.px).mono ?_; rintro e w' ⟨rfl, rfl⟩) | (go_at_call 10; refine (rO_mark H6.out.qx).mono ?_; rintro e w' ⟨rfl, rfl⟩) | (go_at_call 11; refine (gO_closed H6.out.px).mono ?_; rintro e w' ⟨rfl, rfl⟩) | (go_at_call 12; refine (rO_closed H6.out.qx).mono ?_; rintro e w' ⟨rfl, rfl⟩) | fail)
              go_roundw
              case rel => exact ⟨k + 1, by omega, by go_num, _, _, rfl, H6.out⟩
              case measure => simp [intOf]; omega
            | some y =>
              have H7 := H4
              obtain ⟨g, _, rfl, _⟩ := H4.out.px
              obtain ⟨g2, _, rfl, _⟩ := H2.out.px
              rw [show errP (some y) = 0 from rfl]
              have ecl : (closedO (some y) != closedO (some y)) = false := by simp
              have ecl' : (closedO (some y) == closedO (some y)) = true := by simp
              go_wp2_with (first | (go_at_call 9; refine (gO_mark H7.out.px).mono ?_; rintro e w' ⟨rfl, rfl⟩) | (go_at_call 10; refine (rO_mark H7.out.qx).mono ?_; rintro e w' ⟨rfl, rfl⟩) | (go_at_call 11; refine (gO_closed H7.out.px).mono ?_; rintro e w' ⟨rfl, rfl⟩) | (go_at_call 12; refine (rO_closed H7.out.qx).mono ?_; rintro e w' ⟨rfl, rfl⟩) | fail)
              go_roundw
              case rel => exact ⟨k + 1, by omega, by go_num, _, _, rfl, H7.out⟩
              case measure => simp [intOf]; omega
          · have hup' : ¬ markO x < markO x := by omega
            have ecl : (closedO x != closedO x) = false := by simp
            have ecl' : (closedO x == closedO x) = true := by simp
            go_wp2_with (first | (go_at_call 9; refine (gO_mark H2.out.px).mono ?_; rintro e w' ⟨rfl, rfl⟩) | (go_at_call 10; refine (rO_mark H2.out.qx).mono ?_; rintro e w' ⟨rfl, rfl⟩) | (go_at_call 11; refine (gO_closed H2.out.px).mono ?_; rintro e w' ⟨rfl, rfl⟩) | (go_at_call 12; refine (rO_closed H2.out.qx).mono ?_; rintro e w' ⟨rfl, rfl⟩) | fail)
            go_roundw
            case rel => exact ⟨k + 1, by omega, by go_num, _, _, rfl, H2.out⟩
            case measure => simp [intOf]; omega
    · go_wp2_with (first | (go_at_call 5; refine (HA.out _).mono ?_; rintro e w' ⟨rfl, hb⟩) | fail)
      go_ret
      exact ⟨rfl, h2.bl.trans (hb.mono h2.bl.size)⟩
end Go.Proofs.YtfoocifhifpbdaaDoor
