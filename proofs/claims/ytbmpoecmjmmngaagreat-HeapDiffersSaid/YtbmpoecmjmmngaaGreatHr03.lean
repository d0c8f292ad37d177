/- Part 3 of the texts that the law's proof stands on, merged. -/
import Derived.Deep.RegionHeld3
import Derived.Maps.Views
import Derived.Deep.RegionLaw
import Derived.Test.YtbmpoecmjmmngaaGreatHr02
set_option linter.unusedVariables false
set_option linter.unusedSimpArgs false
/- package heap: Delete, Drop, All, Groups. -/
namespace Go.Proofs.YtbmpoecmjmmngaaGreat
open Go.RowKit Go.Maps

noncomputable def PS.del (s : PS) (F : FMap) (i : Nat) (nm key : ByteArray) : PS := { s with grps := s.grps.set i (delAt F (nm, key)), cnt := s.cnt - 1 }
set_option maxRecDepth 100000 in
theorem own_del {W0 W : World} {base p i : Nat} {r r2 : HS} {nm key : ByteArray} (h : OwnStep W0 base p r i W r2) (hi : i < r.cur.length) (hok : okSpot (nm, key)) (ty : TypeId) :
    ∃ W', (Builtin.delete_ #[74, 77] ty #[.map (some (r2.g (adAt r2 i)).mb), .agg #[.string nm, .string key]]).run Tryz.prog W = .ok (.tuple #[]) W' ∧
      ∃ r3, HStep W base p r2 W' r3 ∧ r3.view = { r.view with grps := r.view.grps.set i (delAt (grpF r i) (nm, key)) } ∧ r3.cur.length = r.cur.length ∧ r3.nn = r.nn := by
  have hl2 : i < r2.cur.length := by rw [h.len]; exact hi
  have hu : used r2 (adAt r2 i) := by rw [adAt_eq hl2]; exact .inl (List.getElem_mem hl2)
  have hgm := (h.st.inv.gb _ hu).2
  obtain ⟨W', hrun, hg, hgr⟩ := GMap.drop hgm hok ty
  refine ⟨W', hrun, _, h.st.inv.putG hu (Nat.le_refl _) hg hgr, ?_, h.len, h.nn⟩
  rw [view_putG h.st.inv hl2 h.sh, h.vw]
  have e : (r2.g (adAt r2 i)).f = grpF r i := by rw [show (r2.g (adAt r2 i)).f = grpF r2 i from rfl, h.fe]
  rw [e]
structure DelStep (W : World) (base p : Nat) (r : HS) (s : PS) (W' : World) (r' : HS) : Prop where
  st : HStep W base p r W' r'
  vw : r'.view = s
  len : r'.cur.length = r.cur.length
  nn : r'.nn = r.nn
/-- Behind Delete. -/
noncomputable def delPS (r : HS) (g : Int) (nm key : ByteArray) : PS := if (getAns r.cur.length (grpF r g) g nm key).2 = 0 then r.view.del (grpF r g) g.toNat nm key else r.view
theorem getAns_two {N : Nat} {F : FMap} {g : Int} {nm key : ByteArray} : (getAns N F g nm key).2 = 0 ∨ (getAns N F g nm key).2 = 1 ∨ (getAns N F g nm key).2 = 7 ∨ (getAns N F g nm key).2 = 8 := by
  unfold getAns
  rcases chk_cases N g nm [key] with h | h | h
  · rw [if_pos h]
    split <;> simp
  · rw [if_neg (by omega)]; exact .inr (.inl h)
  · rw [if_neg (by omega)]; exact .inr (.inr (.inl h))
theorem getAns_ok {N : Nat} {F : FMap} {g : Int} {nm key : ByteArray} (h : (getAns N F g nm key).2 = 0) : chk N g nm [key] = 0 ∧ ∃ s, F (nm, key) = some s := by
  unfold getAns at h
  by_cases hc : chk N g nm [key] = 0
  · rw [if_pos hc] at h
    refine ⟨hc, ?_⟩
    cases hf : F (nm, key) with
    | none => rw [hf] at h; simp at h
    | some s => exact ⟨s, rfl⟩
  · rw [if_neg hc] at h
    exact absurd h hc
set_option maxRecDepth 100000 in
set_option maxHeartbeats 8000000 in
theorem delete_any {base p : Nat} {r : HS} (g : Int) (nm key : ByteArray) (w : World) (hI : HeapInv w base p r) (hg : inI64 g) (hn : nm.size ≤ maxLen) (hk : key.size ≤ maxLen) (hc0 : 0 ≤ r.cnt) (hc1 : r.cnt ≤ 4000) :
    Calls Tryz.prog 12 #[.pointer (some ⟨p, 0, none⟩), .int .i64 g, .string nm, .string key] w fun e w' =>
      e = .returned (.int .i64 (getAns r.cur.length (grpF r g) g nm key).2) ∧ ∃ r', DelStep w base p r (delPS r g nm key) w' r' := by
  have HG := Lib.hid (get_any g nm key w hI hg hn hk)
  have HI := Lib.hid hI
  have HV := Lib.hid (show delPS r g nm key = if (getAns r.cur.length (grpF r g) g nm key).2 = 0 then r.view.del (grpF r g) g.toNat nm key else r.view from rfl)
  have HGO := Lib.hid (fun h => getAns_ok (N := r.cur.length) (F := grpF r g) (g := g) (nm := nm) (key := key) h)
  generalize delPS r g nm key = s' at *
  generalize getAns r.cur.length (grpF r g) g nm key = ans at *
  obtain ⟨v, c⟩ := ans
  clear hI
  go_enter Tryz.func12, Tryz.ntmps12
  go_wp2_with fail
  refine HG.out.mono ?_
  rintro e w1 ⟨rfl, hb⟩
  have HB1 := Lib.hid hb
  clear hb HG
  by_cases h0 : c = 0
  case neg =>
    have hcb : (c == 0) = false := by simp [h0]
    have HVS := Lib.hid (show s' = r.view by rw [HV.out, if_neg h0])
    clear HV HGO
    go_wp2
    go_ret
    exact ⟨rfl, r, HStep.pure HI.out HB1.out, HVS.out.symm, rfl, rfl⟩
  subst h0
  obtain ⟨hch, s, hs⟩ := HGO.out rfl
  obtain ⟨_, _, hg0, hgN⟩ := chk_ok hch
  obtain ⟨i, rfl⟩ := Int.eq_ofNat_of_zero_le hg0
  have HOK := Lib.hid (okSpot_of hch (List.mem_singleton.2 rfl))
  have HIL := Lib.hid (show i < r.cur.length by omega)
  have HVS := Lib.hid (show s' = r.view.del (grpF r i) i nm key by rw [HV.out, if_pos rfl, Int.toNat_natCast])
  have HI1 := Lib.hid (HI.out.pure HB1.out)
  have HS1 := Lib.hid (HStep.pure HI.out HB1.out)
  have HOW := Lib.hid (own_any i w1 HI1.out HIL.out)
  clear HV HGO hch hs hg0 hgN
  go_wp2_with fail
  refine HOW.out.mono ?_
  rintro e w2 ⟨r2, rfl, hO⟩
  obtain ⟨w3, hdel, r3, hst3, hvw3, hl3, hn3⟩ := own_del hO HIL.out HOK.out 0
  have HS3 := Lib.hid ((HS1.out.trans hO.st).trans hst3)
  have HC3 := Lib.hid (show r3.cnt = r.cnt from congrArg PS.cnt hvw3)
  have HVW := Lib.hid hvw3
  have HLN := Lib.hid (show r3.cur.length = r.cur.length ∧ r3.nn = r.nn from ⟨hl3, hn3⟩)
  have c1 : w3.cell? ⟨p, 1, none⟩ = some (.int .i64 r.cnt) := by have := mem_cells hst3.inv.hb 1; rw [show (hCells r3)[1]? = some (.int .i64 r3.cnt) from rfl, HC3.out] at this; exact this
  have f1 : w3.frozen? ⟨p, 1, none⟩ = false := frozen_cells hst3.inv.hb 1
  have HI3 := Lib.hid hst3.inv
  clear hO hst3 hvw3 hl3 hn3 HOW HI1 HS1
  go_wp2
  go_ret
  refine ⟨rfl, _, HS3.out.trans (HStep.own (W' := w3.setCell ⟨p, 1, none⟩ (.int .i64 (r.cnt - 1))) HI3.out ((Keeps.refl (fun k => k = p) _).setCell (p := ⟨p, 1, none⟩) (fun _ => rfl) _) (r.cnt - 1) r3.last (set_block HI3.out.hb)), ?_, HLN.out.1, HLN.out.2⟩
  rw [HVS.out]
  show ({ r3.view with cnt := r.cnt - 1 } : PS) = _
  rw [HVW.out]
  rfl
end Go.Proofs.YtbmpoecmjmmngaaGreat
/- Entries: readings, IndexFunc and ContainsFunc, heavy, ValidEntry, valid (the first two printed by gen_hent.py). -/
namespace Go.Proofs.YtbmpoecmjmmngaaGreat
open Go.RowKit Go.Maps

abbrev Ent.cs (x : Ent) : List Value := [.int .i64 x.g, .string x.nm, .string x.key, .string x.val]
theorem ents_at {m : Mem} {xs : List Ent} {a : Option Addr} {n cap : Nat} (h : tEnts.rv m [.slice a n cap] xs) {k : Nat} (hk : k < xs.length) :
    ∃ b o, a = some ⟨b, o, none⟩ ∧ (∀ j v, xs[k].cs[j]? = some v → m b (o + k * 4 + j) = some v) ∧ xs[k].okE := by
  obtain ⟨b, o, rfl, cs, hat, rfl, hok⟩ := slice_at h hk
  exact ⟨b, o, rfl, hat, hok⟩
set_option maxRecDepth 100000 in
theorem reads_ent : Reads Tryz.prog 34 tEnt := fun H enc w n cs d h => by
  obtain ⟨xs, n', _, _, hl, hx, hg⟩ := DataW.trod_struct Tryz.underlying34 h
  rw [show Tryz.prog.cellsOf 34 = 4 from by kernel_rfl] at hl
  have g0 := hg 0 _ rfl
  obtain ⟨x0, r0⟩ := field_read (reads_int Tryz.underlying3) 0 1 rfl rfl (by kernel_rfl) g0 (by rw [hx]; decide)
  have g1 := hg 1 _ rfl
  obtain ⟨x1, r1⟩ := field_read (reads_str Tryz.underlying9) 1 1 rfl rfl (by kernel_rfl) g1 (by rw [hx]; decide)
  have g2 := hg 2 _ rfl
  obtain ⟨x2, r2⟩ := field_read (reads_str Tryz.underlying9) 2 1 rfl rfl (by kernel_rfl) g2 (by rw [hx]; decide)
  have g3 := hg 3 _ rfl
  obtain ⟨x3, r3⟩ := field_read (reads_str Tryz.underlying9) 3 1 rfl rfl (by kernel_rfl) g3 (by rw [hx]; decide)
  match cs, hl with
  | [c0, c1, c2, c3], _ =>
    obtain ⟨e0, i0⟩ := r0
    obtain ⟨e1, i1⟩ := r1
    obtain ⟨e2, i2⟩ := r2
    obtain ⟨e3, i3⟩ := r3
    simp at e0 e1 e2 e3
    exact ⟨⟨x0, x1, x2, x3⟩, by rw [e0, e1, e2, e3], i0, i1, i2, i3⟩
theorem reads_ents : Reads Tryz.prog 22 tEnts := reads_slice Tryz.underlying22 (by kernel_rfl) (by decide) reads_ent
set_option maxHeartbeats 1000000 in
theorem indexFuncEnt (Fn : FuncId) (capt : Array Value) (p : Ent → Bool) (xs : List Ent) (v : Value) (w : World) (hv : tEnts.rv (mem w) [v] xs)
    (hcf : ∀ args w, Sem.run Tryz.prog (callFunc Fn args) w = .ok (.enter Fn args) w)
    (hf : ∀ x : Ent, x.okE → ∀ wr, Below w.heap.size w wr → Calls Tryz.prog Fn (#[x.v] ++ capt) wr fun e w' => e = .returned (.bool (p x)) ∧ Below wr.heap.size wr w') :
    Calls Tryz.prog 68 #[v, .func (.func Fn) #[] capt] w fun e w' => e = .returned (.int .i64 (idxOf p xs)) ∧ Below w.heap.size w w' := by
  obtain ⟨a, cap, rfl, hl, hm, hv⟩ := slice_form hv
  have hcap : cap ≤ 9223372036854775807 := by unfold maxLen at hm; exact hm
  clear hm
  have HF := Lib.hid hf
  clear hf
  go_enter Tryz.func68, Tryz.ntmps68
  go_wp2
  go_loopw [8] (fun i wr => ∃ k : Nat, k ≤ xs.length ∧ i = .int .i64 k ∧ Hid (∀ x ∈ xs.take k, p x = false) ∧ Below w.heap.size w wr) (fun i _ => xs.length - (intOf i).toNat)
  case atStart => exact ⟨0, by omega, rfl, Lib.hid (by simp), Below.refl _ _⟩
  case round =>
    obtain ⟨k, hk, rfl, HT, hB⟩ := hrel
    by_cases hlt : k < xs.length
    · obtain ⟨b, o, rfl, hat, hin⟩ := ents_at (tEnts.mono _ _ _ _ (below_mem hB) hv) hlt
      have c0 : wr.cell? ⟨b, o + k * 4, none⟩ = some (.int .i64 xs[k].g) := hat 0 _ rfl
      have c1 : wr.cell? ⟨b, o + k * 4 + 1, none⟩ = some (.string xs[k].nm) := hat 1 _ rfl
      have c2 : wr.cell? ⟨b, o + k * 4 + 2, none⟩ = some (.string xs[k].key) := hat 2 _ rfl
      have c3 : wr.cell? ⟨b, o + k * 4 + 3, none⟩ = some (.string xs[k].val) := hat 3 _ rfl
      clear hat
      have hcall := HF.out xs[k] hin wr hB
      have HI := Lib.hid (show p xs[k] = true → idxOf p xs = k from fun h => idxOf_at hlt h HT.out)
      have HN := Lib.hid (show p xs[k] = false → ∀ x ∈ xs.take (k + 1), p x = false from fun h => mem_take_snoc hlt HT.out h)
      clear hv HF HT
      generalize xs[k] = x at *
      generalize hpx : p x = r at hcall HI HN
      clear hpx
      have HC := Lib.hid hcall
      clear hcall
      go_wp2_with fail
      refine HC.out.mono ?_
      rintro e w1 ⟨rfl, hB1⟩
      have hB2 := pure_trans hB hB1
      clear HC hB hB1 c0 c1 c2 c3
      cases r
      · go_wp2
        go_roundw
        case rel => exact ⟨k + 1, by omega, by go_num, Lib.hid (HN.out (by trivial)), hB2⟩
        case measure => simp [intOf]; omega
      · go_wp2
        go_ret
        exact ⟨by rw [HI.out (by trivial)]; rfl, hB2⟩
    · obtain rfl : k = xs.length := by omega
      have HX := Lib.hid (idxOf_none (p := p) (l := xs) (fun x hx => HT.out x (by rw [List.take_length]; exact hx)))
      go_wp2
      go_ret
      exact ⟨by rw [HX.out]; rfl, hB⟩
set_option maxHeartbeats 1000000 in
theorem containsFuncEnt (Fn : FuncId) (capt : Array Value) (p : Ent → Bool) (xs : List Ent) (v : Value) (w : World) (hv : tEnts.rv (mem w) [v] xs)
    (hcf : ∀ args w, Sem.run Tryz.prog (callFunc Fn args) w = .ok (.enter Fn args) w)
    (hf : ∀ x : Ent, x.okE → ∀ wr, Below w.heap.size w wr → Calls Tryz.prog Fn (#[x.v] ++ capt) wr fun e w' => e = .returned (.bool (p x)) ∧ Below wr.heap.size wr w') :
    Calls Tryz.prog 31 #[v, .func (.func Fn) #[] capt] w fun e w' => e = .returned (.bool (xs.any p)) ∧ Below w.heap.size w w' := by
  have H := Lib.hid (indexFuncEnt Fn capt p xs v w hv hcf hf)
  have HA := Lib.hid (idxOf_any p xs)
  clear hcf hf hv
  generalize idxOf p xs = i at H HA
  go_enter Tryz.func31, Tryz.ntmps31
  go_wp2_with fail
  refine H.out.mono ?_
  rintro e w1 ⟨rfl, hB⟩
  go_wp2
  go_ret
  exact ⟨by rw [← HA.out]; rfl, hB⟩


def heavyE (x : Ent) : Bool := decide (300 < x.nm.size + x.key.size + x.val.size)
def heavyOf (l : List Ent) : Bool := l.any heavyE || decide (60 < l.length)
set_option maxRecDepth 100000 in
set_option maxHeartbeats 4000000 in
theorem heavy_any (l : List Ent) (v : Value) (w : World) (hv : tEnts.rv (mem w) [v] l) :
    Calls Tryz.prog 7 #[v] w fun e w' => ∃ b, e = .returned (.bool b) ∧ Below w.heap.size w w' ∧ (b = false → l.length ≤ 60) := by
  obtain ⟨a, cap, rfl, hlc, hm, hv⟩ := slice_form hv
  have hcap : cap ≤ 9223372036854775807 := by unfold maxLen at hm; exact hm
  clear hm
  go_enter Tryz.func7, Tryz.ntmps7
  go_wp2
  go_loopw [3] (fun i wr => ∃ k : Nat, k ≤ l.length ∧ i = .int .i64 k ∧ Below w.heap.size w wr) (fun i _ => l.length - (intOf i).toNat)
  case atStart => exact ⟨0, by omega, rfl, Below.refl _ _⟩
  case round =>
    obtain ⟨k, hk, rfl, hB⟩ := hrel
    by_cases hlt : k < l.length
    · obtain ⟨b, o, rfl, hat, hok⟩ := ents_at (tEnts.mono _ _ _ _ (below_mem hB) hv) hlt
      have c1 : wr.cell? ⟨b, o + k * 4 + 1, none⟩ = some (.string l[k].nm) := hat 1 _ rfl
      have c2 : wr.cell? ⟨b, o + k * 4 + 2, none⟩ = some (.string l[k].key) := hat 2 _ rfl
      have c3 : wr.cell? ⟨b, o + k * 4 + 3, none⟩ = some (.string l[k].val) := hat 3 _ rfl
      obtain ⟨_, s1, s2, s3⟩ := hok
      unfold maxLen at s1 s2 s3
      have HB := Lib.hid hB
      clear hat hB
      generalize hx : l[k] = x at *
      clear hx
      go_wp2_with fail
      go_region_held3 (fun w' => w'.cell? ⟨b, o + k * 4 + 1, none⟩ = some (.string x.nm) ∧ w'.cell? ⟨b, o + k * 4 + 2, none⟩ = some (.string x.key) ∧ w'.cell? ⟨b, o + k * 4 + 3, none⟩ = some (.string x.val))
        (go_keep) (fail)
      have HB2 := Lib.hid HB.out.drew
      clear HB hv
      simp only [Exit.then]
      go_at_K
      go_wp2
      · go_ret
        first
          | exact .inr ⟨rfl, HB2.out⟩
          | exact ⟨true, rfl, HB2.out, fun h => by cases h⟩
      · exact ⟨⟨k + 1, by omega, by go_num, HB2.out⟩, by simp [intOf]; omega⟩
    · obtain rfl : k = l.length := by omega
      by_cases h6 : (60 : Int) < l.length
      · go_wp2
        go_ret
        first
          | exact .inr ⟨by simp [h6], hB⟩
          | exact ⟨true, by simp [h6], hB, fun h => by cases h⟩
      · go_wp2
        go_ret
        first
          | exact .inl ⟨by simp [h6], hB, by omega⟩
          | exact ⟨false, by simp [h6], hB, fun _ => by omega⟩
def validE (x : Ent) : Bool := decide (0 ≤ x.g ∧ x.g < 128) && (isName x.nm && (!big x.key && !big x.val))
set_option maxHeartbeats 400000 in
theorem fits_any (t : ByteArray) (w : World) (ht : t.size ≤ maxLen) :
    Calls Tryz.prog 82 #[.string t] w fun e w' => e = .returned (.bool (!big t)) ∧ w = w' := by
  unfold maxLen at ht
  by_cases h : (t.size : Int) ≤ 65536
  all_goals
    have h' : decide (65536 < t.size) = !decide ((t.size : Int) ≤ 65536) := by
      by_cases h2 : (t.size : Int) ≤ 65536
      · rw [decide_eq_true h2, decide_eq_false (by omega)]; rfl
      · rw [decide_eq_false h2, decide_eq_true (by omega)]; rfl
    have HB := Lib.hid h'
    clear h'
    go_enter Tryz.func82, Tryz.ntmps82
    go_wp2
    go_ret
    exact ⟨by unfold big; rw [HB.out]; simp [h], rfl⟩
set_option maxHeartbeats 4000000 in
theorem validEntry_any (x : Ent) (w : World) (hok : x.okE) :
    Calls Tryz.prog 61 #[x.v] w fun e w' => e = .returned (.bool (validE x)) ∧ Below w.heap.size w w' := by
  obtain ⟨g, nm, key, val⟩ := x
  obtain ⟨s0, s1, s2, s3⟩ := hok
  have HB0 := Lib.hid (fun o => (show Below w.heap.size w (w.alloc o) from (Below.refl _ _).alloc (Nat.le_refl _) o))
  have HV := Lib.hid (show validE ⟨g, nm, key, val⟩ = (decide (0 ≤ g ∧ g < 128) && (isName nm && (!big key && !big val))) from rfl)
  have HN := Lib.hid (fun w => rowName_any nm w s1)
  have HK := Lib.hid (fun w => fits_any key w s2)
  have HL := Lib.hid (fun w => fits_any val w s3)
  generalize validE ⟨g, nm, key, val⟩ = r at *
  by_cases h0 : 0 ≤ g
  case neg =>
    have HR := Lib.hid (show r = false by rw [HV.out, decide_eq_false (by omega)]; rfl)
    go_enter Tryz.func61, Tryz.ntmps61
    go_wp2
    go_ret
    exact ⟨by rw [HR.out] <;> rfl, HB0.out _⟩
  by_cases h1 : g < 128
  case neg =>
    have HR := Lib.hid (show r = false by rw [HV.out, decide_eq_false (by omega)]; rfl)
    go_enter Tryz.func61, Tryz.ntmps61
    go_wp2
    go_ret
    exact ⟨by rw [HR.out] <;> rfl, HB0.out _⟩
  have HV2 := Lib.hid (show r = (isName nm && (!big key && !big val)) by rw [HV.out, decide_eq_true ⟨h0, h1⟩]; rfl)
  clear HV
  generalize isName nm = b1 at *
  generalize big key = b2 at *
  generalize big val = b3 at *
  go_enter Tryz.func61, Tryz.ntmps61
  go_wp2_with fail
  refine (HN.out _).mono ?_
  rintro e w1 ⟨rfl, rfl⟩
  cases b1 with
  | false =>
    have HR := Lib.hid (show r = false by rw [HV2.out]; rfl)
    go_wp2
    go_ret
    exact ⟨by rw [HR.out] <;> rfl, HB0.out _⟩
  | true =>
  go_wp2_with fail
  refine (HK.out _).mono ?_
  rintro e w1 ⟨rfl, rfl⟩
  cases b2 with
  | true =>
    have HR := Lib.hid (show r = false by rw [HV2.out]; rfl)
    go_wp2
    go_ret
    exact ⟨by rw [HR.out] <;> rfl, HB0.out _⟩
  | false =>
  go_wp2_with fail
  refine (HL.out _).mono ?_
  rintro e w1 ⟨rfl, rfl⟩
  have HR := Lib.hid (show r = !b3 by rw [HV2.out]; rfl)
  go_wp2
  go_ret
  exact ⟨by rw [HR.out] <;> rfl, HB0.out _⟩
set_option maxRecDepth 100000 in
theorem valid1_any (x : Ent) (w : World) (hok : x.okE) :
    Calls Tryz.prog 60 #[x.v] w fun e w' => e = .returned (.bool (!validE x)) ∧ Below w.heap.size w w' := by
  have HB0 := Lib.hid (fun o => (show Below w.heap.size w (w.alloc o) from (Below.refl _ _).alloc (Nat.le_refl _) o))
  have HV := Lib.hid (fun w => validEntry_any x w hok)
  obtain ⟨g, nm, key, val⟩ := x
  generalize validE ⟨g, nm, key, val⟩ = r at *
  go_enter Tryz.func60, Tryz.ntmps60
  go_wp2_with fail
  refine (HV.out _).mono ?_
  rintro e w1 ⟨rfl, hb⟩
  have HB := Lib.hid (pure_trans (HB0.out _) hb)
  go_wp2
  go_ret
  exact ⟨rfl, HB.out⟩
set_option maxRecDepth 100000 in
theorem valid_any (l : List Ent) (v : Value) (w : World) (hv : tEnts.rv (mem w) [v] l) (hl : l.length ≤ 4000) :
    Calls Tryz.prog 26 #[v] w fun e w' => e = .returned (.bool (l.all validE)) ∧ Below w.heap.size w w' := by
  have HC := Lib.hid (containsFuncEnt 60 #[] (fun x => !validE x) l v w hv (fun _ _ => rfl) (fun x hx wr _ => valid1_any x wr hx))
  have HA := Lib.hid (show l.all validE = !l.any (fun x => !validE x) by rw [List.all_eq_not_any_not])
  obtain ⟨a, cap, rfl, hlc, hm, hv⟩ := slice_form hv
  have hcap : cap ≤ 9223372036854775807 := by unfold maxLen at hm; exact hm
  generalize l.any (fun x => !validE x) = b at *
  clear hm hv
  go_enter Tryz.func26, Tryz.ntmps26
  go_wp2_with fail
  refine HC.out.mono ?_
  rintro e w1 ⟨rfl, hb⟩
  go_wp2
  go_ret
  exact ⟨by rw [HA.out] <;> rfl, hb⟩
set_option maxRecDepth 100000 in
theorem restore1_any (x : Ent) (bn : Nat) (n : Int) (w : World) (hn : w.cell? ⟨bn, 0, none⟩ = some (.int .i64 n)) :
    Calls Tryz.prog 32 #[x.v, .pointer (some ⟨bn, 0, none⟩)] w fun e w' => e = .returned (.bool (decide (n ≤ x.g))) ∧ Below w.heap.size w w' := by
  obtain ⟨g, nm, key, val⟩ := x
  have HB0 := Lib.hid (fun o => (show Below w.heap.size w (w.alloc o) from (Below.refl _ _).alloc (Nat.le_refl _) o))
  have hn1 : ∀ o, (w.alloc o).cell? ⟨bn, 0, none⟩ = some (.int .i64 n) := fun o => below_mem (HB0.out o) _ _ _ hn
  have hlt : bn < w.heap.size := mem_lt hn
  have hne : ¬ bn = w.heap.size := by omega
  by_cases h : n ≤ g
  all_goals
    go_enter Tryz.func32, Tryz.ntmps32
    go_wp2
    go_ret
    exact ⟨by simp [h], HB0.out _⟩
end Go.Proofs.YtbmpoecmjmmngaaGreat
/- package heap: placed (entries by their places). -/
namespace Go.Proofs.YtbmpoecmjmmngaaGreat
open Go.RowKit Go.Maps

/-- Where an entry stands. -/
abbrev Place := Int × ByteArray × ByteArray
def Ent.pl (x : Ent) : Place := (x.g, x.nm, x.key)
abbrev placeV (x : Place) : Value := .agg #[.int .i64 x.1, .string x.2.1, .string x.2.2]
def okPlace (x : Place) : Prop := inI64 x.1 ∧ x.2.1.size ≤ maxLen ∧ x.2.2.size ≤ maxLen
open Classical in
noncomputable def lkPlace (x : Place) : Lit := if okPlace x then .string (keyBytes [.int .i64 x.1, .string x.2.1.data.toList, .string x.2.2.data.toList]) else .bool false
theorem cellsPlace : Tryz.prog.cellsOf 65 = 3 := by kernel_rfl
theorem cellsIntP : Tryz.prog.cellsOf 3 = 1 := by kernel_rfl
theorem keyTypePlace : Tryz.prog.keyType 65 = true := by kernel_rfl
theorem rowPlace : (65 : TypeId) < Tryz.prog.types.size := of_decide_eq_true (by kernel_rfl)
theorem keyP : Keyed Tryz.prog 65 := Keyed.of_law (deep_law_laid Tryz.laidOut (m := 2) (by omega) rowPlace (by kernel_rfl) (by rw [Tryz.underlying65]))
def intLits : Value → Option (List Lit)
  | .int q n => if q = .i64 ∧ (Lit.int .i64 n).wf = true then some [.int .i64 n] else none
  | _ => none
theorem lits_int (n : Nat) (c : Value) : Tryz.prog.keyLits (n + 1) 3 [c] = intLits c := by
  unfold Program.keyLits
  rw [Tryz.underlying3]
  cases c <;> rfl
theorem wf_i64 (n : Int) : (Lit.int .i64 n).wf = true ↔ inI64 n := by
  unfold inI64
  simp [Lit.wf, IntKind.min, IntKind.max, IntKind.signed, IntKind.bits]
set_option maxRecDepth 100000 in
theorem keyOf_place_eq (c0 c1 c2 : Value) : keyOf Tryz.prog 65 (.agg #[c0, c1, c2]) =
    match c0, c1, c2 with | .int q z, .string s, .string t => (if q = .i64 ∧ (Lit.int .i64 z).wf = true ∧ s.size ≤ maxLen ∧ t.size ≤ maxLen then some (.string (keyBytes [.int .i64 z, .string s.data.toList, .string t.data.toList])) else none) | _, _, _ => none := by
  obtain ⟨n, hn⟩ := size_pos
  unfold keyOf
  rw [Tryz.underlying65]
  simp only [keyTypePlace, Value.formed, Tryz.underlying65, cellsPlace]
  rw [hn]
  unfold Program.keyLits
  rw [Tryz.underlying65]
  simp only [cellsPlace, Value.cells, cellsStr, cellsIntP]
  simp [lits_str, lits_int, cellsStr, cellsIntP]
  cases c0 <;> cases c1 <;> cases c2 <;> simp [intLits, strLits]
  rename_i q z s t
  by_cases hq : q = .i64 <;> by_cases hz : (Lit.int .i64 z).wf = true <;> by_cases hs : s.size ≤ maxLen <;> by_cases ht : t.size ≤ maxLen <;> simp [hq, hz, hs, ht]
theorem keyOf_place {x : Place} (h : okPlace x) : keyOf Tryz.prog 65 (placeV x) = some (lkPlace x) := by
  rw [keyOf_place_eq]
  unfold lkPlace
  rw [if_pos h]
  exact if_pos ⟨rfl, (wf_i64 _).2 h.1, h.2⟩
set_option maxRecDepth 100000 in
theorem keyOf_place_inv {v : Value} {l : Lit} (h : keyOf Tryz.prog 65 v = some l) : ∃ x, v = placeV x ∧ l = lkPlace x ∧ okPlace x := by
  have hf : v.formed Tryz.prog 65 = true := by
    unfold keyOf at h
    rw [Tryz.underlying65] at h
    cases hv : v.formed Tryz.prog 65 with
    | true => rfl
    | false => simp [hv] at h
  have : ∃ c0 c1 c2, v = .agg #[c0, c1, c2] := by
    cases v with
    | agg cs =>
      simp only [Value.formed, Tryz.underlying65, cellsPlace, beq_iff_eq] at hf
      obtain ⟨l⟩ := cs
      match l, hf with
      | [c0, c1, c2], _ => exact ⟨c0, c1, c2, rfl⟩
    | _ => simp [Value.formed, Tryz.underlying65] at hf
  obtain ⟨c0, c1, c2, rfl⟩ := this
  rw [keyOf_place_eq] at h
  cases c0 <;> cases c1 <;> cases c2 <;> simp at h
  rename_i q z s t
  obtain ⟨⟨rfl, hz, hs, ht⟩, rfl⟩ := h
  have hok' : okPlace (z, s, t) := ⟨(wf_i64 _).1 hz, hs, ht⟩
  exact ⟨(z, s, t), rfl, by unfold lkPlace; rw [if_pos hok'], hok'⟩
theorem placeV_inj {x y : Place} (h : placeV x = placeV y) : x = y := by
  simp at h
  exact Prod.ext h.1 (Prod.ext h.2.1 h.2.2)
theorem lkPlace_inj {x : Place} (hx : okPlace x) (y : Place) (h : lkPlace y = lkPlace x) : y = x := by
  by_cases hy : okPlace y
  · have h1 := keyOf_place hx
    have h2 := keyOf_place hy
    rw [h] at h2
    exact placeV_inj (keyP.inj h2 h1)
  · unfold lkPlace at h
    rw [if_pos hx, if_neg hy] at h
    cases h
theorem lkPlace_key {x : Place} (hx : okPlace x) : WideAt.IsKeyLit (lkPlace x) := keyP.key (keyOf_place hx)
@[reducible] def LMap (W : World) (b n : Nat) (f : Place → Option ByteArray) : Prop := MapOf Tryz.prog 65 lkPlace vStr W b n f
theorem LMap.put {W : World} {b n : Nat} {f : Place → Option ByteArray} (h : LMap W b n f) (hn : n < maxLen) {x : Place} (hx : okPlace x) (s : ByteArray) (hsz : s.size ≤ maxLen) :
    ∃ W', (Instr.mapUpdate 60 (.map (some b)) (placeV x) (.string s)).run Tryz.prog W = .ok () W' ∧ LMap W' b (n + 1) (putAt f x s) ∧ W.grownBy W' (some b) := by
  obtain ⟨D, hown, hs⟩ := h
  obtain ⟨W', hrun, ho, hgr⟩ := hown.update keyP Tryz.underlying60 hn (keyOf_place hx) (R := rawE) (val := .string s) (d := .held (.string s)) (ps := []) rfl
  have hle := grown_mem hown hgr
  exact ⟨W', hrun, ⟨_, ho, hs.put1 hle hown.isMap (fun y e => lkPlace_inj hx y e) (lkPlace_key hx) ⟨rfl, hsz⟩⟩, hgr⟩
theorem LMap.card {W : World} {b n : Nat} {f : Place → Option ByteArray} {D : DataW Value} (hown : W.ownsMap Tryz.prog 65 rawE b n D) (hs : MapSays lkPlace vStr (mem W) D f) {ks : List Place} (hn : ks.Nodup) (hok : ∀ k ∈ ks, okPlace k) (hk : ∀ k, k ∈ ks ↔ (f k).isSome = true) : Maps.size D = ks.length := by
  obtain ⟨es, hD, hpw⟩ := hown.tidy keyP
  have hko : ∀ p ∈ es, ∃ x, p.1 = lkPlace x ∧ okPlace x := fun p hp => by
    obtain ⟨es', hD', hko⟩ := hown.keysOf
    obtain rfl : es = es' := by rw [hD] at hD'; simpa using hD'
    obtain ⟨v, hv⟩ := hko p hp
    obtain ⟨x, _, hx, hx2⟩ := keyOf_place_inv hv
    exact ⟨x, hx, hx2⟩
  have hstr : ∀ {x : Place}, okPlace x → lkPlace x = .string (keyBytes [.int .i64 x.1, .string x.2.1.data.toList, .string x.2.2.data.toList]) := fun {x} hx => by unfold lkPlace; rw [if_pos hx]
  have hh : ∀ k, okPlace k → (k ∈ ks ↔ lkPlace k ∈ es.map (·.1)) := fun k hkk => by
    rw [hk]
    have h1 : Maps.has D (lkPlace k) = (f k).isSome := by
      cases hf : f k with
      | none => exact hs.1 k hf
      | some a => exact (hs.2.1 k a hf).1
    rw [← h1]
    subst hD
    rw [has_eq, List.any_eq_true, List.mem_map]
    constructor
    · rintro ⟨p, hp', hsk⟩
      obtain ⟨a, ha, hao⟩ := hko p hp'
      refine ⟨p, hp', ?_⟩
      rw [ha, hstr hao, hstr hkk] at hsk ⊢
      simpa [Lit.sameKey] using hsk
    · rintro ⟨p, hp', e⟩
      exact ⟨p, hp', by rw [e, hstr hkk]; simp [Lit.sameKey]⟩
  have hd : (es.map (·.1)).Nodup := List.pairwise_map.2 (hpw.imp fun h => h)
  have h1 : (ks.map lkPlace).length ≤ (es.map (·.1)).length := nodup_le (List.pairwise_map.2 (hn.imp_of_mem fun {a b} ha hb h e => h (lkPlace_inj (hok b hb) a e))) (fun l hl => by
    obtain ⟨k, hk', rfl⟩ := List.mem_map.1 hl
    exact (hh k (hok k hk')).1 hk')
  have h2 : (es.map (·.1)).length ≤ (ks.map lkPlace).length := nodup_le hd (fun l hl => by
    obtain ⟨p, hp, rfl⟩ := List.mem_map.1 hl
    obtain ⟨a, ha, hao⟩ := hko p hp
    rw [ha]
    exact List.mem_map.2 ⟨a, (hh a hao).2 (List.mem_map.2 ⟨p, hp, ha⟩), rfl⟩)
  subst hD
  show es.length = _
  simp only [List.length_map] at h1 h2
  omega
open Classical in
/-- Without the doubles. -/
theorem dedup {β : Type} : ∀ (ps : List β), ∃ ks : List β, ks.Nodup ∧ (∀ x, x ∈ ks ↔ x ∈ ps) ∧ ks.length ≤ ps.length ∧ (ks.length = ps.length → ps.Nodup)
  | [] => ⟨[], List.nodup_nil, fun _ => Iff.rfl, Nat.le_refl _, fun _ => List.nodup_nil⟩
  | p :: ps => by
    obtain ⟨ks, h1, h2, h3, h4⟩ := dedup ps
    by_cases hp : p ∈ ks
    · refine ⟨ks, h1, fun x => ?_, by simp; omega, fun e => by simp at e; omega⟩
      rw [h2, List.mem_cons]
      constructor
      · exact .inr
      · rintro (rfl | h)
        · exact (h2 x).1 hp
        · exact h
    · refine ⟨p :: ks, List.nodup_cons.2 ⟨hp, h1⟩, fun x => by rw [List.mem_cons, List.mem_cons, h2], by simp; omega, fun e => ?_⟩
      simp at e
      exact List.nodup_cons.2 ⟨fun h => hp ((h2 p).2 h), h4 e⟩
end Go.Proofs.YtbmpoecmjmmngaaGreat
/- package heap: placed's walk. -/
namespace Go.Proofs.YtbmpoecmjmmngaaGreat
open Go.RowKit Go.Maps

/-- Entries by their places. -/
noncomputable def placesF (l : List Ent) : Place → Option ByteArray := l.foldl (fun f e => putAt f e.pl e.val) (fun _ => none)
theorem placesF_snoc (l : List Ent) (x : Ent) : placesF (l ++ [x]) = putAt (placesF l) x.pl x.val := by
  unfold placesF
  rw [List.foldl_append]
  rfl
theorem placesF_some (l : List Ent) : ∀ k, k ∈ l.map Ent.pl ↔ (placesF l k).isSome = true := by
  have h : ∀ (l : List Ent) (f : Place → Option ByteArray) k, (l.foldl (fun f e => putAt f e.pl e.val) f k).isSome = true ↔ (k ∈ l.map Ent.pl ∨ (f k).isSome = true) := by
    intro l
    induction l with
    | nil => intro f k; simp
    | cons x l ih =>
      intro f k
      rw [List.foldl_cons, ih, List.map_cons, List.mem_cons]
      unfold putAt
      by_cases e : k = x.pl
      · simp [e]
      · simp [e]
  intro k
  rw [show placesF l = l.foldl (fun f e => putAt f e.pl e.val) (fun _ => none) from rfl, h]
  simp
theorem ents_all {m : Mem} {l : List Ent} {v : Value} (h : tEnts.rv m [v] l) : ∀ x ∈ l, x.okE := fun x hx => by
  obtain ⟨k, hk, rfl⟩ := List.getElem_of_mem hx
  obtain ⟨a, cap, rfl, _, _, h⟩ := slice_form h
  obtain ⟨b, o, _, _, hok⟩ := ents_at h hk
  exact hok
theorem Ent.okE.place {x : Ent} (h : x.okE) : okPlace x.pl := ⟨h.1, h.2.1, h.2.2.1⟩
set_option maxRecDepth 100000 in
set_option maxHeartbeats 4000000 in
theorem placed_any (l : List Ent) (v : Value) (w : World) (hv : tEnts.rv (mem w) [v] l) (hl : l.length ≤ 4000) :
    Calls Tryz.prog 27 #[v] w fun e w' => ∃ b, e = .returned (.tuple #[.map (some w.heap.size), .bool b]) ∧ LMap w' w.heap.size l.length (placesF l) ∧ Below w.heap.size w w' ∧ (b = true ↔ (l.map Ent.pl).Nodup) := by
  have HALL := Lib.hid (ents_all hv)
  obtain ⟨a, cap, rfl, hlc, hm, hv⟩ := slice_form hv
  have hcap : cap ≤ 9223372036854775807 := by unfold maxLen at hm; exact hm
  have H0 := Lib.hid (show LMap (w.alloc (.map #[] 0)) w.heap.size 0 (placesF (l.take 0)) from MapOf.made w)
  have HB0 := Lib.hid (show Below w.heap.size w (w.alloc (.map #[] 0)) from (Below.refl _ _).alloc (Nat.le_refl _) _)
  clear hm
  have hmm := @run_makeMap Tryz.prog
  go_enter Tryz.func27, Tryz.ntmps27
  go_wp2
  go_loopw [10] (fun i wr => ∃ k : Nat, k ≤ l.length ∧ i = .int .i64 k ∧ Hid (LMap wr w.heap.size k (placesF (l.take k)) ∧ Below w.heap.size w wr)) (fun i _ => l.length - (intOf i).toNat)
  case atStart => exact ⟨0, by omega, rfl, Lib.hid ⟨H0.out, HB0.out⟩⟩
  case round =>
    clear H0 HB0
    obtain ⟨k, hk, rfl, HK⟩ := hrel
    by_cases hlt : k < l.length
    · obtain ⟨b, o, rfl, hat, hok⟩ := ents_at (tEnts.mono _ _ _ _ (below_mem HK.out.2) hv) hlt
      have c0 : wr.cell? ⟨b, o + k * 4, none⟩ = some (.int .i64 l[k].g) := hat 0 _ rfl
      have c1 : wr.cell? ⟨b, o + k * 4 + 1, none⟩ = some (.string l[k].nm) := hat 1 _ rfl
      have c2 : wr.cell? ⟨b, o + k * 4 + 2, none⟩ = some (.string l[k].key) := hat 2 _ rfl
      have c3 : wr.cell? ⟨b, o + k * 4 + 3, none⟩ = some (.string l[k].val) := hat 3 _ rfl
      have HT := Lib.hid (show placesF (l.take (k + 1)) = putAt (placesF (l.take k)) l[k].pl l[k].val by rw [List.take_succ_eq_append_getElem hlt, placesF_snoc])
      have HPUT := Lib.hid (fun (o : Obj) => (show ∃ W6, (Instr.mapUpdate 60 (.map (some w.heap.size)) (.agg #[.int .i64 l[k].g, .string l[k].nm, .string l[k].key]) (.string l[k].val)).run Tryz.prog (wr.alloc o) = .ok () W6 ∧ LMap W6 w.heap.size (k + 1) (placesF (l.take (k + 1))) ∧ (wr.alloc o).grownBy W6 (some w.heap.size) from by
        rw [HT.out]
        exact LMap.put (HK.out.1.alloc _) (by unfold maxLen; omega) (Ent.okE.place hok) _ hok.2.2.2))
      clear hat HT hok
      generalize hx : l[k] = x at *
      clear hx
      have hob : HK.out.2 = HK.out.2 := rfl
      obtain ⟨W6, hput, hL, hG⟩ := HPUT.out (.cells #[.int .i64 x.g, .string x.nm, .string x.key, .string x.val] 34)
      have HL := Lib.hid (show LMap W6 w.heap.size (k + 1) (placesF (l.take (k + 1))) ∧ Below w.heap.size w W6 from ⟨hL, (HK.out.2.alloc HK.out.2.size _).grown hG (Nat.le_trans HK.out.2.size (by simp)) (fun k e => by cases e; exact Nat.le_refl _)⟩)
      clear hL hG HPUT hob
      go_wp2
      go_roundw
      case rel => exact ⟨k + 1, by omega, by go_num, HL⟩
      case measure => simp [intOf]; omega
    · obtain rfl : k = l.length := by omega
      rw [List.take_length] at HK
      obtain ⟨ks, hks⟩ := dedup (l.map Ent.pl)
      have HC := Lib.hid (show (ks.length = l.length) ↔ (l.map Ent.pl).Nodup from by
        obtain ⟨h1, h2, h3, h4⟩ := hks
        rw [List.length_map] at h3 h4
        refine ⟨h4, fun h => Nat.le_antisymm h3 ?_⟩
        have := nodup_le h (fun x hx => (h2 x).2 hx)
        rwa [List.length_map] at this)
      have hlen : (Builtin.len_ #[60] 3 #[.map (some w.heap.size)]).run Tryz.prog wr = .ok (.int .i64 ks.length) wr := by
        obtain ⟨D, hown, hs⟩ := HK.out.1
        have := hown.len Tryz.underlying60 3
        rwa [LMap.card hown hs hks.1 (fun x hx => by obtain ⟨e, he, rfl⟩ := List.mem_map.1 ((hks.2.1 x).1 hx); exact (HALL.out e he).place) (fun x => (hks.2.1 x).trans (placesF_some l x))] at this
      generalize hbb : ((ks.length : Int) == (l.length : Int)) = bb at *
      have HBB := Lib.hid (show bb = true ↔ (l.map Ent.pl).Nodup from by rw [← HC.out, ← hbb]; simp; omega)
      clear hks HC
      go_wp2
      go_ret2
      exact ⟨_, rfl, HK.out.1, HK.out.2, HBB.out⟩
end Go.Proofs.YtbmpoecmjmmngaaGreat
/- package heap: Restore. -/
namespace Go.Proofs.YtbmpoecmjmmngaaGreat
open Go.RowKit Go.Maps

theorem HeapInv.rebase {W : World} {base base' p : Nat} {r : HS} (h : HeapInv W base p r) (hb : base' ≤ base) : HeapInv W base' p r :=
  ⟨h.hb, h.cu, h.sn, h.sr, h.gb, h.inj, h.smb, h.sh, h.nd, fun k hk => Nat.le_trans hb (h.ge k hk), Nat.le_trans hb h.bw⟩
open Classical in
noncomputable def restAns (n : Int) (l : List Ent) : Int :=
  if l.all validE = false then 1 else if n < 1 ∨ 128 < n then 7 else if l.any (fun x => decide (n ≤ x.g)) = true then 7 else if (l.map Ent.pl).Nodup then 0 else 6
noncomputable def restPS (N : Nat) (l : List Ent) : PS := ⟨(List.range N).map fun (i : Nat) => fun s => placesF l ((i : Int), s.1, s.2), l.length, 0, fun _ => none⟩
def RestPost (w : World) (n : Int) (l : List Ent) (e : Ending) (w' : World) : Prop :=
  Below w.heap.size w w' ∧ ((restAns n l ≠ 0 ∧ e = .returned (.tuple #[.pointer none, .int .i64 (restAns n l)])) ∨
    (restAns n l = 0 ∧ ∃ p r, e = .returned (.tuple #[ptrTo p, .int .i64 0]) ∧ HeapInv w' w.heap.size p r ∧ r.view = restPS n.toNat l ∧ r.nn ≤ l.length))
theorem view_len {r : HS} {s : PS} (h : r.view = s) : r.cur.length = s.grps.length := by
  rw [← h]; unfold HS.view; simp
theorem restPS_len (N : Nat) (l : List Ent) : (restPS N l).grps.length = N := by unfold restPS; simp
theorem grpF_view {r : HS} {N : Nat} {l : List Ent} (h : r.view = restPS N l) {i : Nat} (hi : i < N) : grpF r i = fun s => placesF l ((i : Int), s.1, s.2) := by
  have hl : r.cur.length = N := (view_len h).trans (restPS_len N l)
  have h1 := grps_at r (i := i) (by omega)
  rw [h] at h1
  unfold restPS at h1
  simp [hi] at h1
  exact h1.symm
theorem restPS_put {r : HS} {N : Nat} {l : List Ent} (h : r.view = restPS N l) {x : Ent} (hv : validE x = true) (hx : x.g < N) (hn : x.pl ∉ l.map Ent.pl) (hl : l.length < 4000) :
    r.view.put N (grpF r x.g) x.g x.nm x.key x.val = restPS N (l ++ [x]) := by
  obtain ⟨g, nm, key, val⟩ := x
  unfold validE at hv
  simp only [Bool.and_eq_true, decide_eq_true_eq, Bool.not_eq_true'] at hv
  obtain ⟨⟨h0, h1⟩, h2, h3, h4⟩ := hv
  obtain ⟨i, rfl⟩ := Int.eq_ofNat_of_zero_le h0
  have hi : i < N := by have : (i : Int) < N := hx; omega
  have hF := grpF_view h hi
  have hnone : placesF l ((i : Int), nm, key) = none := by
    have := mt (placesF_some l ((i : Int), nm, key)).2 hn
    cases hp : placesF l ((i : Int), nm, key) with
    | none => rfl
    | some s => rw [hp] at this; exact absurd rfl this
  have hc : r.view.cnt = l.length := by rw [h]; rfl
  have hchk : chk N (i : Int) nm [key, val] = 0 := by
    unfold chk
    rw [if_pos ⟨h2, by simp [h3, h4]⟩, if_pos ⟨by omega, by omega⟩]
  have hans : putAns N (grpF r i) r.view.cnt (i : Int) nm key val = 0 := by
    unfold putAns
    rw [if_neg (by simp [hchk]), if_neg (fun h => by rw [hc] at h; omega)]
  unfold PS.put
  show (if putAns N (grpF r (i : Int)) r.view.cnt (i : Int) nm key val = 0 then _ else _) = _
  rw [if_pos hans, hF]
  have he : (fun s : Spot => placesF l ((i : Int), s.1, s.2)) (nm, key) = none := hnone
  simp only [hnone, if_true]
  rw [h]
  unfold restPS
  simp only [List.length_append, List.length_singleton, PS.mk.injEq, and_true]
  refine ⟨?_, by simp⟩
  apply List.ext_getElem (by simp)
  intro j hj1 hj2
  simp only [List.length_set, List.length_map, List.length_range] at hj1
  rw [List.getElem_set]
  simp only [List.getElem_map, List.getElem_range, Int.toNat_natCast]
  rw [placesF_snoc]
  by_cases e : i = j
  · subst e
    rw [if_pos rfl]
    funext s
    unfold putAt
    by_cases es : s = (nm, key)
    · subst es
      simp [Ent.pl]
    · rw [if_neg es, if_neg (fun h => es (by simp only [Ent.pl, Prod.mk.injEq] at h; exact Prod.ext h.2.1 h.2.2))]
  · rw [if_neg e]
    funext s
    unfold putAt
    rw [if_neg (fun h => e (by simp only [Ent.pl, Prod.mk.injEq] at h; omega))]
theorem restPS_nil (N : Nat) : restPS N [] = ⟨List.replicate N (fun _ => none), 0, 0, fun _ => none⟩ := by
  unfold restPS
  simp only [PS.mk.injEq, List.length_nil, and_true]
  refine ⟨?_, rfl⟩
  apply List.ext_getElem (by simp)
  intro j h1 h2
  simp only [List.getElem_map, List.getElem_range, List.getElem_replicate]
  rfl
/-- What has been put, so far. -/
structure RestAt (w wr : World) (p N : Nat) (l : List Ent) (r : HS) : Prop where
  inv : HeapInv wr w.heap.size p r
  vw : r.view = restPS N l
  nn : r.nn ≤ l.length
  bl : Below w.heap.size w wr
set_option maxRecDepth 100000 in
set_option maxHeartbeats 8000000 in
theorem restore_any (n : Int) (l : List Ent) (v : Value) (w : World) (hv : tEnts.rv (mem w) [v] l) (hl : l.length < 4000) :
    Calls Tryz.prog 11 #[.int .i64 n, v] w (RestPost w n l) := by
  have HALL := Lib.hid (ents_all hv)
  have HB0 := Lib.hid (fun o => (show Below w.heap.size w (w.alloc o) from (Below.refl _ _).alloc (Nat.le_refl _) o))
  have HV := Lib.hid (fun wr (hb : Below w.heap.size w wr) => valid_any l v wr (tEnts.mono _ _ _ _ (below_mem hb) hv) (by omega))
  have HNB := Lib.hid (fun (h : n < 1 ∨ 128 < n) wr => new_bad n wr h)
  have HNG := Lib.hid (fun (h : 1 ≤ n ∧ n ≤ 128) wr => (show Calls Tryz.prog 17 #[.int .i64 n] wr _ from (by have := new_any n.toNat wr (by omega) (by omega); rw [Int.toNat_of_nonneg (by omega)] at this; exact this)))
  have HC := Lib.hid (fun wr (hb : Below w.heap.size w wr) (hn : wr.cell? ⟨w.heap.size, 0, none⟩ = some (.int .i64 n)) => containsFuncEnt 32 #[.pointer (some ⟨w.heap.size, 0, none⟩)] (fun x => decide (n ≤ x.g)) l v wr (tEnts.mono _ _ _ _ (below_mem hb) hv) (fun _ _ => rfl) (fun x hx w2 h2 => restore1_any x w.heap.size n w2 (below_mem h2 _ _ _ hn)))
  have HP := Lib.hid (fun wr (hb : Below w.heap.size w wr) => placed_any l v wr (tEnts.mono _ _ _ _ (below_mem hb) hv) (by omega))
  have HAT := Lib.hid (fun k (hk : k < l.length) wr (hb : Below w.heap.size w wr) => (show ∃ a cap, v = .slice a l.length cap ∧ cap ≤ 9223372036854775807 ∧ ∃ b o, a = some ⟨b, o, none⟩ ∧ (∀ j u, l[k].cs[j]? = some u → wr.cell? ⟨b, o + k * 4 + j, none⟩ = some u) ∧ l[k].okE from by
    obtain ⟨a, cap, rfl, hlc, hm, hv⟩ := slice_form hv
    obtain ⟨b, o, rfl, hat, hok⟩ := ents_at (tEnts.mono _ _ _ _ (below_mem hb) hv) hk
    exact ⟨_, cap, rfl, by unfold maxLen at hm; exact hm, b, o, rfl, fun j u h => hat j u h, hok⟩))
  have HPS := Lib.hid (fun (e : Ending) w' (hb : Below w.heap.size w w') (c : Int) (hc : c ≠ 0) (hr : restAns n l = c) (he : e = .returned (.tuple #[.pointer none, .int .i64 c])) => (show RestPost w n l e w' from ⟨hb, .inl ⟨by rw [hr]; exact hc, by rw [hr]; exact he⟩⟩))
  have HPG := Lib.hid (fun (e : Ending) w' p r (hR : RestAt w w' p n.toNat l r) (hr : restAns n l = 0) (he : e = .returned (.tuple #[ptrTo p, .int .i64 0])) => (show RestPost w n l e w' from ⟨hR.bl, .inr ⟨hr, p, r, he, hR.inv, hR.vw, hR.nn⟩⟩))
  have HR := Lib.hid (show restAns n l = if l.all validE = false then 1 else if n < 1 ∨ 128 < n then 7 else if l.any (fun x => decide (n ≤ x.g)) = true then 7 else if (l.map Ent.pl).Nodup then 0 else 6 from rfl)
  have HVA := Lib.hid (fun (h : l.all validE = true) => (show ∀ x ∈ l, validE x = true from List.all_eq_true.1 h))
  have HGA := Lib.hid (fun (h : l.any (fun x => decide (n ≤ x.g)) = false) => (show ∀ x ∈ l, x.g < n from fun x hx => by have := List.any_eq_false.1 h x hx; simp at this; exact this))
  obtain ⟨a, cap, rfl, hlc, hm, -⟩ := slice_form hv
  have hcap : cap ≤ 9223372036854775807 := by unfold maxLen at hm; exact hm
  clear hv hm
  generalize hpost : RestPost w n l = PP at *
  clear hpost
  generalize l.all validE = b1 at *
  generalize l.any (fun x => decide (n ≤ x.g)) = b2 at *
  go_enter Tryz.func11, Tryz.ntmps11
  go_wp2_with fail
  refine (HV.out _ (HB0.out _)).mono ?_
  rintro e w1 ⟨rfl, hb1⟩
  have HB1 := Lib.hid (pure_trans (HB0.out _) hb1)
  have HC1 := Lib.hid (below_mem hb1 _ _ _ (mem_cells_new w #[.int .i64 n] 3 (0, 0) 0))
  clear hb1
  cases b1 with
  | false =>
    have HA := Lib.hid (show restAns n l = 1 by rw [HR.out, if_pos rfl])
    go_wp2
    exact HPS.out _ _ HB1.out 1 (by decide) HA.out rfl
  | true =>
  have HR2 := Lib.hid (show restAns n l = if n < 1 ∨ 128 < n then 7 else if b2 = true then 7 else if (l.map Ent.pl).Nodup then 0 else 6 by rw [HR.out, if_neg (by decide)])
  clear HR
  have cn1 : w1.cell? ⟨w.heap.size, 0, none⟩ = some (.int .i64 n) := HC1.out
  by_cases hn : n < 1 ∨ 128 < n
  · have HA := Lib.hid (show restAns n l = 7 by rw [HR2.out, if_pos hn])
    clear HR2
    go_wp2_with fail
    refine (HNB.out hn _).mono ?_
    rintro e w2 ⟨rfl, hb2⟩
    have HB2 := Lib.hid (pure_trans HB1.out hb2)
    clear hn
    go_wp2
    exact HPS.out _ _ HB2.out 7 (by decide) HA.out rfl
  have hn' : 1 ≤ n ∧ n ≤ 128 := by omega
  have HR3 := Lib.hid (show restAns n l = if b2 = true then 7 else if (l.map Ent.pl).Nodup then 0 else 6 by rw [HR2.out, if_neg hn])
  clear HR2 hn
  go_wp2_with fail
  refine (HNG.out hn' _).mono ?_
  rintro e w2 ⟨rfl, r0, hI2, hvw2, hnn2, hb2⟩
  have HB2 := Lib.hid (pure_trans HB1.out hb2)
  have HI2 := Lib.hid (hI2.rebase (base' := w.heap.size) HB1.out.size)
  have HVW2 := Lib.hid hvw2
  have HNN2 := Lib.hid hnn2
  have HC2 := Lib.hid (below_mem hb2 _ _ _ HC1.out)
  clear hI2 hvw2 hnn2 hb2 HC1 HNB HNG HV cn1
  generalize w1.heap.size + 1 = p at *
  go_wp2_with fail
  refine (HC.out _ HB2.out HC2.out).mono ?_
  rintro e w3 ⟨rfl, hb3⟩
  have HB3 := Lib.hid (pure_trans HB2.out hb3)
  have HI3 := Lib.hid (HI2.out.pure hb3)
  clear hb3 HC HC2 HB2 HI2
  cases b2 with
  | true =>
    have HA := Lib.hid (show restAns n l = 7 by rw [HR3.out, if_pos rfl])
    clear HR3
    go_wp2
    exact HPS.out _ _ HB3.out 7 (by decide) HA.out rfl
  | false =>
  have HR4 := Lib.hid (show restAns n l = if (l.map Ent.pl).Nodup then 0 else 6 by rw [HR3.out, if_neg (by decide)])
  clear HR3
  go_wp2_with fail
  refine (HP.out _ HB3.out).mono ?_
  rintro e w4 ⟨b, rfl, -, hb4, hbn⟩
  have HB4 := Lib.hid (pure_trans HB3.out hb4)
  have HI4 := Lib.hid (HI3.out.pure hb4)
  have HBN := Lib.hid hbn
  generalize w3.heap.size = mp at *
  clear hb4 hbn HP HB3 HI3
  cases b with
  | false =>
    have HA := Lib.hid (show restAns n l = 6 by rw [HR4.out, if_neg (fun h => by have := HBN.out.2 h; cases this)])
    clear HR4
    go_wp2
    exact HPS.out _ _ HB4.out 6 (by decide) HA.out rfl
  | true =>
  have HND := Lib.hid (HBN.out.1 rfl)
  have HA := Lib.hid (show restAns n l = 0 by rw [HR4.out, if_pos HND.out])
  have HVE := Lib.hid (show ∀ x ∈ l, validE x = true from HVA.out (by trivial))
  have HGE := Lib.hid (show ∀ x ∈ l, x.g < n from HGA.out (by trivial))
  have H0 := Lib.hid (show RestAt w w4 p n.toNat (l.take 0) r0 from ⟨HI4.out, by rw [HVW2.out, List.take_zero, restPS_nil], by rw [HNN2.out]; exact Nat.zero_le _, HB4.out⟩)
  clear HR4 HBN HVA HGA HI4 HVW2 HNN2 HB4 HB1 HB0
  go_wp2
  go_loopw [35] (fun i wr => ∃ k : Nat, k ≤ l.length ∧ i = .int .i64 k ∧ ∃ r, Hid (RestAt w wr p n.toNat (l.take k) r)) (fun i _ => l.length - (intOf i).toNat)
  case atStart => exact ⟨0, by omega, rfl, r0, H0⟩
  case round =>
    clear H0
    obtain ⟨k, hk, rfl, r, HK⟩ := hrel
    by_cases hlt : k < l.length
    · obtain ⟨a', cap', hs, -, b, o, ha, hat, hok⟩ := HAT.out k hlt wr HK.out.bl
      obtain ⟨rfl, rfl⟩ : a' = a ∧ cap' = cap := by injection hs with h1 h2 h3; exact ⟨h1.symm, h3.symm⟩
      subst ha
      have c0 : wr.cell? ⟨b, o + k * 4, none⟩ = some (.int .i64 l[k].g) := hat 0 _ rfl
      have c1 : wr.cell? ⟨b, o + k * 4 + 1, none⟩ = some (.string l[k].nm) := hat 1 _ rfl
      have c2 : wr.cell? ⟨b, o + k * 4 + 2, none⟩ = some (.string l[k].key) := hat 2 _ rfl
      have c3 : wr.cell? ⟨b, o + k * 4 + 3, none⟩ = some (.string l[k].val) := hat 3 _ rfl
      have HPUT := Lib.hid (fun ob => (show Calls Tryz.prog 13 #[ptrTo p, .int .i64 l[k].g, .string l[k].nm, .string l[k].key, .string l[k].val] (wr.alloc ob) fun e w' => ∃ z r', e = .returned (.int .i64 z) ∧ RestAt w w' p n.toNat (l.take (k + 1)) r' from by
        have hbo : Below wr.heap.size wr (wr.alloc ob) := (Below.refl _ _).alloc (Nat.le_refl _) _
        have hrl : r.cur.length = n.toNat := (view_len HK.out.vw).trans (restPS_len _ _)
        have htl : (l.take k).length = k := by rw [List.length_take]; omega
        have hcnt : r.cnt = k := by have := congrArg PS.cnt HK.out.vw; rw [show (restPS n.toNat (l.take k)).cnt = ((l.take k).length : Int) from rfl, htl] at this; exact this
        have hnn := HK.out.nn
        refine (put_any l[k].g l[k].nm l[k].key l[k].val (wr.alloc ob) (HK.out.inv.pure hbo) hok.1 hok.2.1 hok.2.2.1 hok.2.2.2 (by omega) (by omega) (by omega)).mono ?_
        rintro e w' ⟨rfl, r', hP⟩
        have hmem := List.getElem_mem hlt
        have hT : l.take (k + 1) = l.take k ++ [l[k]] := List.take_succ_eq_append_getElem hlt
        refine ⟨_, r', rfl, hP.st.inv, ?_, ?_, ?_⟩
        · rw [hP.vw, hrl, hT]
          have hgn := HGE.out _ hmem
          refine restPS_put HK.out.vw (HVE.out _ hmem) (by omega) (fun h => ?_) (by omega)
          have hnd := HND.out
          have hsub := (List.take_sublist (k + 1) l).map Ent.pl
          have h2 := hsub.nodup hnd
          rw [hT, List.map_append, List.nodup_append] at h2
          exact h2.2.2 _ h _ (by simp) rfl
        · have := hP.nn
          rw [hT, List.length_append, htl]
          rw [htl] at hnn
          simp; omega
        · exact (HK.out.bl.alloc HK.out.bl.size _).trans (hP.st.below (HK.out.inv.pure hbo))))
      clear hat hok
      generalize hx : l[k] = x at *
      clear hx
      go_wp2_with fail
      refine (HPUT.out _).mono ?_
      rintro e w5 ⟨z, r', rfl, hR5⟩
      have HR5 := Lib.hid hR5
      clear hR5 HPUT HK
      go_wp2
      go_roundw
      case rel => exact ⟨k + 1, by omega, by go_num, r', HR5⟩
      case measure => simp [intOf]; omega
    · obtain rfl : k = l.length := by omega
      rw [List.take_length] at HK
      go_wp2
      exact HPG.out _ _ p r HK.out HA.out rfl
end Go.Proofs.YtbmpoecmjmmngaaGreat
/- Entries of groups as an ascending list: plain. -/
namespace Go.Proofs.YtbmpoecmjmmngaaGreat
open Go.RowKit Go.Maps

def placeC : Ent → Ent → Int := lex (fun a b => cmpInt a.g b.g) (fun a b => spotC (a.nm, a.key) (b.nm, b.key))
theorem placeC_good : Good placeC := lex_good (cmpInt_good.pull (fun a : Ent => a.g)) (spotC_good.pull (fun a : Ent => (a.nm, a.key)))
theorem cmpInt_zero {a b : Int} : cmpInt a b = 0 ↔ a = b := by
  unfold cmpInt
  by_cases h : a < b
  · simp [h]; omega
  · by_cases h2 : b < a
    · simp [h, h2]; omega
    · simp [h, h2]; omega
theorem cmpInt_neg {a b : Int} : cmpInt a b < 0 ↔ a < b := by
  unfold cmpInt
  by_cases h : a < b
  · simp [h]
  · by_cases h2 : b < a <;> simp [h, h2]
theorem placeC_zero {a b : Ent} : placeC a b = 0 ↔ a.pl = b.pl := by
  unfold placeC lex
  constructor
  · intro h
    by_cases h1 : cmpInt a.g b.g = 0
    · rw [if_neg (by simp [h1])] at h
      have h2 := spotC_eq h
      have h3 := cmpInt_zero.1 h1
      simp only [Prod.mk.injEq] at h2
      unfold Ent.pl
      rw [h3, h2.1, h2.2]
    · rw [if_pos h1] at h
      exact absurd h h1
  · intro h
    unfold Ent.pl at h
    simp only [Prod.mk.injEq] at h
    rw [if_neg (by simp [cmpInt_zero.2 h.1])]
    show spotC (a.nm, a.key) (b.nm, b.key) = 0
    rw [h.2.1, h.2.2]
    exact spotC_good.refl _
theorem placeC_lt {a b : Ent} : placeC a b < 0 ↔ a.g < b.g ∨ (a.g = b.g ∧ spotC (a.nm, a.key) (b.nm, b.key) < 0) := by
  unfold placeC lex
  by_cases h1 : cmpInt a.g b.g = 0
  · have := cmpInt_zero.1 h1
    rw [if_neg (by simp [h1])]
    show spotC (a.nm, a.key) (b.nm, b.key) < 0 ↔ _
    simp [this]
  · rw [if_pos h1, cmpInt_neg]
    have : a.g ≠ b.g := fun e => h1 (cmpInt_zero.2 e)
    simp [this]
/-- Ascending, each place once. -/
def Asc (l : List Ent) : Prop := l.Pairwise (fun a b => placeC a b < 0)
theorem Asc.one {l m : List Ent} (h : Asc l) (h' : Asc m) (hm : ∀ x, x ∈ l ↔ x ∈ m) : l = m := sorted_unique placeC_good h h' hm
theorem Asc.eq {l : List Ent} (h : Asc l) {x y : Ent} (hx : x ∈ l) (hy : y ∈ l) (e : x.pl = y.pl) : x = y := by
  induction l with
  | nil => cases hx
  | cons z l ih =>
    unfold Asc at h
    rw [List.pairwise_cons] at h
    rcases List.mem_cons.1 hx with rfl | hx' <;> rcases List.mem_cons.1 hy with rfl | hy'
    · rfl
    · have := h.1 y hy'; have := placeC_zero.2 e; omega
    · have h1 := h.1 x hx'; have h2 := placeC_zero.2 e.symm; omega
    · exact ih h.2 hx' hy'
theorem Asc.filter {l : List Ent} (h : Asc l) (p : Ent → Bool) : Asc (l.filter p) := List.Pairwise.filter p h
/-- The entries of groups: an ascending list. -/
structure Es (n : Int) (fs : List FMap) (es : List Ent) : Prop where
  asc : Asc es
  mem : ∀ x, x ∈ es ↔ ∃ i F, fs[i]? = some F ∧ x.g = n + (i : Nat) ∧ F (x.nm, x.key) = some x.val
theorem Es.one {n : Int} {fs : List FMap} {es es' : List Ent} (h : Es n fs es) (h' : Es n fs es') : es = es' := h.asc.one h'.asc (fun x => (h.mem x).trans (h'.mem x).symm)
theorem entsOf_mem {n : Int} {ss : List Spot} {f : FMap} (h : Keysof f ss) (x : Ent) : x ∈ entsOf n ss f ↔ x.g = n ∧ f (x.nm, x.key) = some x.val := by
  unfold entsOf
  rw [List.mem_map]
  constructor
  · rintro ⟨k, hk, rfl⟩
    obtain ⟨v, hv⟩ := Option.isSome_iff_exists.1 ((h.mem k).1 hk)
    refine ⟨rfl, ?_⟩
    show f (k.1, k.2) = some (strOr (f k))
    rw [show (k.1, k.2) = k from rfl, hv]
    rfl
  · rintro ⟨hg, hv⟩
    refine ⟨(x.nm, x.key), (h.mem _).2 (by rw [hv]; rfl), ?_⟩
    show (⟨n, x.nm, x.key, strOr (f (x.nm, x.key))⟩ : Ent) = x
    rw [hv, ← hg]
    rfl
theorem entsOf_asc {n : Int} {ss : List Spot} {f : FMap} (h : Keysof f ss) : Asc (entsOf n ss f) := by
  unfold Asc entsOf
  rw [List.pairwise_map]
  exact h.up.imp (fun {a b} hab => (placeC_lt (a := ⟨n, a.1, a.2, strOr (f a)⟩) (b := ⟨n, b.1, b.2, strOr (f b)⟩)).2 (.inr ⟨rfl, hab⟩))
theorem AllOf.es : ∀ {n : Int} {fs : List FMap} {es : List Ent}, AllOf n fs es → Es n fs es
  | n, [], es, h => by
    obtain rfl : es = [] := h
    exact ⟨List.Pairwise.nil, fun x => by simp⟩
  | n, f :: fs, _, ⟨ss, es, h1, h2, e⟩ => by
    subst e
    have ih := AllOf.es h2
    refine ⟨List.pairwise_append.2 ⟨entsOf_asc h1, ih.asc, fun a ha b hb => ?_⟩, fun x => ?_⟩
    · obtain ⟨i, F, _, hg, _⟩ := (ih.mem b).1 hb
      have := ((entsOf_mem h1 a).1 ha).1
      exact placeC_lt.2 (.inl (by omega))
    · rw [List.mem_append, entsOf_mem h1, ih.mem]
      constructor
      · rintro (⟨hg, hv⟩ | ⟨i, F, hF, hg, hv⟩)
        · exact ⟨0, f, rfl, by simp [hg], hv⟩
        · exact ⟨i + 1, F, by simpa using hF, by omega, hv⟩
      · rintro ⟨i, F, hF, hg, hv⟩
        match i, hF, hg with
        | 0, hF, hg =>
          simp at hF; subst hF
          exact .inl ⟨by simpa using hg, hv⟩
        | i + 1, hF, hg => exact .inr ⟨i, F, by simpa using hF, by omega, hv⟩
/-- Put and Delete on a list. -/
def putL (l : List Ent) (x : Ent) : List Ent := l.filter (fun y => decide (placeC y x < 0)) ++ x :: l.filter (fun y => decide (placeC x y < 0))
def delL (l : List Ent) (x : Ent) : List Ent := l.filter (fun y => decide (placeC y x < 0)) ++ l.filter (fun y => decide (placeC x y < 0))
theorem delL_asc {l : List Ent} (h : Asc l) (x : Ent) : Asc (delL l x) := by
  refine List.pairwise_append.2 ⟨h.filter _, h.filter _, fun a ha b hb => ?_⟩
  have h1 := (List.mem_filter.1 ha).2
  have h2 := (List.mem_filter.1 hb).2
  exact placeC_good.lt_trans (of_decide_eq_true h1) (of_decide_eq_true h2)
theorem putL_asc {l : List Ent} (h : Asc l) (x : Ent) : Asc (putL l x) := by
  refine List.pairwise_append.2 ⟨h.filter _, List.pairwise_cons.2 ⟨fun b hb => of_decide_eq_true (List.mem_filter.1 hb).2, h.filter _⟩, fun a ha b hb => ?_⟩
  have h1 := of_decide_eq_true (List.mem_filter.1 ha).2
  rcases List.mem_cons.1 hb with rfl | hb
  · exact h1
  · exact placeC_good.lt_trans h1 (of_decide_eq_true (List.mem_filter.1 hb).2)
theorem lt_or {x y : Ent} : (placeC y x < 0 ∨ placeC x y < 0) ↔ y.pl ≠ x.pl := by
  rw [ne_eq, ← placeC_zero]
  have := placeC_good.anti x y
  omega
theorem delL_mem {l : List Ent} (x y : Ent) : y ∈ delL l x ↔ y ∈ l ∧ y.pl ≠ x.pl := by
  unfold delL
  rw [List.mem_append, List.mem_filter, List.mem_filter, decide_eq_true_eq, decide_eq_true_eq, ← and_or_left, lt_or]
theorem putL_mem {l : List Ent} (x y : Ent) : y ∈ putL l x ↔ y = x ∨ (y ∈ l ∧ y.pl ≠ x.pl) := by
  rw [← delL_mem]
  unfold putL delL
  rw [List.mem_append, List.mem_cons, List.mem_append]
  exact ⟨fun h => by rcases h with h | h | h <;> simp [h], fun h => by rcases h with h | h | h <;> simp [h]⟩
theorem putL_len (l : List Ent) (x : Ent) : (putL l x).length = (delL l x).length + 1 := by
  unfold putL delL
  simp
  omega
theorem delL_len {l : List Ent} (h : Asc l) (x : Ent) : (x.pl ∈ l.map Ent.pl → (delL l x).length + 1 = l.length) ∧ (x.pl ∉ l.map Ent.pl → (delL l x).length = l.length) := by
  induction l with
  | nil => simp [delL]
  | cons y l ih =>
    unfold Asc at h
    rw [List.pairwise_cons] at h
    have ih := ih h.2
    have hd : (delL (y :: l) x).length = (if y.pl = x.pl then 0 else 1) + (delL l x).length := by
      unfold delL
      rw [List.filter_cons, List.filter_cons]
      by_cases e : y.pl = x.pl
      · have h1 := placeC_zero.2 e
        have h2 := placeC_zero.2 e.symm
        rw [if_neg (by simp [h1]), if_neg (by simp [h2]), if_pos e]
        simp
      · rw [if_neg e]
        rcases lt_or.2 e with h1 | h1
        · have h2 : ¬ placeC x y < 0 := by have := placeC_good.anti x y; omega
          rw [if_pos (by simp [h1]), if_neg (by simp; omega)]
          simp; omega
        · have h2 : ¬ placeC y x < 0 := by have := placeC_good.anti x y; omega
          rw [if_neg (by simp; omega), if_pos (by simp [h1])]
          simp; omega
    rw [hd, List.map_cons, List.mem_cons, List.length_cons]
    by_cases e : y.pl = x.pl
    · rw [if_pos e]
      have hn : x.pl ∉ l.map Ent.pl := fun hm => by
        obtain ⟨z, hz, ez⟩ := List.mem_map.1 hm
        have h1 := h.1 z hz
        have h2 := placeC_zero.2 (e.trans ez.symm)
        omega
      exact ⟨fun _ => by rw [ih.2 hn]; omega, fun hh => absurd (.inl e.symm) hh⟩
    · rw [if_neg e]
      refine ⟨fun hh => ?_, fun hh => ?_⟩
      · rcases hh with hh | hh
        · exact absurd hh.symm e
        · have := ih.1 hh; omega
      · rw [ih.2 (fun hm => hh (.inr hm))]; omega
section
variable {n : Int} {fs : List FMap} {es : List Ent}
/-- Whether an entry is there. -/
theorem Es.there (h : Es n fs es) {i : Nat} {F : FMap} (hi : fs[i]? = some F) {x : Ent} (hx : x.g = n + i) : x.pl ∈ es.map Ent.pl ↔ (F (x.nm, x.key)).isSome = true := by
  rw [List.mem_map]
  constructor
  · rintro ⟨y, hy, e⟩
    obtain ⟨j, F', hj, hg, hv⟩ := (h.mem y).1 hy
    unfold Ent.pl at e
    simp only [Prod.mk.injEq] at e
    obtain rfl : j = i := by omega
    rw [hi] at hj
    cases hj
    rw [← e.2.1, ← e.2.2, hv]
    rfl
  · intro hs
    obtain ⟨v, hv⟩ := Option.isSome_iff_exists.1 hs
    exact ⟨⟨x.g, x.nm, x.key, v⟩, (h.mem _).2 ⟨i, F, hi, hx, hv⟩, rfl⟩
theorem Es.get (h : Es n fs es) {i : Nat} {F : FMap} (hi : fs[i]? = some F) {x : Ent} (hx : x ∈ es) (hg : x.g = n + i) : F (x.nm, x.key) = some x.val := by
  obtain ⟨j, F', hj, hg', hv⟩ := (h.mem x).1 hx
  obtain rfl : j = i := by omega
  rw [hi] at hj
  cases hj
  exact hv
theorem Es.put (h : Es n fs es) {i : Nat} {F : FMap} (hi : fs[i]? = some F) {x : Ent} (hx : x.g = n + i) : Es n (fs.set i (putAt F (x.nm, x.key) x.val)) (putL es x) := by
  have hil : i < fs.length := (List.getElem?_eq_some_iff.1 hi).1
  refine ⟨putL_asc h.asc x, fun y => ?_⟩
  rw [putL_mem, h.mem]
  constructor
  · rintro (rfl | ⟨⟨j, F', hj, hg, hv⟩, hne⟩)
    · exact ⟨i, _, List.getElem?_set_self hil, hx, by unfold putAt; rw [if_pos rfl]⟩
    · by_cases e : j = i
      · subst e
        rw [hi] at hj; cases hj
        refine ⟨j, _, List.getElem?_set_self hil, hg, ?_⟩
        unfold putAt
        rw [if_neg (fun e => hne (by simp only [Prod.mk.injEq] at e; unfold Ent.pl; rw [e.1, e.2, hg, hx]))]
        exact hv
      · exact ⟨j, F', by rw [List.getElem?_set_ne (Ne.symm e)]; exact hj, hg, hv⟩
  · rintro ⟨j, F', hj, hg, hv⟩
    by_cases e : j = i
    · subst e
      rw [List.getElem?_set_self hil] at hj
      cases hj
      unfold putAt at hv
      by_cases e2 : (y.nm, y.key) = (x.nm, x.key)
      · rw [if_pos e2] at hv
        simp only [Prod.mk.injEq] at e2
        left
        obtain ⟨yg, y1, y2, y3⟩ := y
        obtain ⟨xg, x1, x2, x3⟩ := x
        simp only at e2 hg hx hv
        injection hv with hv
        rw [e2.1, e2.2, ← hv, hg, hx]
      · rw [if_neg e2] at hv
        right
        exact ⟨⟨j, F, hi, hg, hv⟩, fun e => e2 (by unfold Ent.pl at e; simp only [Prod.mk.injEq] at e; rw [e.2.1, e.2.2])⟩
    · rw [List.getElem?_set_ne (Ne.symm e)] at hj
      right
      exact ⟨⟨j, F', hj, hg, hv⟩, fun e' => e (by unfold Ent.pl at e'; simp only [Prod.mk.injEq] at e'; omega)⟩
theorem Es.del (h : Es n fs es) {i : Nat} {F : FMap} (hi : fs[i]? = some F) {x : Ent} (hx : x.g = n + i) : Es n (fs.set i (delAt F (x.nm, x.key))) (delL es x) := by
  have hil : i < fs.length := (List.getElem?_eq_some_iff.1 hi).1
  refine ⟨delL_asc h.asc x, fun y => ?_⟩
  rw [delL_mem, h.mem]
  constructor
  · rintro ⟨⟨j, F', hj, hg, hv⟩, hne⟩
    by_cases e : j = i
    · subst e
      rw [hi] at hj; cases hj
      refine ⟨j, _, List.getElem?_set_self hil, hg, ?_⟩
      rw [delAt_other _ (fun e => hne (by simp only [Prod.mk.injEq] at e; unfold Ent.pl; rw [e.1, e.2, hg, hx]))]
      exact hv
    · exact ⟨j, F', by rw [List.getElem?_set_ne (Ne.symm e)]; exact hj, hg, hv⟩
  · rintro ⟨j, F', hj, hg, hv⟩
    by_cases e : j = i
    · subst e
      rw [List.getElem?_set_self hil] at hj
      cases hj
      by_cases e2 : (y.nm, y.key) = (x.nm, x.key)
      · rw [e2, delAt_same] at hv; cases hv
      · rw [delAt_other _ e2] at hv
        exact ⟨⟨j, F, hi, hg, hv⟩, fun e => e2 (by unfold Ent.pl at e; simp only [Prod.mk.injEq] at e; rw [e.2.1, e.2.2])⟩
    · rw [List.getElem?_set_ne (Ne.symm e)] at hj
      exact ⟨⟨j, F', hj, hg, hv⟩, fun e' => e (by unfold Ent.pl at e'; simp only [Prod.mk.injEq] at e'; omega)⟩
end
end Go.Proofs.YtbmpoecmjmmngaaGreat
/- The reference's comparison of entries (chapter 12), its At. -/
namespace Go.Proofs.YtbmpoecmjmmngaaGreat
open Go.RowKit Go.Maps

def entC : Ent → Ent → Int := lex (fun a b => cmpInt a.g b.g) (lex (fun a b => cmpBytes a.nm.toList b.nm.toList) (lex (fun a b => cmpBytes a.key.toList b.key.toList) (fun a b => cmpBytes a.val.toList b.val.toList)))
theorem lex_assoc {α : Type} (c1 c2 c3 : α → α → Int) (a b : α) : lex c1 (lex c2 c3) a b = lex (lex c1 c2) c3 a b := by
  unfold lex
  by_cases h1 : c1 a b = 0 <;> by_cases h2 : c2 a b = 0 <;> simp [h1, h2]
theorem entC_place {a b : Ent} (h : a.val = b.val) : entC a b = placeC a b := by
  have hz : cmpBytes a.val.toList b.val.toList = 0 := by rw [h]; exact cmpBytes_good.refl _
  show (if cmpInt a.g b.g ≠ 0 then cmpInt a.g b.g else if cmpBytes a.nm.toList b.nm.toList ≠ 0 then cmpBytes a.nm.toList b.nm.toList else if cmpBytes a.key.toList b.key.toList ≠ 0 then cmpBytes a.key.toList b.key.toList else cmpBytes a.val.toList b.val.toList) =
    (if cmpInt a.g b.g ≠ 0 then cmpInt a.g b.g else if cmpBytes a.nm.toList b.nm.toList ≠ 0 then cmpBytes a.nm.toList b.nm.toList else cmpBytes a.key.toList b.key.toList)
  rw [hz]
  by_cases h1 : cmpInt a.g b.g = 0 <;> by_cases h2 : cmpBytes a.nm.toList b.nm.toList = 0 <;> by_cases h3 : cmpBytes a.key.toList b.key.toList = 0 <;> simp [h1, h2, h3]
/-- What is left of the comparison behind k rounds. -/
def RestC (k : Nat) (v : Int) (x1 y1 x2 y2 x3 y3 : ByteArray) : Prop :=
  match k with
  | 0 => v = if cmpBytes x1.toList y1.toList ≠ 0 then cmpBytes x1.toList y1.toList else if cmpBytes x2.toList y2.toList ≠ 0 then cmpBytes x2.toList y2.toList else cmpBytes x3.toList y3.toList
  | 1 => v = if cmpBytes x2.toList y2.toList ≠ 0 then cmpBytes x2.toList y2.toList else cmpBytes x3.toList y3.toList
  | 2 => v = cmpBytes x3.toList y3.toList
  | _ => v = 0
section
variable {c : Int} {x1 y1 x2 y2 x3 y3 : ByteArray}
theorem RestC.next0 (h : RestC 0 c x1 y1 x2 y2 x3 y3) (e : cmpBytes x1.toList y1.toList = 0) : RestC 1 c x1 y1 x2 y2 x3 y3 := by
  have h : c = _ := h
  rw [if_neg (by simp [e])] at h
  exact h
theorem RestC.end0 (h : RestC 0 c x1 y1 x2 y2 x3 y3) (e : cmpBytes x1.toList y1.toList ≠ 0) : c = cmpBytes x1.toList y1.toList := by
  unfold RestC at h
  rw [h, if_pos e]
theorem RestC.next1 (h : RestC 1 c x1 y1 x2 y2 x3 y3) (e : cmpBytes x2.toList y2.toList = 0) : RestC 2 c x1 y1 x2 y2 x3 y3 := by
  have h : c = _ := h
  rw [if_neg (by simp [e])] at h
  exact h
theorem RestC.end1 (h : RestC 1 c x1 y1 x2 y2 x3 y3) (e : cmpBytes x2.toList y2.toList ≠ 0) : c = cmpBytes x2.toList y2.toList := by
  unfold RestC at h
  rw [h, if_pos e]
theorem RestC.next2 (h : RestC 2 c x1 y1 x2 y2 x3 y3) (e : cmpBytes x3.toList y3.toList = 0) : RestC 3 c x1 y1 x2 y2 x3 y3 := by
  have h : c = _ := h
  rw [e] at h
  exact h
theorem RestC.end2 (h : RestC 2 c x1 y1 x2 y2 x3 y3) (_ : cmpBytes x3.toList y3.toList ≠ 0) : c = cmpBytes x3.toList y3.toList := h
end
set_option maxRecDepth 100000 in
set_option maxHeartbeats 8000000 in
theorem refCmp_any (x y : Ent) (w : World) :
    Calls Tryz.prog 37 #[x.v, y.v] w fun e w' => e = .returned (.int .i64 (entC x y)) ∧ Below w.heap.size w w' := by
  obtain ⟨xg, x1, x2, x3⟩ := x
  obtain ⟨yg, y1, y2, y3⟩ := y
  have HV := Lib.hid (show entC ⟨xg, x1, x2, x3⟩ ⟨yg, y1, y2, y3⟩ = if cmpInt xg yg ≠ 0 then cmpInt xg yg else if cmpBytes x1.toList y1.toList ≠ 0 then cmpBytes x1.toList y1.toList else if cmpBytes x2.toList y2.toList ≠ 0 then cmpBytes x2.toList y2.toList else cmpBytes x3.toList y3.toList from rfl)
  generalize entC ⟨xg, x1, x2, x3⟩ ⟨yg, y1, y2, y3⟩ = v at *
  have HB := Lib.hid (fun o1 o2 => (show Below w.heap.size w ((w.alloc o1).alloc o2) from ((Below.refl _ _).alloc (Nat.le_refl _) _).alloc (by simp) _))
  by_cases hg : xg = yg
  case neg =>
    have hb : (xg == yg) = false := by simp [hg]
    by_cases hl : xg < yg
    · have HR := Lib.hid (show v = -1 by rw [HV.out]; have : cmpInt xg yg = -1 := by { unfold cmpInt; rw [if_pos hl] }; rw [this]; rfl)
      clear HV
      go_enter Tryz.func37, Tryz.ntmps37
      go_wp2
      go_ret
      exact ⟨by rw [HR.out] <;> rfl, HB.out _ _⟩
    · have HR := Lib.hid (show v = 1 by rw [HV.out]; have : cmpInt xg yg = 1 := by { unfold cmpInt; rw [if_neg hl, if_pos (by omega)] }; rw [this]; rfl)
      clear HV
      go_enter Tryz.func37, Tryz.ntmps37
      go_wp2
      go_ret
      exact ⟨by rw [HR.out] <;> rfl, HB.out _ _⟩
  subst hg
  have HV1 := Lib.hid (show v = if cmpBytes x1.toList y1.toList ≠ 0 then cmpBytes x1.toList y1.toList else if cmpBytes x2.toList y2.toList ≠ 0 then cmpBytes x2.toList y2.toList else cmpBytes x3.toList y3.toList by rw [HV.out, if_neg (by simp [cmpInt_zero.2 rfl])])
  have hb : (xg == xg) = true := by simp
  clear HV
  go_enter Tryz.func37, Tryz.ntmps37
  go_wp2_with fail
  generalize hW : ((w.alloc (.cells #[.int .i64 xg, .string x1, .string x2, .string x3] 34)).alloc (.cells #[.int .i64 xg, .string y1, .string y2, .string y3] 34)) = W
  have hB : Below w.heap.size w W := by rw [← hW]; exact HB.out _ _
  have hb0 : W.heap[w.heap.size]? = some (.cells #[.int .i64 xg, .string x1, .string x2, .string x3] 34 (0, 0)) := by rw [← hW]; exact (Below.heap_alloc _ _ _ (by simp)).trans (heap_alloc_new w _)
  have hb1 : W.heap[w.heap.size + 1]? = some (.cells #[.int .i64 xg, .string y1, .string y2, .string y3] 34 (0, 0)) := by
    rw [← hW]
    have := heap_alloc_new (w.alloc (.cells #[.int .i64 xg, .string x1, .string x2, .string x3] 34)) (.cells #[.int .i64 xg, .string y1, .string y2, .string y3] 34)
    rwa [World.size_alloc] at this
  clear hW HB
  have HK := Lib.hid (fun (w' : World) (h : Below W.heap.size W w') => (show w'.cell? ⟨w.heap.size, 1, none⟩ = some (.string x1) ∧ w'.cell? ⟨w.heap.size, 2, none⟩ = some (.string x2) ∧ w'.cell? ⟨w.heap.size, 3, none⟩ = some (.string x3) ∧ w'.cell? ⟨w.heap.size + 1, 1, none⟩ = some (.string y1) ∧ w'.cell? ⟨w.heap.size + 1, 2, none⟩ = some (.string y2) ∧ w'.cell? ⟨w.heap.size + 1, 3, none⟩ = some (.string y3) from
    ⟨below_mem h _ _ _ (mem_cells hb0 1), below_mem h _ _ _ (mem_cells hb0 2), below_mem h _ _ _ (mem_cells hb0 3), below_mem h _ _ _ (mem_cells hb1 1), below_mem h _ _ _ (mem_cells hb1 2), below_mem h _ _ _ (mem_cells hb1 3)⟩))
  clear hb0 hb1
  go_region_held3 (fun w' => w'.cell? ⟨w.heap.size, 1, none⟩ = some (.string x1) ∧ w'.cell? ⟨w.heap.size, 2, none⟩ = some (.string x2) ∧ w'.cell? ⟨w.heap.size, 3, none⟩ = some (.string x3) ∧ w'.cell? ⟨w.heap.size + 1, 1, none⟩ = some (.string y1) ∧ w'.cell? ⟨w.heap.size + 1, 2, none⟩ = some (.string y2) ∧ w'.cell? ⟨w.heap.size + 1, 3, none⟩ = some (.string y3))
    (exact HK.out _ (by repeat (first | exact Below.refl _ _ | refine Below.drew ?_ | refine Below.alloc ?_ (by simp) _ | refine Below.setCell ?_ (by simp) _))) (fail)
  -- the loop
  · generalize hW2 : ((W.alloc (.cells #[.string x1, .string x2, .string x3] 123)).alloc (.cells #[.string y1, .string y2, .string y3] 123)).drew = W2
    have hc0 : W2.heap[W.heap.size]? = some (.cells #[.string x1, .string x2, .string x3] 123 (0, 0)) := by rw [← hW2]; exact (Below.heap_alloc _ _ _ (by simp)).trans (heap_alloc_new W _)
    have hc1 : W2.heap[W.heap.size + 1]? = some (.cells #[.string y1, .string y2, .string y3] 123 (0, 0)) := by
      rw [← hW2]
      have := heap_alloc_new (W.alloc (.cells #[.string x1, .string x2, .string x3] 123)) (.cells #[.string y1, .string y2, .string y3] 123)
      rwa [World.size_alloc] at this
    have HB2 := Lib.hid (show Below w.heap.size w W2 by rw [← hW2]; exact ((hB.alloc hB.size _).alloc (Nat.le_trans hB.size (by simp)) _).drew)
    rename_i hHeld
    clear hHeld HK hW2 hB
    generalize W.heap.size = q at *
    have cx0 : W2.cell? ⟨q, 0, none⟩ = some (.string x1) := mem_cells hc0 0
    have cy0 : W2.cell? ⟨q + 1, 0, none⟩ = some (.string y1) := mem_cells hc1 0
    have cx1 : W2.cell? ⟨q, 1, none⟩ = some (.string x2) := mem_cells hc0 1
    have cy1 : W2.cell? ⟨q + 1, 1, none⟩ = some (.string y2) := mem_cells hc1 1
    have cx2 : W2.cell? ⟨q, 2, none⟩ = some (.string x3) := mem_cells hc0 2
    have cy2 : W2.cell? ⟨q + 1, 2, none⟩ = some (.string y3) := mem_cells hc1 2
    clear hc0 hc1
    simp only [Exit.then]
    go_at_K
    go_wp2
    go_loopw [7] (fun i wr => ∃ k : Nat, i = .int .i64 k ∧ Hid (RestC k v x1 y1 x2 y2 x3 y3) ∧ ∃ n, wr = W2.drewN n) (fun i _ => 3 - (intOf i).toNat)
    case atStart => exact ⟨0, rfl, Lib.hid HV1.out, 0, rfl⟩
    case round =>
      clear HV1
      obtain ⟨k, rfl, HC, n, rfl⟩ := hrel
      match k, HC with
      | 0, HC =>
        have HL := Lib.hid (bytesLess_cmp x1.toList y1.toList)
        have HG := Lib.hid (bytesGtr_cmp x1.toList y1.toList)
        have HRG := Lib.hid (cmpBytes_good.range x1.toList y1.toList)
        have HN := Lib.hid (fun h => RestC.next0 (c := v) (x1 := x1) (y1 := y1) (x2 := x2) (y2 := y2) (x3 := x3) (y3 := y3) HC.out h)
        have HE := Lib.hid (fun h => RestC.end0 (c := v) (x1 := x1) (y1 := y1) (x2 := x2) (y2 := y2) (x3 := x3) (y3 := y3) HC.out h)
        generalize hcc : cmpBytes x1.toList y1.toList = c at *
        clear hcc HC
        by_cases hl : c < 0
        · have hlb : Op.bytesLess x1.toList y1.toList = true := by rw [HL.out]; simp [hl]
          have HV := Lib.hid (show v = -1 from (HE.out (by omega)).trans (by have := HRG.out; omega))
          clear HL HG HRG HN HE
          go_wp2_with fail
          go_quiet (fail)
          all_goals
            go_wp2
            go_ret
            exact ⟨by rw [HV.out] <;> rfl, HB2.out.trans ⟨rfl, rfl, rfl, Nat.le_refl _, fun _ _ => rfl⟩⟩
        · have hlb : Op.bytesLess x1.toList y1.toList = false := by rw [HL.out]; simp [hl]
          by_cases hg : 0 < c
          · have heb : (x1.toList == y1.toList) = false := by have := HG.out; rw [hlb] at this; simpa [hg] using this
            have HV := Lib.hid (show v = 1 from (HE.out (by omega)).trans (by have := HRG.out; omega))
            clear HL HG HRG HN HE
            go_wp2_with fail
            go_quiet (fail)
            all_goals
              go_wp2_with fail
              go_quiet (fail)
              all_goals
                go_wp2
                go_ret
                exact ⟨by rw [HV.out] <;> rfl, HB2.out.trans ⟨rfl, rfl, rfl, Nat.le_refl _, fun _ _ => rfl⟩⟩
          · have heb : (x1.toList == y1.toList) = true := by have := HG.out; rw [hlb] at this; simpa [hg] using this
            have HN2 := Lib.hid (HN.out (by omega))
            clear HL HG HRG HN HE
            go_wp2_with fail
            go_quiet (fail)
            all_goals
              go_wp2_with fail
              go_quiet (fail)
              all_goals
                go_wp2
                exact ⟨⟨1, by go_num, HN2, _, rfl⟩, by simp [intOf]⟩
      | 1, HC =>
        have HL := Lib.hid (bytesLess_cmp x2.toList y2.toList)
        have HG := Lib.hid (bytesGtr_cmp x2.toList y2.toList)
        have HRG := Lib.hid (cmpBytes_good.range x2.toList y2.toList)
        have HN := Lib.hid (fun h => RestC.next1 (c := v) (x1 := x1) (y1 := y1) (x2 := x2) (y2 := y2) (x3 := x3) (y3 := y3) HC.out h)
        have HE := Lib.hid (fun h => RestC.end1 (c := v) (x1 := x1) (y1 := y1) (x2 := x2) (y2 := y2) (x3 := x3) (y3 := y3) HC.out h)
        generalize hcc : cmpBytes x2.toList y2.toList = c at *
        clear hcc HC
        by_cases hl : c < 0
        · have hlb : Op.bytesLess x2.toList y2.toList = true := by rw [HL.out]; simp [hl]
          have HV := Lib.hid (show v = -1 from (HE.out (by omega)).trans (by have := HRG.out; omega))
          clear HL HG HRG HN HE
          go_wp2_with fail
          go_quiet (fail)
          all_goals
            go_wp2
            go_ret
            exact ⟨by rw [HV.out] <;> rfl, HB2.out.trans ⟨rfl, rfl, rfl, Nat.le_refl _, fun _ _ => rfl⟩⟩
        · have hlb : Op.bytesLess x2.toList y2.toList = false := by rw [HL.out]; simp [hl]
          by_cases hg : 0 < c
          · have heb : (x2.toList == y2.toList) = false := by have := HG.out; rw [hlb] at this; simpa [hg] using this
            have HV := Lib.hid (show v = 1 from (HE.out (by omega)).trans (by have := HRG.out; omega))
            clear HL HG HRG HN HE
            go_wp2_with fail
            go_quiet (fail)
            all_goals
              go_wp2_with fail
              go_quiet (fail)
              all_goals
                go_wp2
                go_ret
                exact ⟨by rw [HV.out] <;> rfl, HB2.out.trans ⟨rfl, rfl, rfl, Nat.le_refl _, fun _ _ => rfl⟩⟩
          · have heb : (x2.toList == y2.toList) = true := by have := HG.out; rw [hlb] at this; simpa [hg] using this
            have HN2 := Lib.hid (HN.out (by omega))
            clear HL HG HRG HN HE
            go_wp2_with fail
            go_quiet (fail)
            all_goals
              go_wp2_with fail
              go_quiet (fail)
              all_goals
                go_wp2
                exact ⟨⟨2, by go_num, HN2, _, rfl⟩, by simp [intOf]⟩
      | 2, HC =>
        have HL := Lib.hid (bytesLess_cmp x3.toList y3.toList)
        have HG := Lib.hid (bytesGtr_cmp x3.toList y3.toList)
        have HRG := Lib.hid (cmpBytes_good.range x3.toList y3.toList)
        have HN := Lib.hid (fun h => RestC.next2 (c := v) (x1 := x1) (y1 := y1) (x2 := x2) (y2 := y2) (x3 := x3) (y3 := y3) HC.out h)
        have HE := Lib.hid (fun h => RestC.end2 (c := v) (x1 := x1) (y1 := y1) (x2 := x2) (y2 := y2) (x3 := x3) (y3 := y3) HC.out h)
        generalize hcc : cmpBytes x3.toList y3.toList = c at *
        clear hcc HC
        by_cases hl : c < 0
        · have hlb : Op.bytesLess x3.toList y3.toList = true := by rw [HL.out]; simp [hl]
          have HV := Lib.hid (show v = -1 from (HE.out (by omega)).trans (by have := HRG.out; omega))
          clear HL HG HRG HN HE
          go_wp2_with fail
          go_quiet (fail)
          all_goals
            go_wp2
            go_ret
            exact ⟨by rw [HV.out] <;> rfl, HB2.out.trans ⟨rfl, rfl, rfl, Nat.le_refl _, fun _ _ => rfl⟩⟩
        · have hlb : Op.bytesLess x3.toList y3.toList = false := by rw [HL.out]; simp [hl]
          by_cases hg : 0 < c
          · have heb : (x3.toList == y3.toList) = false := by have := HG.out; rw [hlb] at this; simpa [hg] using this
            have HV := Lib.hid (show v = 1 from (HE.out (by omega)).trans (by have := HRG.out; omega))
            clear HL HG HRG HN HE
            go_wp2_with fail
            go_quiet (fail)
            all_goals
              go_wp2_with fail
              go_quiet (fail)
              all_goals
                go_wp2
                go_ret
                exact ⟨by rw [HV.out] <;> rfl, HB2.out.trans ⟨rfl, rfl, rfl, Nat.le_refl _, fun _ _ => rfl⟩⟩
          · have heb : (x3.toList == y3.toList) = true := by have := HG.out; rw [hlb] at this; simpa [hg] using this
            have HN2 := Lib.hid (HN.out (by omega))
            clear HL HG HRG HN HE
            go_wp2_with fail
            go_quiet (fail)
            all_goals
              go_wp2_with fail
              go_quiet (fail)
              all_goals
                go_wp2
                exact ⟨⟨3, by go_num, HN2, _, rfl⟩, by simp [intOf]⟩
      | k + 3, HC =>
        have HV := Lib.hid (show v = 0 from HC.out)
        have hk : ¬ ((k + 3 : Nat) : Int) < 3 := by omega
        clear HC
        go_wp2
        go_ret
        exact ⟨by rw [HV.out] <;> rfl, HB2.out.trans ⟨rfl, rfl, rfl, Nat.le_refl _, fun _ _ => rfl⟩⟩
  · generalize hW2 : ((W.alloc (.cells #[.string y1, .string y2, .string y3] 123)).alloc (.cells #[.string x1, .string x2, .string x3] 123)).drew = W2
    have hc0 : W2.heap[W.heap.size]? = some (.cells #[.string y1, .string y2, .string y3] 123 (0, 0)) := by rw [← hW2]; exact (Below.heap_alloc _ _ _ (by simp)).trans (heap_alloc_new W _)
    have hc1 : W2.heap[W.heap.size + 1]? = some (.cells #[.string x1, .string x2, .string x3] 123 (0, 0)) := by
      rw [← hW2]
      have := heap_alloc_new (W.alloc (.cells #[.string y1, .string y2, .string y3] 123)) (.cells #[.string x1, .string x2, .string x3] 123)
      rwa [World.size_alloc] at this
    have HB2 := Lib.hid (show Below w.heap.size w W2 by rw [← hW2]; exact ((hB.alloc hB.size _).alloc (Nat.le_trans hB.size (by simp)) _).drew)
    rename_i hHeld
    clear hHeld HK hW2 hB
    generalize W.heap.size = q at *
    have cx0 : W2.cell? ⟨q + 1, 0, none⟩ = some (.string x1) := mem_cells hc1 0
    have cy0 : W2.cell? ⟨q, 0, none⟩ = some (.string y1) := mem_cells hc0 0
    have cx1 : W2.cell? ⟨q + 1, 1, none⟩ = some (.string x2) := mem_cells hc1 1
    have cy1 : W2.cell? ⟨q, 1, none⟩ = some (.string y2) := mem_cells hc0 1
    have cx2 : W2.cell? ⟨q + 1, 2, none⟩ = some (.string x3) := mem_cells hc1 2
    have cy2 : W2.cell? ⟨q, 2, none⟩ = some (.string y3) := mem_cells hc0 2
    clear hc0 hc1
    simp only [Exit.then]
    go_at_K
    go_wp2
    go_loopw [7] (fun i wr => ∃ k : Nat, i = .int .i64 k ∧ Hid (RestC k v x1 y1 x2 y2 x3 y3) ∧ ∃ n, wr = W2.drewN n) (fun i _ => 3 - (intOf i).toNat)
    case atStart => exact ⟨0, rfl, Lib.hid HV1.out, 0, rfl⟩
    case round =>
      clear HV1
      obtain ⟨k, rfl, HC, n, rfl⟩ := hrel
      match k, HC with
      | 0, HC =>
        have HL := Lib.hid (bytesLess_cmp x1.toList y1.toList)
        have HG := Lib.hid (bytesGtr_cmp x1.toList y1.toList)
        have HRG := Lib.hid (cmpBytes_good.range x1.toList y1.toList)
        have HN := Lib.hid (fun h => RestC.next0 (c := v) (x1 := x1) (y1 := y1) (x2 := x2) (y2 := y2) (x3 := x3) (y3 := y3) HC.out h)
        have HE := Lib.hid (fun h => RestC.end0 (c := v) (x1 := x1) (y1 := y1) (x2 := x2) (y2 := y2) (x3 := x3) (y3 := y3) HC.out h)
        generalize hcc : cmpBytes x1.toList y1.toList = c at *
        clear hcc HC
        by_cases hl : c < 0
        · have hlb : Op.bytesLess x1.toList y1.toList = true := by rw [HL.out]; simp [hl]
          have HV := Lib.hid (show v = -1 from (HE.out (by omega)).trans (by have := HRG.out; omega))
          clear HL HG HRG HN HE
          go_wp2_with fail
          go_quiet (fail)
          all_goals
            go_wp2
            go_ret
            exact ⟨by rw [HV.out] <;> rfl, HB2.out.trans ⟨rfl, rfl, rfl, Nat.le_refl _, fun _ _ => rfl⟩⟩
        · have hlb : Op.bytesLess x1.toList y1.toList = false := by rw [HL.out]; simp [hl]
          by_cases hg : 0 < c
          · have heb : (x1.toList == y1.toList) = false := by have := HG.out; rw [hlb] at this; simpa [hg] using this
            have HV := Lib.hid (show v = 1 from (HE.out (by omega)).trans (by have := HRG.out; omega))
            clear HL HG HRG HN HE
            go_wp2_with fail
            go_quiet (fail)
            all_goals
              go_wp2_with fail
              go_quiet (fail)
              all_goals
                go_wp2
                go_ret
                exact ⟨by rw [HV.out] <;> rfl, HB2.out.trans ⟨rfl, rfl, rfl, Nat.le_refl _, fun _ _ => rfl⟩⟩
          · have heb : (x1.toList == y1.toList) = true := by have := HG.out; rw [hlb] at this; simpa [hg] using this
            have HN2 := Lib.hid (HN.out (by omega))
            clear HL HG HRG HN HE
            go_wp2_with fail
            go_quiet (fail)
            all_goals
              go_wp2_with fail
              go_quiet (fail)
              all_goals
                go_wp2
                exact ⟨⟨1, by go_num, HN2, _, rfl⟩, by simp [intOf]⟩
      | 1, HC =>
        have HL := Lib.hid (bytesLess_cmp x2.toList y2.toList)
        have HG := Lib.hid (bytesGtr_cmp x2.toList y2.toList)
        have HRG := Lib.hid (cmpBytes_good.range x2.toList y2.toList)
        have HN := Lib.hid (fun h => RestC.next1 (c := v) (x1 := x1) (y1 := y1) (x2 := x2) (y2 := y2) (x3 := x3) (y3 := y3) HC.out h)
        have HE := Lib.hid (fun h => RestC.end1 (c := v) (x1 := x1) (y1 := y1) (x2 := x2) (y2 := y2) (x3 := x3) (y3 := y3) HC.out h)
        generalize hcc : cmpBytes x2.toList y2.toList = c at *
        clear hcc HC
        by_cases hl : c < 0
        · have hlb : Op.bytesLess x2.toList y2.toList = true := by rw [HL.out]; simp [hl]
          have HV := Lib.hid (show v = -1 from (HE.out (by omega)).trans (by have := HRG.out; omega))
          clear HL HG HRG HN HE
          go_wp2_with fail
          go_quiet (fail)
          all_goals
            go_wp2
            go_ret
            exact ⟨by rw [HV.out] <;> rfl, HB2.out.trans ⟨rfl, rfl, rfl, Nat.le_refl _, fun _ _ => rfl⟩⟩
        · have hlb : Op.bytesLess x2.toList y2.toList = false := by rw [HL.out]; simp [hl]
          by_cases hg : 0 < c
          · have heb : (x2.toList == y2.toList) = false := by have := HG.out; rw [hlb] at this; simpa [hg] using this
            have HV := Lib.hid (show v = 1 from (HE.out (by omega)).trans (by have := HRG.out; omega))
            clear HL HG HRG HN HE
            go_wp2_with fail
            go_quiet (fail)
            all_goals
              go_wp2_with fail
              go_quiet (fail)
              all_goals
                go_wp2
                go_ret
                exact ⟨by rw [HV.out] <;> rfl, HB2.out.trans ⟨rfl, rfl, rfl, Nat.le_refl _, fun _ _ => rfl⟩⟩
          · have heb : (x2.toList == y2.toList) = true := by have := HG.out; rw [hlb] at this; simpa [hg] using this
            have HN2 := Lib.hid (HN.out (by omega))
            clear HL HG HRG HN HE
            go_wp2_with fail
            go_quiet (fail)
            all_goals
              go_wp2_with fail
              go_quiet (fail)
              all_goals
                go_wp2
                exact ⟨⟨2, by go_num, HN2, _, rfl⟩, by simp [intOf]⟩
      | 2, HC =>
        have HL := Lib.hid (bytesLess_cmp x3.toList y3.toList)
        have HG := Lib.hid (bytesGtr_cmp x3.toList y3.toList)
        have HRG := Lib.hid (cmpBytes_good.range x3.toList y3.toList)
        have HN := Lib.hid (fun h => RestC.next2 (c := v) (x1 := x1) (y1 := y1) (x2 := x2) (y2 := y2) (x3 := x3) (y3 := y3) HC.out h)
        have HE := Lib.hid (fun h => RestC.end2 (c := v) (x1 := x1) (y1 := y1) (x2 := x2) (y2 := y2) (x3 := x3) (y3 := y3) HC.out h)
        generalize hcc : cmpBytes x3.toList y3.toList = c at *
        clear hcc HC
        by_cases hl : c < 0
        · have hlb : Op.bytesLess x3.toList y3.toList = true := by rw [HL.out]; simp [hl]
          have HV := Lib.hid (show v = -1 from (HE.out (by omega)).trans (by have := HRG.out; omega))
          clear HL HG HRG HN HE
          go_wp2_with fail
          go_quiet (fail)
          all_goals
            go_wp2
            go_ret
            exact ⟨by rw [HV.out] <;> rfl, HB2.out.trans ⟨rfl, rfl, rfl, Nat.le_refl _, fun _ _ => rfl⟩⟩
        · have hlb : Op.bytesLess x3.toList y3.toList = false := by rw [HL.out]; simp [hl]
          by_cases hg : 0 < c
          · have heb : (x3.toList == y3.toList) = false := by have := HG.out; rw [hlb] at this; simpa [hg] using this
            have HV := Lib.hid (show v = 1 from (HE.out (by omega)).trans (by have := HRG.out; omega))
            clear HL HG HRG HN HE
            go_wp2_with fail
            go_quiet (fail)
            all_goals
              go_wp2_with fail
              go_quiet (fail)
              all_goals
                go_wp2
                go_ret
                exact ⟨by rw [HV.out] <;> rfl, HB2.out.trans ⟨rfl, rfl, rfl, Nat.le_refl _, fun _ _ => rfl⟩⟩
          · have heb : (x3.toList == y3.toList) = true := by have := HG.out; rw [hlb] at this; simpa [hg] using this
            have HN2 := Lib.hid (HN.out (by omega))
            clear HL HG HRG HN HE
            go_wp2_with fail
            go_quiet (fail)
            all_goals
              go_wp2_with fail
              go_quiet (fail)
              all_goals
                go_wp2
                exact ⟨⟨3, by go_num, HN2, _, rfl⟩, by simp [intOf]⟩
      | k + 3, HC =>
        have HV := Lib.hid (show v = 0 from HC.out)
        have hk : ¬ ((k + 3 : Nat) : Int) < 3 := by omega
        clear HC
        go_wp2
        go_ret
        exact ⟨by rw [HV.out] <;> rfl, HB2.out.trans ⟨rfl, rfl, rfl, Nat.le_refl _, fun _ _ => rfl⟩⟩
end Go.Proofs.YtbmpoecmjmmngaaGreat
/- The reference of chapter 13: its state, In, asked, at, SameEntries. -/
namespace Go.Proofs.YtbmpoecmjmmngaaGreat
open Go.RowKit Go.Maps

structure RS where
  N : Nat
  next : Int
  es : List Ent
  sn : List (Int × List Ent)
def tSn : Ty (Int × List Ent) := ⟨2, fun m cs x => ∃ s, cs = [.int .i64 x.1, s] ∧ inI64 x.1 ∧ tEnts.rv m [s] x.2,
  fun _ _ _ h => by obtain ⟨s, rfl, _⟩ := h; rfl, fun m m' cs x hm h => by obtain ⟨s, e, i, r⟩ := h; exact ⟨s, e, i, tEnts.mono _ _ _ _ hm r⟩⟩
@[reducible] def rsV (r : RS) (a q : Value) : Value := .agg #[.int .i64 r.N, .int .i64 r.next, a, q]
structure RsAt (m : Mem) (r : RS) (a q : Value) : Prop where
  hN : r.N ≤ 1000
  hx : inI64 r.next
  ha : tEnts.rv m [a] r.es
  hq : (tSlice tSn).rv m [q] r.sn
theorem RsAt.mono {m m' : Mem} {r : RS} {a q : Value} (h : RsAt m r a q) (hm : m.le m') : RsAt m' r a q :=
  ⟨h.hN, h.hx, tEnts.mono _ _ _ _ hm h.ha, (tSlice tSn).mono _ _ _ _ hm h.hq⟩
set_option maxHeartbeats 400000 in
theorem refIn_any (n m : Int) (w : World) :
    Calls Tryz.prog 38 #[.int .i64 n, .int .i64 m] w fun e w' => e = .returned (.bool (decide (1 ≤ n ∧ n ≤ m))) ∧ w = w' := by
  generalize hr : decide (1 ≤ n ∧ n ≤ m) = r
  have HV := Lib.hid hr
  clear hr
  by_cases h1 : 1 ≤ n
  · by_cases h2 : n ≤ m
    · have HR := Lib.hid (show r = true from HV.out.symm.trans (decide_eq_true ⟨h1, h2⟩))
      clear HV
      go_enter Tryz.func38, Tryz.ntmps38
      go_wp2
      go_ret
      exact ⟨by rw [HR.out] <;> rfl, rfl⟩
    · have HR := Lib.hid (show r = false from HV.out.symm.trans (decide_eq_false (fun h => h2 h.2)))
      clear HV
      go_enter Tryz.func38, Tryz.ntmps38
      go_wp2
      go_ret
      exact ⟨by rw [HR.out] <;> rfl, rfl⟩
  · have HR := Lib.hid (show r = false from HV.out.symm.trans (decide_eq_false (fun h => h1 h.1)))
    clear HV
    go_enter Tryz.func38, Tryz.ntmps38
    go_wp2
    go_ret
    exact ⟨by rw [HR.out] <;> rfl, rfl⟩
/-- Where an entry stands in a list. -/
structure AtP (l : List Ent) (q : Ent) (i : Nat) (b : Bool) : Prop where
  le : i ≤ l.length
  low : ∀ x ∈ l.take i, placeC x q < 0
  yes : b = true → ∃ x rest, l.drop i = x :: rest ∧ placeC x q = 0
  no : b = false → l.drop i = [] ∨ ∃ x rest, l.drop i = x :: rest ∧ 0 < placeC x q
set_option maxRecDepth 100000 in
set_option maxHeartbeats 8000000 in
theorem refAt_any (l : List Ent) (v : Value) (g : Int) (nm key val : ByteArray) (w : World) (hv : tEnts.rv (mem w) [v] l) :
    Calls Tryz.prog 30 #[v, .int .i64 g, .string nm, .string key] w fun e w' => ∃ (i : Nat) (b : Bool), e = .returned (.tuple #[.int .i64 i, .bool b]) ∧ AtP l ⟨g, nm, key, val⟩ i b ∧ Below w.heap.size w w' := by
  obtain ⟨a, cap, rfl, hlc, hm, hv⟩ := slice_form hv
  have hcap : cap ≤ 9223372036854775807 := by unfold maxLen at hm; exact hm
  have hmi : l.length ≤ maxLen := Nat.le_trans hlc hm
  have hli : (l.length : Int) ≤ 9223372036854775807 := by unfold maxLen at hmi; omega
  clear hm
  go_enter Tryz.func30, Tryz.ntmps30
  go_wp2
  go_loopw [10] (fun i wr => ∃ k : Nat, k ≤ l.length ∧ i = .int .i64 k ∧ Hid (Below w.heap.size w wr) ∧ Hid (∀ x ∈ l.take k, placeC x ⟨g, nm, key, val⟩ < 0)) (fun i _ => l.length - (intOf i).toNat)
  case atStart => exact ⟨0, by omega, rfl, Lib.hid (Below.refl _ _), Lib.hid (by simp)⟩
  case round =>
    obtain ⟨k, hk, rfl, HB, HT⟩ := hrel
    by_cases hlt : k < l.length
    · obtain ⟨b, o, rfl, hat, hok⟩ := ents_at hv hlt
      have HX := Lib.hid (rfl : l[k] = l[k])
      have HDR := Lib.hid (List.drop_eq_getElem_cons hlt)
      have HTK := Lib.hid (fun (h : placeC l[k] ⟨g, nm, key, val⟩ < 0) => (show ∀ x ∈ l.take (k + 1), placeC x ⟨g, nm, key, val⟩ < 0 from fun x hx => by
        rw [List.take_succ_eq_append_getElem hlt] at hx
        rcases List.mem_append.1 hx with h' | h'
        · exact HT.out x h'
        · simp at h'; subst h'; exact h))
      have HK := Lib.hid (fun (w' : World) (h : Below w.heap.size w w') => (show w'.cell? ⟨b, o + k * 4, none⟩ = some (.int .i64 l[k].g) ∧ w'.cell? ⟨b, o + k * 4 + 1, none⟩ = some (.string l[k].nm) ∧ w'.cell? ⟨b, o + k * 4 + 2, none⟩ = some (.string l[k].key) from
        ⟨below_mem h _ _ _ (hat 0 _ rfl), below_mem h _ _ _ (hat 1 _ rfl), below_mem h _ _ _ (hat 2 _ rfl)⟩))
      have HPL := Lib.hid (fun w' => (show Calls Tryz.prog 37 #[.agg #[.int .i64 l[k].g, .string l[k].nm, .string l[k].key, .string .empty], .agg #[.int .i64 g, .string nm, .string key, .string .empty]] w' fun e w'' => e = .returned (.int .i64 (placeC l[k] ⟨g, nm, key, val⟩)) ∧ Below w'.heap.size w' w'' from
        (refCmp_any ⟨l[k].g, l[k].nm, l[k].key, .empty⟩ ⟨g, nm, key, .empty⟩ w').mono fun e w'' h => ⟨by rw [h.1, entC_place (a := ⟨l[k].g, l[k].nm, l[k].key, .empty⟩) (b := ⟨g, nm, key, .empty⟩) rfl]; rfl, h.2⟩))
      have HRG := Lib.hid (placeC_good.range l[k] ⟨g, nm, key, val⟩)
      clear hat HX
      generalize hcc : placeC l[k] ⟨g, nm, key, val⟩ = c at *
      have HCC := Lib.hid hcc
      clear hcc
      generalize l[k] = y at *
      obtain ⟨yg, y1, y2, y3⟩ := y
      have HSZ := Lib.hid HB.out.size
      go_wp2_with fail
      go_region_held3 (fun w' => w'.cell? ⟨b, o + k * 4, none⟩ = some (.int .i64 yg) ∧ w'.cell? ⟨b, o + k * 4 + 1, none⟩ = some (.string y1) ∧ w'.cell? ⟨b, o + k * 4 + 2, none⟩ = some (.string y2))
        (exact HK.out _ (by have := HSZ.out; repeat (first | exact HB.out | refine Below.drew ?_ | refine Below.alloc ?_ (by (first | omega | (simp; omega))) _ | refine Below.setCell ?_ (by (first | omega | (simp; omega))) _))) (fail)
      have HB1 := Lib.hid (show Below w.heap.size w ((wr.alloc (.cells #[.int .i64 yg, .string y1, .string y2, .string ⟨#[]⟩] 34)).drew) from (HB.out.alloc HB.out.size _).drew)
      rename_i hHeld
      clear hHeld HK
      simp only [Exit.then]
      go_at_K
      go_wp2_with fail
      refine (HPL.out _).mono ?_
      rintro e w1 ⟨rfl, hb1⟩
      have HB2 := Lib.hid (pure_trans HB1.out hb1)
      clear hb1 HPL HB1
      by_cases hc : 0 ≤ c
      · by_cases h0 : c = 0
        · have h0b : (c == 0) = true := by simp [h0]
          have HA := Lib.hid (show AtP l ⟨g, nm, key, val⟩ k true from ⟨hk, HT.out, fun _ => ⟨_, _, HDR.out, HCC.out.trans h0⟩, fun h => (by cases h)⟩)
          clear h0
          go_wp2
          go_ret2
          exact ⟨k, true, rfl, HA.out, HB2.out⟩
        · have h0b : (c == 0) = false := by simp [h0]
          have HA := Lib.hid (show AtP l ⟨g, nm, key, val⟩ k false from ⟨hk, HT.out, fun h => (by cases h), fun _ => .inr ⟨_, _, HDR.out, by rw [HCC.out]; omega⟩⟩)
          clear h0
          go_wp2
          go_ret2
          exact ⟨k, false, rfl, HA.out, HB2.out⟩
      · have HT2 := Lib.hid (HTK.out (by omega))
        go_wp2
        go_roundw
        case rel => exact ⟨k + 1, by omega, by go_num, HB2, HT2⟩
        case measure => simp [intOf]; omega
    · obtain rfl : k = l.length := by omega
      rw [List.take_length] at HT
      go_wp2
      go_ret2
      exact ⟨l.length, false, rfl, ⟨Nat.le_refl _, by rw [List.take_length]; exact HT.out, fun h => (by cases h), fun _ => .inl List.drop_length⟩, HB.out⟩
set_option maxHeartbeats 2000000 in
theorem refAsked_any (N : Nat) (c1 c2 c3 : Value) (g : Int) (nm a b : ByteArray) (w : World) (hn : nm.size ≤ maxLen) (ha : a.size ≤ maxLen) (hb : b.size ≤ maxLen) :
    Calls Tryz.prog 75 #[.agg #[.int .i64 N, c1, c2, c3], .int .i64 g, .string nm, .string a, .string b] w fun e w' => e = .returned (.int .i64 (chk N g nm [a, b])) ∧ Below w.heap.size w w' := by
  have HV := Lib.hid (show chk N g nm [a, b] = if isName nm = true ∧ (big a || (big b || false)) = false then (if 0 ≤ g ∧ g < N then 0 else 7) else 1 from rfl)
  generalize chk N g nm [a, b] = c at *
  have HNM := Lib.hid (fun w => refName_any nm w hn)
  have HB0 := Lib.hid (fun o => (show Below w.heap.size w (w.alloc o) from (Below.refl _ _).alloc (Nat.le_refl _) o))
  have HBA := Lib.hid (show big a = decide ((65536 : Int) < a.size) by unfold big; by_cases h : 65536 < a.size <;> simp [h] <;> omega)
  have HBB := Lib.hid (show big b = decide ((65536 : Int) < b.size) by unfold big; by_cases h : 65536 < b.size <;> simp [h] <;> omega)
  generalize big a = ba at *
  generalize big b = bb at *
  generalize isName nm = bn at *
  unfold maxLen at ha hb
  clear hn
  go_enter Tryz.func75, Tryz.ntmps75
  go_wp2_with fail
  refine (HNM.out _).mono ?_
  rintro e w1 ⟨rfl, rfl⟩
  cases bn with
  | false =>
    have HR := Lib.hid (show c = 1 by rw [HV.out, if_neg (by simp)])
    clear HV
    go_wp2
    go_ret
    exact ⟨by rw [HR.out] <;> rfl, HB0.out _⟩
  | true =>
  by_cases h1 : (65536 : Int) < a.size
  · have HR := Lib.hid (show c = 1 by rw [HV.out, HBA.out, decide_eq_true h1]; rfl)
    clear HV
    go_wp2
    go_ret
    exact ⟨by rw [HR.out] <;> rfl, HB0.out _⟩
  by_cases h2 : (65536 : Int) < b.size
  · have HR := Lib.hid (show c = 1 by rw [HV.out, HBB.out, decide_eq_true h2]; simp)
    clear HV
    go_wp2
    go_ret
    exact ⟨by rw [HR.out] <;> rfl, HB0.out _⟩
  have HV2 := Lib.hid (show c = if 0 ≤ g ∧ g < N then 0 else 7 by rw [HV.out, HBA.out, HBB.out, decide_eq_false h1, decide_eq_false h2, if_pos (by simp)])
  clear HV
  by_cases h3 : 0 ≤ g
  · by_cases h4 : g < N
    · have HR := Lib.hid (show c = 0 by rw [HV2.out, if_pos ⟨h3, h4⟩])
      clear HV2
      go_wp2
      go_ret
      exact ⟨by rw [HR.out] <;> rfl, HB0.out _⟩
    · have HR := Lib.hid (show c = 7 by rw [HV2.out, if_neg (fun h => h4 h.2)])
      clear HV2
      go_wp2
      go_ret
      exact ⟨by rw [HR.out] <;> rfl, HB0.out _⟩
  · have HR := Lib.hid (show c = 7 by rw [HV2.out, if_neg (fun h => h3 h.1)])
    clear HV2
    go_wp2
    go_ret
    exact ⟨by rw [HR.out] <;> rfl, HB0.out _⟩
set_option maxRecDepth 100000 in
set_option maxHeartbeats 4000000 in
theorem sameEnts_any (l : List Ent) (v v' : Value) (w : World) (hv : tEnts.rv (mem w) [v] l) (hv' : tEnts.rv (mem w) [v'] l) :
    Calls Tryz.prog 10 #[v, v'] w fun e w' => e = .returned (.bool true) ∧ Below w.heap.size w w' := by
  obtain ⟨a, cap, rfl, hlc, hm, hv⟩ := slice_form hv
  have hcap : cap ≤ 9223372036854775807 := by unfold maxLen at hm; exact hm
  obtain ⟨a', cap', rfl, hlc', hm', hv'⟩ := slice_form hv'
  have hcap' : cap' ≤ 9223372036854775807 := by unfold maxLen at hm'; exact hm'
  have hll : ((l.length : Int) == (l.length : Int)) = true := by simp
  clear hm hm'
  go_enter Tryz.func10, Tryz.ntmps10
  go_wp2
  go_loopw [5] (fun i wr => ∃ k : Nat, k ≤ l.length ∧ i = .int .i64 k ∧ Hid (Below w.heap.size w wr)) (fun i _ => l.length - (intOf i).toNat)
  case atStart => exact ⟨0, by omega, rfl, Lib.hid (Below.refl _ _)⟩
  case round =>
    obtain ⟨k, hk, rfl, HB⟩ := hrel
    by_cases hlt : k < l.length
    · obtain ⟨b, o, rfl, hat, hok⟩ := ents_at (tEnts.mono _ _ _ _ (below_mem HB.out) hv) hlt
      obtain ⟨b', o', rfl, hat', -⟩ := ents_at (tEnts.mono _ _ _ _ (below_mem HB.out) hv') hlt
      have c0 : wr.cell? ⟨b, o + k * 4, none⟩ = some (.int .i64 l[k].g) := hat 0 _ rfl
      have c1 : wr.cell? ⟨b, o + k * 4 + 1, none⟩ = some (.string l[k].nm) := hat 1 _ rfl
      have c2 : wr.cell? ⟨b, o + k * 4 + 2, none⟩ = some (.string l[k].key) := hat 2 _ rfl
      have c3 : wr.cell? ⟨b, o + k * 4 + 3, none⟩ = some (.string l[k].val) := hat 3 _ rfl
      have d0 : wr.cell? ⟨b', o' + k * 4, none⟩ = some (.int .i64 l[k].g) := hat' 0 _ rfl
      have d1 : wr.cell? ⟨b', o' + k * 4 + 1, none⟩ = some (.string l[k].nm) := hat' 1 _ rfl
      have d2 : wr.cell? ⟨b', o' + k * 4 + 2, none⟩ = some (.string l[k].key) := hat' 2 _ rfl
      have d3 : wr.cell? ⟨b', o' + k * 4 + 3, none⟩ = some (.string l[k].val) := hat' 3 _ rfl
      clear hat hat' hok
      generalize l[k] = y at *
      obtain ⟨yg, y1, y2, y3⟩ := y
      have e0 : (yg == yg) = true := by simp
      have e1 : (y1.toList == y1.toList) = true := by simp
      have e2 : (y2.toList == y2.toList) = true := by simp
      have e3 : (y3.toList == y3.toList) = true := by simp
      go_wp2_with fail
      go_quiet (fail)
      all_goals
        go_wp2
        exact ⟨⟨k + 1, by omega, by go_num, Lib.hid (HB.out.trans ⟨rfl, rfl, rfl, Nat.le_refl _, fun _ _ => rfl⟩)⟩, by simp [intOf]; omega⟩
    · obtain rfl : k = l.length := by omega
      go_wp2
      go_ret
      exact ⟨rfl, HB.out⟩
end Go.Proofs.YtbmpoecmjmmngaaGreat
/- Rows that a call makes anew of other rows: appends of slices, their sources; structs of four cells. -/
namespace Go.Proofs.YtbmpoecmjmmngaaGreat
open Go.RowKit Go.Maps
section
variable {P : Program}
theorem run_append_os {α : Type} {t : Ty α} (hf : t.flat) (hone : ∀ m cs x, t.rv m cs x → ∀ u ∈ cs, u.oneCell' = true) (w : World) (T ty : TypeId) {e : TypeId} {z : Value} {bytes : Nat} (hT : P.underlying T = some (.slice e))
    (hinf : (P.info? e).map (fun i => (i.zero, i.size, i.bytes)) = some (some z, t.sz, bytes)) (hzs : z.cells.size = t.sz) (hsz : 0 < t.sz) (v : Value) (xs ys : List α) (hown : OwnsO t w e v xs)
    (a : Option Addr) (c : Nat) (hy : (tSlice t).rv (mem w) [.slice a ys.length c] ys) (h63 : xs.length + ys.length ≤ maxLen) (hbytes : (xs.length + ys.length) * bytes ≤ 140737488355328) :
    ∃ v' w', (Builtin.append_ #[T, T] ty #[v, .slice a ys.length c]).run P w = .ok v' w' ∧ OwnsO t w' e v' (xs ++ ys) ∧ AppAt w w' v xs.length ys.length v' := by
  by_cases h0 : ys.length = 0
  · obtain rfl := List.length_eq_zero_iff.1 h0
    refine run_append_o (P := P) w T T ty hT hinf hzs v xs [] hown _ [] ?_ rfl (fun k h => absurd h (by simp)) h63 hbytes
    cases a with
    | none => exact Src.ofNil w hT c
    | some ad => exact Src.ofSlice w hT ad 0 c [] (by simp) (fun j u h => by simp at h) (fun u h => by cases h)
  · obtain ⟨b, o, rfl, _⟩ := slice_at hy (k := 0) (by omega)
    obtain ⟨dss, d1, d2, d3⟩ := slice_css hy
    have hl : dss.flatten.length = ys.length * t.sz := by rw [flatten_len dss d2, d1]
    refine run_append_o (P := P) w T T ty hT hinf hzs v xs ys hown _ dss ?_ d1 (fun k h h' => hf _ _ _ _ (d3 k h h').2) h63 hbytes
    refine Src.ofSlice w hT ⟨b, o, none⟩ ys.length c _ hl (fun j u hj => ?_) (fun u hu => ?_)
    · obtain ⟨k, hk, r, rfl, hv⟩ := flatten_split hsz dss d2 j u hj
      have := (d3 k hk (by omega)).1 r u hv
      rw [Addr.add_lit, ← Nat.add_assoc]
      exact this
    · obtain ⟨l, hl, hu⟩ := List.mem_flatten.1 hu
      obtain ⟨k, hk, rfl⟩ := List.getElem_of_mem hl
      exact hone _ _ _ (d3 k hk (by omega)).2 u hu
theorem step_append_os {α : Type} {ops : Array Oper} {o : Oper} {a : Act} {w : World} {K : Act → World → Prop} {Q : Exit → Act → World → Prop} {E : Prop} (hgd : o.guard = none) (s x : Operand) (T : TypeId)
    (ho : o.op = .call { callee := .builtin .append, args := #[s, x], argTypes := #[T, T] }) (t : Ty α) (hf : t.flat) (hone : ∀ m cs x, t.rv m cs x → ∀ u ∈ cs, u.oneCell' = true) {e : TypeId} {z : Value} {bytes : Nat} (hT : P.underlying T = some (.slice e))
    (hinf : (P.info? e).map (fun i => (i.zero, i.size, i.bytes)) = some (some z, t.sz, bytes)) (hzs : z.cells.size = t.sz) (hsz : 0 < t.sz) (v : Value) (xs ys : List α) (hs : a.eval s = v) (hown : OwnsO t w e v xs)
    (ad : Option Addr) (n c : Nat) (hx : a.eval x = .slice ad n c) (hn : n = ys.length) (hy : (tSlice t).rv (mem w) [.slice ad n c] ys) (h63 : xs.length + ys.length ≤ maxLen) (hbytes : (xs.length + ys.length) * bytes ≤ 140737488355328)
    (h : ∀ v' w', OwnsO t w' e v' (xs ++ ys) → AppAt w w' v xs.length ys.length v' → K (a.put o.dst v') w') :
    if Region.wanted o (yielded ops a.tmps) = true then Oper.wp P o a w K Q else E := by
  have hw : Region.wanted o (yielded ops a.tmps) = true := by simp [Region.wanted, hgd]
  rw [if_pos hw]
  subst hn
  obtain ⟨v', w', hr, h2, h3⟩ := run_append_os (P := P) hf hone w T o.type hT hinf hzs hsz v xs ys hown ad c hy h63 hbytes
  unfold Oper.wp execOp
  simp only [ho, resolve, invoke, builtin, Sem.run_bind, Sem.run_pure, Result.andThen_ok, List.map_toArray, List.map_cons, List.map_nil, hs, hx, hr]
  exact h v' w' h2 h3
theorem size_run {e : TypeId} {sz : Nat} (hs : (P.info? e).map (·.size) = some sz) (w : World) : (sizeOf e).run P w = .ok sz w := by
  cases hq : P.info? e with
  | none => simp [hq] at hs
  | some i => simp only [hq, Option.map_some, Option.some.injEq] at hs; simp [sizeOf, typeInfo, hq, hs]
/-- The first elements of a slice. -/
theorem cut_lo {α : Type} {t : Ty α} {m : Mem} {a : Option Addr} {len cap n : Nat} {xs : List α} (h : (tSlice t).rv m [.slice a len cap] xs) (hn : n ≤ xs.length) {T e : TypeId} (hT : P.underlying T = some (.slice e)) (hs : (P.info? e).map (·.size) = some t.sz) :
    ∃ a' c', (∀ w2, (Instr.slice T (.slice a len cap) none (some (.int .i64 n)) none).run P w2 = .ok (.slice a' n c') w2) ∧ (tSlice t).rv m [.slice a' n c'] (xs.take n) := by
  obtain ⟨rfl, h1, h2⟩ := slice_len h
  obtain ⟨a', cap', eq, _, _, h4⟩ := h
  simp only [List.cons.injEq, Value.slice.injEq, and_true] at eq
  obtain ⟨rfl, _, rfl⟩ := eq
  have hl : (xs.take n).length = n := by simp; omega
  have he : P.elem T = e := by simp [Program.elem, hT]
  refine ⟨a, cap, fun w2 => ?_, a, cap, by rw [hl], by rw [hl]; omega, h2, fun h0 => ?_⟩
  · rw [run_slice_h w2 T _ xs.length cap (by rw [he]; exact hT) .i64 n (by omega) (by omega), he, size_run hs]
    have e0 : a.map (fun x => x.add (0 * t.sz)) = a := by
      cases a with
      | none => rfl
      | some x => simp [Addr.add]
    simp only [Result.andThen_ok, sliced, Int.toNat_natCast, Nat.sub_zero]
    by_cases hc : cap = 0 <;> simp [hc] <;> (cases a <;> simp [Addr.add])
  · rw [hl] at h0
    obtain ⟨b, o, ha, hat⟩ := h4 (by omega)
    exact ⟨b, o, ha, fun k hk => by rw [List.getElem_take]; exact hat k (by omega)⟩
/-- The last elements of a slice. -/
theorem cut_hi {α : Type} {t : Ty α} {m : Mem} {a : Option Addr} {len cap n : Nat} {xs : List α} (h : (tSlice t).rv m [.slice a len cap] xs) (hn : n ≤ xs.length) {T e : TypeId} (hT : P.underlying T = some (.slice e)) (hs : (P.info? e).map (·.size) = some t.sz) :
    ∃ a' c', (∀ w2, (Instr.slice T (.slice a len cap) (some (.int .i64 n)) none none).run P w2 = .ok (.slice a' (len - n) c') w2) ∧ (tSlice t).rv m [.slice a' (len - n) c'] (xs.drop n) := by
  obtain ⟨rfl, h1, h2⟩ := slice_len h
  obtain ⟨a', cap', eq, _, _, h4⟩ := h
  simp only [List.cons.injEq, Value.slice.injEq, and_true] at eq
  obtain ⟨rfl, _, rfl⟩ := eq
  have he : P.elem T = e := by simp [Program.elem, hT]
  refine ⟨if cap = n then a else a.map (·.add (n * t.sz)), cap - n, fun w2 => ?_, _, _, by rw [List.length_drop], by rw [List.length_drop]; omega, by omega, fun h0 => ?_⟩
  · rw [run_slice_l w2 T _ xs.length cap (by rw [he]; exact hT) .i64 n (by omega) (by omega), he, size_run hs]
    simp only [Result.andThen_ok, sliced, Int.toNat_natCast]
  · rw [List.length_drop] at h0
    obtain ⟨b, o, ha, hat⟩ := h4 (by omega)
    subst ha
    refine ⟨b, o + n * t.sz, by rw [if_neg (by omega)]; simp [Addr.add], fun k hk => ?_⟩
    rw [List.length_drop] at hk
    have h := hat (n + k) (by omega)
    rw [List.getElem_drop]
    have e : o + (n + k) * t.sz = o + n * t.sz + k * t.sz := by rw [Nat.add_mul]; omega
    rw [e] at h; exact h
end
theorem lit0_of {α : Type} (t : Ty α) {w : World} {b : Nat} {T : TypeId} (h : w.heap[b]? = some (.cells #[] T (0, 0))) : OwnsO t w T (.slice (some ⟨b, 0, none⟩) 0 0) [] :=
  ⟨[], rfl, fun k h => absurd h (by simp), .inr ⟨b, 0, 0, #[], rfl, h, by simp, by simp, by simp, by simp⟩⟩
theorem app_below {Z wA w5 : World} {n m B : Nat} {v v5 : Value} (hZ : Below B Z wA) (hB : B ≤ wA.heap.size) (happ : AppAt wA w5 v n m v5) (hv : ∀ k, v.ownBlock = some k → B ≤ k) : Below B Z w5 ∧ ∀ k, v5.ownBlock = some k → B ≤ k :=
  ⟨hZ.grown happ.grown hB (fun k e => hv k e), fun k e => by
    rcases happ.block with g | g
    · exact hv k (g ▸ e)
    · exact Nat.le_trans hB (g k e)⟩
theorem OwnsO.formN {α : Type} {t : Ty α} {w : World} {e : TypeId} {v : Value} {xs : List α} (h : OwnsO t w e v xs) : ∃ a n cap, v = .slice a n cap ∧ n = xs.length := by
  obtain ⟨a, cap, rfl, _⟩ := h.form
  exact ⟨a, _, cap, rfl, rfl⟩
theorem tEnt_one : ∀ m cs x, tEnt.rv m cs x → ∀ u ∈ cs, u.oneCell' = true := fun m cs x h u hu => by
  obtain ⟨rfl, _⟩ := h
  simp at hu
  rcases hu with rfl | rfl | rfl | rfl <;> rfl
theorem entSize : (Tryz.prog.info? 34).map (·.size) = some tEnt.sz := by kernel_rfl
/-- A struct of four cells is stored. -/
def store4 (w : World) (b : Nat) (v0 v1 v2 v3 : Value) : World := (((w.setCell ⟨b, 0, none⟩ v0).setCell ⟨b, 1, none⟩ v1).setCell ⟨b, 2, none⟩ v2).setCell ⟨b, 3, none⟩ v3
theorem store4_block {w : World} {b : Nat} {T : TypeId} {a0 a1 a2 a3 : Value} (h : w.heap[b]? = some (.cells #[a0, a1, a2, a3] T (0, 0))) (v0 v1 v2 v3 : Value) : (store4 w b v0 v1 v2 v3).heap[b]? = some (.cells #[v0, v1, v2, v3] T (0, 0)) := by
  have h0 : (w.setCell ⟨b, 0, none⟩ v0).heap[b]? = some (.cells #[v0, a1, a2, a3] T (0, 0)) := set_block h
  have h1 : ((w.setCell ⟨b, 0, none⟩ v0).setCell ⟨b, 1, none⟩ v1).heap[b]? = some (.cells #[v0, v1, a2, a3] T (0, 0)) := set_block h0
  have h2 : (((w.setCell ⟨b, 0, none⟩ v0).setCell ⟨b, 1, none⟩ v1).setCell ⟨b, 2, none⟩ v2).heap[b]? = some (.cells #[v0, v1, v2, a3] T (0, 0)) := set_block h1
  exact set_block h2
theorem store4_below {W w : World} {b B : Nat} (h : Below B W w) (hb : B ≤ b) (v0 v1 v2 v3 : Value) : Below B W (store4 w b v0 v1 v2 v3) := by
  unfold store4
  exact (((h.setCell (p := ⟨b, 0, none⟩) hb _).setCell (p := ⟨b, 1, none⟩) hb _).setCell (p := ⟨b, 2, none⟩) hb _).setCell (p := ⟨b, 3, none⟩) hb _
theorem store4_other {w : World} {b k : Nat} (hk : k ≠ b) (v0 v1 v2 v3 : Value) : (store4 w b v0 v1 v2 v3).heap[k]? = w.heap[k]? := by
  unfold store4
  rw [set_block_other hk, set_block_other hk, set_block_other hk, set_block_other hk]
end Go.Proofs.YtbmpoecmjmmngaaGreat
/- The reference's without. -/
namespace Go.Proofs.YtbmpoecmjmmngaaGreat
open Go.RowKit Go.Maps

set_option maxRecDepth 100000 in
set_option maxHeartbeats 4000000 in
theorem refWithout_any (l : List Ent) (v : Value) (i : Nat) (w : World) (hv : tEnts.rv (mem w) [v] l) (hi : i < l.length) (hl : l.length ≤ 100000) :
    Calls Tryz.prog 76 #[v, .int .i64 i] w fun e w' => ∃ v', e = .returned v' ∧ tEnts.rv ((mem w').on (w.heap.size ≤ ·)) [v'] (l.take i ++ l.drop (i + 1)) ∧ Below w.heap.size w w' := by
  obtain ⟨a, cap, rfl, hlc, hm, hv⟩ := slice_form hv
  obtain ⟨a1, c1, hlo, hr1⟩ := cut_lo hv (n := i) (by omega) Tryz.underlying22 entSize
  obtain ⟨a2, c2, hhi, hr2⟩ := cut_hi hv (n := i + 1) (by omega) Tryz.underlying22 entSize
  have hhi' : ∀ w2, (Instr.slice 22 (.slice a l.length cap) (some (.int .i64 ((i : Int) + 1))) none none).run Tryz.prog w2 = .ok (.slice a2 (l.length - (i + 1)) c2) w2 := hhi
  have HR1 := Lib.hid (fun w' (hb : Below w.heap.size w w') => tEnts.mono _ _ _ _ (below_mem hb) hr1)
  have HR2 := Lib.hid (fun w' (hb : Below w.heap.size w w') => tEnts.mono _ _ _ _ (below_mem hb) hr2)
  have HL1 := Lib.hid (show i = (l.take i).length by rw [List.length_take]; omega)
  have HL2 := Lib.hid (show l.length - (i + 1) = (l.drop (i + 1)).length by rw [List.length_drop])
  have HA1 := Lib.hid (show ([] : List Ent).length + (l.take i).length ≤ maxLen by rw [← HL1.out]; unfold maxLen; simp; omega)
  have HA2 := Lib.hid (show (([] : List Ent).length + (l.take i).length) * 56 ≤ 140737488355328 by rw [← HL1.out]; simp; omega)
  have HA3 := Lib.hid (show ([] ++ l.take i).length + (l.drop (i + 1)).length ≤ maxLen by rw [← HL2.out, List.nil_append, ← HL1.out]; unfold maxLen; omega)
  have HA4 := Lib.hid (show (([] ++ l.take i).length + (l.drop (i + 1)).length) * 56 ≤ 140737488355328 by rw [← HL2.out, List.nil_append, ← HL1.out]; omega)
  have hw1 : IntKind.i64.wrap ((i : Int) + 1) = (i : Int) + 1 := IntWalk.i64_in _ (by omega)
  have HB0 := Lib.hid (show Below w.heap.size w (w.alloc (.cells #[] 34)).drew from ((Below.refl _ _).alloc (Nat.le_refl _) _).drew)
  have HLT := Lib.hid (show OwnsO tEnt (w.alloc (.cells #[] 34)).drew 34 (.slice (some ⟨w.heap.size, 0, none⟩) 0 0) [] from lit0_of tEnt (heap_alloc_new w _))
  clear hhi hr1 hr2 hv hm
  go_enter Tryz.func76, Tryz.ntmps76
  go_wp2_with fail
  go_region_law (first
    | (refine step_append_os rfl (.tmp 5) (.tmp 8) 22 rfl tEnt tEnt_flat tEnt_one Tryz.underlying22 infoEnt rfl (Nat.succ_pos 3) _ [] (l.take i) rfl HLT.out _ _ _ rfl HL1.out (HR1.out _ HB0.out) HA1.out HA2.out ?_; intro v5 w5 own5 happ5; obtain ⟨hb5, hg5⟩ := app_below HB0.out HB0.out.size happ5 (fun k e => by cases e; exact Nat.le_refl _); obtain ⟨a5, n5, c5, rfl, -⟩ := own5.formN)
    | (refine step_append_os rfl (.tmp 9) (.tmp 13) 22 rfl tEnt tEnt_flat tEnt_one Tryz.underlying22 infoEnt rfl (Nat.succ_pos 3) _ ([] ++ l.take i) (l.drop (i + 1)) rfl own5 _ _ _ rfl HL2.out (HR2.out _ hb5) HA3.out HA4.out ?_; intro v6 w6 own6 happ6; obtain ⟨hb6, hg6⟩ := app_below hb5 hb5.size happ6 hg5; obtain ⟨a6, n6, c6, rfl, -⟩ := own6.formN))
  all_goals
    have HO := Lib.hid (own6.rv tEnt_flat (S := (w.heap.size ≤ ·)) hg6)
    have HB6 := Lib.hid hb6
    clear own6 own5 happ5 happ6 hb5 hb6 hg5 hg6
    go_wp2
    go_ret
    exact ⟨_, rfl, HO.out, HB6.out⟩
end Go.Proofs.YtbmpoecmjmmngaaGreat
/- The reference's functions that return a state: frames; places in ascending lists. -/
namespace Go.Proofs.YtbmpoecmjmmngaaGreat
open Go.RowKit Go.Maps

open Classical in
noncomputable def joinM (M : Mem) (W W' : World) : Mem := fun b o => if W.heap.size ≤ b then _root_.Go.Proofs.YtbmpoecmjmmngaaGreat.mem W' b o else M b o
section
variable {M M2 : Mem} {W W' W1 w w' : World}
theorem joinM_le (hM : M.le (mem W)) : M.le (joinM M W W') := fun b o v e => by
  have := mem_lt (hM _ _ _ e)
  unfold joinM
  rw [if_neg (by omega)]; exact e
theorem joinM_new : ((mem W').on (W.heap.size ≤ ·)).le (joinM M W W') := fun b o v e => by
  obtain ⟨hs, e⟩ := Mem.of_on e
  unfold joinM
  rw [if_pos hs]; exact e
theorem joinM_to (h1 : M.le M2) (h2 : ((mem W').on (W.heap.size ≤ ·)).le M2) : (joinM M W W').le M2 := fun b o v e => by
  unfold joinM at e
  split at e
  · rename_i h; exact h2 _ _ _ (Mem.on_some e h)
  · exact h1 _ _ _ e
theorem alloc_at0 (w : World) (o o' : Obj) : ((w.alloc o).alloc o').heap[w.heap.size]? = some o := (Below.heap_alloc _ _ _ (by simp)).trans (heap_alloc_new w o)
theorem alloc_at1 (w : World) (o o' : Obj) : ((w.alloc o).alloc o').heap[w.heap.size + 1]? = some o' := by
  have := heap_alloc_new (w.alloc o) o'
  rwa [World.size_alloc] at this
/-- Between entry and return: the state's box, the result's cell. -/
structure Fr (W w : World) (v0 v1 v2 v3 : Value) : Prop where
  bl : Below W.heap.size W w
  sz : W.heap.size + 2 ≤ w.heap.size
  bx : w.heap[W.heap.size]? = some (.cells #[v0, v1, v2, v3] 43 (0, 0))
  rs : w.heap[W.heap.size + 1]? = some (.cells #[.int .i64 0, .int .i64 0, .slice none 0 0, .slice none 0 0] 43 (0, 0))
variable {v0 v1 v2 v3 : Value}
theorem Fr.start (W : World) (v0 v1 v2 v3 : Value) : Fr W ((W.alloc (.cells #[v0, v1, v2, v3] 43)).alloc (.cells #[.int .i64 0, .int .i64 0, .slice none 0 0, .slice none 0 0] 43)) v0 v1 v2 v3 :=
  ⟨((Below.refl _ _).alloc (Nat.le_refl _) _).alloc (by simp) _, by simp, alloc_at0 _ _ _, alloc_at1 _ _ _⟩
theorem Fr.pure (h : Fr W w v0 v1 v2 v3) (hb : Below w.heap.size w w') : Fr W w' v0 v1 v2 v3 :=
  ⟨h.bl.trans (hb.mono h.bl.size), Nat.le_trans h.sz hb.size, (hb.block _ (Array.getElem?_eq_some_iff.1 h.bx).1).trans h.bx, (hb.block _ (Array.getElem?_eq_some_iff.1 h.rs).1).trans h.rs⟩
theorem Fr.cells (h : Fr W w v0 v1 v2 v3) : w.cell? ⟨W.heap.size, 0, none⟩ = some v0 ∧ w.cell? ⟨W.heap.size, 1, none⟩ = some v1 ∧ w.cell? ⟨W.heap.size, 2, none⟩ = some v2 ∧ w.cell? ⟨W.heap.size, 3, none⟩ = some v3 := ⟨mem_cells h.bx 0, mem_cells h.bx 1, mem_cells h.bx 2, mem_cells h.bx 3⟩
theorem Fr.thaw (h : Fr W w v0 v1 v2 v3) : ∀ o, w.frozen? ⟨W.heap.size, o, none⟩ = false := frozen_cells h.bx
theorem Fr.res (h : Fr W w v0 v1 v2 v3) : w.cell? ⟨W.heap.size + 1, 0, none⟩ = some (.int .i64 0) ∧ w.cell? ⟨W.heap.size + 1, 1, none⟩ = some (.int .i64 0) ∧ w.cell? ⟨W.heap.size + 1, 2, none⟩ = some (.slice none 0 0) ∧ w.cell? ⟨W.heap.size + 1, 3, none⟩ = some (.slice none 0 0) ∧ ∀ o, w.frozen? ⟨W.heap.size + 1, o, none⟩ = false := ⟨mem_cells h.rs 0, mem_cells h.rs 1, mem_cells h.rs 2, mem_cells h.rs 3, frozen_cells h.rs⟩
theorem Fr.set2 (h : Fr W w v0 v1 v2 v3) (v : Value) : Fr W (w.setCell ⟨W.heap.size, 2, none⟩ v) v0 v1 v v3 :=
  ⟨h.bl.setCell (p := ⟨W.heap.size, 2, none⟩) (Nat.le_refl _) _, by simp [World.setCell]; exact h.sz, set_block h.bx, (set_block_other (by omega)).trans h.rs⟩
theorem Fr.set1 (h : Fr W w v0 v1 v2 v3) (v : Value) : Fr W (w.setCell ⟨W.heap.size, 1, none⟩ v) v0 v v2 v3 :=
  ⟨h.bl.setCell (p := ⟨W.heap.size, 1, none⟩) (Nat.le_refl _) _, by simp [World.setCell]; exact h.sz, set_block h.bx, (set_block_other (by omega)).trans h.rs⟩
theorem Fr.set3 (h : Fr W w v0 v1 v2 v3) (v : Value) : Fr W (w.setCell ⟨W.heap.size, 3, none⟩ v) v0 v1 v2 v :=
  ⟨h.bl.setCell (p := ⟨W.heap.size, 3, none⟩) (Nat.le_refl _) _, by simp [World.setCell]; exact h.sz, set_block h.bx, (set_block_other (by omega)).trans h.rs⟩
/-- What has been made behind the box and the result. -/
noncomputable def nw (W w : World) : Mem := (mem w).on (W.heap.size + 2 ≤ ·)
theorem nw_le : (nw W w).le (mem w) := Mem.on_le _ _
theorem nw_pure (hb : Below w.heap.size w w') : (nw W w).le (nw W w') := fun b o v e => by
  obtain ⟨hs, e⟩ := Mem.of_on e
  exact Mem.on_some (below_mem hb _ _ _ e) hs
theorem nw_set {b o : Nat} {u : Value} (hb : b < W.heap.size + 2) : (nw W w).le (nw W (w.setCell ⟨b, o, none⟩ u)) := fun b' o' v e => by
  obtain ⟨hs, e⟩ := Mem.of_on e
  exact Mem.on_some ((mem_of_block (set_block_other (by omega)) _).trans e) hs
theorem nw_store4 (u0 u1 u2 u3 : Value) : (nw W w).le (nw W (store4 w (W.heap.size + 1) u0 u1 u2 u3)) := fun b' o' v e => by
  obtain ⟨hs, e⟩ := Mem.of_on e
  exact Mem.on_some ((mem_of_block (store4_other (by omega) _ _ _ _) _).trans e) hs
theorem nw_new (h : W.heap.size + 2 ≤ w.heap.size) : ((mem w').on (w.heap.size ≤ ·)).le (nw W w') := fun b o v e => by
  obtain ⟨hs, e⟩ := Mem.of_on e
  exact Mem.on_some e (by omega)
theorem nw_join : (nw W W').le (joinM M W W') := fun b o v e => by
  obtain ⟨hs, e⟩ := Mem.of_on e
  unfold joinM
  rw [if_pos (by omega)]; exact e
end
/-! ### places in an ascending list -/
section
variable {l : List Ent} {q : Ent} {i : Nat} {b : Bool}
theorem filter_low {l : List Ent} (q : Ent) (h : ∀ x ∈ l, placeC x q < 0) : l.filter (fun y => decide (placeC y q < 0)) = l ∧ l.filter (fun y => decide (placeC q y < 0)) = [] := by
  refine ⟨List.filter_eq_self.2 (fun x hx => decide_eq_true (h x hx)), List.filter_eq_nil_iff.2 (fun x hx => ?_)⟩
  have := h x hx
  have := placeC_good.anti x q
  simp; omega
theorem filter_up {l : List Ent} (q : Ent) (h : ∀ x ∈ l, 0 < placeC x q) : l.filter (fun y => decide (placeC y q < 0)) = [] ∧ l.filter (fun y => decide (placeC q y < 0)) = l := by
  refine ⟨List.filter_eq_nil_iff.2 (fun x hx => ?_), List.filter_eq_self.2 (fun x hx => decide_eq_true ?_)⟩
  · have := h x hx; simp; omega
  · have := h x hx
    have := placeC_good.anti x q
    omega
theorem up_of {x : Ent} {rest : List Ent} (ha : Asc (x :: rest)) (hx : 0 ≤ placeC x q) : ∀ y ∈ rest, 0 < placeC y q := fun y hy => by
  unfold Asc at ha
  rw [List.pairwise_cons] at ha
  have h1 := ha.1 y hy
  have h2 := placeC_good.trans q x y (by have := placeC_good.anti x q; omega) (by omega)
  have h3 := placeC_good.anti y q
  by_cases h4 : placeC q y = 0
  · have := (h2.2 h4).2; omega
  · omega
theorem Asc.drop (h : Asc l) (n : Nat) : Asc (l.drop n) := List.Pairwise.drop h
theorem AtP.yes' (h : AtP l q i true) (ha : Asc l) : (∃ x, l = l.take i ++ x :: l.drop (i + 1) ∧ x.pl = q.pl ∧ l[i]? = some x) ∧ i < l.length ∧ l.take i = l.filter (fun y => decide (placeC y q < 0)) ∧ l.drop (i + 1) = l.filter (fun y => decide (placeC q y < 0)) := by
  obtain ⟨x, rest, e, h0⟩ := h.yes rfl
  have hr : l.drop (i + 1) = rest := by rw [← List.drop_drop, e]; rfl
  have hl : l = l.take i ++ x :: rest := by rw [← e, List.take_append_drop]
  have hu := up_of (q := q) (e ▸ ha.drop i) (by omega)
  have hil : i < l.length := by
    have : (l.drop i).length = rest.length + 1 := by rw [e]; rfl
    rw [List.length_drop] at this
    omega
  obtain ⟨f1, f2⟩ := filter_low q h.low
  obtain ⟨g1, g2⟩ := filter_up q hu
  have hz : placeC q x = 0 := by have := placeC_good.anti x q; omega
  refine ⟨⟨x, by rw [hr]; exact hl, placeC_zero.1 h0, by
      have : (l.drop i)[0]? = some x := by rw [e]; rfl
      rwa [List.getElem?_drop, Nat.add_zero] at this⟩, hil, ?_, ?_⟩
  · conv => rhs; rw [hl]
    rw [List.filter_append, f1, List.filter_cons, if_neg (by simp; omega), g1, List.append_nil]
  · conv => rhs; rw [hl]
    rw [List.filter_append, f2, List.filter_cons, if_neg (by simp; omega), g2, hr, List.nil_append]
theorem AtP.no' (h : AtP l q i false) (ha : Asc l) : q.pl ∉ l.map Ent.pl ∧ l.take i = l.filter (fun y => decide (placeC y q < 0)) ∧ l.drop i = l.filter (fun y => decide (placeC q y < 0)) := by
  have hu : ∀ y ∈ l.drop i, 0 < placeC y q := by
    rcases h.no rfl with e | ⟨x, rest, e, h0⟩
    · rw [e]; simp
    · rw [e]
      intro y hy
      rcases List.mem_cons.1 hy with rfl | hy
      · exact h0
      · exact up_of (e ▸ ha.drop i) (by omega) y hy
  obtain ⟨f1, f2⟩ := filter_low q h.low
  obtain ⟨g1, g2⟩ := filter_up q hu
  refine ⟨fun hm => ?_, ?_, ?_⟩
  · obtain ⟨y, hy, e⟩ := List.mem_map.1 hm
    have hz := placeC_zero.2 e
    rw [← List.take_append_drop i l] at hy
    rcases List.mem_append.1 hy with hy | hy
    · have := h.low y hy; omega
    · have := hu y hy; omega
  · conv => rhs; rw [← List.take_append_drop i l]
    rw [List.filter_append, f1, g1, List.append_nil]
  · conv => rhs; rw [← List.take_append_drop i l]
    rw [List.filter_append, f2, g2, List.nil_append]
end
/-- What a function that changes the entries returns. -/
def REs (M : Mem) (W : World) (r : RS) (q : Value) (p : List Ent × Int) (e : Ending) (W' : World) : Prop :=
  Below W.heap.size W W' ∧ ∃ a', e = .returned (.tuple #[rsV { r with es := p.1 } a' q, .int .i64 p.2]) ∧ RsAt (joinM M W W') { r with es := p.1 } a' q
end Go.Proofs.YtbmpoecmjmmngaaGreat
