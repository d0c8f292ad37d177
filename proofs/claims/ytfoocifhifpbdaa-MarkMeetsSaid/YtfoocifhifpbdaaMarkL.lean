/- P6.3: the law MarkLeast: the plain law, and its walk. -/
import Derived.Test.YtfoocifhifpbdaaMarkD
import Derived.Test.YtfoocifhifpbdaaMarkH
import Derived.Deep.RegionWith
namespace Go.Proofs.Ytfoocifhifpbdaa
open Go.RowKit

structure IsLeast (n : Int) (l : List Int) : Prop where
  mem : n ∈ l
  le : ∀ x ∈ l, n ≤ x
theorem IsLeast.uniq {a b : Int} {l : List Int} (h : IsLeast a l) (k : IsLeast b l) : a = b := Int.le_antisymm (h.le _ k.mem) (k.le _ h.mem)

theorem leastOf_busy : ∀ (xs : List In), xs ≠ [] → (∀ x ∈ xs, x.idle = false) → (leastOf xs).2 = true ∧ IsLeast (leastOf xs).1 (xs.map (·.mark)) := by
  have key : ∀ (xs : List In) (a : Int) (pre : List Int), (∀ x ∈ xs, x.idle = false) → IsLeast a pre → (xs.foldl leastStep (a, true)).2 = true ∧ IsLeast (xs.foldl leastStep (a, true)).1 (pre ++ xs.map (·.mark)) := by
    intro xs
    induction xs with
    | nil => intro a pre _ h; simpa using h
    | cons x xs ih =>
      intro a pre hx h
      rw [List.foldl_cons]
      have hi : x.idle = false := hx x (by simp)
      by_cases hlt : x.mark < a
      · have e : leastStep (a, true) x = (x.mark, true) := by simp [leastStep, hi, hlt]
        rw [e]
        have := ih x.mark (pre ++ [x.mark]) (fun y hy => hx y (by simp [hy])) ⟨by simp, fun y hy => by
          rcases List.mem_append.1 hy with hy | hy
          · have := h.le y hy; omega
          · simp at hy; omega⟩
        simpa using this
      · have e : leastStep (a, true) x = (a, true) := by simp [leastStep, hi, hlt]
        rw [e]
        have := ih a (pre ++ [x.mark]) (fun y hy => hx y (by simp [hy])) ⟨by simp [h.mem], fun y hy => by
          rcases List.mem_append.1 hy with hy | hy
          · exact h.le y hy
          · simp at hy; omega⟩
        simpa using this
  intro xs hne hx
  cases xs with
  | nil => exact absurd rfl hne
  | cons x xs =>
    have hi : x.idle = false := hx x (by simp)
    have e : leastOf (x :: xs) = xs.foldl leastStep (x.mark, true) := by simp [leastOf, leastStep, hi]
    rw [e]
    exact key xs x.mark [x.mark] (fun y hy => hx y (by simp [hy])) ⟨by simp, fun y hy => by simp at hy; omega⟩

structure Inv (n : Nat) (m : Meet) : Prop where
  len : m.ins.length = n
  pos : 1 ≤ n
  busy : ∀ x ∈ m.ins, x.idle = false
  least : IsLeast m.mark (m.ins.map (·.mark))

theorem Inv.new (n : Nat) (h : 1 ≤ n) : Inv n (newMeet n) := by
  refine ⟨by simp [newMeet], h, fun x hx => ?_, ⟨?_, fun x hx => ?_⟩⟩
  · simp [newMeet] at hx; obtain ⟨_, rfl⟩ := hx; rfl
  · simp [newMeet]; omega
  · simp [newMeet] at hx; simp [newMeet]; omega

theorem Inv.turn {n : Nat} {m : Meet} (k : Inv n m) (i : Int) (f : In → Option In) (hf : ∀ x y, okMark x.mark → f x = some y → x.mark ≤ y.mark ∧ y.idle = false) (hok : ∀ x ∈ m.ins, okMark x.mark) : Inv n (m.turn i f).1 := by
  unfold Meet.turn
  split
  · rename_i hr
    split
    · exact k
    · rename_i y hy
      have hi : i.toNat < m.ins.length := by omega
      have e : m.ins.getD i.toNat default = m.ins[i.toNat] := by simp [List.getD, hi]
      rw [e] at hy
      obtain ⟨h1, h2⟩ := hf _ _ (hok _ (List.getElem_mem hi)) hy
      have hb : ∀ x ∈ m.ins.set i.toNat y, x.idle = false := fun x hx => by
        rcases List.mem_or_eq_of_mem_set hx with hx | rfl
        · exact k.busy x hx
        · exact h2
      have hne : m.ins.set i.toNat y ≠ [] := by
        intro e
        have h0 := congrArg List.length e
        rw [List.length_set, k.len] at h0
        have := k.pos
        simp at h0
        omega
      obtain ⟨g1, g2⟩ := leastOf_busy _ hne hb
      have hle : m.mark ≤ (leastOf (m.ins.set i.toNat y)).1 := by
        have := g2.mem
        obtain ⟨x, hx, he⟩ := List.mem_map.1 this
        rw [← he]
        rcases List.mem_or_eq_of_mem_set hx with hx | rfl
        · exact k.least.le _ (List.mem_map_of_mem hx)
        · exact Int.le_trans (k.least.le _ (List.mem_map_of_mem (List.getElem_mem hi))) h1
      unfold Meet.on
      simp only [g1, if_true]
      refine ⟨by simpa using k.len, k.pos, hb, ?_⟩
      have : max m.mark (leastOf (m.ins.set i.toNat y)).1 = (leastOf (m.ins.set i.toNat y)).1 := by omega
      simp only [this]
      exact g2
  · exact k

theorem Inv.close {n : Nat} {m : Meet} (k : Inv n m) (i : Int) (hok : ∀ x ∈ m.ins, okMark x.mark) : Inv n (m.turn i closeF).1 :=
  k.turn i closeF (fun x y h e => by
    unfold closeF at e
    split at e
    · cases e
    · simp only [Option.some.injEq] at e
      subst e
      exact ⟨h.2, rfl⟩) hok
theorem Inv.setM {n : Nat} {m : Meet} (k : Inv n m) (i a : Int) (hok : ∀ x ∈ m.ins, okMark x.mark) : Inv n (m.setM i a).1 := by
  unfold Meet.setM
  split
  · refine k.turn i (setF a) (fun x y h e => ?_) hok
    unfold setF at e
    split at e
    · cases e
    · simp only [Option.some.injEq] at e
      subst e
      exact ⟨by simp only; omega, rfl⟩
  · exact k

structure Turn where
  kind : Int
  input : Int
  n : Int
deriving Inhabited
def tTurn : Ty Turn := ⟨3, fun _ cs x => cs = [.int .i64 x.kind, .int .i64 x.input, .int .i64 x.n] ∧ inI64 x.kind ∧ inI64 x.input ∧ inI64 x.n, fun _ _ _ h => by rw [h.1]; rfl, fun _ _ _ _ _ h => h⟩
theorem turn_at {m : Mem} {b o : Nat} {x : Turn} (h : tTurn.at m b o x) : m b o = some (.int .i64 x.kind) ∧ m b (o + 1) = some (.int .i64 x.input) ∧ m b (o + 2) = some (.int .i64 x.n) ∧ inI64 x.kind ∧ inI64 x.input ∧ inI64 x.n := by
  obtain ⟨cs, h1, rfl, h3⟩ := h
  exact ⟨h1 0 _ rfl, h1 1 _ rfl, h1 2 _ rfl, h3⟩

set_option maxRecDepth 100000 in
theorem reads_turn : Reads Try.prog 46 tTurn := fun H enc w n cs d h => by
  obtain ⟨xs, n', _, _, hl, hx, hg⟩ := DataW.trod_struct Try.underlying46 h
  rw [show Try.prog.cellsOf 46 = 3 from by kernel_rfl] at hl
  have g0 := hg 0 _ rfl
  obtain ⟨x0, r0⟩ := field_read (reads_int Try.underlying3) 0 1 rfl rfl (by kernel_rfl) g0 (by rw [hx]; decide)
  have g1 := hg 1 _ rfl
  obtain ⟨x1, r1⟩ := field_read (reads_int Try.underlying3) 1 1 rfl rfl (by kernel_rfl) g1 (by rw [hx]; decide)
  have g2 := hg 2 _ rfl
  obtain ⟨x2, r2⟩ := field_read (reads_int Try.underlying3) 2 1 rfl rfl (by kernel_rfl) g2 (by rw [hx]; decide)
  match cs, hl with
  | [c0, c1, c2], _ =>
    obtain ⟨e0, i0⟩ := r0
    obtain ⟨e1, i1⟩ := r1
    obtain ⟨e2, i2⟩ := r2
    simp at e0 e1 e2
    exact ⟨⟨x0, x1, x2⟩, by rw [e0, e1, e2], i0, i1, i2⟩
theorem reads_turns : Reads Try.prog 41 (tSlice tTurn) := reads_slice Try.underlying41 (by kernel_rfl) (by decide) reads_turn

theorem pure_any {α : Type} {t : Ty α} {w w' : World} {v : Value} {x : α} (h : t.rv (mem w) [v] x) (hb : Below w.heap.size w w') : t.rv (mem w') [v] x := t.mono _ _ _ _ (below_mem hb) h

set_option maxHeartbeats 2000000 in
theorem markLeast_any (n : Int) (ts : List Turn) (v : Value) (w : World) (hn64 : inI64 n) (hv : (tSlice tTurn).rv (mem w) [v] ts) :
    Calls Try.prog 5 #[.int .i64 n, v] w fun e w' => e = .returned (.bool true) ∧ Below w.heap.size w w' := by
  obtain ⟨a, cap, rfl, hl, hm, hv⟩ := slice_form hv
  have hcap : cap ≤ 9223372036854775807 := by unfold maxLen at hm; exact hm
  clear hm
  by_cases h300 : 300 < ts.length
  · go_enter Try.func5, Try.ntmps5
    go_wp2_with (go_at_call 8; refine (awake_any _).mono ?_; rintro e w' ⟨rfl, hB⟩)
    go_ret
    exact ⟨rfl, hB⟩
  by_cases hb : 1 ≤ n ∧ n ≤ 8
  · obtain ⟨hb1, hb8⟩ := hb
    obtain ⟨N, rfl⟩ := Int.eq_ofNat_of_zero_le (show 0 ≤ n by omega)
    have hN1 : 1 ≤ N := by omega
    have hN8 : N ≤ 8 := by omega
    go_enter Try.func5, Try.ntmps5
    go_wp2_with fail
    refine (newMeet_ok N w hN1 hN8).mono ?_
    rintro e w1 ⟨g, h, rfl, hg, hh, hm, hB⟩
    have hI := Inv.new N hN1
    go_wp2
    go_loopw [7] (fun i wr => ∃ k : Nat, k ≤ ts.length ∧ i = .int .i64 k ∧ ∃ m, MeetAt wr g h m ∧ Inv N m ∧ Below w.heap.size w wr) (fun i _ => ts.length - (intOf i).toNat)
    case atStart => exact ⟨0, by omega, rfl, _, hm, hI, hB⟩
    case round =>
      clear hm hI hB
      obtain ⟨k, hk, rfl, m, hm, hI, hB⟩ := hrel
      by_cases hlt : k < ts.length
      · obtain ⟨b1, o1, rfl, hat⟩ := slice_at (t := tTurn) hv hlt
        obtain ⟨c0, c1, c2, i0, i1, i2⟩ := turn_at hat
        have hb1 : wr.heap[b1]? = w.heap[b1]? := hB.block b1 (mem_lt c0)
        have d0 : wr.cell? ⟨b1, o1 + k * 3, none⟩ = some (.int .i64 ts[k].kind) := (mem_of_block hb1 _).trans c0
        have d1 : wr.cell? ⟨b1, o1 + k * 3 + 1, none⟩ = some (.int .i64 ts[k].input) := (mem_of_block hb1 _).trans c1
        have d2 : wr.cell? ⟨b1, o1 + k * 3 + 2, none⟩ = some (.int .i64 ts[k].n) := (mem_of_block hb1 _).trans c2
        clear hat hv hb1
        generalize ts[k] = t at d0 d1 d2 i0 i1 i2
        clear c0 c1 c2
        obtain ⟨kd, inp, nn⟩ := t
        simp only at d0 d1 d2 i0 i1 i2
        have HX := Lib.hid (mClose_any g h m wr inp i1 hm)
        have HY := Lib.hid (mSet_any g h m wr.drew inp nn i1 (hm.keeps rfl rfl))
        have hok := hm.ok
        have hI1 := hI.close inp hok
        have hI2 := hI.setM inp nn hok
        by_cases h3 : kd = 3
        · have hd : (kd == 3) = true := by simp [h3]
          clear h3 HY hI2
          go_wp2_with fail
          refine HX.out.mono ?_
          rintro e w2 ⟨rfl, hm2, hK2⟩
          have hB2 : Below w.heap.size w w2 := hK2.belowStep hB (fun k e => by omega) hB.size
          have hI2 := hI1
          clear HX hB hm hK2 hI hI1 d0 d1 d2 hv
          generalize m.turn inp closeF = r2 at hm2 hI2
          obtain ⟨m2, r2⟩ := r2
          simp only at hm2 hI2 ⊢
          go_wp2_with fail
          clear hok
          refine (mInputs_any g h m2 w2 hm2).mono ?_
          rintro e w3 ⟨u, rfl, hu, hB3⟩
          obtain ⟨a2, cap2, rfl, hl2, hm3, hu⟩ := slice_form hu
          have hu := (tSlice tInt).mono _ _ _ _ (Mem.on_le _ _) hu
          have hcap2 : cap2 ≤ 9223372036854775807 := by unfold maxLen at hm3; exact hm3
          have hB4 : Below w.heap.size w w3 := pure_trans hB2 hB3
          have hm4 := hm2.pure hB3
          have hlen : (m2.ins.map (·.mark)).length = N := by rw [List.length_map]; exact hI2.len
          have hL := hI2.least
          clear hm3 hB2 hB3 hm2 hl2
          generalize m2.ins.map (·.mark) = ms at hu hlen hL ⊢
          have hne : ((ms.length : Int) != (N : Int)) = false := by simp [hlen]
          have hms8 : ms.length ≤ 8 := by omega
          have hms1 : 1 ≤ ms.length := by omega
          have HL := Lib.hid hlen
          clear hlen
          obtain ⟨b2, o2, rfl, hat2⟩ := slice_at (t := tInt) hu (show 0 < ms.length by omega)
          have hc0 : w3.cell? ⟨b2, o2, none⟩ = some (.int .i64 ms[0]) := by simpa [tInt, mem] using (int_at hat2).1
          have HM0 := Lib.hid (show ms[0] ∈ ms from List.getElem_mem _)
          generalize ms[0] = q0 at hc0 HM0
          clear hat2
          go_wp2
          go_loop [9, 10] (fun t i => ∃ j : Nat, j ≤ ms.length ∧ i = .int .i64 j ∧ ∃ q, t = .int .i64 q ∧ Hid (q ∈ ms ∧ ∀ x ∈ ms.take j, q ≤ x)) (fun _ i => ms.length - (intOf i).toNat)
          case atStart => exact ⟨0, by omega, rfl, q0, rfl, Lib.hid ⟨HM0.out, by simp⟩⟩
          case round =>
            clear hc0 HM0
            obtain ⟨j, hj, rfl, q, rfl, HQ⟩ := hrel
            by_cases hltj : j < ms.length
            · obtain ⟨b3, o3, he3, hat3⟩ := slice_at (t := tInt) hu hltj
              simp only [Option.some.injEq, Addr.mk.injEq, and_true] at he3
              obtain ⟨rfl, rfl⟩ := he3
              have hcj : w3.cell? ⟨b2, o2 + j, none⟩ = some (.int .i64 ms[j]) := by simpa [tInt, mem] using (int_at hat3).1
              have HT := Lib.hid (List.take_succ_eq_append_getElem hltj)
              have HMj := Lib.hid (show ms[j] ∈ ms from List.getElem_mem _)
              clear hat3 hu
              generalize ms[j] = p at hcj HT HMj
              by_cases hqp : q ≤ p
              · have HR := Lib.hid (show q ∈ ms ∧ ∀ x ∈ ms.take (j + 1), q ≤ x from ⟨HQ.out.1, fun x hx => by
                  rw [HT.out] at hx
                  rcases List.mem_append.1 hx with hx | hx
                  · exact HQ.out.2 x hx
                  · simp at hx; omega⟩)
                go_wp2
                go_round
                case rel => exact ⟨j + 1, by omega, by go_num, q, by go_num, HR⟩
                case measure => simp [intOf]; omega
              · have HR := Lib.hid (show p ∈ ms ∧ ∀ x ∈ ms.take (j + 1), p ≤ x from ⟨HMj.out, fun x hx => by
                  rw [HT.out] at hx
                  rcases List.mem_append.1 hx with hx | hx
                  · have := HQ.out.2 x hx; omega
                  · simp at hx; omega⟩)
                go_wp2
                go_round
                case rel => exact ⟨j + 1, by omega, by go_num, p, by go_num, HR⟩
                case measure => simp [intOf]; omega
            · obtain rfl : j = ms.length := by omega
              have hq : m2.mark = q := hL.uniq ⟨HQ.out.1, fun x hx => HQ.out.2 x (by rw [List.take_length]; exact hx)⟩
              have hqne : (m2.mark != q) = false := by simp [hq]
              clear hq HQ hu
              go_wp2_with (go_at_call 21; refine (mmark_any _ _ _ _ hm4).mono ?_; rintro e w' ⟨rfl, rfl⟩)
              go_roundw
              case rel => exact ⟨k + 1, by omega, by go_num, m2, hm4, hI2, hB4⟩
              case measure => simp [intOf]; omega
        · have hd : (kd == 3) = false := by simp [h3]
          clear h3 HX hI1
          go_wp2_with fail
          go_region_with (go_at_call 19; refine HY.out.mono ?_; rintro e w2 ⟨rfl, hm2, hK2⟩)
          all_goals
            have hB2 : Below w.heap.size w w2 := hK2.belowStep hB.drew (fun k e => by omega) hB.size
            clear HY hB hm hK2 hI d0 d1 d2 hv
            generalize m.setM inp nn = r2 at hm2 hI2
            obtain ⟨m2, r2⟩ := r2
            simp only at hm2 hI2 ⊢
            go_wp2_with fail
            clear hok
            refine (mInputs_any g h m2 w2 hm2).mono ?_
            rintro e w3 ⟨u, rfl, hu, hB3⟩
            obtain ⟨a2, cap2, rfl, hl2, hm3, hu⟩ := slice_form hu
            have hu := (tSlice tInt).mono _ _ _ _ (Mem.on_le _ _) hu
            have hcap2 : cap2 ≤ 9223372036854775807 := by unfold maxLen at hm3; exact hm3
            have hB4 : Below w.heap.size w w3 := pure_trans hB2 hB3
            have hm4 := hm2.pure hB3
            have hlen : (m2.ins.map (·.mark)).length = N := by rw [List.length_map]; exact hI2.len
            have hL := hI2.least
            clear hm3 hB2 hB3 hm2 hl2
            generalize m2.ins.map (·.mark) = ms at hu hlen hL ⊢
            have hne : ((ms.length : Int) != (N : Int)) = false := by simp [hlen]
            have hms8 : ms.length ≤ 8 := by omega
            have hms1 : 1 ≤ ms.length := by omega
            have HL := Lib.hid hlen
            clear hlen
            obtain ⟨b2, o2, rfl, hat2⟩ := slice_at (t := tInt) hu (show 0 < ms.length by omega)
            have hc0 : w3.cell? ⟨b2, o2, none⟩ = some (.int .i64 ms[0]) := by simpa [tInt, mem] using (int_at hat2).1
            have HM0 := Lib.hid (show ms[0] ∈ ms from List.getElem_mem _)
            generalize ms[0] = q0 at hc0 HM0
            clear hat2
            go_wp2
            go_loop [9, 10] (fun t i => ∃ j : Nat, j ≤ ms.length ∧ i = .int .i64 j ∧ ∃ q, t = .int .i64 q ∧ Hid (q ∈ ms ∧ ∀ x ∈ ms.take j, q ≤ x)) (fun _ i => ms.length - (intOf i).toNat)
            case atStart => exact ⟨0, by omega, rfl, q0, rfl, Lib.hid ⟨HM0.out, by simp⟩⟩
            case round =>
              clear hc0 HM0
              obtain ⟨j, hj, rfl, q, rfl, HQ⟩ := hrel
              by_cases hltj : j < ms.length
              · obtain ⟨b3, o3, he3, hat3⟩ := slice_at (t := tInt) hu hltj
                simp only [Option.some.injEq, Addr.mk.injEq, and_true] at he3
                obtain ⟨rfl, rfl⟩ := he3
                have hcj : w3.cell? ⟨b2, o2 + j, none⟩ = some (.int .i64 ms[j]) := by simpa [tInt, mem] using (int_at hat3).1
                have HT := Lib.hid (List.take_succ_eq_append_getElem hltj)
                have HMj := Lib.hid (show ms[j] ∈ ms from List.getElem_mem _)
                clear hat3 hu
                generalize ms[j] = p at hcj HT HMj
                by_cases hqp : q ≤ p
                · have HR := Lib.hid (show q ∈ ms ∧ ∀ x ∈ ms.take (j + 1), q ≤ x from ⟨HQ.out.1, fun x hx => by
                    rw [HT.out] at hx
                    rcases List.mem_append.1 hx with hx | hx
                    · exact HQ.out.2 x hx
                    · simp at hx; omega⟩)
                  go_wp2
                  go_round
                  case rel => exact ⟨j + 1, by omega, by go_num, q, by go_num, HR⟩
                  case measure => simp [intOf]; omega
                · have HR := Lib.hid (show p ∈ ms ∧ ∀ x ∈ ms.take (j + 1), p ≤ x from ⟨HMj.out, fun x hx => by
                    rw [HT.out] at hx
                    rcases List.mem_append.1 hx with hx | hx
                    · have := HQ.out.2 x hx; omega
                    · simp at hx; omega⟩)
                  go_wp2
                  go_round
                  case rel => exact ⟨j + 1, by omega, by go_num, p, by go_num, HR⟩
                  case measure => simp [intOf]; omega
              · obtain rfl : j = ms.length := by omega
                have hq : m2.mark = q := hL.uniq ⟨HQ.out.1, fun x hx => HQ.out.2 x (by rw [List.take_length]; exact hx)⟩
                have hqne : (m2.mark != q) = false := by simp [hq]
                clear hq HQ hu
                go_wp2_with (go_at_call 21; refine (mmark_any _ _ _ _ hm4).mono ?_; rintro e w' ⟨rfl, rfl⟩)
                go_roundw
                case rel => exact ⟨k + 1, by omega, by go_num, m2, hm4, hI2, hB4⟩
                case measure => simp [intOf]; omega
      · go_wp2_with (go_at_call 8; refine (awake_any _).mono ?_; rintro e w' ⟨rfl, hB2⟩)
        go_ret
        exact ⟨rfl, pure_trans hB hB2⟩
  · go_enter Try.func5, Try.ntmps5
    go_wp2_with (first | (go_at_call 17; refine (newMeet_bad n _ hb).mono ?_; rintro e w' ⟨rfl, rfl⟩) | (go_at_call 8; refine (awake_any _).mono ?_; rintro e w' ⟨rfl, hB⟩))
    go_ret
    exact ⟨rfl, hB⟩
end Go.Proofs.Ytfoocifhifpbdaa
