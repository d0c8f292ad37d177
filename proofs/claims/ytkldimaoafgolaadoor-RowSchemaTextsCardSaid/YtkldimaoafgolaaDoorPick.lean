/- Project of both packages. -/
import Derived.Test.YtkldimaoafgolaaDoorAwake2
import Derived.Test.YtkldimaoafgolaaDoorOrdY
namespace Go.Proofs.YtkldimaoafgolaaDoor
open Go.RowKit

def tInts : Ty (List Int) := tSlice tInt
theorem int_cell {m : Mem} {xs : List Int} {a : Option Addr} {n cap : Nat} (h : tInts.rv m [.slice a n cap] xs) {k : Nat} (hk : k < xs.length) :
    ∃ b o, a = some ⟨b, o, none⟩ ∧ m b (o + k) = some (.int .i64 xs[k]) ∧ inI64 xs[k] := by
  obtain ⟨b, o, rfl, hat⟩ := slice_at h hk
  have e : k * tInt.sz = k := Nat.mul_one k
  rw [e] at hat
  obtain ⟨h1, h2⟩ := int_at hat
  exact ⟨b, o, rfl, h1, h2⟩

set_option maxHeartbeats 1000000 in
theorem indexFuncInt (Fn : FuncId) (capt : Array Value) (p : Int → Bool) (xs : List Int) (v : Value) (w : World) (hv : tInts.rv (mem w) [v] xs)
    (hcf : ∀ args w, Sem.run Tryd.prog (callFunc Fn args) w = .ok (.enter Fn args) w)
    (hf : ∀ x, inI64 x → ∀ wr, Below w.heap.size w wr → Calls Tryd.prog Fn (#[.int .i64 x] ++ capt) wr fun e w' => e = .returned (.bool (p x)) ∧ Below wr.heap.size wr w') :
    Calls Tryd.prog 89 #[v, .func (.func Fn) #[] capt] w fun e w' => e = .returned (.int .i64 (idxOf p xs)) ∧ Below w.heap.size w w' := by
  obtain ⟨a, cap, rfl, hl, hm, hv⟩ := slice_form hv
  have hcap : cap ≤ 9223372036854775807 := by unfold maxLen at hm; exact hm
  clear hm
  have HF := Lib.hid hf
  clear hf
  go_enter Tryd.func89, Tryd.ntmps89
  go_wp2
  go_loopw [8] (fun i wr => ∃ k : Nat, k ≤ xs.length ∧ i = .int .i64 k ∧ Hid (∀ x ∈ xs.take k, p x = false) ∧ Below w.heap.size w wr) (fun i _ => xs.length - (intOf i).toNat)
  case atStart => exact ⟨0, by omega, rfl, Lib.hid (by simp), Below.refl _ _⟩
  case round =>
    obtain ⟨k, hk, rfl, HT, hB⟩ := hrel
    by_cases hlt : k < xs.length
    · obtain ⟨b, o, rfl, c0, hin⟩ := int_cell (tInts.mono _ _ _ _ (below_mem hB) hv) hlt
      have c0 : wr.cell? ⟨b, o + k, none⟩ = some (.int .i64 xs[k]) := c0
      have hcall := HF.out xs[k] hin wr hB
      have HI := Lib.hid (show p xs[k] = true → idxOf p xs = k from fun h => idxOf_at hlt h HT.out)
      have HN := Lib.hid (show p xs[k] = false → ∀ x ∈ xs.take (k + 1), p x = false from fun h => mem_take_snoc hlt HT.out h)
      clear hv HF HT
      generalize xs[k] = x at *
      generalize hpx : p x = r at hcall HI HN
      clear hpx
      have HC := Lib.hid hcall
      clear hcall
      go_wp2_with fail
      refine HC.out.mono ?_
      rintro e w1 ⟨rfl, hB1⟩
      have hB2 := pure_trans hB hB1
      clear HC hB hB1 c0
      cases r
      · go_wp2
        go_roundw
        case rel => exact ⟨k + 1, by omega, by go_num, Lib.hid (HN.out (by trivial)), hB2⟩
        case measure => simp [intOf]; omega
      · go_wp2
        go_ret
        exact ⟨by rw [HI.out (by trivial)]; rfl, hB2⟩
    · obtain rfl : k = xs.length := by omega
      have HX := Lib.hid (idxOf_none (p := p) (l := xs) (fun x hx => HT.out x (by rw [List.take_length]; exact hx)))
      go_wp2
      go_ret
      exact ⟨by rw [HX.out]; rfl, hB⟩
set_option maxHeartbeats 1000000 in
theorem containsFuncInt (Fn : FuncId) (capt : Array Value) (p : Int → Bool) (xs : List Int) (v : Value) (w : World) (hv : tInts.rv (mem w) [v] xs)
    (hcf : ∀ args w, Sem.run Tryd.prog (callFunc Fn args) w = .ok (.enter Fn args) w)
    (hf : ∀ x, inI64 x → ∀ wr, Below w.heap.size w wr → Calls Tryd.prog Fn (#[.int .i64 x] ++ capt) wr fun e w' => e = .returned (.bool (p x)) ∧ Below wr.heap.size wr w') :
    Calls Tryd.prog 60 #[v, .func (.func Fn) #[] capt] w fun e w' => e = .returned (.bool (xs.any p)) ∧ Below w.heap.size w w' := by
  have H := Lib.hid (indexFuncInt Fn capt p xs v w hv hcf hf)
  have HA := Lib.hid (idxOf_any p xs)
  clear hcf hf hv
  generalize idxOf p xs = i at H HA
  go_enter Tryd.func60, Tryd.ntmps60
  go_wp2_with fail
  refine H.out.mono ?_
  rintro e w1 ⟨rfl, hB⟩
  go_wp2
  go_ret
  exact ⟨by rw [← HA.out]; rfl, hB⟩

def colBad (n : Nat) (c : Int) : Bool := !decide (0 ≤ c ∧ c ≤ (n : Int) - 1)
def pickAt (r : List Val) (c : Int) : Val := r[c.toNat]?.getD ⟨0, 0, ⟨#[]⟩⟩
def projOf (r : List Val) (cs : List Int) : List Val × Int :=
  if validRow r = true then (if cs.any (colBad r.length) = true then ([], 7) else if 8 < cs.length then ([], 4) else (cs.map (pickAt r), 0)) else ([], 1)
def Proj (r : List Val) (cs : List Int) (w : World) (e : Ending) (w' : World) : Prop :=
  ∃ v, e = .returned (.tuple #[v, .int .i64 (projOf r cs).2]) ∧ tRow.rv (mem w') [v] (projOf r cs).1 ∧ Below w.heap.size w w'

set_option maxHeartbeats 400000 in
theorem proj1_any (r : List Val) (c : Int) (b : Nat) (v : Value) (w : World) (hb : w.cell? ⟨b, 0, none⟩ = some v) (hv : tRow.rv (mem w) [v] r) :
    Calls Tryd.prog 61 #[.int .i64 c, .pointer (some ⟨b, 0, none⟩)] w fun e w' => e = .returned (.bool (colBad r.length c)) ∧ Below w.heap.size w w' := by
  obtain ⟨a, cap, rfl, hl, hm, hv⟩ := slice_form hv
  have hcap : cap ≤ 9223372036854775807 := by unfold maxLen at hm; exact hm
  have HC := Lib.hid (show colBad r.length c = !decide (0 ≤ c ∧ c ≤ (r.length : Int) - 1) from rfl)
  generalize colBad r.length c = z at *
  generalize hq : decide (0 ≤ c ∧ c ≤ (r.length : Int) - 1) = q at HC
  have HQ := Lib.hid hq
  clear hm hq hv
  go_enter Tryd.func61, Tryd.ntmps61
  go_wp2_with fail
  refine (rowWithin_any _ _ _ _).mono ?_
  rintro e w' ⟨rfl, rfl⟩
  rw [HQ.out]
  go_wp2
  go_ret
  exact ⟨by rw [HC.out]; rfl, Below.refl _ _⟩

theorem Tryd.infoVal : (Tryd.prog.info? 30).map (fun i => (i.zero, i.size, i.bytes)) = some (some (.agg #[.int .i64 0, .int .i64 0, .string ⟨#[]⟩]), tVal.sz, 32) := by kernel_rfl
theorem map_snoc {α β : Type} (f : α → β) {l : List α} {k : Nat} (h : k < l.length) : (l.take (k + 1)).map f = (l.take k).map f ++ [f l[k]] := by
  rw [List.take_add_one, List.getElem?_eq_getElem h, List.map_append]; rfl

theorem projOf_cases (r : List Val) (cs : List Int) : (validRow r = false → projOf r cs = ([], 1)) ∧ (validRow r = true → cs.any (colBad r.length) = true → projOf r cs = ([], 7)) ∧
    (validRow r = true → cs.any (colBad r.length) = false → 8 < cs.length → projOf r cs = ([], 4)) ∧ (validRow r = true → cs.any (colBad r.length) = false → ¬ 8 < cs.length → projOf r cs = (cs.map (pickAt r), 0)) := by
  unfold projOf
  refine ⟨fun h => by rw [h]; rfl, fun h h2 => by rw [h, h2]; rfl, fun h h2 h3 => ?_, fun h h2 h3 => ?_⟩
  · rw [h, h2, if_pos rfl, if_neg Bool.false_ne_true, if_pos h3]
  · rw [h, h2, if_pos rfl, if_neg Bool.false_ne_true, if_neg h3]

/-- What both loops that pick columns keep. -/
def PickInv (r : List Val) (cs : List Int) (w : World) (k : Nat) (ov : Value) (wr : World) : Prop :=
  Owns tVal wr w.heap.size 30 ov ((cs.take k).map (pickAt r)) ∧ Below w.heap.size w wr
theorem pick_in {r : List Val} {cs : List Int} (h : cs.any (colBad r.length) = false) {k : Nat} (hk : k < cs.length) : 0 ≤ cs[k] ∧ cs[k].toNat < r.length := by
  rw [List.any_eq_false] at h
  have := h _ (List.getElem_mem hk)
  simp [colBad] at this
  omega
theorem pick_eq {r : List Val} {c : Int} (h : c.toNat < r.length) : pickAt r c = r[c.toNat] := by
  unfold pickAt
  rw [List.getElem?_eq_getElem h]
  rfl

theorem row_val {m : Mem} {xs : List Val} {a : Option Addr} {n cap : Nat} (h : tRow.rv m [.slice a n cap] xs) {k : Nat} (hk : k < xs.length) :
    inI64 xs[k].kind ∧ inI64 xs[k].n ∧ xs[k].s.size ≤ maxLen := by
  obtain ⟨b, o, rfl, hat⟩ := slice_at h hk
  exact (val_at hat).2.2.2

set_option maxRecDepth 100000 in
set_option maxHeartbeats 1000000 in
theorem rowProject_any (r : List Val) (cs : List Int) (v u : Value) (w : World) (hv : tRow.rv (mem w) [v] r) (hu : tInts.rv (mem w) [u] cs) :
    Calls Tryd.prog 25 #[v, u] w (Proj r cs w) := by
  have hb0 : ∀ o, Below w.heap.size w (w.alloc o) := fun o => (Below.refl _ _).alloc (Nat.le_refl _) o
  have HV := Lib.hid (fun wr (h : Below w.heap.size w wr) => rowValid_any r v wr (tRow.mono _ _ _ _ (below_mem h) hv))
  have HC := Lib.hid (fun wr (h : Below w.heap.size w wr) (hc : wr.cell? ⟨w.heap.size, 0, none⟩ = some v) => containsFuncInt 61 #[.pointer (some ⟨w.heap.size, 0, none⟩)] (colBad r.length) cs u wr (tInts.mono _ _ _ _ (below_mem h) hu) (fun _ _ => rfl)
    (fun x _ w2 hb2 => proj1_any r x w.heap.size v w2 (below_mem hb2 _ _ _ hc) (tRow.mono _ _ _ _ (below_mem (pure_trans h hb2)) hv)))
  have HP := Lib.hid (projOf_cases r cs)
  have HIN := Lib.hid (fun h k hk => pick_in (r := r) (cs := cs) h (k := k) hk)
  obtain ⟨a1, cap1, rfl, hl1, hm1, hv⟩ := slice_form hv
  have hcap1 : cap1 ≤ 9223372036854775807 := by unfold maxLen at hm1; exact hm1
  obtain ⟨a2, cap2, rfl, hl2, hm2, hu⟩ := slice_form hu
  have hcap2 : cap2 ≤ 9223372036854775807 := by unfold maxLen at hm2; exact hm2
  clear hm1 hm2
  generalize validRow r = vr at HV HP
  generalize cs.any (colBad r.length) = vc at HC HP HIN
  have hbox := mem_cells_new w #[.slice a1 r.length cap1] 25 (0, 0) 0
  go_enter Tryd.func25, Tryd.ntmps25
  go_wp2_with fail
  refine (HV.out _ (hb0 _)).mono ?_
  rintro e w1 ⟨rfl, hb1⟩
  have hbox : w1.cell? ⟨w.heap.size, 0, none⟩ = some (.slice a1 r.length cap1) := below_mem hb1 _ _ _ hbox
  have hB := pure_trans (hb0 _) hb1
  clear hb1 HV
  cases vr
  · have HQ := Lib.hid (HP.out.1 (by trivial))
    go_wp2
    go_ret2
    exact ⟨_, by rw [HQ.out]; rfl, by rw [HQ.out]; exact slice_nil _ _, hB⟩
  · go_wp2_with fail
    refine (HC.out _ hB hbox).mono ?_
    rintro e w2 ⟨rfl, hb2⟩
    have hbox : w2.cell? ⟨w.heap.size, 0, none⟩ = some (.slice a1 r.length cap1) := below_mem hb2 _ _ _ hbox
    have hB := pure_trans hB hb2
    clear hb2 HC
    cases vc
    · have HIK := Lib.hid (HIN.out (by trivial))
      by_cases h8 : 8 < cs.length
      · have HQ := Lib.hid (HP.out.2.2.1 (by trivial) (by trivial) h8)
        go_wp2
        go_ret2
        exact ⟨_, by rw [HQ.out]; rfl, by rw [HQ.out]; exact slice_nil _ _, hB⟩
      · have HQ := Lib.hid (HP.out.2.2.2 (by trivial) (by trivial) h8)
        go_wp2
        go_loopw [6, 23] (fun ov i wr => ∃ k : Nat, k ≤ cs.length ∧ i = .int .i64 k ∧ Owns tVal wr (w.heap.size + 1) 30 ov ((cs.take k).map (pickAt r)) ∧ Below w.heap.size w wr ∧ wr.cell? ⟨w.heap.size, 0, none⟩ = some (.slice a1 r.length cap1)) (fun _ i _ => cs.length - (intOf i).toNat)
        case atStart => exact ⟨0, by omega, rfl, Owns.nil _ _ _ _, hB, hbox⟩
        case round =>
          clear hbox
          obtain ⟨k, hk, rfl, hown, hB, hbox⟩ := hrel
          have hbs : w.heap.size + 1 ≤ wr.heap.size := by have := mem_lt (w := wr) hbox; omega
          by_cases hlt : k < cs.length
          · obtain ⟨hc1, hc2⟩ := HIK.out k hlt
            obtain ⟨b, o, rfl, d0, hin⟩ := int_cell (tInts.mono _ _ _ _ (below_mem hB) hu) hlt
            have d0 : wr.cell? ⟨b, o + k, none⟩ = some (.int .i64 cs[k]) := d0
            obtain ⟨b1, o1, rfl, c0, c1, c2⟩ := row_cells (tRow.mono _ _ _ _ (below_mem hB) hv) hc2
            have c0 : wr.cell? ⟨b1, o1 + cs[k].toNat * 3, none⟩ = some (.int .i64 r[cs[k].toNat].kind) := c0
            have c1 : wr.cell? ⟨b1, o1 + cs[k].toNat * 3 + 1, none⟩ = some (.int .i64 r[cs[k].toNat].n) := c1
            have c2 : wr.cell? ⟨b1, o1 + cs[k].toNat * 3 + 2, none⟩ = some (.string r[cs[k].toNat].s) := c2
            have hrv := (row_val (tRow.mono _ _ _ _ (below_mem hB) hv) hc2)
            have HSN := Lib.hid ((map_snoc (pickAt r) hlt).trans (by rw [pick_eq hc2]))
            have HLEN := Lib.hid (show ((cs.take k).map (pickAt r)).length = k by rw [List.length_map, List.length_take]; omega)
            clear hu hv HIN HIK
            generalize (cs.take k).map (pickAt r) = l at hown HSN HLEN
            generalize r[cs[k].toNat] = x at *
            generalize cs[k] = c at *
            obtain ⟨n, rfl⟩ : ∃ n : Nat, c = n := ⟨c.toNat, by omega⟩
            simp only [Int.toNat_natCast] at *
            obtain ⟨xk, xn, xs⟩ := x
            simp only at c0 c1 c2 hrv
            go_wp2_with (at_builtin; refine wpList_append_one rfl _ _ 25 rfl tVal Tryd.underlying25 Tryd.infoVal rfl (by decide) (w.heap.size + 1) _ l rfl (hown.alloc _) _ _ ⟨xk, xn, xs⟩ rfl [.int .i64 xk, .int .i64 xn, .string xs] ?c1 ?c2 ?c3 ?c4 ?c5 ?c6 ?_)
            case c1 =>
              intro j u hj
              match j, hj with
              | 0, hj => simp at hj; subst hj; simp [mem]
              | 1, hj => simp at hj; subst hj; simp [mem]
              | 2, hj => simp at hj; subst hj; simp [mem]
            case c2 => exact ⟨rfl, hrv⟩
            case c3 => first | exact ⟨rfl, rfl, rfl⟩ | (intro u hu; simp at hu; rcases hu with rfl | rfl | rfl <;> rfl)
            case c4 => rw [HLEN.out]; unfold maxLen; omega
            case c5 => rw [HLEN.out]; omega
            case c6 => first | omega | (simp; omega)
            · intro v' w3 hown' hgrow _
              have hB3 : Below w.heap.size w w3 := (hB.alloc hB.size _).grown hgrow (by simp; omega) (fun k hk => by have := (hown.lt k hk).1; omega)
              have hbox3 : w3.cell? ⟨w.heap.size, 0, none⟩ = some (.slice (some ⟨b1, o1, none⟩) r.length cap1) :=
                (mem_of_block ((hgrow.block _ (by simp; omega) (fun e => by have := (hown.lt _ e.symm).1; omega)).trans (Below.heap_alloc _ _ _ (by omega))) _).trans hbox
              clear hown hgrow hB hbox c0 c1 c2 d0
              go_wp2
              go_roundw
              case rel => exact ⟨k + 1, by omega, by go_num, by rw [HSN.out]; exact hown', hB3, hbox3⟩
              case measure => simp [intOf]; omega
          · obtain rfl : k = cs.length := by omega
            rw [List.take_length] at hown
            obtain ⟨a', cap', rfl, _⟩ := hown.len
            go_wp2
            go_ret2
            refine ⟨_, ?_, by rw [HQ.out]; exact hown.rv', hB⟩
            rw [HQ.out]
            first | rfl | (rw [List.length_map]; rfl) | (simp only [List.length_map]; rfl)
    · have HQ := Lib.hid (HP.out.2.1 (by trivial) (by trivial))
      go_wp2
      go_ret2
      exact ⟨_, by rw [HQ.out]; rfl, by rw [HQ.out]; exact slice_nil _ _, hB⟩
end Go.Proofs.YtkldimaoafgolaaDoor
