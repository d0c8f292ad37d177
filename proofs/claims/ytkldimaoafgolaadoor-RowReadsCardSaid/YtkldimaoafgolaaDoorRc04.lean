/- Part 4 of the texts that the law's proof stands on, merged. -/
import Derived.Laws.OwnMore
import Derived.Lib.AppendZerosOnto
import Derived.Test.YtkldimaoafgolaaDoorCards
import Derived.Test.YtkldimaoafgolaaDoorTie
import Derived.WalkKit
import Derived.ProofKit
import Derived.OpenShut
import Derived.Deep.DeepHandedRow
import Derived.Lib.LaidTab
import Derived.Lib.LaidU8
import Derived.Stop.LaidErr
import Derived.Test.YtkldimaoafgolaaDoorRc03
set_option linter.unusedVariables false
set_option linter.unusedSimpArgs false
/- The order of rows: comparison of rows. -/
namespace Go.Proofs.YtkldimaoafgolaaDoor
open Go.RowKit

/-- The cells of a row's element. -/
theorem row_cells {m : Mem} {xs : List Val} {a : Option Addr} {n cap : Nat} (h : tRow.rv m [.slice a n cap] xs) {k : Nat} (hk : k < xs.length) :
    ∃ b o, a = some ⟨b, o, none⟩ ∧ m b (o + k * 3) = some (.int .i64 xs[k].kind) ∧ m b (o + k * 3 + 1) = some (.int .i64 xs[k].n) ∧ m b (o + k * 3 + 2) = some (.string xs[k].s) := by
  obtain ⟨b, o, rfl, hat⟩ := slice_at h hk
  obtain ⟨c0, c1, c2, _⟩ := val_at hat
  exact ⟨b, o, rfl, c0, c1, c2⟩

set_option maxRecDepth 100000 in
set_option maxHeartbeats 1000000 in
theorem cmpFunc_any (xs ys : List Val) (v u : Value) (w : World) (hv : tRow.rv (mem w) [v] xs) (hu : tRow.rv (mem w) [u] ys) :
    Calls Tryd.prog 72 #[v, u, .func (.func 30) #[] #[]] w fun e w' => e = .returned (.int .i64 (cmpRow xs ys)) ∧ Below w.heap.size w w' := by
  obtain ⟨a, cap, rfl, hl, hm, hv⟩ := slice_form hv
  have hcap : cap ≤ 9223372036854775807 := by unfold maxLen at hm; exact hm
  obtain ⟨a2, cap2, rfl, hl2, hm2, hu⟩ := slice_form hu
  have hcap2 : cap2 ≤ 9223372036854775807 := by unfold maxLen at hm2; exact hm2
  clear hm hm2
  go_enter Tryd.func72, Tryd.ntmps72
  go_wp2
  go_loopw [13] (fun i wr => ∃ k : Nat, k ≤ xs.length ∧ k ≤ ys.length ∧ i = .int .i64 k ∧ Hid (cmpRow xs ys = cmpRow (xs.drop k) (ys.drop k)) ∧ Below w.heap.size w wr) (fun i _ => xs.length - (intOf i).toNat)
  case atStart => exact ⟨0, by omega, by omega, rfl, Lib.hid rfl, Below.refl _ _⟩
  case round =>
    obtain ⟨k, hk, hk2, rfl, HT, hB⟩ := hrel
    by_cases hlt : k < xs.length
    · obtain ⟨b, o, rfl, c0, c1, c2⟩ := row_cells (tRow.mono _ _ _ _ (below_mem hB) hv) hlt
      have c0 : wr.cell? ⟨b, o + k * 3, none⟩ = some (.int .i64 xs[k].kind) := c0
      have c1 : wr.cell? ⟨b, o + k * 3 + 1, none⟩ = some (.int .i64 xs[k].n) := c1
      have c2 : wr.cell? ⟨b, o + k * 3 + 2, none⟩ = some (.string xs[k].s) := c2
      have hb1 : b < wr.heap.size := mem_lt (w := wr) c0
      by_cases hlt2 : k < ys.length
      · obtain ⟨b', o', rfl, d0, d1, d2⟩ := row_cells (tRow.mono _ _ _ _ (below_mem hB) hu) hlt2
        have d0 : wr.cell? ⟨b', o' + k * 3, none⟩ = some (.int .i64 ys[k].kind) := d0
        have d1 : wr.cell? ⟨b', o' + k * 3 + 1, none⟩ = some (.int .i64 ys[k].n) := d1
        have d2 : wr.cell? ⟨b', o' + k * 3 + 2, none⟩ = some (.string ys[k].s) := d2
        have hb2 : b' < wr.heap.size := mem_lt (w := wr) d0
        have HS := Lib.hid (HT.out.trans (cmpRow_step hlt hlt2))
        have HC := Lib.hid (cmpVals_any xs[k] ys[k])
        have hBa : ∀ o o', Below w.heap.size w ((wr.alloc o).alloc o') := fun o o' => (hB.alloc hB.size o).alloc (by have := hB.size; simp; omega) o'
        clear hv hu HT
        generalize cmpVal xs[k] ys[k] = r at HS HC
        generalize xs[k] = x at *
        generalize ys[k] = y at *
        obtain ⟨xk, xn, xs'⟩ := x
        obtain ⟨yk, yn, ys'⟩ := y
        simp only at c0 c1 c2 d0 d1 d2
        go_wp2_with fail
        refine (HC.out _).mono ?_
        rintro e w1 ⟨rfl, hb⟩
        have hB1 := (hBa _ _).trans (hb.mono (by have := hB.size; simp; omega))
        clear hb hBa hB HC c0 c1 c2 d0 d1 d2
        by_cases hr : r = 0
        · subst hr
          go_wp2
          go_roundw
          case rel => exact ⟨k + 1, by omega, by omega, by go_num, Lib.hid (by rw [HS.out]; rfl), hB1⟩
          case measure => simp [intOf]; omega
        · have hr1 : (r == 0) = false := by simpa using hr
          have HS := Lib.hid (HS.out.trans (if_pos hr))
          go_wp2
          go_ret
          exact ⟨by rw [HS.out]; rfl, hB1⟩
      · have HE := Lib.hid (HT.out.trans (cmpRow_end (.inr (by omega)) hk hk2))
        have HE := Lib.hid ((HE.out.trans (if_neg (by omega))).trans (if_pos (by omega)))
        have hBa : ∀ o, Below w.heap.size w (wr.alloc o) := fun o => (hB.alloc hB.size o)
        generalize xs[k] = x at *
        obtain ⟨xk, xn, xs'⟩ := x
        simp only at c0 c1 c2
        clear HT
        go_wp2
        go_ret
        exact ⟨by rw [HE.out]; rfl, hBa _⟩
    · obtain rfl : k = xs.length := by omega
      have HE := Lib.hid (HT.out.trans (cmpRow_end (.inl (by omega)) hk hk2))
      clear HT
      by_cases hlt2 : xs.length < ys.length
      · have HE := Lib.hid (HE.out.trans (if_pos hlt2))
        go_wp2
        go_ret
        exact ⟨by rw [HE.out]; rfl, hB⟩
      · have HE := Lib.hid ((HE.out.trans (if_neg hlt2)).trans (if_neg (by omega)))
        go_wp2
        go_ret
        exact ⟨by rw [HE.out]; rfl, hB⟩

set_option maxHeartbeats 400000 in
theorem rowCmp_any (xs ys : List Val) (v u : Value) (w : World) (hv : tRow.rv (mem w) [v] xs) (hu : tRow.rv (mem w) [u] ys) :
    Calls Tryd.prog 32 #[v, u] w fun e w' => e = .returned (.int .i64 (cmpRow xs ys)) ∧ Below w.heap.size w w' := by
  have H := Lib.hid (cmpFunc_any xs ys v u w hv hu)
  obtain ⟨a, cap, rfl, hl, hm, hv⟩ := slice_form hv
  obtain ⟨a2, cap2, rfl, hl2, hm2, hu⟩ := slice_form hu
  clear hm hm2
  go_enter Tryd.func32, Tryd.ntmps32
  go_wp2_with fail
  refine H.out.mono ?_
  rintro e w1 ⟨rfl, hB⟩
  go_wp2
  go_ret
  exact ⟨rfl, hB⟩

set_option maxRecDepth 100000 in
set_option maxHeartbeats 1000000 in
theorem refCmp_any (xs ys : List Val) (v u : Value) (w : World) (hv : tRow.rv (mem w) [v] xs) (hu : tRow.rv (mem w) [u] ys) :
    Calls Tryd.prog 33 #[v, u] w fun e w' => e = .returned (.int .i64 (cmpRow xs ys)) ∧ Below w.heap.size w w' := by
  obtain ⟨a, cap, rfl, hl, hm, hv⟩ := slice_form hv
  have hcap : cap ≤ 9223372036854775807 := by unfold maxLen at hm; exact hm
  obtain ⟨a2, cap2, rfl, hl2, hm2, hu⟩ := slice_form hu
  have hcap2 : cap2 ≤ 9223372036854775807 := by unfold maxLen at hm2; exact hm2
  clear hm hm2
  go_enter Tryd.func33, Tryd.ntmps33
  go_wp2
  go_loopw [5] (fun i wr => ∃ k : Nat, k ≤ xs.length ∧ k ≤ ys.length ∧ i = .int .i64 k ∧ Hid (cmpRow xs ys = cmpRow (xs.drop k) (ys.drop k)) ∧ Below w.heap.size w wr) (fun i _ => xs.length - (intOf i).toNat)
  case atStart => exact ⟨0, by omega, by omega, rfl, Lib.hid rfl, Below.refl _ _⟩
  case round =>
    obtain ⟨k, hk, hk2, rfl, HT, hB⟩ := hrel
    by_cases hlt : k < xs.length
    · by_cases hlt2 : k < ys.length
      · have hB := hB.drew
        obtain ⟨b, o, rfl, c0, c1, c2⟩ := row_cells (tRow.mono _ _ _ _ (below_mem hB) hv) hlt
        have c0 : wr.drew.cell? ⟨b, o + k * 3, none⟩ = some (.int .i64 xs[k].kind) := c0
        have c1 : wr.drew.cell? ⟨b, o + k * 3 + 1, none⟩ = some (.int .i64 xs[k].n) := c1
        have c2 : wr.drew.cell? ⟨b, o + k * 3 + 2, none⟩ = some (.string xs[k].s) := c2
        obtain ⟨b', o', rfl, d0, d1, d2⟩ := row_cells (tRow.mono _ _ _ _ (below_mem hB) hu) hlt2
        have d0 : wr.drew.cell? ⟨b', o' + k * 3, none⟩ = some (.int .i64 ys[k].kind) := d0
        have d1 : wr.drew.cell? ⟨b', o' + k * 3 + 1, none⟩ = some (.int .i64 ys[k].n) := d1
        have d2 : wr.drew.cell? ⟨b', o' + k * 3 + 2, none⟩ = some (.string ys[k].s) := d2
        have HS := Lib.hid (HT.out.trans (cmpRow_step hlt hlt2))
        have HC := Lib.hid (refCmpVals_any xs[k] ys[k])
        clear hv hu HT
        generalize cmpVal xs[k] ys[k] = r at HS HC
        generalize xs[k] = x at *
        generalize ys[k] = y at *
        obtain ⟨xk, xn, xs'⟩ := x
        obtain ⟨yk, yn, ys'⟩ := y
        simp only at c0 c1 c2 d0 d1 d2
        go_wp2_with fail
        go_region_held3 (fun w' => w'.cell? ⟨b, o + k * 3, none⟩ = some (.int .i64 xk) ∧ w'.cell? ⟨b, o + k * 3 + 1, none⟩ = some (.int .i64 xn) ∧ w'.cell? ⟨b, o + k * 3 + 2, none⟩ = some (.string xs') ∧
            w'.cell? ⟨b', o' + k * 3, none⟩ = some (.int .i64 yk) ∧ w'.cell? ⟨b', o' + k * 3 + 1, none⟩ = some (.int .i64 yn) ∧ w'.cell? ⟨b', o' + k * 3 + 2, none⟩ = some (.string ys'))
          (first | go_keep | exact ⟨below_mem hb _ _ _ c0, below_mem hb _ _ _ c1, below_mem hb _ _ _ c2, below_mem hb _ _ _ d0, below_mem hb _ _ _ d1, below_mem hb _ _ _ d2⟩)
          ((first | (go_at_call 31; refine (HC.out _).mono ?_; rintro e w1 ⟨rfl, hb⟩)))
        all_goals
          have hB1 := pure_trans hB hb
          clear hb hB HC c0 c1 c2 d0 d1 d2
          by_cases hr : r = 0
          · subst hr
            go_wp2
            go_roundw
            case rel => exact ⟨k + 1, by omega, by omega, by go_num, Lib.hid (by rw [HS.out]; rfl), hB1⟩
            case measure => simp [intOf]; omega
          · have hr1 : (r == 0) = false := by simpa using hr
            have HS := Lib.hid (HS.out.trans (if_pos hr))
            go_wp2
            go_ret
            exact ⟨by rw [HS.out]; rfl, hB1⟩
      · have HE := Lib.hid (HT.out.trans (cmpRow_end (.inr (by omega)) hk hk2))
        have HE := Lib.hid ((HE.out.trans (if_neg (by omega))).trans (if_pos (by omega)))
        clear HT
        go_wp2
        go_ret
        exact ⟨by rw [HE.out]; rfl, hB⟩
    · obtain rfl : k = xs.length := by omega
      have HE := Lib.hid (HT.out.trans (cmpRow_end (.inl (by omega)) hk hk2))
      clear HT
      by_cases hlt2 : xs.length < ys.length
      · have HE := Lib.hid (HE.out.trans (if_pos hlt2))
        go_wp2
        go_ret
        exact ⟨by rw [HE.out]; rfl, hB⟩
      · have HE := Lib.hid ((HE.out.trans (if_neg hlt2)).trans (if_neg (by omega)))
        go_wp2
        go_ret
        exact ⟨by rw [HE.out]; rfl, hB⟩
end Go.Proofs.YtkldimaoafgolaaDoor
/- Project of both packages. -/
namespace Go.Proofs.YtkldimaoafgolaaDoor
open Go.RowKit

def tInts : Ty (List Int) := tSlice tInt
theorem int_cell {m : Mem} {xs : List Int} {a : Option Addr} {n cap : Nat} (h : tInts.rv m [.slice a n cap] xs) {k : Nat} (hk : k < xs.length) :
    ∃ b o, a = some ⟨b, o, none⟩ ∧ m b (o + k) = some (.int .i64 xs[k]) ∧ inI64 xs[k] := by
  obtain ⟨b, o, rfl, hat⟩ := slice_at h hk
  have e : k * tInt.sz = k := Nat.mul_one k
  rw [e] at hat
  obtain ⟨h1, h2⟩ := int_at hat
  exact ⟨b, o, rfl, h1, h2⟩

set_option maxHeartbeats 1000000 in
theorem indexFuncInt (Fn : FuncId) (capt : Array Value) (p : Int → Bool) (xs : List Int) (v : Value) (w : World) (hv : tInts.rv (mem w) [v] xs)
    (hcf : ∀ args w, Sem.run Tryd.prog (callFunc Fn args) w = .ok (.enter Fn args) w)
    (hf : ∀ x, inI64 x → ∀ wr, Below w.heap.size w wr → Calls Tryd.prog Fn (#[.int .i64 x] ++ capt) wr fun e w' => e = .returned (.bool (p x)) ∧ Below wr.heap.size wr w') :
    Calls Tryd.prog 89 #[v, .func (.func Fn) #[] capt] w fun e w' => e = .returned (.int .i64 (idxOf p xs)) ∧ Below w.heap.size w w' := by
  obtain ⟨a, cap, rfl, hl, hm, hv⟩ := slice_form hv
  have hcap : cap ≤ 9223372036854775807 := by unfold maxLen at hm; exact hm
  clear hm
  have HF := Lib.hid hf
  clear hf
  go_enter Tryd.func89, Tryd.ntmps89
  go_wp2
  go_loopw [8] (fun i wr => ∃ k : Nat, k ≤ xs.length ∧ i = .int .i64 k ∧ Hid (∀ x ∈ xs.take k, p x = false) ∧ Below w.heap.size w wr) (fun i _ => xs.length - (intOf i).toNat)
  case atStart => exact ⟨0, by omega, rfl, Lib.hid (by simp), Below.refl _ _⟩
  case round =>
    obtain ⟨k, hk, rfl, HT, hB⟩ := hrel
    by_cases hlt : k < xs.length
    · obtain ⟨b, o, rfl, c0, hin⟩ := int_cell (tInts.mono _ _ _ _ (below_mem hB) hv) hlt
      have c0 : wr.cell? ⟨b, o + k, none⟩ = some (.int .i64 xs[k]) := c0
      have hcall := HF.out xs[k] hin wr hB
      have HI := Lib.hid (show p xs[k] = true → idxOf p xs = k from fun h => idxOf_at hlt h HT.out)
      have HN := Lib.hid (show p xs[k] = false → ∀ x ∈ xs.take (k + 1), p x = false from fun h => mem_take_snoc hlt HT.out h)
      clear hv HF HT
      generalize xs[k] = x at *
      generalize hpx : p x = r at hcall HI HN
      clear hpx
      have HC := Lib.hid hcall
      clear hcall
      go_wp2_with fail
      refine HC.out.mono ?_
      rintro e w1 ⟨rfl, hB1⟩
      have hB2 := pure_trans hB hB1
      clear HC hB hB1 c0
      cases r
      · go_wp2
        go_roundw
        case rel => exact ⟨k + 1, by omega, by go_num, Lib.hid (HN.out (by trivial)), hB2⟩
        case measure => simp [intOf]; omega
      · go_wp2
        go_ret
        exact ⟨by rw [HI.out (by trivial)]; rfl, hB2⟩
    · obtain rfl : k = xs.length := by omega
      have HX := Lib.hid (idxOf_none (p := p) (l := xs) (fun x hx => HT.out x (by rw [List.take_length]; exact hx)))
      go_wp2
      go_ret
      exact ⟨by rw [HX.out]; rfl, hB⟩
set_option maxHeartbeats 1000000 in
theorem containsFuncInt (Fn : FuncId) (capt : Array Value) (p : Int → Bool) (xs : List Int) (v : Value) (w : World) (hv : tInts.rv (mem w) [v] xs)
    (hcf : ∀ args w, Sem.run Tryd.prog (callFunc Fn args) w = .ok (.enter Fn args) w)
    (hf : ∀ x, inI64 x → ∀ wr, Below w.heap.size w wr → Calls Tryd.prog Fn (#[.int .i64 x] ++ capt) wr fun e w' => e = .returned (.bool (p x)) ∧ Below wr.heap.size wr w') :
    Calls Tryd.prog 60 #[v, .func (.func Fn) #[] capt] w fun e w' => e = .returned (.bool (xs.any p)) ∧ Below w.heap.size w w' := by
  have H := Lib.hid (indexFuncInt Fn capt p xs v w hv hcf hf)
  have HA := Lib.hid (idxOf_any p xs)
  clear hcf hf hv
  generalize idxOf p xs = i at H HA
  go_enter Tryd.func60, Tryd.ntmps60
  go_wp2_with fail
  refine H.out.mono ?_
  rintro e w1 ⟨rfl, hB⟩
  go_wp2
  go_ret
  exact ⟨by rw [← HA.out]; rfl, hB⟩

def colBad (n : Nat) (c : Int) : Bool := !decide (0 ≤ c ∧ c ≤ (n : Int) - 1)
def pickAt (r : List Val) (c : Int) : Val := r[c.toNat]?.getD ⟨0, 0, ⟨#[]⟩⟩
def projOf (r : List Val) (cs : List Int) : List Val × Int :=
  if validRow r = true then (if cs.any (colBad r.length) = true then ([], 7) else if 8 < cs.length then ([], 4) else (cs.map (pickAt r), 0)) else ([], 1)
def Proj (r : List Val) (cs : List Int) (w : World) (e : Ending) (w' : World) : Prop :=
  ∃ v, e = .returned (.tuple #[v, .int .i64 (projOf r cs).2]) ∧ tRow.rv (mem w') [v] (projOf r cs).1 ∧ Below w.heap.size w w'

set_option maxHeartbeats 400000 in
theorem proj1_any (r : List Val) (c : Int) (b : Nat) (v : Value) (w : World) (hb : w.cell? ⟨b, 0, none⟩ = some v) (hv : tRow.rv (mem w) [v] r) :
    Calls Tryd.prog 61 #[.int .i64 c, .pointer (some ⟨b, 0, none⟩)] w fun e w' => e = .returned (.bool (colBad r.length c)) ∧ Below w.heap.size w w' := by
  obtain ⟨a, cap, rfl, hl, hm, hv⟩ := slice_form hv
  have hcap : cap ≤ 9223372036854775807 := by unfold maxLen at hm; exact hm
  have HC := Lib.hid (show colBad r.length c = !decide (0 ≤ c ∧ c ≤ (r.length : Int) - 1) from rfl)
  generalize colBad r.length c = z at *
  generalize hq : decide (0 ≤ c ∧ c ≤ (r.length : Int) - 1) = q at HC
  have HQ := Lib.hid hq
  clear hm hq hv
  go_enter Tryd.func61, Tryd.ntmps61
  go_wp2_with fail
  refine (rowWithin_any _ _ _ _).mono ?_
  rintro e w' ⟨rfl, rfl⟩
  rw [HQ.out]
  go_wp2
  go_ret
  exact ⟨by rw [HC.out]; rfl, Below.refl _ _⟩

theorem Tryd.infoVal : (Tryd.prog.info? 30).map (fun i => (i.zero, i.size, i.bytes)) = some (some (.agg #[.int .i64 0, .int .i64 0, .string ⟨#[]⟩]), tVal.sz, 32) := by kernel_rfl
theorem map_snoc {α β : Type} (f : α → β) {l : List α} {k : Nat} (h : k < l.length) : (l.take (k + 1)).map f = (l.take k).map f ++ [f l[k]] := by
  rw [List.take_add_one, List.getElem?_eq_getElem h, List.map_append]; rfl

theorem projOf_cases (r : List Val) (cs : List Int) : (validRow r = false → projOf r cs = ([], 1)) ∧ (validRow r = true → cs.any (colBad r.length) = true → projOf r cs = ([], 7)) ∧
    (validRow r = true → cs.any (colBad r.length) = false → 8 < cs.length → projOf r cs = ([], 4)) ∧ (validRow r = true → cs.any (colBad r.length) = false → ¬ 8 < cs.length → projOf r cs = (cs.map (pickAt r), 0)) := by
  unfold projOf
  refine ⟨fun h => by rw [h]; rfl, fun h h2 => by rw [h, h2]; rfl, fun h h2 h3 => ?_, fun h h2 h3 => ?_⟩
  · rw [h, h2, if_pos rfl, if_neg Bool.false_ne_true, if_pos h3]
  · rw [h, h2, if_pos rfl, if_neg Bool.false_ne_true, if_neg h3]

/-- What both loops that pick columns keep. -/
def PickInv (r : List Val) (cs : List Int) (w : World) (k : Nat) (ov : Value) (wr : World) : Prop :=
  Owns tVal wr w.heap.size 30 ov ((cs.take k).map (pickAt r)) ∧ Below w.heap.size w wr
theorem pick_in {r : List Val} {cs : List Int} (h : cs.any (colBad r.length) = false) {k : Nat} (hk : k < cs.length) : 0 ≤ cs[k] ∧ cs[k].toNat < r.length := by
  rw [List.any_eq_false] at h
  have := h _ (List.getElem_mem hk)
  simp [colBad] at this
  omega
theorem pick_eq {r : List Val} {c : Int} (h : c.toNat < r.length) : pickAt r c = r[c.toNat] := by
  unfold pickAt
  rw [List.getElem?_eq_getElem h]
  rfl

theorem row_val {m : Mem} {xs : List Val} {a : Option Addr} {n cap : Nat} (h : tRow.rv m [.slice a n cap] xs) {k : Nat} (hk : k < xs.length) :
    inI64 xs[k].kind ∧ inI64 xs[k].n ∧ xs[k].s.size ≤ maxLen := by
  obtain ⟨b, o, rfl, hat⟩ := slice_at h hk
  exact (val_at hat).2.2.2

set_option maxRecDepth 100000 in
set_option maxHeartbeats 1000000 in
theorem rowProject_any (r : List Val) (cs : List Int) (v u : Value) (w : World) (hv : tRow.rv (mem w) [v] r) (hu : tInts.rv (mem w) [u] cs) :
    Calls Tryd.prog 25 #[v, u] w (Proj r cs w) := by
  have hb0 : ∀ o, Below w.heap.size w (w.alloc o) := fun o => (Below.refl _ _).alloc (Nat.le_refl _) o
  have HV := Lib.hid (fun wr (h : Below w.heap.size w wr) => rowValid_any r v wr (tRow.mono _ _ _ _ (below_mem h) hv))
  have HC := Lib.hid (fun wr (h : Below w.heap.size w wr) (hc : wr.cell? ⟨w.heap.size, 0, none⟩ = some v) => containsFuncInt 61 #[.pointer (some ⟨w.heap.size, 0, none⟩)] (colBad r.length) cs u wr (tInts.mono _ _ _ _ (below_mem h) hu) (fun _ _ => rfl)
    (fun x _ w2 hb2 => proj1_any r x w.heap.size v w2 (below_mem hb2 _ _ _ hc) (tRow.mono _ _ _ _ (below_mem (pure_trans h hb2)) hv)))
  have HP := Lib.hid (projOf_cases r cs)
  have HIN := Lib.hid (fun h k hk => pick_in (r := r) (cs := cs) h (k := k) hk)
  obtain ⟨a1, cap1, rfl, hl1, hm1, hv⟩ := slice_form hv
  have hcap1 : cap1 ≤ 9223372036854775807 := by unfold maxLen at hm1; exact hm1
  obtain ⟨a2, cap2, rfl, hl2, hm2, hu⟩ := slice_form hu
  have hcap2 : cap2 ≤ 9223372036854775807 := by unfold maxLen at hm2; exact hm2
  clear hm1 hm2
  generalize validRow r = vr at HV HP
  generalize cs.any (colBad r.length) = vc at HC HP HIN
  have hbox := mem_cells_new w #[.slice a1 r.length cap1] 25 (0, 0) 0
  go_enter Tryd.func25, Tryd.ntmps25
  go_wp2_with fail
  refine (HV.out _ (hb0 _)).mono ?_
  rintro e w1 ⟨rfl, hb1⟩
  have hbox : w1.cell? ⟨w.heap.size, 0, none⟩ = some (.slice a1 r.length cap1) := below_mem hb1 _ _ _ hbox
  have hB := pure_trans (hb0 _) hb1
  clear hb1 HV
  cases vr
  · have HQ := Lib.hid (HP.out.1 (by trivial))
    go_wp2
    go_ret2
    exact ⟨_, by rw [HQ.out]; rfl, by rw [HQ.out]; exact slice_nil _ _, hB⟩
  · go_wp2_with fail
    refine (HC.out _ hB hbox).mono ?_
    rintro e w2 ⟨rfl, hb2⟩
    have hbox : w2.cell? ⟨w.heap.size, 0, none⟩ = some (.slice a1 r.length cap1) := below_mem hb2 _ _ _ hbox
    have hB := pure_trans hB hb2
    clear hb2 HC
    cases vc
    · have HIK := Lib.hid (HIN.out (by trivial))
      by_cases h8 : 8 < cs.length
      · have HQ := Lib.hid (HP.out.2.2.1 (by trivial) (by trivial) h8)
        go_wp2
        go_ret2
        exact ⟨_, by rw [HQ.out]; rfl, by rw [HQ.out]; exact slice_nil _ _, hB⟩
      · have HQ := Lib.hid (HP.out.2.2.2 (by trivial) (by trivial) h8)
        go_wp2
        go_loopw [6, 23] (fun ov i wr => ∃ k : Nat, k ≤ cs.length ∧ i = .int .i64 k ∧ Owns tVal wr (w.heap.size + 1) 30 ov ((cs.take k).map (pickAt r)) ∧ Below w.heap.size w wr ∧ wr.cell? ⟨w.heap.size, 0, none⟩ = some (.slice a1 r.length cap1)) (fun _ i _ => cs.length - (intOf i).toNat)
        case atStart => exact ⟨0, by omega, rfl, Owns.nil _ _ _ _, hB, hbox⟩
        case round =>
          clear hbox
          obtain ⟨k, hk, rfl, hown, hB, hbox⟩ := hrel
          have hbs : w.heap.size + 1 ≤ wr.heap.size := by have := mem_lt (w := wr) hbox; omega
          by_cases hlt : k < cs.length
          · obtain ⟨hc1, hc2⟩ := HIK.out k hlt
            obtain ⟨b, o, rfl, d0, hin⟩ := int_cell (tInts.mono _ _ _ _ (below_mem hB) hu) hlt
            have d0 : wr.cell? ⟨b, o + k, none⟩ = some (.int .i64 cs[k]) := d0
            obtain ⟨b1, o1, rfl, c0, c1, c2⟩ := row_cells (tRow.mono _ _ _ _ (below_mem hB) hv) hc2
            have c0 : wr.cell? ⟨b1, o1 + cs[k].toNat * 3, none⟩ = some (.int .i64 r[cs[k].toNat].kind) := c0
            have c1 : wr.cell? ⟨b1, o1 + cs[k].toNat * 3 + 1, none⟩ = some (.int .i64 r[cs[k].toNat].n) := c1
            have c2 : wr.cell? ⟨b1, o1 + cs[k].toNat * 3 + 2, none⟩ = some (.string r[cs[k].toNat].s) := c2
            have hrv := (row_val (tRow.mono _ _ _ _ (below_mem hB) hv) hc2)
            have HSN := Lib.hid ((map_snoc (pickAt r) hlt).trans (by rw [pick_eq hc2]))
            have HLEN := Lib.hid (show ((cs.take k).map (pickAt r)).length = k by rw [List.length_map, List.length_take]; omega)
            clear hu hv HIN HIK
            generalize (cs.take k).map (pickAt r) = l at hown HSN HLEN
            generalize r[cs[k].toNat] = x at *
            generalize cs[k] = c at *
            obtain ⟨n, rfl⟩ : ∃ n : Nat, c = n := ⟨c.toNat, by omega⟩
            simp only [Int.toNat_natCast] at *
            obtain ⟨xk, xn, xs⟩ := x
            simp only at c0 c1 c2 hrv
            go_wp2_with (at_builtin; refine wpList_append_one rfl _ _ 25 rfl tVal Tryd.underlying25 Tryd.infoVal rfl (by decide) (w.heap.size + 1) _ l rfl (hown.alloc _) _ _ ⟨xk, xn, xs⟩ rfl [.int .i64 xk, .int .i64 xn, .string xs] ?c1 ?c2 ?c3 ?c4 ?c5 ?c6 ?_)
            case c1 =>
              intro j u hj
              match j, hj with
              | 0, hj => simp at hj; subst hj; simp [mem]
              | 1, hj => simp at hj; subst hj; simp [mem]
              | 2, hj => simp at hj; subst hj; simp [mem]
            case c2 => exact ⟨rfl, hrv⟩
            case c3 => first | exact ⟨rfl, rfl, rfl⟩ | (intro u hu; simp at hu; rcases hu with rfl | rfl | rfl <;> rfl)
            case c4 => rw [HLEN.out]; unfold maxLen; omega
            case c5 => rw [HLEN.out]; omega
            case c6 => first | omega | (simp; omega)
            · intro v' w3 hown' hgrow _
              have hB3 : Below w.heap.size w w3 := (hB.alloc hB.size _).grown hgrow (by simp; omega) (fun k hk => by have := (hown.lt k hk).1; omega)
              have hbox3 : w3.cell? ⟨w.heap.size, 0, none⟩ = some (.slice (some ⟨b1, o1, none⟩) r.length cap1) :=
                (mem_of_block ((hgrow.block _ (by simp; omega) (fun e => by have := (hown.lt _ e.symm).1; omega)).trans (Below.heap_alloc _ _ _ (by omega))) _).trans hbox
              clear hown hgrow hB hbox c0 c1 c2 d0
              go_wp2
              go_roundw
              case rel => exact ⟨k + 1, by omega, by go_num, by rw [HSN.out]; exact hown', hB3, hbox3⟩
              case measure => simp [intOf]; omega
          · obtain rfl : k = cs.length := by omega
            rw [List.take_length] at hown
            obtain ⟨a', cap', rfl, _⟩ := hown.len
            go_wp2
            go_ret2
            refine ⟨_, ?_, by rw [HQ.out]; exact hown.rv', hB⟩
            rw [HQ.out]
            first | rfl | (rw [List.length_map]; rfl) | (simp only [List.length_map]; rfl)
    · have HQ := Lib.hid (HP.out.2.1 (by trivial) (by trivial))
      go_wp2
      go_ret2
      exact ⟨_, by rw [HQ.out]; rfl, by rw [HQ.out]; exact slice_nil _ _, hB⟩
end Go.Proofs.YtkldimaoafgolaaDoor
/- The reference's Project. -/
namespace Go.Proofs.YtkldimaoafgolaaDoor
open Go.RowKit

set_option maxRecDepth 100000 in
set_option maxHeartbeats 1000000 in
theorem picks_any (r : List Val) (cs : List Int) (v u : Value) (w : World) (hv : tRow.rv (mem w) [v] r) (hu : tInts.rv (mem w) [u] cs) (hin : cs.any (colBad r.length) = false) (h8 : ¬ 8 < cs.length) :
    Calls Tryd.prog 62 #[v, u] w fun e w' => ∃ x, e = .returned x ∧ tRow.rv (mem w') [x] (cs.map (pickAt r)) ∧ Below w.heap.size w w' := by
  have HIN := Lib.hid (fun k hk => pick_in (r := r) (cs := cs) hin (k := k) hk)
  clear hin
  obtain ⟨a1, cap1, rfl, hl1, hm1, hv⟩ := slice_form hv
  have hcap1 : cap1 ≤ 9223372036854775807 := by unfold maxLen at hm1; exact hm1
  obtain ⟨a2, cap2, rfl, hl2, hm2, hu⟩ := slice_form hu
  have hcap2 : cap2 ≤ 9223372036854775807 := by unfold maxLen at hm2; exact hm2
  clear hm1 hm2
  go_enter Tryd.func62, Tryd.ntmps62
  go_wp2
  go_loopw [5, 6] (fun ov i wr => ∃ k : Nat, k ≤ cs.length ∧ i = .int .i64 k ∧ Owns tVal wr w.heap.size 30 ov ((cs.take k).map (pickAt r)) ∧ Below w.heap.size w wr) (fun _ i _ => cs.length - (intOf i).toNat)
  case atStart => exact ⟨0, by omega, rfl, Owns.nil _ _ _ _, Below.refl _ _⟩
  case round =>
    obtain ⟨k, hk, rfl, hown, hB⟩ := hrel
    by_cases hlt : k < cs.length
    · obtain ⟨hc1, hc2⟩ := HIN.out k hlt
      obtain ⟨b, o, rfl, d0, hin⟩ := int_cell (tInts.mono _ _ _ _ (below_mem hB) hu) hlt
      have d0 : wr.cell? ⟨b, o + k, none⟩ = some (.int .i64 cs[k]) := d0
      obtain ⟨b1, o1, rfl, c0, c1, c2⟩ := row_cells (tRow.mono _ _ _ _ (below_mem hB) hv) hc2
      have c0 : wr.cell? ⟨b1, o1 + cs[k].toNat * 3, none⟩ = some (.int .i64 r[cs[k].toNat].kind) := c0
      have c1 : wr.cell? ⟨b1, o1 + cs[k].toNat * 3 + 1, none⟩ = some (.int .i64 r[cs[k].toNat].n) := c1
      have c2 : wr.cell? ⟨b1, o1 + cs[k].toNat * 3 + 2, none⟩ = some (.string r[cs[k].toNat].s) := c2
      have hrv := (row_val (tRow.mono _ _ _ _ (below_mem hB) hv) hc2)
      have HSN := Lib.hid ((map_snoc (pickAt r) hlt).trans (by rw [pick_eq hc2]))
      have HLEN := Lib.hid (show ((cs.take k).map (pickAt r)).length = k by rw [List.length_map, List.length_take]; omega)
      clear hu hv HIN
      generalize (cs.take k).map (pickAt r) = l at hown HSN HLEN
      generalize r[cs[k].toNat] = x at *
      generalize cs[k] = c at *
      obtain ⟨n, rfl⟩ : ∃ n : Nat, c = n := ⟨c.toNat, by omega⟩
      simp only [Int.toNat_natCast] at *
      obtain ⟨xk, xn, xs⟩ := x
      simp only at c0 c1 c2 hrv
      go_wp2_with (at_builtin; refine wpList_append_one rfl _ _ 25 rfl tVal Tryd.underlying25 Tryd.infoVal rfl (by decide) w.heap.size _ l rfl (hown.alloc _) _ _ ⟨xk, xn, xs⟩ rfl [.int .i64 xk, .int .i64 xn, .string xs] ?c1 ?c2 ?c3 ?c4 ?c5 ?c6 ?_)
      case c1 =>
        intro j u hj
        match j, hj with
        | 0, hj => simp at hj; subst hj; simp [mem]
        | 1, hj => simp at hj; subst hj; simp [mem]
        | 2, hj => simp at hj; subst hj; simp [mem]
      case c2 => exact ⟨rfl, hrv⟩
      case c3 => first | exact ⟨rfl, rfl, rfl⟩ | (intro u hu; simp at hu; rcases hu with rfl | rfl | rfl <;> rfl)
      case c4 => rw [HLEN.out]; unfold maxLen; omega
      case c5 => rw [HLEN.out]; omega
      case c6 => first | omega | (have := hB.size; simp; omega)
      · intro v' w3 hown' hgrow _
        have hB3 : Below w.heap.size w w3 := (hB.alloc hB.size _).grown hgrow (by have := hB.size; simp; omega) (fun k hk => (hown.lt k hk).1)
        clear hown hgrow hB c0 c1 c2 d0
        go_wp2
        go_roundw
        case rel => exact ⟨k + 1, by omega, by go_num, by rw [HSN.out]; exact hown', hB3⟩
        case measure => simp [intOf]; omega
    · obtain rfl : k = cs.length := by omega
      rw [List.take_length] at hown
      obtain ⟨a', cap', rfl, _⟩ := hown.len
      go_wp2
      go_ret
      exact ⟨_, rfl, hown.rv', hB⟩

set_option maxRecDepth 100000 in
set_option maxHeartbeats 1000000 in
theorem refProject_any (r : List Val) (cs : List Int) (v u : Value) (w : World) (hv : tRow.rv (mem w) [v] r) (hu : tInts.rv (mem w) [u] cs) :
    Calls Tryd.prog 26 #[v, u] w (Proj r cs w) := by
  have HV := Lib.hid (refValid_any r v w hv)
  have HK := Lib.hid (fun wr (h : Below w.heap.size w wr) hin h8 => picks_any r cs v u wr (tRow.mono _ _ _ _ (below_mem h) hv) (tInts.mono _ _ _ _ (below_mem h) hu) hin h8)
  have HP := Lib.hid (projOf_cases r cs)
  obtain ⟨a1, cap1, rfl, hl1, hm1, hv⟩ := slice_form hv
  have hcap1 : cap1 ≤ 9223372036854775807 := by unfold maxLen at hm1; exact hm1
  obtain ⟨a2, cap2, rfl, hl2, hm2, hu⟩ := slice_form hu
  have hcap2 : cap2 ≤ 9223372036854775807 := by unfold maxLen at hm2; exact hm2
  clear hm1 hm2 hv
  generalize validRow r = vr at HV HP
  go_enter Tryd.func26, Tryd.ntmps26
  go_wp2_with fail
  refine HV.out.mono ?_
  rintro e w1 ⟨rfl, hB⟩
  clear HV
  cases vr
  · have HQ := Lib.hid (HP.out.1 (by trivial))
    go_wp2
    go_ret2
    exact ⟨_, by rw [HQ.out]; rfl, by rw [HQ.out]; exact slice_nil _ _, hB⟩
  · go_wp2
    go_loopw [6] (fun i wr => ∃ k : Nat, k ≤ cs.length ∧ i = .int .i64 k ∧ Hid (∀ c ∈ cs.take k, colBad r.length c = false) ∧ Below w.heap.size w wr) (fun i _ => cs.length - (intOf i).toNat)
    case atStart => exact ⟨0, by omega, rfl, Lib.hid (by simp), hB⟩
    case round =>
      clear hB
      obtain ⟨k, hk, rfl, HT, hB⟩ := hrel
      by_cases hlt : k < cs.length
      · obtain ⟨b, o, rfl, d0, hin⟩ := int_cell (tInts.mono _ _ _ _ (below_mem hB) hu) hlt
        have d0 : wr.cell? ⟨b, o + k, none⟩ = some (.int .i64 cs[k]) := d0
        have HB1 := Lib.hid (show colBad r.length cs[k] = !decide (0 ≤ cs[k] ∧ cs[k] ≤ (r.length : Int) - 1) from rfl)
        have HI := Lib.hid (show colBad r.length cs[k] = true → cs.any (colBad r.length) = true from fun h => List.any_eq_true.2 ⟨_, List.getElem_mem hlt, h⟩)
        have HN := Lib.hid (show colBad r.length cs[k] = false → ∀ c ∈ cs.take (k + 1), colBad r.length c = false from fun h => mem_take_snoc hlt HT.out h)
        clear HT hu
        generalize colBad r.length cs[k] = z at *
        generalize cs[k] = c at *
        generalize hq : decide (0 ≤ c ∧ c ≤ (r.length : Int) - 1) = q at HB1
        have HQ := Lib.hid hq
        clear hq
        go_wp2_with fail
        refine (refRowWithin_any _ _ _ _).mono ?_
        rintro e w' ⟨rfl, rfl⟩
        rw [HQ.out]
        cases q
        · have hz : z = true := HB1.out
          have HR := Lib.hid (HP.out.2.1 (by trivial) (HI.out hz))
          go_wp2
          go_ret2
          exact ⟨_, by rw [HR.out]; rfl, by rw [HR.out]; exact slice_nil _ _, hB⟩
        · have hz : z = false := HB1.out
          have HN2 := Lib.hid (HN.out hz)
          go_wp2
          go_roundw
          case rel => exact ⟨k + 1, by omega, by go_num, HN2, hB⟩
          case measure => simp [intOf]; omega
      · obtain rfl : k = cs.length := by omega
        have hany : cs.any (colBad r.length) = false := by
          rw [List.any_eq_false]
          intro c hc
          have := HT.out c (by rw [List.take_length]; exact hc)
          rw [this]; exact Bool.false_ne_true
        by_cases h8 : 8 < cs.length
        · have HR := Lib.hid (HP.out.2.2.1 (by trivial) hany h8)
          clear hany
          go_wp2
          go_ret2
          exact ⟨_, by rw [HR.out]; rfl, by rw [HR.out]; exact slice_nil _ _, hB⟩
        · have HR := Lib.hid (HP.out.2.2.2 (by trivial) hany h8)
          have HK2 := Lib.hid (HK.out _ hB hany h8)
          clear hany
          go_wp2_with fail
          refine HK2.out.mono ?_
          rintro e w2 ⟨x, rfl, hx, hb2⟩
          have hB2 := pure_trans hB hb2
          go_wp2
          go_ret2
          exact ⟨_, by rw [HR.out]; rfl, by rw [HR.out]; exact hx, hB2⟩
end Go.Proofs.YtkldimaoafgolaaDoor
/- The reference's Same. -/
namespace Go.Proofs.YtkldimaoafgolaaDoor
open Go.RowKit

def valEq (x y : Val) : Bool := x.kind == y.kind && x.n == y.n && x.s.toList == y.s.toList
def sameRow (xs ys : List Val) : Bool := xs.length == ys.length && (xs.zip ys).all fun p => valEq p.1 p.2

theorem sameRow_true {xs ys : List Val} (hl : xs.length = ys.length) (h : ∀ j (h : j < xs.length) (h' : j < ys.length), valEq xs[j] ys[j] = true) : sameRow xs ys = true := by
  unfold sameRow
  rw [Bool.and_eq_true, beq_iff_eq, List.all_eq_true]
  refine ⟨hl, fun p hp => ?_⟩
  obtain ⟨j, hj, rfl⟩ := List.getElem_of_mem hp
  rw [List.length_zip] at hj
  rw [List.getElem_zip]
  exact h j (by omega) (by omega)
theorem sameRow_false {xs ys : List Val} {j : Nat} (h1 : j < xs.length) (h2 : j < ys.length) (h : valEq xs[j] ys[j] = false) : sameRow xs ys = false := by
  unfold sameRow
  rw [Bool.and_eq_false_iff]
  right
  rw [List.all_eq_false]
  exact ⟨(xs.zip ys)[j]'(by rw [List.length_zip]; omega), List.getElem_mem _, by rw [List.getElem_zip]; simpa using h⟩
theorem sameRow_len {xs ys : List Val} (h : xs.length ≠ ys.length) : sameRow xs ys = false := by
  unfold sameRow
  rw [Bool.and_eq_false_iff]
  exact .inl (by simpa using h)
theorem valEq_mk (a b : Int) (s : ByteArray) (c d : Int) (t : ByteArray) : valEq ⟨a, b, s⟩ ⟨c, d, t⟩ = true ↔ a = c ∧ b = d ∧ s.toList = t.toList := by
  simp [valEq, and_assoc]

set_option maxRecDepth 100000 in
set_option maxHeartbeats 1000000 in
theorem same_any (xs ys : List Val) (v u : Value) (w : World) (hv : tRow.rv (mem w) [v] xs) (hu : tRow.rv (mem w) [u] ys) :
    Calls Tryd.prog 27 #[v, u] w fun e w' => e = .returned (.bool (sameRow xs ys)) ∧ Below w.heap.size w w' := by
  obtain ⟨a1, cap1, rfl, hl1, hm1, hv⟩ := slice_form hv
  have hcap1 : cap1 ≤ 9223372036854775807 := by unfold maxLen at hm1; exact hm1
  obtain ⟨a2, cap2, rfl, hl2, hm2, hu⟩ := slice_form hu
  have hcap2 : cap2 ≤ 9223372036854775807 := by unfold maxLen at hm2; exact hm2
  clear hm1 hm2
  by_cases hle : xs.length = ys.length
  · go_enter Tryd.func27, Tryd.ntmps27
    go_wp2
    go_loopw [5] (fun i wr => ∃ k : Nat, k ≤ xs.length ∧ i = .int .i64 k ∧ Hid (∀ j (h : j < xs.length) (h' : j < ys.length), j < k → valEq xs[j] ys[j] = true) ∧ Below w.heap.size w wr) (fun i _ => xs.length - (intOf i).toNat)
    case atStart => exact ⟨0, by omega, rfl, Lib.hid (fun j h h' hj => by omega), Below.refl _ _⟩
    case round =>
      obtain ⟨k, hk, rfl, HT, hB⟩ := hrel
      by_cases hlt : k < xs.length
      · have hlt2 : k < ys.length := by omega
        obtain ⟨b, o, rfl, c0, c1, c2⟩ := row_cells (tRow.mono _ _ _ _ (below_mem hB) hv) hlt
        have c0 : wr.cell? ⟨b, o + k * 3, none⟩ = some (.int .i64 xs[k].kind) := c0
        have c1 : wr.cell? ⟨b, o + k * 3 + 1, none⟩ = some (.int .i64 xs[k].n) := c1
        have c2 : wr.cell? ⟨b, o + k * 3 + 2, none⟩ = some (.string xs[k].s) := c2
        obtain ⟨b2, o2, rfl, d0, d1, d2⟩ := row_cells (tRow.mono _ _ _ _ (below_mem hB) hu) hlt2
        have d0 : wr.cell? ⟨b2, o2 + k * 3, none⟩ = some (.int .i64 ys[k].kind) := d0
        have d1 : wr.cell? ⟨b2, o2 + k * 3 + 1, none⟩ = some (.int .i64 ys[k].n) := d1
        have d2 : wr.cell? ⟨b2, o2 + k * 3 + 2, none⟩ = some (.string ys[k].s) := d2
        have hBd := hB.drew
        have HN := Lib.hid (show valEq xs[k] ys[k] = false → sameRow xs ys = false from fun h => sameRow_false hlt hlt2 h)
        have HY := Lib.hid (show valEq xs[k] ys[k] = true → ∀ j (h : j < xs.length) (h' : j < ys.length), j < k + 1 → valEq xs[j] ys[j] = true from fun h j h1 h2 hj => by
          by_cases hjk : j < k
          · exact HT.out j h1 h2 hjk
          · obtain rfl : j = k := by omega
            exact h)
        have HV := Lib.hid (valEq_mk xs[k].kind xs[k].n xs[k].s ys[k].kind ys[k].n ys[k].s)
        clear hv hu HT
        generalize hx : xs[k] = x at c0 c1 c2 HN HY HV
        generalize hy : ys[k] = y at d0 d1 d2 HN HY HV
        clear hx hy
        obtain ⟨xk, xn, xs'⟩ := x
        obtain ⟨yk, yn, ys'⟩ := y
        simp only at c0 c1 c2 d0 d1 d2 HV
        by_cases he : xk = yk ∧ xn = yn ∧ xs'.toList = ys'.toList
        · have HY2 := Lib.hid (HY.out (HV.out.2 he))
          obtain ⟨e1, e2, e3⟩ := he
          clear HN HY HV
          go_wp2
          go_region
          all_goals
            go_wp2
            go_roundw
            case rel => exact ⟨k + 1, by omega, by go_num, HY2, hBd⟩
            case measure => simp [intOf]; omega
        · have hf : valEq ⟨xk, xn, xs'⟩ ⟨yk, yn, ys'⟩ = false := by
            rw [Bool.eq_false_iff]; exact fun h => he (HV.out.1 h)
          have HN2 := Lib.hid (HN.out hf)
          clear HN HY HV hf
          by_cases e1 : xk = yk
          · by_cases e2 : xn = yn
            · have e3 : ¬ xs'.toList = ys'.toList := fun e3 => he ⟨e1, e2, e3⟩
              clear he
              go_wp2
              go_region
              all_goals
                go_wp2
                go_ret
                exact ⟨by rw [HN2.out]; rfl, hBd⟩
            · clear he
              go_wp2
              go_region
              all_goals
                go_wp2
                go_ret
                exact ⟨by rw [HN2.out]; rfl, hBd⟩
          · clear he
            go_wp2
            go_region
            all_goals
              go_wp2
              go_ret
              exact ⟨by rw [HN2.out]; rfl, hBd⟩
      · obtain rfl : k = xs.length := by omega
        have HR := Lib.hid (sameRow_true hle (fun j h h' => HT.out j h h' h))
        clear HT
        go_wp2
        go_ret
        exact ⟨by rw [HR.out]; rfl, hB⟩
  · have HR := Lib.hid (sameRow_len hle)
    go_enter Tryd.func27, Tryd.ntmps27
    go_wp2
    go_ret
    exact ⟨by rw [HR.out]; rfl, Below.refl _ _⟩
end Go.Proofs.YtkldimaoafgolaaDoor
/- Append of a whole slice to a row of the call's own, in readings that ask nothing of memory. -/
namespace Go.Proofs.YtkldimaoafgolaaDoor
open Go.RowKit

theorem flatten_split {β : Type} {s : Nat} (hs : 0 < s) : ∀ (css : List (List β)), (∀ c ∈ css, c.length = s) → ∀ (j : Nat) (v : β), css.flatten[j]? = some v → ∃ k, ∃ h : k < css.length, ∃ r, j = k * s + r ∧ css[k][r]? = some v
  | [], _, j, v, h => by simp at h
  | c :: css, hl, j, v, h => by
    have hc : c.length = s := hl c List.mem_cons_self
    rw [List.flatten_cons] at h
    by_cases hj : j < c.length
    · rw [List.getElem?_append_left hj] at h
      exact ⟨0, by simp, j, by omega, by simpa using h⟩
    · rw [List.getElem?_append_right (by omega)] at h
      obtain ⟨k, hk, r, e, hv⟩ := flatten_split hs css (fun x hx => hl x (List.mem_cons_of_mem _ hx)) _ _ h
      exact ⟨k + 1, by simp; omega, r, by rw [Nat.add_mul]; omega, by simpa using hv⟩

theorem flatten_len {β : Type} {s : Nat} : ∀ (css : List (List β)), (∀ c ∈ css, c.length = s) → css.flatten.length = css.length * s
  | [], _ => by simp
  | c :: css, hl => by
    rw [List.flatten_cons, List.length_append, flatten_len css (fun x hx => hl x (List.mem_cons_of_mem _ hx)), hl c List.mem_cons_self, List.length_cons, Nat.add_mul]
    omega

theorem slice_css {α : Type} {t : Ty α} {m : Mem} {b o : Nat} {n cap : Nat} {ys : List α} (h : (tSlice t).rv m [.slice (some ⟨b, o, none⟩) n cap] ys) :
    ∃ css : List (List Value), css.length = ys.length ∧ (∀ c ∈ css, c.length = t.sz) ∧ ∀ k, (h : k < css.length) → (h' : k < ys.length) → At m b (o + k * t.sz) css[k] ∧ t.rv m css[k] ys[k] := by
  have hk : ∀ k : Fin ys.length, ∃ cs, At m b (o + k.val * t.sz) cs ∧ t.rv m cs ys[k.val] := fun k => by
    obtain ⟨b', o', e, hat⟩ := slice_at h k.isLt
    injection e with e
    injection e with e1 e2
    subst e1; subst e2
    exact hat
  refine ⟨List.ofFn (fun k => Classical.choose (hk k)), by simp, fun c hc => ?_, fun k h1 h2 => ?_⟩
  · obtain ⟨k, rfl⟩ := List.mem_ofFn.1 hc
    exact t.len _ _ _ (Classical.choose_spec (hk k)).2
  · simp only [List.getElem_ofFn]
    exact Classical.choose_spec (hk ⟨k, h2⟩)

section
variable {P : Program}
theorem run_append_flat {α : Type} {t : Ty α} (hf : t.flat) (hone : ∀ m cs x, t.rv m cs x → ∀ u ∈ cs, u.oneCell' = true) (w : World) (T ty : TypeId) {e : TypeId} {z : Value} {bytes : Nat} (hT : P.underlying T = some (.slice e))
    (hinf : (P.info? e).map (fun i => (i.zero, i.size, i.bytes)) = some (some z, t.sz, bytes)) (hzs : z.cells.size = t.sz) (hsz : 0 < t.sz) (B : Nat) (v : Value) (xs ys : List α) (hown : Owns t w B e v xs)
    (a : Option Addr) (c : Nat) (hy : (tSlice t).rv (mem w) [.slice a ys.length c] ys) (h63 : xs.length + ys.length ≤ maxLen) (hbytes : (xs.length + ys.length) * bytes ≤ 140737488355328) (hbase : B ≤ w.heap.size) :
    ∃ v' w', (Builtin.append_ #[T, T] ty #[v, .slice a ys.length c]).run P w = .ok v' w' ∧ Owns t w' B e v' (xs ++ ys) ∧ w.grownBy w' v.ownBlock := by
  obtain ⟨i, hi, hz, hsize, hby⟩ := info_parts hinf
  obtain ⟨css, g1, g2, g4, g5⟩ := hown
  by_cases h0 : ys.length = 0
  · obtain rfl := List.length_eq_zero_iff.1 h0
    cases a with
    | none =>
      have hr : (Builtin.append_ #[T, T] ty #[v, .slice none 0 c]).run P w = .ok v w := by
        rcases g2.2 with ⟨rfl, _⟩ | ⟨g, cap, cur, rfl, _, _, hnc, _⟩
        · simp [Builtin.append_, run_underlying hT, sizeOf, typeInfo, hi, Builtin.lenOf, Builtin.firstCells]
        · simp [Builtin.append_, run_underlying hT, sizeOf, typeInfo, hi, Builtin.lenOf, Builtin.firstCells, hnc, storeCells]
      exact ⟨v, w, hr, by rw [List.append_nil]; exact ⟨css, g1, g2, g4, g5⟩, ⟨rfl, rfl, rfl, Nat.le_refl _, fun _ _ _ => rfl⟩⟩
    | some ad =>
      obtain ⟨v', w', hr, h2, h3, _⟩ := run_append_own (P := P) w B T ty e i z t.sz bytes hT hi hz hsize hby hzs hsz v xs.length css.flatten g2 ad 0 c [] (by simp) (fun j u hj => by simp at hj) (fun u hu => by simp at hu) (by simpa using h63) (by simpa using hbytes) hbase
      exact ⟨v', w', hr, ⟨css, by simp [g1], by simpa using h2, g4, fun k h h' => by
        have h'' : k < xs.length := by simpa using h'
        have := hf _ ((mem w').on (fun b => some b ≠ v'.ownBlock)) _ _ (g5 k h h'')
        simpa using this⟩, h3⟩
  · obtain ⟨b, o, rfl, _⟩ := slice_at hy (k := 0) (by omega)
    obtain ⟨dss, d1, d2, d3⟩ := slice_css hy
    have hl : dss.flatten.length = ys.length * t.sz := by rw [flatten_len dss d2, d1]
    obtain ⟨v', w', hr, h2, h3, _⟩ := run_append_own (P := P) w B T ty e i z t.sz bytes hT hi hz hsize hby hzs hsz v xs.length css.flatten g2 ⟨b, o, none⟩ ys.length c dss.flatten hl (fun j u hj => by
        obtain ⟨k, hk, r, rfl, hv⟩ := flatten_split hsz dss d2 j u hj
        have := (d3 k hk (by omega)).1 r u hv
        rw [Addr.add_lit, ← Nat.add_assoc]
        exact this) (fun u hu => by
        obtain ⟨l, hl, hu⟩ := List.mem_flatten.1 hu
        obtain ⟨k, hk, rfl⟩ := List.getElem_of_mem hl
        exact hone _ _ _ (d3 k hk (by omega)).2 u hu) h63 hbytes hbase
    refine ⟨v', w', hr, ⟨css ++ dss, by simp [g1, d1], by simpa using h2, fun cc hc => ?_, fun k h h' => ?_⟩, h3⟩
    · rcases List.mem_append.1 hc with hc | hc
      · exact g4 _ hc
      · exact d2 _ hc
    · by_cases hlt : k < xs.length
      · rw [List.getElem_append_left (by omega), List.getElem_append_left hlt]
        exact hf _ _ _ _ (g5 k (by omega) hlt)
      · rw [List.getElem_append_right (by omega), List.getElem_append_right (by omega)]
        have hk : k - xs.length < ys.length := by simp at h'; omega
        have := (d3 (k - xs.length) (by omega) hk).2
        simp only [g1]
        exact hf _ _ _ _ this

theorem wpList_append_flat {α : Type} {ops : Array Oper} {rest : List Oper} {o : Oper} {a : Act} {Q : Exit → Act → World → Prop} {w : World} (hgd : o.guard = none) (s x : Operand) (T : TypeId)
    (ho : o.op = .call { callee := .builtin .append, args := #[s, x], argTypes := #[T, T] }) {t : Ty α} (hf : t.flat) (hone : ∀ m cs x, t.rv m cs x → ∀ u ∈ cs, u.oneCell' = true) {e : TypeId} {z : Value} {bytes : Nat} (hT : P.underlying T = some (.slice e))
    (hinf : (P.info? e).map (fun i => (i.zero, i.size, i.bytes)) = some (some z, t.sz, bytes)) (hzs : z.cells.size = t.sz) (hsz : 0 < t.sz) (B : Nat) (v : Value) (xs ys : List α) (hs : a.eval s = v) (hown : Owns t w B e v xs)
    (ad : Option Addr) (n c : Nat) (hx : a.eval x = .slice ad n c) (hn : n = ys.length) (hy : (tSlice t).rv (mem w) [.slice ad n c] ys) (h63 : xs.length + ys.length ≤ maxLen) (hbytes : (xs.length + ys.length) * bytes ≤ 140737488355328) (hbase : B ≤ w.heap.size)
    (h : ∀ v' w', Owns t w' B e v' (xs ++ ys) → w.grownBy w' v.ownBlock → wpList P ops Q rest (a.put o.dst v') w') : wpList P ops Q (o :: rest) a w := by
  subst hn
  refine wpList_plain hgd fun K hK => ?_
  obtain ⟨v', w', hr, h2, h3⟩ := run_append_flat (P := P) hf hone w T o.type hT hinf hzs hsz B v xs ys hown ad c hy h63 hbytes hbase
  unfold Oper.wp execOp
  simp only [ho, resolve, invoke, builtin, Sem.run_bind, Sem.run_pure, Result.andThen_ok, List.map_toArray, List.map_cons, List.map_nil, hs, hx, hr]
  exact hK _ _ (h v' w' h2 h3)
theorem tVal_one : ∀ m cs x, tVal.rv m cs x → ∀ u ∈ cs, u.oneCell' = true := fun m cs x h u hu => by
  obtain ⟨rfl, _⟩ := h
  simp at hu
  rcases hu with rfl | rfl | rfl <;> rfl
end
end Go.Proofs.YtkldimaoafgolaaDoor
/- Own and Concat of the reference. -/
namespace Go.Proofs.YtkldimaoafgolaaDoor
open Go.RowKit

set_option maxRecDepth 100000 in
set_option maxHeartbeats 1000000 in
theorem own_any (xs : List Val) (v : Value) (w : World) (hv : tRow.rv (mem w) [v] xs) (h8 : xs.length ≤ 1000000) :
    Calls Tryd.prog 64 #[v] w fun e w' => ∃ x, e = .returned x ∧ Owns tVal w' w.heap.size 30 x xs ∧ Below w.heap.size w w' := by
  have hb0 : ∀ o, Below w.heap.size w (w.alloc o) := fun o => (Below.refl _ _).alloc (Nat.le_refl _) o
  have hown : ∀ T, T = 30 → Owns tVal (w.alloc (.cells #[] T)) w.heap.size 30 (.slice (some ⟨w.heap.size, 0, none⟩) 0 0) [] := fun T hT => by
    subst hT
    exact ⟨[], rfl, World.ownsRow_lit w #[] 0 (Nat.le_refl _) (Nat.zero_le _) (by simp), fun c h => absurd h (by simp), fun k h => absurd h (by simp)⟩
  obtain ⟨a1, cap1, rfl, hl1, hm1, hv⟩ := slice_form hv
  have HV := Lib.hid (fun o => (tRow.mono _ _ _ _ (below_mem (hb0 o)) hv : tRow.rv (mem (w.alloc o)) _ xs))
  clear hm1 hv
  go_enter Tryd.func64, Tryd.ntmps64
  go_wp2_with (at_builtin; refine wpList_append_flat rfl _ _ 25 rfl tVal_flat tVal_one Tryd.underlying25 Tryd.infoVal rfl (by decide) w.heap.size _ [] xs rfl (hown _ rfl) _ _ _ rfl rfl (HV.out _) ?c1 ?c2 ?c3 ?_)
  case c1 => simp; unfold maxLen; omega
  case c2 => simp; omega
  case c3 => simp
  intro v' w2 hown' hgrow
  have hB : Below w.heap.size w w2 := (hb0 _).grown hgrow (by simp) (fun k hk => by simp [Value.ownBlock] at hk; omega)
  obtain ⟨a', cap', rfl, _⟩ := hown'.len
  clear hown hgrow HV
  go_wp2
  go_ret
  exact ⟨_, rfl, hown', hB⟩

def concOf (a b : List Val) : List Val × Int :=
  if validRow a = true ∧ validRow b = true then (if 8 < a.length + b.length then ([], 4) else (a ++ b, 0)) else ([], 1)
theorem concOf_cases (a b : List Val) : (validRow a = false → concOf a b = ([], 1)) ∧ (validRow b = false → concOf a b = ([], 1)) ∧
    (validRow a = true → validRow b = true → 8 < a.length + b.length → concOf a b = ([], 4)) ∧ (validRow a = true → validRow b = true → ¬ 8 < a.length + b.length → concOf a b = (a ++ b, 0)) := by
  unfold concOf
  refine ⟨fun h => by simp [h], fun h => by simp [h], fun h h2 h3 => ?_, fun h h2 h3 => ?_⟩
  · rw [if_pos ⟨h, h2⟩, if_pos h3]
  · rw [if_pos ⟨h, h2⟩, if_neg h3]
def Conc (a b : List Val) (w : World) (e : Ending) (w' : World) : Prop :=
  ∃ v, e = .returned (.tuple #[v, .int .i64 (concOf a b).2]) ∧ tRow.rv (mem w') [v] (concOf a b).1 ∧ Below w.heap.size w w'

set_option maxRecDepth 100000 in
set_option maxHeartbeats 1000000 in
theorem refConcat_any (a b : List Val) (v u : Value) (w : World) (hv : tRow.rv (mem w) [v] a) (hu : tRow.rv (mem w) [u] b) :
    Calls Tryd.prog 29 #[v, u] w (Conc a b w) := by
  have HV := Lib.hid (refValid_any a v w hv)
  have HW := Lib.hid (fun wr (h : Below w.heap.size w wr) => refValid_any b u wr (tRow.mono _ _ _ _ (below_mem h) hu))
  have HO := Lib.hid (fun wr (h : Below w.heap.size w wr) h8 => own_any a v wr (tRow.mono _ _ _ _ (below_mem h) hv) h8)
  have HP := Lib.hid (concOf_cases a b)
  obtain ⟨a1, cap1, rfl, hl1, hm1, hv⟩ := slice_form hv
  have hcap1 : cap1 ≤ 9223372036854775807 := by unfold maxLen at hm1; exact hm1
  obtain ⟨a2, cap2, rfl, hl2, hm2, hu⟩ := slice_form hu
  have hcap2 : cap2 ≤ 9223372036854775807 := by unfold maxLen at hm2; exact hm2
  clear hm1 hm2 hv
  have H8a := Lib.hid (show validRow a = true → a.length ≤ 8 from fun h => by unfold validRow at h; simp at h; exact h.1)
  have H8b := Lib.hid (show validRow b = true → b.length ≤ 8 from fun h => by unfold validRow at h; simp at h; exact h.1)
  generalize validRow a = va at HV HP H8a
  generalize validRow b = vb at HW HP H8b
  go_enter Tryd.func29, Tryd.ntmps29
  go_wp2_with fail
  refine HV.out.mono ?_
  rintro e w1 ⟨rfl, hB⟩
  clear HV
  cases va
  · have HQ := Lib.hid (HP.out.1 (by trivial))
    go_wp2
    go_ret2
    exact ⟨_, by rw [HQ.out]; rfl, by rw [HQ.out]; exact slice_nil _ _, hB⟩
  · have h8a := H8a.out (by trivial)
    go_wp2_with fail
    refine (HW.out _ hB).mono ?_
    rintro e w2 ⟨rfl, hb2⟩
    have hB2 := pure_trans hB hb2
    clear HW hB hb2
    cases vb
    · have HQ := Lib.hid (HP.out.2.1 (by trivial))
      go_wp2
      go_ret2
      exact ⟨_, by rw [HQ.out]; rfl, by rw [HQ.out]; exact slice_nil _ _, hB2⟩
    · have h8b := H8b.out (by trivial)
      by_cases h8 : 8 < a.length + b.length
      · have HQ := Lib.hid (HP.out.2.2.1 (by trivial) (by trivial) h8)
        go_wp2
        go_ret2
        exact ⟨_, by rw [HQ.out]; rfl, by rw [HQ.out]; exact slice_nil _ _, hB2⟩
      · have HQ := Lib.hid (HP.out.2.2.2 (by trivial) (by trivial) h8)
        go_wp2_with fail
        refine (HO.out _ hB2 (by omega)).mono ?_
        rintro e w3 ⟨x, rfl, hown, hb3⟩
        have hB3 := pure_trans hB2 hb3
        have hsz := hb3.size
        obtain ⟨ax, capx, rfl, _⟩ := hown.len
        have HU := Lib.hid (tRow.mono _ _ _ _ (below_mem hB3) hu)
        go_wp2_with (at_builtin; refine wpList_append_flat rfl _ _ 25 rfl tVal_flat tVal_one Tryd.underlying25 Tryd.infoVal rfl (by decide) w2.heap.size _ a b rfl hown _ _ _ rfl rfl HU.out ?c1 ?c2 ?c3 ?_)
        case c1 => unfold maxLen; omega
        case c2 => omega
        case c3 => omega
        intro v' w4 hown' hgrow
        have hB4 : Below w.heap.size w w4 := hB3.grown hgrow (by have := hB2.size; omega) (fun k hk => by have := (hown.lt k hk).1; have := hB2.size; omega)
        obtain ⟨a', cap', rfl, _⟩ := hown'.len
        clear hown hgrow HU
        go_wp2
        go_ret2
        exact ⟨_, by rw [HQ.out]; rfl, by rw [HQ.out]; exact hown'.rv', hB4⟩
end Go.Proofs.YtkldimaoafgolaaDoor
/- slices.Grow of a nil slice, slices.Concat of two rows, row.Concat. -/
namespace Go.Proofs.YtkldimaoafgolaaDoor
open Go.RowKit

set_option maxRecDepth 100000 in
set_option maxHeartbeats 1000000 in
theorem grow_any (n : Nat) (w : World) (h8 : n ≤ 8) :
    Calls Tryd.prog 90 #[.slice none 0 0, .int .i64 n] w fun e w' => ∃ x, e = .returned x ∧ Owns tVal w' w.heap.size 30 x [] ∧ Below w.heap.size w w' := by
  rcases Nat.eq_zero_or_pos n with rfl | hpos
  · go_enter Tryd.func90, Tryd.ntmps90
    go_wp2
    go_ret
    exact ⟨_, rfl, Owns.nil _ _ _ _, Below.refl _ _⟩
  · have hby : Tryd.t30.bytes = 32 := by kernel_rfl
    have hnx := nextslicecap_zero hpos
    have hge := grownCap_ge w n 0 30
    have hlm := grownCap_le_maxLen w n 0 30 (by unfold maxLen; omega)
    unfold grownCap at hge hlm
    have HGE := Lib.hid hge
    have HLM := Lib.hid hlm
    clear hge hlm
    go_enter Tryd.func90, Tryd.ntmps90
    go_wp2_with fail
    all_goals try (exfalso; rw [hby] at *; omega)
    all_goals try (exfalso; rw [hnx, hby] at *; omega)
    go_ret
    refine ⟨_, rfl, ⟨[], rfl, ⟨by simp, .inr ⟨w.heap.size, _, _, rfl, Nat.le_refl _, heap_alloc_new w _, Nat.zero_le _, HLM.out, ?_, by simp⟩⟩, fun c h => absurd h (by simp), fun k h => absurd h (by simp)⟩, ((Below.refl _ _).alloc (Nat.le_refl _) _).drew⟩
    rw [Array.size_append, size_zeroCells, size_zeroCells]
    have := HGE.out
    show n * 3 + (_ - n) * 3 = _ * 3
    omega
theorem flat_take {α : Type} {ls : List (List α)} {k : Nat} (h : k < ls.length) : (ls.take (k + 1)).flatten = (ls.take k).flatten ++ ls[k] := by
  rw [List.take_add_one, List.getElem?_eq_getElem h, List.flatten_append]
  simp
theorem flat_take_le {α : Type} (ls : List (List α)) (k : Nat) : (ls.take k).flatten.length ≤ ls.flatten.length := by
  have h : ls.flatten = (ls.take k).flatten ++ (ls.drop k).flatten := by rw [← List.flatten_append, List.take_append_drop]
  rw [h, List.length_append]
  omega
def sumLen {α : Type} (ls : List (List α)) (k : Nat) : Nat := (ls.take k).flatten.length
theorem sumLen_succ {α : Type} {ls : List (List α)} {k : Nat} (h : k < ls.length) : sumLen ls (k + 1) = sumLen ls k + ls[k].length := by
  unfold sumLen
  rw [flat_take h, List.length_append]
theorem sumLen_le {α : Type} (ls : List (List α)) (k : Nat) : sumLen ls k ≤ ls.flatten.length := flat_take_le ls k
theorem Owns.lower {α : Type} {t : Ty α} {w : World} {B B' : Nat} {e : TypeId} {v : Value} {xs : List α} (h : Owns t w B e v xs) (hB : B' ≤ B) : Owns t w B' e v xs := by
  obtain ⟨css, h1, ⟨h2, h3⟩, h4, h5⟩ := h
  refine ⟨css, h1, ⟨h2, ?_⟩, h4, h5⟩
  rcases h3 with h3 | ⟨g, cap, cur, e1, hg, r⟩
  · exact .inl h3
  · exact .inr ⟨g, cap, cur, e1, Nat.le_trans hB hg, r⟩
theorem rows_cell {m : Mem} {ls : List (List Val)} {a : Option Addr} {n cap : Nat} (h : tRows.rv m [.slice a n cap] ls) {k : Nat} (hk : k < ls.length) :
    ∃ b o a2 cap2, a = some ⟨b, o, none⟩ ∧ m b (o + k) = some (.slice a2 ls[k].length cap2) ∧ tRow.rv m [.slice a2 ls[k].length cap2] ls[k] ∧ cap2 ≤ maxLen := by
  obtain ⟨b, o, rfl, hat⟩ := slice_at h hk
  obtain ⟨a2, cap2, hc, hr, hm2⟩ := rows_at hat
  have e : k * tRow.sz = k := Nat.mul_one k
  rw [e] at hc
  exact ⟨b, o, a2, cap2, rfl, hc, hr, hm2⟩

set_option maxRecDepth 100000 in
set_option maxHeartbeats 1000000 in
theorem concat_any (ls : List (List Val)) (v : Value) (w : World) (hv : tRows.rv (mem w) [v] ls) (h8 : ls.flatten.length ≤ 8) :
    Calls Tryd.prog 63 #[v] w fun e w' => ∃ x, e = .returned x ∧ tRow.rv (mem w') [x] ls.flatten ∧ Below w.heap.size w w' := by
  obtain ⟨a, cap, rfl, hl, hm, hv⟩ := slice_form hv
  have hcap : cap ≤ 9223372036854775807 := by unfold maxLen at hm; exact hm
  clear hm
  go_enter Tryd.func63, Tryd.ntmps63
  go_wp2
  go_loopw [3, 11] (fun nv i wr => ∃ k : Nat, k ≤ ls.length ∧ i = .int .i64 k ∧ nv = .int .i64 (sumLen ls k : Nat) ∧ Below w.heap.size w wr) (fun _ i _ => ls.length - (intOf i).toNat)
  case atStart => exact ⟨0, by omega, rfl, rfl, Below.refl _ _⟩
  case round =>
    obtain ⟨k, hk, rfl, rfl, hB⟩ := hrel
    have hle := sumLen_le ls k
    by_cases hlt : k < ls.length
    · obtain ⟨b, o, a2, cap2, rfl, hc, hr, hm2⟩ := rows_cell (tRows.mono _ _ _ _ (below_mem hB) hv) hlt
      have hc : wr.cell? ⟨b, o + k, none⟩ = some (.slice a2 ls[k].length cap2) := hc
      have hm2 : cap2 ≤ 9223372036854775807 := by unfold maxLen at hm2; exact hm2
      have hl2 := (slice_len hr).2.1
      have hle2 := sumLen_le ls (k + 1)
      have hft := sumLen_succ hlt
      clear hr hv
      generalize sumLen ls k = n1 at *
      generalize ls.flatten.length = n0 at *
      generalize ls[k].length = n3 at *
      have hs8 : n1 + n3 ≤ 8 := by omega
      have HFT := Lib.hid hft
      clear hft hle2
      go_wp2
      go_roundw
      case rel => exact ⟨k + 1, by omega, by go_num, by rw [HFT.out]; go_num, hB⟩
      case measure => simp [intOf]; omega
    · obtain rfl : k = ls.length := by omega
      have h9 : sumLen ls ls.length ≤ 8 := Nat.le_trans hle h8
      generalize sumLen ls ls.length = n1 at *
      go_wp2_with fail
      refine (grow_any n1 _ h9).mono ?_
      rintro e w2 ⟨x, rfl, hown, hb2⟩
      have hB2 := pure_trans hB hb2
      have hsz := hB.size
      have hown := Owns.lower hown hsz
      have HV := Lib.hid hv
      obtain ⟨ax, capx, rfl, _⟩ := hown.len
      clear hb2 hB hv
      go_wp2
      go_loopw [6, 27] (fun ov i wr => ∃ k : Nat, k ≤ ls.length ∧ i = .int .i64 k ∧ Owns tVal wr w.heap.size 30 ov (ls.take k).flatten ∧ Below w.heap.size w wr) (fun _ i _ => ls.length - (intOf i).toNat)
      case atStart => exact ⟨0, by omega, rfl, hown, hB2⟩
      case round =>
        clear hown hB2
        obtain ⟨k, hk, rfl, hown, hB⟩ := hrel
        have hle := flat_take_le ls k
        by_cases hlt : k < ls.length
        · obtain ⟨b, o, a2, cap2, rfl, hc, hr, hm2⟩ := rows_cell (tRows.mono _ _ _ _ (below_mem hB) HV.out) hlt
          have hc : wr.cell? ⟨b, o + k, none⟩ = some (.slice a2 ls[k].length cap2) := hc
          have hle2 := flat_take_le ls (k + 1)
          have HFT := Lib.hid (flat_take hlt)
          rw [HFT.out, List.length_append] at hle2
          have HR := Lib.hid hr
          clear hr HV
          generalize (ls.take k).flatten = l at hown HFT hle hle2
          generalize ls[k] = y at *
          go_wp2_with (at_builtin; refine wpList_append_flat rfl _ _ 25 rfl tVal_flat tVal_one Tryd.underlying25 Tryd.infoVal rfl (by decide) w.heap.size _ l y rfl hown _ _ _ rfl rfl HR.out ?c1 ?c2 ?c3 ?_)
          case c1 => unfold maxLen; omega
          case c2 => omega
          case c3 => exact hB.size
          intro v' w4 hown' hgrow
          have hB4 : Below w.heap.size w w4 := hB.grown hgrow hB.size (fun k hk => (hown.lt k hk).1)
          clear hown hgrow HR hB hc
          go_wp2
          go_roundw
          case rel => exact ⟨k + 1, by omega, by go_num, by rw [HFT.out]; exact hown', hB4⟩
          case measure => simp [intOf]; omega
        · obtain rfl : k = ls.length := by omega
          rw [List.take_length] at hown
          obtain ⟨a', cap', rfl, _⟩ := hown.len
          go_wp2
          go_ret
          exact ⟨_, rfl, hown.rv', hB⟩
end Go.Proofs.YtkldimaoafgolaaDoor
/- row.Concat. -/
namespace Go.Proofs.YtkldimaoafgolaaDoor
open Go.RowKit

theorem rows2 {m : Mem} {b : Nat} {x y : List Val} {u v : Value} (h0 : m b 0 = some u) (h1 : m b 1 = some v) (hx : tRow.rv m [u] x) (hy : tRow.rv m [v] y) :
    tRows.rv m [.slice (some ⟨b, 0, none⟩) 2 2] [x, y] := by
  refine ⟨some ⟨b, 0, none⟩, 2, rfl, Nat.le_refl 2, by unfold maxLen; decide, fun _ => ⟨b, 0, rfl, fun k hk => ?_⟩⟩
  have hk : k < 2 := hk
  match k, hk with
  | 0, _ => exact ⟨[u], fun j v hj => by match j, hj with | 0, hj => simp at hj; subst hj; exact h0, hx⟩
  | 1, _ => exact ⟨[v], fun j v hj => by match j, hj with | 0, hj => simp at hj; subst hj; exact h1, hy⟩

set_option maxRecDepth 100000 in
set_option maxHeartbeats 1000000 in
theorem rowConcat_any (a b : List Val) (v u : Value) (w : World) (hv : tRow.rv (mem w) [v] a) (hu : tRow.rv (mem w) [u] b) :
    Calls Tryd.prog 28 #[v, u] w (Conc a b w) := by
  have HV := Lib.hid (rowValid_any a v w hv)
  have HW := Lib.hid (fun wr (h : Below w.heap.size w wr) => rowValid_any b u wr (tRow.mono _ _ _ _ (below_mem h) hu))
  have HL := Lib.hid (fun wr (h : Below w.heap.size w wr) bk h0 h1 => rows2 (m := mem wr) (b := bk) (u := v) (v := u) h0 h1 (tRow.mono _ _ _ _ (below_mem h) hv) (tRow.mono _ _ _ _ (below_mem h) hu))
  have HP := Lib.hid (concOf_cases a b)
  obtain ⟨a1, cap1, rfl, hl1, hm1, hv⟩ := slice_form hv
  have hcap1 : cap1 ≤ 9223372036854775807 := by unfold maxLen at hm1; exact hm1
  obtain ⟨a2, cap2, rfl, hl2, hm2, hu⟩ := slice_form hu
  have hcap2 : cap2 ≤ 9223372036854775807 := by unfold maxLen at hm2; exact hm2
  clear hm1 hm2 hv hu
  have H8a := Lib.hid (show validRow a = true → a.length ≤ 8 from fun h => by unfold validRow at h; simp at h; exact h.1)
  have H8b := Lib.hid (show validRow b = true → b.length ≤ 8 from fun h => by unfold validRow at h; simp at h; exact h.1)
  generalize validRow a = va at HV HP H8a
  generalize validRow b = vb at HW HP H8b
  go_enter Tryd.func28, Tryd.ntmps28
  go_wp2_with fail
  refine HV.out.mono ?_
  rintro e w1 ⟨rfl, hB⟩
  clear HV
  cases va
  · have HQ := Lib.hid (HP.out.1 (by trivial))
    go_wp2
    go_ret2
    exact ⟨_, by rw [HQ.out]; rfl, by rw [HQ.out]; exact slice_nil _ _, hB⟩
  · have h8a := H8a.out (by trivial)
    go_wp2_with fail
    refine (HW.out _ hB).mono ?_
    rintro e w2 ⟨rfl, hb2⟩
    have hB2 := pure_trans hB hb2
    clear HW hB hb2
    cases vb
    · have HQ := Lib.hid (HP.out.2.1 (by trivial))
      go_wp2
      go_ret2
      exact ⟨_, by rw [HQ.out]; rfl, by rw [HQ.out]; exact slice_nil _ _, hB2⟩
    · have h8b := H8b.out (by trivial)
      by_cases h8 : 8 < a.length + b.length
      · have HQ := Lib.hid (HP.out.2.2.1 (by trivial) (by trivial) h8)
        go_wp2
        go_ret2
        exact ⟨_, by rw [HQ.out]; rfl, by rw [HQ.out]; exact slice_nil _ _, hB2⟩
      · have HQ := Lib.hid (HP.out.2.2.2 (by trivial) (by trivial) h8)
        have hBa : ∀ o, Below w.heap.size w (w2.alloc o) := fun o => hB2.alloc hB2.size o
        go_wp2_with fail
        refine (concat_any [a, b] _ _ (HL.out _ (hBa _) _ (by simp [mem]) (by simp [mem])) (by simp; omega)).mono ?_
        rintro e w3 ⟨x, rfl, hx, hb3⟩
        have hB3 := pure_trans (hBa _) hb3
        have hx : tRow.rv (mem w3) [x] (a ++ b) := by simpa using hx
        clear HL hBa hb3
        go_wp2
        go_ret2
        exact ⟨_, by rw [HQ.out]; rfl, by rw [HQ.out]; exact hx, hB3⟩
end Go.Proofs.YtkldimaoafgolaaDoor
/- Plain facts of RowPicks. -/
namespace Go.Proofs.YtkldimaoafgolaaDoor

theorem sameRow_refl (r : List Val) : sameRow r r = true := sameRow_true rfl (fun j h h' => by simp [valEq])
def firstCols (n : Nat) : List Int := (List.range n).map Int.ofNat
theorem firstCols_succ (n : Nat) : firstCols (n + 1) = firstCols n ++ [(n : Int)] := by simp [firstCols, List.range_succ]
theorem firstCols_length (n : Nat) : (firstCols n).length = n := by simp [firstCols]
theorem proj_first (a b : List Val) (hv : validRow (a ++ b) = true) (ha : a.length ≤ 8) : projOf (a ++ b) (firstCols a.length) = (a, 0) := by
  have h1 : (firstCols a.length).any (colBad (a ++ b).length) = false := by
    rw [List.any_eq_false]
    intro c hc
    obtain ⟨i, hi, rfl⟩ := List.mem_map.1 hc
    rw [List.mem_range] at hi
    simp [colBad]
    omega
  have h2 : (firstCols a.length).map (pickAt (a ++ b)) = a := by
    apply List.ext_getElem
    · simp [firstCols]
    · intro i hi hi2
      simp only [firstCols, List.getElem_map, List.getElem_range, pickAt, Int.toNat_natCast]
      show (a ++ b)[i]?.getD _ = a[i]
      rw [List.getElem?_append_left hi2, List.getElem?_eq_getElem hi2]
      rfl
  rw [(projOf_cases _ _).2.2.2 hv h1 (by rw [firstCols_length]; omega), h2]
theorem valid_append {a b : List Val} (ha : validRow a = true) (hb : validRow b = true) (h : ¬ 8 < a.length + b.length) : validRow (a ++ b) = true := by
  unfold validRow at *
  simp at *
  exact ⟨by omega, ha.2, hb.2⟩
end Go.Proofs.YtkldimaoafgolaaDoor
/- What the cards of chapter 02's door that parse share: tables and errors in the world, a world for the witness, readings of rows. -/
namespace Go.Proofs.YtkldimaoafgolaaDoor
open Go.ChangeShapes Go.WideShapes Go.ChangeAt Go.RowKit

noncomputable def gPow : Nat := (Tryd.prog.globalNamed "internal/strconv.uint64pow10").getD 0
noncomputable def gB32 : Nat := (Tryd.prog.globalNamed "math/bits.deBruijn32tab").getD 0
noncomputable def gB64 : Nat := (Tryd.prog.globalNamed "math/bits.deBruijn64tab").getD 0
theorem gPow_is : Tryd.prog.globalNamed "internal/strconv.uint64pow10" = some gPow := by kernel_rfl
theorem gPow_type : (Tryd.prog.globals[gPow]?).map (·.type) = some 162 := by kernel_rfl
theorem cellsPow : Tryd.prog.cellsOf 162 = 20 := by kernel_rfl
theorem cellsU64 : Tryd.prog.cellsOf 62 = 1 := by kernel_rfl
theorem powData : (Rows.laid_internal_strconv_uint64pow10 : DataW Unit) = Lib.tabData .u64 Lib.pow10Tab := by kernel_rfl
abbrev lay5 : List (String × DataW Unit) := ("math/bits.deBruijn32tab", Rows.laid_math_bits_deBruijn32tab) :: ("math/bits.deBruijn64tab", Rows.laid_math_bits_deBruijn64tab) :: ("internal/strconv.uint64pow10", Rows.laid_internal_strconv_uint64pow10) :: ("strconv.ErrRange", Rows.laid_strconv_ErrRange) :: ("strconv.ErrSyntax", Rows.laid_strconv_ErrSyntax) :: []
theorem tabOf {W : World} (h : laidMet Tryd.prog lay5 W) : Tryd.Tab W := by
  obtain ⟨g', t', cs, fuel, p, hg', ht', hvar, hd⟩ := Lib.laidMet.reads h (n := "internal/strconv.uint64pow10") (d := Rows.laid_internal_strconv_uint64pow10) (by simp)
  rw [powData] at hd
  obtain rfl := Option.some.inj (gPow_is.symm.trans hg')
  obtain rfl := Option.some.inj (gPow_type.symm.trans ht')
  show W.var? Tryd.prog _ = _
  rw [hvar, ← Lib.cells_of_tab Tryd.underlying162 Tryd.underlying62 cellsU64 cellsPow hd]
theorem gES : Tryd.prog.globalNamed "strconv.ErrSyntax" = some 4 := by kernel_rfl
theorem gESType : (Tryd.prog.globals[4]?).map (·.type) = some 116 := by kernel_rfl
theorem gER : Tryd.prog.globalNamed "strconv.ErrRange" = some 5 := by kernel_rfl
theorem gERType : (Tryd.prog.globals[5]?).map (·.type) = some 116 := by kernel_rfl
theorem cellsES : Tryd.prog.cellsOf 171 = 1 := by kernel_rfl
theorem cellsStr : Tryd.prog.cellsOf 9 = 1 := by kernel_rfl
theorem star : "*" ++ "errors.errorString" = "*errors.errorString" := by decide
theorem rowES (u : TypeId) (h : Tryd.prog.typeName? 3 u = some "*errors.errorString") : u = 169 :=
  typeName_ptr_named (nm := "errors.errorString") (by rw [star]; kernel_rfl) (by kernel_rfl) (by decide) u (by rw [star]; exact h)
theorem errsOf {W : World} (h : laidMet Tryd.prog lay5 W) : Tryd.Errs W := by
  obtain ⟨a0, s0, hv0, -, -, -⟩ := laid_sentinel h.tail.tail.tail gER gERType Tryd.underlying116 rowES Tryd.underlying169 Tryd.underlying171 rfl rfl Tryd.underlying9 cellsES cellsStr
  obtain ⟨a1, s1, hv1, -, -, -⟩ := laid_sentinel h.tail.tail.tail.tail gES gESType Tryd.underlying116 rowES Tryd.underlying169 Tryd.underlying171 rfl rfl Tryd.underlying9 cellsES cellsStr
  exact ⟨⟨_, _, by have h0 := World.var?_cell gES hv1 0; simpa using h0⟩, ⟨_, _, by have h0 := World.var?_cell gER hv0 0; simpa using h0⟩⟩
noncomputable def litCells : DataW Unit → Array Value
  | .agg l => (l.map fun | .lit (.int k z) => Value.int k z | _ => Value.int .u8 0).toArray
  | _ => #[]
noncomputable def layRow (a : Array Value) : Obj → Obj
  | .cells _ t frozen => .cells a t frozen
  | o => o
abbrev synS : ByteArray := { data := #[105, 110, 118, 97, 108, 105, 100, 32, 115, 121, 110, 116, 97, 120] }
abbrev rngS : ByteArray := { data := #[118, 97, 108, 117, 101, 32, 111, 117, 116, 32, 111, 102, 32, 114, 97, 110, 103, 101] }
/-- So many blocks has the settled world. -/
noncomputable def low : Nat := (World.holding Tryd.prog default ⟨#[], #[], []⟩).heap.size
/-- A world for the witness: the settled one, the tables holding what their initialisers lay, the two errors' structs behind. -/
noncomputable def laidWorld (os : Os) : World :=
  let w0 := World.holding Tryd.prog os ⟨#[.cells #[.string synS] 171, .cells #[.string rngS] 171], #[], []⟩
  { w0 with heap := ((((w0.heap.modify gB32 (layRow (litCells Rows.laid_math_bits_deBruijn32tab))).modify gB64 (layRow (litCells Rows.laid_math_bits_deBruijn64tab))).modify gPow (layRow (litCells Rows.laid_internal_strconv_uint64pow10))).modify 4 (layRow #[.iface 169 (.pointer (some ⟨low, 0, none⟩))])).modify 5 (layRow #[.iface 169 (.pointer (some ⟨low + 1, 0, none⟩))]) }
/-! Arguments: rows, texts. -/
set_option maxRecDepth 100000 in
theorem reads_val : Reads Tryd.prog 30 tVal := fun H enc w n cs d h => by
  obtain ⟨xs, n', _, _, hl, hx, hg⟩ := DataW.trod_struct Tryd.underlying30 h
  rw [show Tryd.prog.cellsOf 30 = 3 from by kernel_rfl] at hl
  have g0 := hg 0 _ rfl
  obtain ⟨x0, r0⟩ := field_read (reads_int Tryd.underlying3) 0 1 rfl rfl (by kernel_rfl) g0 (by rw [hx]; decide)
  have g1 := hg 1 _ rfl
  obtain ⟨x1, r1⟩ := field_read (reads_int Tryd.underlying3) 1 1 rfl rfl (by kernel_rfl) g1 (by rw [hx]; decide)
  have g2 := hg 2 _ rfl
  obtain ⟨x2, r2⟩ := field_read (reads_str Tryd.underlying9) 2 1 rfl rfl (by kernel_rfl) g2 (by rw [hx]; decide)
  match cs, hl with
  | [c0, c1, c2], _ =>
    obtain ⟨e0, i0⟩ := r0
    obtain ⟨e1, i1⟩ := r1
    obtain ⟨e2, i2⟩ := r2
    simp at e0 e1 e2
    exact ⟨⟨x0, x1, x2⟩, by rw [e0, e1, e2], i0, i1, i2⟩
theorem reads_row : Reads Tryd.prog 25 tRow := reads_slice Tryd.underlying25 (by kernel_rfl) (by decide) reads_val
end Go.Proofs.YtkldimaoafgolaaDoor
