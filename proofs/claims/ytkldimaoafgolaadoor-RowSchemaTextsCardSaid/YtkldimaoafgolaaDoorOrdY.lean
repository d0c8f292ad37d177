/- The order of rows: comparison of rows. -/
import Derived.Test.YtkldimaoafgolaaDoorOrdX
namespace Go.Proofs.YtkldimaoafgolaaDoor
open Go.RowKit

/-- The cells of a row's element. -/
theorem row_cells {m : Mem} {xs : List Val} {a : Option Addr} {n cap : Nat} (h : tRow.rv m [.slice a n cap] xs) {k : Nat} (hk : k < xs.length) :
    ∃ b o, a = some ⟨b, o, none⟩ ∧ m b (o + k * 3) = some (.int .i64 xs[k].kind) ∧ m b (o + k * 3 + 1) = some (.int .i64 xs[k].n) ∧ m b (o + k * 3 + 2) = some (.string xs[k].s) := by
  obtain ⟨b, o, rfl, hat⟩ := slice_at h hk
  obtain ⟨c0, c1, c2, _⟩ := val_at hat
  exact ⟨b, o, rfl, c0, c1, c2⟩

set_option maxRecDepth 100000 in
set_option maxHeartbeats 1000000 in
theorem cmpFunc_any (xs ys : List Val) (v u : Value) (w : World) (hv : tRow.rv (mem w) [v] xs) (hu : tRow.rv (mem w) [u] ys) :
    Calls Tryd.prog 72 #[v, u, .func (.func 30) #[] #[]] w fun e w' => e = .returned (.int .i64 (cmpRow xs ys)) ∧ Below w.heap.size w w' := by
  obtain ⟨a, cap, rfl, hl, hm, hv⟩ := slice_form hv
  have hcap : cap ≤ 9223372036854775807 := by unfold maxLen at hm; exact hm
  obtain ⟨a2, cap2, rfl, hl2, hm2, hu⟩ := slice_form hu
  have hcap2 : cap2 ≤ 9223372036854775807 := by unfold maxLen at hm2; exact hm2
  clear hm hm2
  go_enter Tryd.func72, Tryd.ntmps72
  go_wp2
  go_loopw [13] (fun i wr => ∃ k : Nat, k ≤ xs.length ∧ k ≤ ys.length ∧ i = .int .i64 k ∧ Hid (cmpRow xs ys = cmpRow (xs.drop k) (ys.drop k)) ∧ Below w.heap.size w wr) (fun i _ => xs.length - (intOf i).toNat)
  case atStart => exact ⟨0, by omega, by omega, rfl, Lib.hid rfl, Below.refl _ _⟩
  case round =>
    obtain ⟨k, hk, hk2, rfl, HT, hB⟩ := hrel
    by_cases hlt : k < xs.length
    · obtain ⟨b, o, rfl, c0, c1, c2⟩ := row_cells (tRow.mono _ _ _ _ (below_mem hB) hv) hlt
      have c0 : wr.cell? ⟨b, o + k * 3, none⟩ = some (.int .i64 xs[k].kind) := c0
      have c1 : wr.cell? ⟨b, o + k * 3 + 1, none⟩ = some (.int .i64 xs[k].n) := c1
      have c2 : wr.cell? ⟨b, o + k * 3 + 2, none⟩ = some (.string xs[k].s) := c2
      have hb1 : b < wr.heap.size := mem_lt (w := wr) c0
      by_cases hlt2 : k < ys.length
      · obtain ⟨b', o', rfl, d0, d1, d2⟩ := row_cells (tRow.mono _ _ _ _ (below_mem hB) hu) hlt2
        have d0 : wr.cell? ⟨b', o' + k * 3, none⟩ = some (.int .i64 ys[k].kind) := d0
        have d1 : wr.cell? ⟨b', o' + k * 3 + 1, none⟩ = some (.int .i64 ys[k].n) := d1
        have d2 : wr.cell? ⟨b', o' + k * 3 + 2, none⟩ = some (.string ys[k].s) := d2
        have hb2 : b' < wr.heap.size := mem_lt (w := wr) d0
        have HS := Lib.hid (HT.out.trans (cmpRow_step hlt hlt2))
        have HC := Lib.hid (cmpVals_any xs[k] ys[k])
        have hBa : ∀ o o', Below w.heap.size w ((wr.alloc o).alloc o') := fun o o' => (hB.alloc hB.size o).alloc (by have := hB.size; simp; omega) o'
        clear hv hu HT
        generalize cmpVal xs[k] ys[k] = r at HS HC
        generalize xs[k] = x at *
        generalize ys[k] = y at *
        obtain ⟨xk, xn, xs'⟩ := x
        obtain ⟨yk, yn, ys'⟩ := y
        simp only at c0 c1 c2 d0 d1 d2
        go_wp2_with fail
        refine (HC.out _).mono ?_
        rintro e w1 ⟨rfl, hb⟩
        have hB1 := (hBa _ _).trans (hb.mono (by have := hB.size; simp; omega))
        clear hb hBa hB HC c0 c1 c2 d0 d1 d2
        by_cases hr : r = 0
        · subst hr
          go_wp2
          go_roundw
          case rel => exact ⟨k + 1, by omega, by omega, by go_num, Lib.hid (by rw [HS.out]; rfl), hB1⟩
          case measure => simp [intOf]; omega
        · have hr1 : (r == 0) = false := by simpa using hr
          have HS := Lib.hid (HS.out.trans (if_pos hr))
          go_wp2
          go_ret
          exact ⟨by rw [HS.out]; rfl, hB1⟩
      · have HE := Lib.hid (HT.out.trans (cmpRow_end (.inr (by omega)) hk hk2))
        have HE := Lib.hid ((HE.out.trans (if_neg (by omega))).trans (if_pos (by omega)))
        have hBa : ∀ o, Below w.heap.size w (wr.alloc o) := fun o => (hB.alloc hB.size o)
        generalize xs[k] = x at *
        obtain ⟨xk, xn, xs'⟩ := x
        simp only at c0 c1 c2
        clear HT
        go_wp2
        go_ret
        exact ⟨by rw [HE.out]; rfl, hBa _⟩
    · obtain rfl : k = xs.length := by omega
      have HE := Lib.hid (HT.out.trans (cmpRow_end (.inl (by omega)) hk hk2))
      clear HT
      by_cases hlt2 : xs.length < ys.length
      · have HE := Lib.hid (HE.out.trans (if_pos hlt2))
        go_wp2
        go_ret
        exact ⟨by rw [HE.out]; rfl, hB⟩
      · have HE := Lib.hid ((HE.out.trans (if_neg hlt2)).trans (if_neg (by omega)))
        go_wp2
        go_ret
        exact ⟨by rw [HE.out]; rfl, hB⟩

set_option maxHeartbeats 400000 in
theorem rowCmp_any (xs ys : List Val) (v u : Value) (w : World) (hv : tRow.rv (mem w) [v] xs) (hu : tRow.rv (mem w) [u] ys) :
    Calls Tryd.prog 32 #[v, u] w fun e w' => e = .returned (.int .i64 (cmpRow xs ys)) ∧ Below w.heap.size w w' := by
  have H := Lib.hid (cmpFunc_any xs ys v u w hv hu)
  obtain ⟨a, cap, rfl, hl, hm, hv⟩ := slice_form hv
  obtain ⟨a2, cap2, rfl, hl2, hm2, hu⟩ := slice_form hu
  clear hm hm2
  go_enter Tryd.func32, Tryd.ntmps32
  go_wp2_with fail
  refine H.out.mono ?_
  rintro e w1 ⟨rfl, hB⟩
  go_wp2
  go_ret
  exact ⟨rfl, hB⟩

set_option maxRecDepth 100000 in
set_option maxHeartbeats 1000000 in
theorem refCmp_any (xs ys : List Val) (v u : Value) (w : World) (hv : tRow.rv (mem w) [v] xs) (hu : tRow.rv (mem w) [u] ys) :
    Calls Tryd.prog 33 #[v, u] w fun e w' => e = .returned (.int .i64 (cmpRow xs ys)) ∧ Below w.heap.size w w' := by
  obtain ⟨a, cap, rfl, hl, hm, hv⟩ := slice_form hv
  have hcap : cap ≤ 9223372036854775807 := by unfold maxLen at hm; exact hm
  obtain ⟨a2, cap2, rfl, hl2, hm2, hu⟩ := slice_form hu
  have hcap2 : cap2 ≤ 9223372036854775807 := by unfold maxLen at hm2; exact hm2
  clear hm hm2
  go_enter Tryd.func33, Tryd.ntmps33
  go_wp2
  go_loopw [5] (fun i wr => ∃ k : Nat, k ≤ xs.length ∧ k ≤ ys.length ∧ i = .int .i64 k ∧ Hid (cmpRow xs ys = cmpRow (xs.drop k) (ys.drop k)) ∧ Below w.heap.size w wr) (fun i _ => xs.length - (intOf i).toNat)
  case atStart => exact ⟨0, by omega, by omega, rfl, Lib.hid rfl, Below.refl _ _⟩
  case round =>
    obtain ⟨k, hk, hk2, rfl, HT, hB⟩ := hrel
    by_cases hlt : k < xs.length
    · by_cases hlt2 : k < ys.length
      · have hB := hB.drew
        obtain ⟨b, o, rfl, c0, c1, c2⟩ := row_cells (tRow.mono _ _ _ _ (below_mem hB) hv) hlt
        have c0 : wr.drew.cell? ⟨b, o + k * 3, none⟩ = some (.int .i64 xs[k].kind) := c0
        have c1 : wr.drew.cell? ⟨b, o + k * 3 + 1, none⟩ = some (.int .i64 xs[k].n) := c1
        have c2 : wr.drew.cell? ⟨b, o + k * 3 + 2, none⟩ = some (.string xs[k].s) := c2
        obtain ⟨b', o', rfl, d0, d1, d2⟩ := row_cells (tRow.mono _ _ _ _ (below_mem hB) hu) hlt2
        have d0 : wr.drew.cell? ⟨b', o' + k * 3, none⟩ = some (.int .i64 ys[k].kind) := d0
        have d1 : wr.drew.cell? ⟨b', o' + k * 3 + 1, none⟩ = some (.int .i64 ys[k].n) := d1
        have d2 : wr.drew.cell? ⟨b', o' + k * 3 + 2, none⟩ = some (.string ys[k].s) := d2
        have HS := Lib.hid (HT.out.trans (cmpRow_step hlt hlt2))
        have HC := Lib.hid (refCmpVals_any xs[k] ys[k])
        clear hv hu HT
        generalize cmpVal xs[k] ys[k] = r at HS HC
        generalize xs[k] = x at *
        generalize ys[k] = y at *
        obtain ⟨xk, xn, xs'⟩ := x
        obtain ⟨yk, yn, ys'⟩ := y
        simp only at c0 c1 c2 d0 d1 d2
        go_wp2_with fail
        go_region_held3 (fun w' => w'.cell? ⟨b, o + k * 3, none⟩ = some (.int .i64 xk) ∧ w'.cell? ⟨b, o + k * 3 + 1, none⟩ = some (.int .i64 xn) ∧ w'.cell? ⟨b, o + k * 3 + 2, none⟩ = some (.string xs') ∧
            w'.cell? ⟨b', o' + k * 3, none⟩ = some (.int .i64 yk) ∧ w'.cell? ⟨b', o' + k * 3 + 1, none⟩ = some (.int .i64 yn) ∧ w'.cell? ⟨b', o' + k * 3 + 2, none⟩ = some (.string ys'))
          (first | go_keep | exact ⟨below_mem hb _ _ _ c0, below_mem hb _ _ _ c1, below_mem hb _ _ _ c2, below_mem hb _ _ _ d0, below_mem hb _ _ _ d1, below_mem hb _ _ _ d2⟩)
          ((first | (go_at_call 31; refine (HC.out _).mono ?_; rintro e w1 ⟨rfl, hb⟩)))
        all_goals
          have hB1 := pure_trans hB hb
          clear hb hB HC c0 c1 c2 d0 d1 d2
          by_cases hr : r = 0
          · subst hr
            go_wp2
            go_roundw
            case rel => exact ⟨k + 1, by omega, by omega, by go_num, Lib.hid (by rw [HS.out]; rfl), hB1⟩
            case measure => simp [intOf]; omega
          · have hr1 : (r == 0) = false := by simpa using hr
            have HS := Lib.hid (HS.out.trans (if_pos hr))
            go_wp2
            go_ret
            exact ⟨by rw [HS.out]; rfl, hB1⟩
      · have HE := Lib.hid (HT.out.trans (cmpRow_end (.inr (by omega)) hk hk2))
        have HE := Lib.hid ((HE.out.trans (if_neg (by omega))).trans (if_pos (by omega)))
        clear HT
        go_wp2
        go_ret
        exact ⟨by rw [HE.out]; rfl, hB⟩
    · obtain rfl : k = xs.length := by omega
      have HE := Lib.hid (HT.out.trans (cmpRow_end (.inl (by omega)) hk hk2))
      clear HT
      by_cases hlt2 : xs.length < ys.length
      · have HE := Lib.hid (HE.out.trans (if_pos hlt2))
        go_wp2
        go_ret
        exact ⟨by rw [HE.out]; rfl, hB⟩
      · have HE := Lib.hid ((HE.out.trans (if_neg hlt2)).trans (if_neg (by omega)))
        go_wp2
        go_ret
        exact ⟨by rw [HE.out]; rfl, hB⟩
end Go.Proofs.YtkldimaoafgolaaDoor
