/- Elements of wires: ValidElement of both texts; SameElements at equal lists; mark. -/
import Derived.Test.YtfkphdmnelchmaaEl
namespace Go.Proofs.Ytfkphdmnelchmaa
open Go.RowKit

theorem validEl_eq (k n t : Int) (row : List Val) (cn : Int) : validEl ⟨k, n, t, row, cn⟩ = if k = 1 then decide (n = 0) && validCh t row cn else if k = 2 then decide (t = 0 ∧ row.length = 0 ∧ cn = 0) && decide (-1000000000000 ≤ n ∧ n ≤ 1000000000001) else if k = 3 then decide (t = 0 ∧ row.length = 0 ∧ cn = 0) && decide (1 ≤ n ∧ n ≤ 1000000) else false := rfl
theorem none_casesL (t : Int) (l : Nat) (c : Int) : (t == 0) = false ∨ t = 0 ∧ ((l : Int) == 0) = false ∨ t = 0 ∧ l = 0 ∧ (c == 0) = false ∨ t = 0 ∧ l = 0 ∧ c = 0 := by
  by_cases h : t = 0 <;> by_cases h2 : l = 0 <;> by_cases h3 : c = 0 <;> simp [*]
theorem none_casesC (t : Int) (l : Nat) (c : Int) : (t == 0) = false ∨ t = 0 ∧ (c == 0) = false ∨ t = 0 ∧ c = 0 ∧ ((l : Int) == 0) = false ∨ t = 0 ∧ l = 0 ∧ c = 0 := by
  by_cases h : t = 0 <;> by_cases h2 : l = 0 <;> by_cases h3 : c = 0 <;> simp [*]

set_option maxRecDepth 100000 in
set_option maxHeartbeats 8000000 in
theorem validEl_any (x : El) (s : Value) (w : World) (hv : tRow.rv (mem w) [s] x.row) :
    Calls Try.prog 32 #[elV x s] w fun e w' => e = .returned (.bool (validEl x)) ∧ Below w.heap.size w w' := by
  obtain ⟨a, cap, rfl, _, _, hv⟩ := slice_form hv
  obtain ⟨k, n, t, row, cn⟩ := x
  simp only at hv ⊢
  have hb1 : ∀ o, Below w.heap.size w (w.alloc o) := fun o => (Below.refl _ _).alloc (Nat.le_refl _) o
  have HC := Lib.hid (fun (wq : World) (h : Below w.heap.size w wq) => bagChange_any t row cn _ wq (tRow.mono _ _ _ _ (below_mem h) hv))
  have HE := Lib.hid (validEl_eq k n t row cn)
  have HB1 := Lib.hid hb1
  have HB2 := Lib.hid (fun o o' => (hb1 o).alloc (by simp) o' : ∀ o o', Below w.heap.size w ((w.alloc o).alloc o'))
  have hcase := none_casesL t row.length cn
  clear hv hb1
  generalize validEl ⟨k, n, t, row, cn⟩ = ve at HE ⊢
  generalize validCh t row cn = vc at HC HE
  generalize row.length = L at hcase HC HE ⊢
  have hno : (t == 0) = false ∨ ((L : Int) == 0) = false ∨ (cn == 0) = false → Hid (¬ (t = 0 ∧ L = 0 ∧ cn = 0)) := fun h => Lib.hid (fun ⟨h1, h2, h3⟩ => by subst h1; subst h2; subst h3; simp at h)
  by_cases hk1 : k = 1
  · subst hk1
    by_cases hn : n = 0
    · subst hn
      have HR := Lib.hid (show ve = vc by rw [HE.out]; simp)
      clear HE hno
      rcases hcase with h1 | ⟨rfl, h1⟩ | ⟨rfl, rfl, h1⟩ | ⟨rfl, rfl, rfl⟩
      all_goals
        go_enter Try.func32, Try.ntmps32
        go_wp2_with fail
        refine (HC.out _ (HB2.out _ _)).mono ?_
        rintro e w1 ⟨rfl, hb⟩
        go_wp2
        go_ret
        exact ⟨by rw [HR.out]; rfl, (HB2.out _ _).trans (hb.mono (by simp; omega))⟩
    · have HR := Lib.hid (show ve = false by rw [HE.out]; simp [hn])
      have hn1 : (n == 0) = false := by simpa using hn
      clear HE hno hn
      rcases hcase with h1 | ⟨rfl, h1⟩ | ⟨rfl, rfl, h1⟩ | ⟨rfl, rfl, rfl⟩
      all_goals
        go_enter Try.func32, Try.ntmps32
        go_wp2
        go_ret
        exact ⟨by rw [HR.out]; rfl, HB2.out _ _⟩
  · by_cases hk23 : k = 2 ∨ k = 3
    · rcases hk23 with rfl | rfl
      · rcases hcase with h1 | ⟨rfl, h1⟩ | ⟨rfl, rfl, h1⟩ | ⟨rfl, rfl, rfl⟩
        · have HR := Lib.hid (show ve = false by rw [HE.out]; simp [(hno (.inl h1)).out])
          clear HE hno hk1
          go_enter Try.func32, Try.ntmps32
          go_wp2
          go_ret
          exact ⟨by rw [HR.out]; rfl, HB2.out _ _⟩
        · have HR := Lib.hid (show ve = false by rw [HE.out]; have := (hno (.inr (.inl h1))).out; simp at this; simp; omega)
          clear HE hno hk1
          go_enter Try.func32, Try.ntmps32
          go_wp2
          go_ret
          exact ⟨by rw [HR.out]; rfl, HB2.out _ _⟩
        · have HR := Lib.hid (show ve = false by rw [HE.out]; have := (hno (.inr (.inr h1))).out; simp at this; simp; omega)
          clear HE hno hk1
          go_enter Try.func32, Try.ntmps32
          go_wp2
          go_ret
          exact ⟨by rw [HR.out]; rfl, HB2.out _ _⟩
        · clear hno hk1
          simp only [and_self, decide_true, Bool.true_and] at HE
          by_cases hl : (-1000000000000) ≤ n
          · by_cases hr : n ≤ 1000000000001
            · have HR := Lib.hid (show ve = true by rw [HE.out]; simp; omega)
              clear HE
              go_enter Try.func32, Try.ntmps32
              go_wp2
              go_ret
              exact ⟨by rw [HR.out]; rfl, HB2.out _ _⟩
            · have HR := Lib.hid (show ve = false by rw [HE.out]; simp; omega)
              clear HE
              go_enter Try.func32, Try.ntmps32
              go_wp2
              go_ret
              exact ⟨by rw [HR.out]; rfl, HB2.out _ _⟩
          · have HR := Lib.hid (show ve = false by rw [HE.out]; simp; omega)
            clear HE
            go_enter Try.func32, Try.ntmps32
            go_wp2
            go_ret
            exact ⟨by rw [HR.out]; rfl, HB2.out _ _⟩
      · rcases hcase with h1 | ⟨rfl, h1⟩ | ⟨rfl, rfl, h1⟩ | ⟨rfl, rfl, rfl⟩
        · have HR := Lib.hid (show ve = false by rw [HE.out]; simp [(hno (.inl h1)).out])
          clear HE hno hk1
          go_enter Try.func32, Try.ntmps32
          go_wp2
          go_ret
          exact ⟨by rw [HR.out]; rfl, HB2.out _ _⟩
        · have HR := Lib.hid (show ve = false by rw [HE.out]; have := (hno (.inr (.inl h1))).out; simp at this; simp; omega)
          clear HE hno hk1
          go_enter Try.func32, Try.ntmps32
          go_wp2
          go_ret
          exact ⟨by rw [HR.out]; rfl, HB2.out _ _⟩
        · have HR := Lib.hid (show ve = false by rw [HE.out]; have := (hno (.inr (.inr h1))).out; simp at this; simp; omega)
          clear HE hno hk1
          go_enter Try.func32, Try.ntmps32
          go_wp2
          go_ret
          exact ⟨by rw [HR.out]; rfl, HB2.out _ _⟩
        · clear hno hk1
          simp only [and_self, decide_true, Bool.true_and] at HE
          by_cases hl : 1 ≤ n
          · by_cases hr : n ≤ 1000000
            · have HR := Lib.hid (show ve = true by rw [HE.out]; simp; omega)
              clear HE
              go_enter Try.func32, Try.ntmps32
              go_wp2
              go_ret
              exact ⟨by rw [HR.out]; rfl, HB2.out _ _⟩
            · have HR := Lib.hid (show ve = false by rw [HE.out]; simp; omega)
              clear HE
              go_enter Try.func32, Try.ntmps32
              go_wp2
              go_ret
              exact ⟨by rw [HR.out]; rfl, HB2.out _ _⟩
          · have HR := Lib.hid (show ve = false by rw [HE.out]; simp; omega)
            clear HE
            go_enter Try.func32, Try.ntmps32
            go_wp2
            go_ret
            exact ⟨by rw [HR.out]; rfl, HB2.out _ _⟩
    · have e1 : (k == 1) = false := by simpa using hk1
      have e2 : (k == 2) = false := by simp; omega
      have e3 : (k == 3) = false := by simp; omega
      have HR := Lib.hid (show ve = false by rw [HE.out, if_neg hk1, if_neg (by omega), if_neg (by omega)])
      clear HE hno hk1 hk23
      rcases hcase with h1 | ⟨rfl, h1⟩ | ⟨rfl, rfl, h1⟩ | ⟨rfl, rfl, rfl⟩
      all_goals
        go_enter Try.func32, Try.ntmps32
        go_wp2
        go_ret
        exact ⟨by rw [HR.out]; rfl, HB2.out _ _⟩

set_option maxRecDepth 100000 in
set_option maxHeartbeats 8000000 in
theorem refValidEl_any (x : El) (s : Value) (w : World) (hv : tRow.rv (mem w) [s] x.row) :
    Calls Try.prog 33 #[elV x s] w fun e w' => e = .returned (.bool (validEl x)) ∧ Below w.heap.size w w' := by
  obtain ⟨a, cap, rfl, _, _, hv⟩ := slice_form hv
  obtain ⟨k, n, t, row, cn⟩ := x
  simp only at hv ⊢
  have hb1 : ∀ o, Below w.heap.size w (w.alloc o) := fun o => (Below.refl _ _).alloc (Nat.le_refl _) o
  have HC := Lib.hid (fun (wq : World) (h : Below w.heap.size w wq) => refChange_any t row cn _ wq (tRow.mono _ _ _ _ (below_mem h) hv))
  have HE := Lib.hid (validEl_eq k n t row cn)
  have HB1 := Lib.hid hb1
  have HB2 := Lib.hid (fun o o' => (hb1 o).alloc (by simp) o' : ∀ o o', Below w.heap.size w ((w.alloc o).alloc o'))
  have hcase := none_casesC t row.length cn
  clear hv hb1
  generalize validEl ⟨k, n, t, row, cn⟩ = ve at HE ⊢
  generalize validCh t row cn = vc at HC HE
  generalize row.length = L at hcase HC HE ⊢
  have hno : (t == 0) = false ∨ ((L : Int) == 0) = false ∨ (cn == 0) = false → Hid (¬ (t = 0 ∧ L = 0 ∧ cn = 0)) := fun h => Lib.hid (fun ⟨h1, h2, h3⟩ => by subst h1; subst h2; subst h3; simp at h)
  by_cases hk1 : k = 1
  · subst hk1
    by_cases hn : n = 0
    · subst hn
      have HR := Lib.hid (show ve = vc by rw [HE.out]; simp)
      clear HE hno
      rcases hcase with h1 | ⟨rfl, h1⟩ | ⟨rfl, rfl, h1⟩ | ⟨rfl, rfl, rfl⟩
      all_goals
        go_enter Try.func33, Try.ntmps33
        go_wp2_with fail
        refine (HC.out _ (HB1.out _)).mono ?_
        rintro e w1 ⟨rfl, hb⟩
        go_wp2
        go_ret
        exact ⟨by rw [HR.out]; rfl, (HB1.out _).trans (hb.mono (by simp))⟩
    · have HR := Lib.hid (show ve = false by rw [HE.out]; simp [hn])
      have hn1 : (n == 0) = false := by simpa using hn
      clear HE hno hn
      rcases hcase with h1 | ⟨rfl, h1⟩ | ⟨rfl, rfl, h1⟩ | ⟨rfl, rfl, rfl⟩
      all_goals
        go_enter Try.func33, Try.ntmps33
        go_wp2
        go_ret
        exact ⟨by rw [HR.out]; rfl, HB1.out _⟩
  · by_cases hk23 : k = 2 ∨ k = 3
    · rcases hk23 with rfl | rfl
      · rcases hcase with h1 | ⟨rfl, h1⟩ | ⟨rfl, rfl, h1⟩ | ⟨rfl, rfl, rfl⟩
        · have HR := Lib.hid (show ve = false by rw [HE.out]; simp [(hno (.inl h1)).out])
          clear HE hno hk1
          go_enter Try.func33, Try.ntmps33
          go_wp2
          go_ret
          exact ⟨by rw [HR.out]; rfl, HB1.out _⟩
        · have HR := Lib.hid (show ve = false by rw [HE.out]; have := (hno (.inr (.inr h1))).out; simp at this; simp; omega)
          clear HE hno hk1
          go_enter Try.func33, Try.ntmps33
          go_wp2
          go_ret
          exact ⟨by rw [HR.out]; rfl, HB1.out _⟩
        · have HR := Lib.hid (show ve = false by rw [HE.out]; have := (hno (.inr (.inl h1))).out; simp at this; simp; omega)
          clear HE hno hk1
          go_enter Try.func33, Try.ntmps33
          go_wp2
          go_ret
          exact ⟨by rw [HR.out]; rfl, HB1.out _⟩
        · clear hno hk1
          simp only [and_self, decide_true, Bool.true_and] at HE
          by_cases hl : (-1000000000000) ≤ n
          · by_cases hr : n ≤ 1000000000001
            · have HR := Lib.hid (show ve = true by rw [HE.out]; simp; omega)
              clear HE
              go_enter Try.func33, Try.ntmps33
              go_wp2
              go_ret
              exact ⟨by rw [HR.out]; rfl, HB1.out _⟩
            · have HR := Lib.hid (show ve = false by rw [HE.out]; simp; omega)
              clear HE
              go_enter Try.func33, Try.ntmps33
              go_wp2
              go_ret
              exact ⟨by rw [HR.out]; rfl, HB1.out _⟩
          · have HR := Lib.hid (show ve = false by rw [HE.out]; simp; omega)
            clear HE
            go_enter Try.func33, Try.ntmps33
            go_wp2
            go_ret
            exact ⟨by rw [HR.out]; rfl, HB1.out _⟩
      · rcases hcase with h1 | ⟨rfl, h1⟩ | ⟨rfl, rfl, h1⟩ | ⟨rfl, rfl, rfl⟩
        · have HR := Lib.hid (show ve = false by rw [HE.out]; simp [(hno (.inl h1)).out])
          clear HE hno hk1
          go_enter Try.func33, Try.ntmps33
          go_wp2
          go_ret
          exact ⟨by rw [HR.out]; rfl, HB1.out _⟩
        · have HR := Lib.hid (show ve = false by rw [HE.out]; have := (hno (.inr (.inr h1))).out; simp at this; simp; omega)
          clear HE hno hk1
          go_enter Try.func33, Try.ntmps33
          go_wp2
          go_ret
          exact ⟨by rw [HR.out]; rfl, HB1.out _⟩
        · have HR := Lib.hid (show ve = false by rw [HE.out]; have := (hno (.inr (.inl h1))).out; simp at this; simp; omega)
          clear HE hno hk1
          go_enter Try.func33, Try.ntmps33
          go_wp2
          go_ret
          exact ⟨by rw [HR.out]; rfl, HB1.out _⟩
        · clear hno hk1
          simp only [and_self, decide_true, Bool.true_and] at HE
          by_cases hl : 1 ≤ n
          · by_cases hr : n ≤ 1000000
            · have HR := Lib.hid (show ve = true by rw [HE.out]; simp; omega)
              clear HE
              go_enter Try.func33, Try.ntmps33
              go_wp2
              go_ret
              exact ⟨by rw [HR.out]; rfl, HB1.out _⟩
            · have HR := Lib.hid (show ve = false by rw [HE.out]; simp; omega)
              clear HE
              go_enter Try.func33, Try.ntmps33
              go_wp2
              go_ret
              exact ⟨by rw [HR.out]; rfl, HB1.out _⟩
          · have HR := Lib.hid (show ve = false by rw [HE.out]; simp; omega)
            clear HE
            go_enter Try.func33, Try.ntmps33
            go_wp2
            go_ret
            exact ⟨by rw [HR.out]; rfl, HB1.out _⟩
    · have e1 : (k == 1) = false := by simpa using hk1
      have e2 : (k == 2) = false := by simp; omega
      have e3 : (k == 3) = false := by simp; omega
      have HR := Lib.hid (show ve = false by rw [HE.out, if_neg hk1, if_neg (by omega), if_neg (by omega)])
      clear HE hno hk1 hk23
      rcases hcase with h1 | ⟨rfl, h1⟩ | ⟨rfl, rfl, h1⟩ | ⟨rfl, rfl, rfl⟩
      all_goals
        go_enter Try.func33, Try.ntmps33
        go_wp2
        go_ret
        exact ⟨by rw [HR.out]; rfl, HB1.out _⟩

set_option maxRecDepth 100000 in
set_option maxHeartbeats 2000000 in
theorem same_els (xs : List El) (v u : Value) (w : World) (hv : tEls.rv (mem w) [v] xs) (hu : tEls.rv (mem w) [u] xs) :
    Calls Try.prog 22 #[v, u] w fun e w' => e = .returned (.bool true) ∧ Below w.heap.size w w' := by
  obtain ⟨a, cap, rfl, hl, hm, hv⟩ := slice_form hv
  obtain ⟨a', cap', rfl, hl', hm', hu⟩ := slice_form hu
  have hcap : cap ≤ 9223372036854775807 := by unfold maxLen at hm; exact hm
  have hcap' : cap' ≤ 9223372036854775807 := by unfold maxLen at hm'; exact hm'
  have HV := Lib.hid hv
  have HU := Lib.hid hu
  clear hm hm' hv hu
  go_enter Try.func22, Try.ntmps22
  go_wp2
  go_loopw [5] (fun i wr => ∃ k : Nat, k ≤ xs.length ∧ i = .int .i64 k ∧ Below w.heap.size w wr) (fun i _ => xs.length - (intOf i).toNat)
  case atStart => exact ⟨0, by omega, rfl, Below.refl _ _⟩
  case round =>
    obtain ⟨k, hk, rfl, hB⟩ := hrel
    by_cases hlt : k < xs.length
    · obtain ⟨b, o, rfl, hat⟩ := slice_at HV.out hlt
      obtain ⟨b', o', rfl, hat'⟩ := slice_at HU.out hlt
      obtain ⟨a2, cap2, c0, c1, c2, c3, c4, i0, hr, hm2⟩ := el_at (tEl.at_mono (below_mem hB) hat)
      obtain ⟨a3, cap3, d0, d1, d2, d3, d4, j0, hr', hm3⟩ := el_at (tEl.at_mono (below_mem hB) hat')
      have c0 : wr.cell? ⟨b, o + k * 5, none⟩ = some (.int .i64 xs[k].kind) := c0
      have c1 : wr.cell? ⟨b, o + k * 5 + 1, none⟩ = some (.int .i64 xs[k].n) := c1
      have c2 : wr.cell? ⟨b, o + k * 5 + 2, none⟩ = some (.int .i64 xs[k].time) := c2
      have c3 : wr.cell? ⟨b, o + k * 5 + 3, none⟩ = some (.slice a2 xs[k].row.length cap2) := c3
      have c4 : wr.cell? ⟨b, o + k * 5 + 4, none⟩ = some (.int .i64 xs[k].cn) := c4
      have d0 : wr.cell? ⟨b', o' + k * 5, none⟩ = some (.int .i64 xs[k].kind) := d0
      have d1 : wr.cell? ⟨b', o' + k * 5 + 1, none⟩ = some (.int .i64 xs[k].n) := d1
      have d2 : wr.cell? ⟨b', o' + k * 5 + 2, none⟩ = some (.int .i64 xs[k].time) := d2
      have d3 : wr.cell? ⟨b', o' + k * 5 + 3, none⟩ = some (.slice a3 xs[k].row.length cap3) := d3
      have d4 : wr.cell? ⟨b', o' + k * 5 + 4, none⟩ = some (.int .i64 xs[k].cn) := d4
      have HS := Lib.hid (same_el xs[k] _ _ wr.drew hr hr')
      clear hat hat' hr hr' hm2 hm3 i0 j0
      generalize xs[k] = x at *
      go_wp2_with fail
      go_region_held3 (fun w' => w'.cell? ⟨b, o + k * 5, none⟩ = some (.int .i64 x.kind) ∧ w'.cell? ⟨b, o + k * 5 + 1, none⟩ = some (.int .i64 x.n) ∧ w'.cell? ⟨b, o + k * 5 + 2, none⟩ = some (.int .i64 x.time) ∧ w'.cell? ⟨b, o + k * 5 + 3, none⟩ = some (.slice a2 x.row.length cap2) ∧ w'.cell? ⟨b, o + k * 5 + 4, none⟩ = some (.int .i64 x.cn) ∧
          w'.cell? ⟨b', o' + k * 5, none⟩ = some (.int .i64 x.kind) ∧ w'.cell? ⟨b', o' + k * 5 + 1, none⟩ = some (.int .i64 x.n) ∧ w'.cell? ⟨b', o' + k * 5 + 2, none⟩ = some (.int .i64 x.time) ∧ w'.cell? ⟨b', o' + k * 5 + 3, none⟩ = some (.slice a3 x.row.length cap3) ∧ w'.cell? ⟨b', o' + k * 5 + 4, none⟩ = some (.int .i64 x.cn))
        (first | go_keep | exact ⟨below_mem (by assumption) _ _ _ c0, below_mem (by assumption) _ _ _ c1, below_mem (by assumption) _ _ _ c2, below_mem (by assumption) _ _ _ c3, below_mem (by assumption) _ _ _ c4, below_mem (by assumption) _ _ _ d0, below_mem (by assumption) _ _ _ d1, below_mem (by assumption) _ _ _ d2, below_mem (by assumption) _ _ _ d3, below_mem (by assumption) _ _ _ d4⟩)
        ((first
          | (go_at_call 47; refine HS.out.mono ?_; rintro e w2 ⟨rfl, hb1⟩; have hb2 : Below wr.heap.size wr w2 := (Below.refl _ _).drew.trans hb1)))
      all_goals
        go_wp2
        go_roundw
        case rel => exact ⟨k + 1, by omega, by go_num, pure_trans hB (by assumption)⟩
        case measure => simp [intOf]; omega
    · obtain rfl : k = xs.length := by omega
      go_wp2
      go_ret
      exact ⟨rfl, hB⟩

set_option maxHeartbeats 400000 in
theorem mark_any (n : Int) (w : World) :
    Calls Try.prog 42 #[.int .i64 n] w fun e w' => e = .returned (elV ⟨2, n, 0, [], 0⟩ (.slice none 0 0)) ∧ Below w.heap.size w w' := by
  go_enter Try.func42, Try.ntmps42
  go_wp2
  exact bodyPost_ret (v := elV ⟨2, n, 0, [], 0⟩ (.slice none 0 0)) (by simp [results, Try.results42, go_sem]) rfl ⟨rfl, (Below.refl _ _).alloc (Nat.le_refl _) _⟩
end Go.Proofs.Ytfkphdmnelchmaa

