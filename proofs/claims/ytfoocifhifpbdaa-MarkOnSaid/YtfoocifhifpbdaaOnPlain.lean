/- What reading by a gauge gives: the plain facts of P6.4. -/
import Derived.Test.YtfoocifhifpbdaaSortsLaw0
namespace Go.Proofs.Ytfoocifhifpbdaa
open Go.RowKit

theorem validEv_time {x : Ev} (h : validEv x = true) : -1000000000000 ≤ x.time ∧ x.time ≤ 1000000000000 := by
  simp only [validEv, Bool.and_eq_true, decide_eq_true_eq] at h
  exact h.1
theorem see_open {g : Gauge} {t : Int} (hc : g.closed = false) (ht : -1000000000000 ≤ t ∧ t ≤ 1000000000000) : g.see t = ({ g with mark := max g.mark (t - g.bound + 1) }, decide (t < g.mark), 0) := by
  unfold Gauge.see; rw [if_neg (by omega), if_neg (by simp [hc])]
theorem readFrom_len (g : Gauge) (xs : List Ev) : (readFrom g xs).length = xs.length := by
  induction xs generalizing g with
  | nil => rfl
  | cons e l ih => simp [readFrom, ih]
theorem on_late_len (ps : List (Ev × Bool)) : (onOf ps).length + (lateOf ps).length = ps.length := by
  induction ps with
  | nil => rfl
  | cons p l ih => obtain ⟨e, b⟩ := p; cases b <;> simp [onOf, lateOf] at * <;> omega
theorem readFrom_ev (g : Gauge) (xs : List Ev) : ∀ p ∈ readFrom g xs, p.1 ∈ xs := by
  induction xs generalizing g with
  | nil => intro p h; cases h
  | cons e l ih =>
    intro p h
    simp only [readFrom, List.mem_cons] at h
    rcases h with rfl | h
    · exact List.mem_cons_self ..
    · exact List.mem_cons_of_mem _ (ih _ p h)
theorem on_mem {ps : List (Ev × Bool)} {x : Ev} (h : x ∈ onOf ps) : (x, false) ∈ ps := by
  simp only [onOf, List.mem_map, List.mem_filter] at h
  obtain ⟨⟨e, b⟩, ⟨h1, h2⟩, rfl⟩ := h
  cases b
  · exact h1
  · simp at h2
theorem on_above (xs : List Ev) : ∀ (g : Gauge), g.closed = false → (∀ x ∈ xs, validEv x = true) → ∀ y ∈ onOf (readFrom g xs), g.mark ≤ y.time := by
  induction xs with
  | nil => intro g _ _ y h; simp [readFrom, onOf] at h
  | cons e l ih =>
    intro g hc hv y h
    have ht := validEv_time (hv e (List.mem_cons_self ..))
    simp only [readFrom, see_open hc ht] at h
    by_cases hl : e.time < g.mark
    · simp only [onOf, hl, decide_true, List.filter_cons, Bool.not_true] at h
      have := ih { g with mark := max g.mark (e.time - g.bound + 1) } hc (fun x hx => hv x (List.mem_cons_of_mem _ hx)) y h
      simp only at this; omega
    · simp only [onOf, hl, decide_false, List.filter_cons, Bool.not_false, if_true, List.map_cons, List.mem_cons] at h
      rcases h with rfl | h
      · omega
      · have := ih { g with mark := max g.mark (e.time - g.bound + 1) } hc (fun x hx => hv x (List.mem_cons_of_mem _ hx)) y h
        simp only at this; omega
theorem on_pairs (xs : List Ev) : ∀ (g : Gauge), g.closed = false → (∀ x ∈ xs, validEv x = true) → (onOf (readFrom g xs)).Pairwise fun x y => x.time - g.bound + 1 ≤ y.time := by
  induction xs with
  | nil => intro g _ _; simp [readFrom, onOf]
  | cons e l ih =>
    intro g hc hv
    have ht := validEv_time (hv e (List.mem_cons_self ..))
    have hr := ih { g with mark := max g.mark (e.time - g.bound + 1) } hc (fun x hx => hv x (List.mem_cons_of_mem _ hx))
    simp only [readFrom, see_open hc ht]
    by_cases hl : e.time < g.mark
    · simpa [onOf, hl] using hr
    · simp only [onOf, hl, decide_false, List.filter_cons, Bool.not_false, if_true, List.map_cons, List.pairwise_cons]
      refine ⟨fun y h => ?_, hr⟩
      have := on_above l { g with mark := max g.mark (e.time - g.bound + 1) } hc (fun x hx => hv x (List.mem_cons_of_mem _ hx)) y h
      simp only at this; omega
theorem late_none (xs : List Ev) : ∀ (g : Gauge), g.closed = false → (∀ x ∈ xs, validEv x = true) → (∀ x ∈ xs, g.mark ≤ x.time) → (∀ x ∈ xs, ∀ y ∈ xs, x.time - g.bound + 1 ≤ y.time) → lateOf (readFrom g xs) = [] := by
  induction xs with
  | nil => intro g _ _ _ _; rfl
  | cons e l ih =>
    intro g hc hv hm hp
    have ht := validEv_time (hv e (List.mem_cons_self ..))
    have h0 := hm e (List.mem_cons_self ..)
    have hr := ih { g with mark := max g.mark (e.time - g.bound + 1) } hc (fun x hx => hv x (List.mem_cons_of_mem _ hx))
      (fun x hx => by have := hm x (List.mem_cons_of_mem _ hx); have := hp e (List.mem_cons_self ..) x (List.mem_cons_of_mem _ hx); simp only; omega)
      (fun x hx y hy => hp x (List.mem_cons_of_mem _ hx) y (List.mem_cons_of_mem _ hy))
    simp only [readFrom, see_open hc ht]
    have hl : ¬ e.time < g.mark := by omega
    simpa [lateOf, hl] using hr

/-- All that the law asks. -/
structure OnFacts (b : Int) (xs os ls : List Ev) : Prop where
  len : os.length + ls.length = xs.length
  le : xs.length ≤ 400
  b0 : 0 ≤ b
  b1 : b ≤ 1000000000
  tm : ∀ x ∈ xs, -1000000000000 ≤ x.time ∧ x.time ≤ 1000000000000
  tmo : ∀ x ∈ os, -1000000000000 ≤ x.time ∧ x.time ≤ 1000000000000
  pair : os.Pairwise fun x y => x.time - b + 1 ≤ y.time
  late : ∀ lo hi : Int, (∀ x ∈ xs, lo ≤ x.time ∧ x.time ≤ hi) → ¬ b ≤ hi - lo → ls.length = 0
theorem onFacts {b : Int} {xs : List Ev} (h : xs.length ≤ 400 ∧ xs.all validEv = true) (hb : 0 ≤ b ∧ b ≤ 1000000000) :
    OnFacts b xs (onOf (readFrom ⟨b, -1000000000000, false⟩ xs)) (lateOf (readFrom ⟨b, -1000000000000, false⟩ xs)) := by
  have hv : ∀ x ∈ xs, validEv x = true := List.all_eq_true.1 h.2
  refine ⟨by rw [on_late_len, readFrom_len], h.1, hb.1, hb.2, fun x hx => validEv_time (hv x hx), fun x hx => validEv_time (hv x (readFrom_ev _ _ _ (on_mem hx))), on_pairs xs ⟨b, -1000000000000, false⟩ rfl hv, fun lo hi hall hn => ?_⟩
  rw [late_none xs ⟨b, -1000000000000, false⟩ rfl hv (fun x hx => (validEv_time (hv x hx)).1) (fun x hx y hy => by have := hall x hx; have := hall y hy; simp only; omega)]
  rfl
theorem OnFacts.lt {b : Int} {xs on late : List Ev} (h : OnFacts b xs on late) {i k : Nat} (hi : i < on.length) (hk : k < i) : (on[k]'(by omega)).time - b + 1 ≤ on[i].time :=
  List.pairwise_iff_getElem.1 h.pair k i (by omega) hi hk
end Go.Proofs.Ytfoocifhifpbdaa
