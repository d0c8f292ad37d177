/- slices.Sort at []int over a row of the call's own. -/
import Derived.Test.YtfkphdmnelchmaaBackPlain
import Derived.Test.YtfkphdmnelchmaaShelf
import Derived.Lib.SortBridge
namespace Go.Proofs.Ytfkphdmnelchmaa
open Go.RowKit Go.Sort

theorem Keeps.setCells {F : Nat → Prop} {b : Nat} : ∀ (vs : List Value) (o : Nat) {a w : World}, Keeps F a w → (b < a.heap.size → F b) → Keeps F a (w.setCells b o vs)
  | [], _, _, _, h, _ => h
  | v :: vs, o, _, _, h, hb => Keeps.setCells vs (o + 1) (h.setCell (p := ⟨b, o, none⟩) hb v) hb
theorem Keeps.grow {F : Nat → Prop} {a w : World} (h : Keeps F a w) (os : Array Obj) : Keeps F a (grow w os) :=
  ⟨h.os, h.tape, h.output, by have := h.size; simp; omega, fun k hk hF => by rw [Go.Sort.heap_grow_old w os (by have := h.size; omega)]; exact h.block k hk hF⟩
set_option maxHeartbeats 400000 in
theorem sort_own (B : Nat) (v : Value) (xs : List Int) (w : World) (h : Owns tInt w B 3 v xs) (hl : xs.length ≤ 1000000) (hB : B ≤ w.heap.size) :
    Calls Try.prog 43 #[v] w fun e w' => e = .returned (.tuple #[]) ∧ (tSlice tInt).rv (mem w') [v] (xs.mergeSort fun x y => decide (x ≤ y)) ∧ Below B w w' := by
  have hrv := h.rv'
  have hin : ∀ k (hk : k < xs.length), inI64 xs[k] := fun k hk => by
    obtain ⟨a, c, rfl, _, _, hv⟩ := slice_form hrv
    obtain ⟨b, o, _, hat⟩ := slice_at hv hk
    exact (int_at hat).2
  obtain ⟨css, _, ⟨_, h3⟩, _, _⟩ := h
  rcases h3 with ⟨rfl, h6⟩ | ⟨g, cap, cur, rfl, hg, hh, hn, hm, hc, ht⟩
  · obtain rfl : xs = [] := List.eq_nil_of_length_eq_zero h6
    exact (Try.slices_Sort_int_none none 0 w).mono fun e w' ⟨he, hw⟩ => ⟨he, by rw [hw]; simpa using slice_nil tInt _, by rw [hw]; exact Below.refl _ _⟩
  · have hH : Holds (Value.int .i64) w g 0 xs.toArray := fun j hj => by
      have hj' : j < xs.length := by simpa using hj
      obtain ⟨b, o, e, hat⟩ := slice_at hrv hj'
      simp only [Option.some.injEq, Addr.mk.injEq] at e
      obtain ⟨rfl, rfl, _⟩ := e
      refine ⟨?_, frozen_cells hh _⟩
      have := (int_at hat).1
      simpa [tInt, mem, hj'] using this
    refine (Try.slices_Sort_int g 0 cap xs w hH (Array.getElem?_eq_some_iff.1 hh).1 (by omega)).mono ?_
    rintro e w' ⟨he, q, os, hw⟩
    rw [Lib.sorted_world (Value.int .i64) w g 0 q _ _ os hH (by simp)] at hw
    have hlen : (xs.mergeSort fun x y => decide (x ≤ y)).length = xs.length := by simp
    have hmem : ∀ y ∈ (xs.mergeSort fun x y => decide (x ≤ y)), inI64 y := fun y hy => by
      have := (List.mergeSort_perm xs _).mem_iff.1 hy
      obtain ⟨k, hk, rfl⟩ := List.mem_iff_getElem.1 this
      exact hin k hk
    generalize (xs.mergeSort fun x y => decide (x ≤ y)) = ys at hw hlen hmem ⊢
    have hsz : g < ((w.drewN q).setCells g 0 (ys.map (Value.int .i64))).heap.size := Nat.lt_of_lt_of_le (Array.getElem?_eq_some_iff.1 hh).1 (Keeps.setCells (F := fun _ => True) _ _ ((Keeps.refl _ w).drewN q) (fun _ => trivial)).size
    refine ⟨he, ?_, ?_⟩
    · refine ⟨some ⟨g, 0, none⟩, cap, by rw [hlen], by omega, hm, fun _ => ⟨g, 0, rfl, fun k hk => ⟨[.int .i64 ys[k]], fun j u hu => ?_, rfl, hmem _ (List.getElem_mem hk)⟩⟩⟩
      match j, hu with
      | 0, hu =>
        simp at hu; subst hu
        rw [hw]
        show World.cell? _ ⟨g, 0 + k * 1 + 0, none⟩ = _
        rw [cell?_grow _ os _ hsz, show 0 + k * 1 + 0 = 0 + k by omega, World.cell?_setCells_in g _ 0 (w.drewN q) (fun t ht' => by
          have ht2 : t < xs.length := by simpa [hlen] using ht'
          have := (hH t (by simpa using ht2)).1
          show (w.cell? ⟨g, 0 + t, none⟩).isSome = true
          rw [this]; rfl) k (by simpa using hk)]
        simp [hk]
    · rw [hw]
      exact (Keeps.grow (Keeps.setCells (F := fun k => k = g) _ _ ((Keeps.refl _ w).drewN q) (fun _ => rfl)) os).below hB (fun k hk => by omega)
end Go.Proofs.Ytfkphdmnelchmaa
