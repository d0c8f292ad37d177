/- Wires, in plain words: with the bounds; every act's step. -/
import Derived.Test.YtfkphdmnelchmaaSim
namespace Go.Proofs.Ytfkphdmnelchmaa

structure Sound (c : Int) (n : Nat) (r : Raw) (ah : List El) (ps : List PK) (m : Nat) : Prop extends Sim r ah ps m where
  s1 : 1 ≤ r.size ∧ r.size ≤ 100
  rm : 1 ≤ r.room ∧ r.room ≤ 1000
  cr : r.credits + ps.length = c
  c0 : 0 ≤ r.credits
  c1 : 1 ≤ c ∧ c ≤ 100
  nx : 0 ≤ r.next - ps.length
  n1 : r.next ≤ n
  k1 : r.count ≤ 4000
  ok : ∀ x ∈ contentsOf r ah ps, validEl x = true ∧ x.ok
  pe : ∀ p ∈ r.pt, p.els.length ≤ 4000

theorem mem_take_flat {α β : Type} {f : α → List β} {l : List α} {m : Nat} {x : β} (h : x ∈ (l.take m).flatMap f) : x ∈ l.flatMap f := by
  obtain ⟨a, ha, hx⟩ := List.mem_flatMap.1 h
  exact List.mem_flatMap.2 ⟨a, List.mem_of_mem_take ha, hx⟩
theorem len_flat_take {α β : Type} {f : α → List β} : ∀ (l : List α) (m : Nat), ((l.take m).flatMap f).length ≤ (l.flatMap f).length
  | [], m => by simp
  | x :: l, 0 => by simp
  | x :: l, m + 1 => by
    rw [List.take_succ_cons, List.flatMap_cons, List.flatMap_cons, List.length_append, List.length_append]
    have := len_flat_take (f := f) l m
    omega
theorem items_len : ∀ (l : List PK), (l.flatMap pkItems).length = (l.flatMap (·.els)).length
  | [] => rfl
  | p :: l => by rw [List.flatMap_cons, List.flatMap_cons, List.length_append, List.length_append, items_len l]; simp [pkItems]
theorem len_mem_flat {α β : Type} {f : α → List β} {l : List α} {a : α} (h : a ∈ l) : (f a).length ≤ (l.flatMap f).length := by
  induction l with
  | nil => cases h
  | cons x l ih =>
    rw [List.flatMap_cons, List.length_append]
    rcases List.mem_cons.1 h with e | h
    · subst e; omega
    · have := ih h; omega

section
variable {c : Int} {n : Nat} {r : Raw} {ah : List El} {ps : List PK} {m : Nat}
theorem Sound.mono (h : Sound c n r ah ps m) {n' : Nat} (hn : n ≤ n') : Sound c n' r ah ps m := ⟨h.toSim, h.s1, h.rm, h.cr, h.c0, h.c1, h.nx, by have := h.n1; omega, h.k1, h.ok, h.pe⟩
theorem Sound.fine (h : Sound c n r ah ps m) (hn : n ≤ 1000000) : Fine r := by
  have hc := h.cnt
  have hk := h.k1
  have htu := h.tu
  have hm := h.hm
  have hnx := h.nx
  have hbl : r.buffer.length ≤ ah.length + (ps.flatMap (·.els)).length := by
    rw [h.buf, List.length_append, List.length_map]
    have := len_flat_take (f := pkItems) ps m
    have e := items_len ps
    omega
  have hbel : ∀ i ∈ r.buffer, i.el ∈ contentsOf r ah ps := fun i hi => by
    rw [h.buf] at hi
    unfold contentsOf
    rcases List.mem_append.1 hi with hi | hi
    · obtain ⟨x, hx, rfl⟩ := List.mem_map.1 hi
      simp [hx]
    · obtain ⟨p, hp, hx⟩ := List.mem_flatMap.1 (mem_take_flat hi)
      obtain ⟨x, hx', rfl⟩ := List.mem_map.1 hx
      exact List.mem_append_left _ (List.mem_append_right _ (List.mem_flatMap.2 ⟨p, hp, hx'⟩))
  refine ⟨h.s1.1, h.s1.2, h.c0, by have := h.cr; have := h.c1; omega, by omega, by have := h.n1; omega, by omega, by omega, by omega, hk, by omega, by omega, ?_, fun i hi => (by have := validEl_row (h.ok _ (hbel i hi)).1; omega), fun i hi a ha => ?_, fun k a hw => ?_, fun k a he => ?_, h.pe, h.rm⟩
  · by_cases hb : r.buffer = []
    · exact .inr hb
    · have := List.length_pos_iff.2 hb
      exact .inl (by omega)
  · rw [h.buf] at hi
    rcases List.mem_append.1 hi with hi | hi
    · obtain ⟨x, _, rfl⟩ := List.mem_map.1 hi; cases ha
    · obtain ⟨p, hp, hx⟩ := List.mem_flatMap.1 (mem_take_flat hi)
      obtain ⟨x, hx, rfl⟩ := List.mem_map.1 hx
      cases ha
      obtain ⟨q, hq, g1, g2, _⟩ := h.pt p hp
      have hne := List.length_pos_iff.2 (h.ne p hp)
      have := len_mem_flat (f := fun p : PK => p.els) hp
      exact ⟨q, hq, g1, by omega, by omega⟩
  · obtain ⟨p, hp, h1, h2, _⟩ := (h.way k a).1 hw
    obtain ⟨q, hq, g1, _⟩ := h.pt p hp
    exact ⟨by rw [← h1]; exact h.toSimX.numLt hp, q, hq, g1.trans h2⟩
  · obtain ⟨p, hp, h1, h2, _⟩ := (h.early k a).1 he
    obtain ⟨q, hq, g1, _⟩ := h.pt p hp
    exact ⟨by rw [← h1]; exact h.toSimX.numLt hp, q, hq, g1.trans h2⟩
end
end Go.Proofs.Ytfkphdmnelchmaa
