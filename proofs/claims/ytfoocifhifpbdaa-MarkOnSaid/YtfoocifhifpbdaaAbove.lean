/- Lists of the call's own whose elements lie in blocks from n on. -/
import Derived.Test.YtfoocifhifpbdaaSorted
namespace Go.Proofs.Ytfoocifhifpbdaa
open Go.RowKit

def tOn {α : Type} (S : Nat → Prop) (t : Ty α) : Ty α := ⟨t.sz, fun m cs x => t.rv (m.on S) cs x, fun _ _ _ h => t.len _ _ _ h, fun _ _ _ _ hm h => t.mono _ _ _ _ (fun _ _ _ e => by
  obtain ⟨hs, e⟩ := Mem.of_on e
  exact Mem.on_some (hm _ _ _ e) hs) h⟩
theorem Owns.keepsOn {α : Type} {t : Ty α} {S : Nat → Prop} {w w' : World} {B n : Nat} {e : TypeId} {v : Value} {xs : List α} (h : Owns (tOn S t) w B e v xs) {F : Nat → Prop} (hk : Keeps F w w')
    (hS : ∀ b, S b → n ≤ b) (hF : ∀ k o, n ≤ k → w.heap[k]? = some o → o.isCells = true → ¬ F k) (hn : n ≤ B) : Owns (tOn S t) w' B e v xs := by
  obtain ⟨css, h1, ⟨h2, h3⟩, h4, h5⟩ := h
  refine ⟨css, h1, ⟨h2, ?_⟩, h4, fun k h h' => t.mono _ _ _ _ (fun b o u e => ?_) (h5 k h h')⟩
  · rcases h3 with h3 | ⟨g, cap, cur, rfl, hg, hh, r⟩
    · exact .inl h3
    · exact .inr ⟨g, cap, cur, rfl, hg, by rw [hk.block g (Array.getElem?_eq_some_iff.1 hh).1 (hF g _ (by omega) hh rfl)]; exact hh, r⟩
  · obtain ⟨hs, e⟩ := Mem.of_on e
    obtain ⟨hs2, e⟩ := Mem.of_on e
    have hl := mem_lt e
    obtain ⟨o', ho, hc⟩ := cells_of_cell (show w.cell? ⟨b, o, none⟩ = some u from e)
    exact Mem.on_some (Mem.on_some ((mem_of_block (hk.block b hl (hF b o' (hS b hs) ho hc)) _).trans e) hs2) hs
/-- The other list over a growth of the one. -/
theorem Owns.reOn {α : Type} {t : Ty α} {S S' : Nat → Prop} {w w' : World} {B : Nat} {e : TypeId} {v : Value} {xs : List α} {row : Option Nat} (h : Owns (tOn S t) w B e v xs) (hg : w.grownBy w' row)
    (hS : ∀ b, S b → some b ≠ row) (hS' : ∀ b, b < w.heap.size → S b → S' b) (hv : ∀ k, v.ownBlock = some k → some k ≠ row) : Owns (tOn S' t) w' B e v xs := by
  obtain ⟨css, h1, ⟨h2, h3⟩, h4, h5⟩ := h
  refine ⟨css, h1, ⟨h2, ?_⟩, h4, fun k h h' => t.mono _ _ _ _ (fun b o u e => ?_) (h5 k h h')⟩
  · rcases h3 with h3 | ⟨g, cap, cur, rfl, hg', hh, r⟩
    · exact .inl h3
    · exact .inr ⟨g, cap, cur, rfl, hg', by rw [hg.block g (Array.getElem?_eq_some_iff.1 hh).1 (hv g rfl)]; exact hh, r⟩
  · obtain ⟨hs, e⟩ := Mem.of_on e
    obtain ⟨hs2, e⟩ := Mem.of_on e
    have hl := mem_lt e
    exact Mem.on_some (Mem.on_some ((mem_of_block (hg.block b hl (hS b hs)) _).trans e) hs2) (hS' b hl hs)
theorem slice_on {α : Type} {S : Nat → Prop} {t : Ty α} {m : Mem} {v : Value} {xs : List α} (h : (tSlice (tOn S t)).rv m [v] xs) : (tSlice t).rv m [v] xs := by
  obtain ⟨a, cap, h1, h2, h3, h4⟩ := h
  refine ⟨a, cap, h1, h2, h3, fun hp => ?_⟩
  obtain ⟨b, o, ha, hat⟩ := h4 hp
  refine ⟨b, o, ha, fun k hk => ?_⟩
  obtain ⟨cs, hc, hr⟩ := hat k hk
  exact ⟨cs, hc, t.mono _ _ _ _ (Mem.on_le _ _) hr⟩
/-- From n on, but for the own block of the other list. -/
def offOf (n : Nat) (v : Value) (b : Nat) : Prop := n ≤ b ∧ some b ≠ v.ownBlock
theorem own_cells {α : Type} {t : Ty α} {w : World} {B : Nat} {e : TypeId} {v : Value} {xs : List α} (h : Owns t w B e v xs) : ∀ j o, v.ownBlock = some j → w.heap[j]? = some o → o.isCells = true := by
  obtain ⟨css, _, ⟨_, h3⟩, _, _⟩ := h
  intro j o hj ho
  rcases h3 with h3 | ⟨g, cap, cur, rfl, _, hh, _⟩
  · obtain ⟨rfl, _⟩ := h3; cases hj
  · cases hj; rw [hh] at ho; cases ho; rfl

/-- What the two variables hold while events are read. -/
structure Kept2 (w : World) (n : Nat) (on late : List Ev) (W : World) : Prop where
  ex : ∃ u v, W.cell? ⟨w.heap.size, 0, none⟩ = some u ∧ W.cell? ⟨w.heap.size + 1, 0, none⟩ = some v ∧ Owns (tOn (offOf n v) tEv) W n 39 u on ∧ Owns (tOn (offOf n u) tEv) W n 39 v late ∧ (∀ k, u.ownBlock = some k → v.ownBlock ≠ some k)
  f4 : W.frozen? ⟨w.heap.size, 0, none⟩ = false
  f5 : W.frozen? ⟨w.heap.size + 1, 0, none⟩ = false
  bl : Below w.heap.size w W
theorem Kept2.keeps {w A B : World} {n : Nat} {on late : List Ev} {F : Nat → Prop} (h : Kept2 w n on late A) (hk : Keeps F A B) (hn : w.heap.size + 2 ≤ n) (hF : ∀ k, F k → w.heap.size + 2 ≤ k) (hC : ∀ k o, n ≤ k → A.heap[k]? = some o → o.isCells = true → ¬ F k) : Kept2 w n on late B := by
  obtain ⟨⟨u, v, c4, c5, o4, o5, hd⟩, f4, f5, hb⟩ := h
  have e4 : B.heap[w.heap.size]? = A.heap[w.heap.size]? := hk.block _ (mem_lt c4) (fun h => by have := hF _ h; omega)
  have e5 : B.heap[w.heap.size + 1]? = A.heap[w.heap.size + 1]? := hk.block _ (mem_lt c5) (fun h => by have := hF _ h; omega)
  exact ⟨⟨u, v, (mem_of_block e4 _).trans c4, (mem_of_block e5 _).trans c5, o4.keepsOn hk (fun _ h => h.1) hC (Nat.le_refl _), o5.keepsOn hk (fun _ h => h.1) hC (Nat.le_refl _), hd⟩,
    (World.frozen?_of_block (w := A) (a := ⟨w.heap.size, 0, none⟩) e4).trans f4, (World.frozen?_of_block (w := A) (a := ⟨w.heap.size + 1, 0, none⟩) e5).trans f5,
    Keeps.belowStep hb hk (fun k h => by have := hF k h; omega) hb.size⟩
end Go.Proofs.Ytfoocifhifpbdaa
