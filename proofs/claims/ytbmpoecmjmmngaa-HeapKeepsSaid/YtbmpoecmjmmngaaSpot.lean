/- Places of entries within a group: their order: plain. -/
import Derived.Test.YtbmpoecmjmmngaaCmpB
import Derived.Sort.Statements
import Derived.Lib.Strings
namespace Go.Proofs.Ytbmpoecmjmmngaa

/-- Where an entry stands within a group: name, key. -/
abbrev Spot := ByteArray × ByteArray
def spotC : Spot → Spot → Int := lex (fun a b => cmpBytes a.1.toList b.1.toList) (fun a b => cmpBytes a.2.toList b.2.toList)
theorem spotC_good : Good spotC := lex_good (cmpBytes_good.pull (fun a : Spot => a.1.toList)) (cmpBytes_good.pull (fun a : Spot => a.2.toList))
theorem spotC_eq {a b : Spot} (h : spotC a b = 0) : a = b := by
  have h1 : cmpBytes a.1.toList b.1.toList = 0 := by
    unfold spotC lex at h
    split at h
    · omega
    · next h1 => exact Classical.not_not.1 h1
  have h2 : cmpBytes a.2.toList b.2.toList = 0 := by
    unfold spotC lex at h
    rw [if_neg (by simpa using h1)] at h
    exact h
  have e1 := cmpBytes_eq h1
  have e2 := cmpBytes_eq h2
  rw [Lib.toList_data, Lib.toList_data] at e1 e2
  exact Prod.ext (bl_inj e1) (bl_inj e2)
/-- The keys of a map, ascending. -/
structure Keysof {α : Type} (f : Spot → Option α) (ss : List Spot) : Prop where
  up : ss.Pairwise (fun a b => spotC a b < 0)
  mem : ∀ k, k ∈ ss ↔ (f k).isSome = true
theorem sorted_unique {α : Type} {c : α → α → Int} (g : Good c) : ∀ {l m : List α}, l.Pairwise (fun a b => c a b < 0) → m.Pairwise (fun a b => c a b < 0) → (∀ x, x ∈ l ↔ x ∈ m) → l = m
  | [], [], _, _, _ => rfl
  | [], y :: m, _, _, h => absurd ((h y).2 List.mem_cons_self) (by simp)
  | x :: l, [], _, _, h => absurd ((h x).1 List.mem_cons_self) (by simp)
  | x :: l, y :: m, hl, hm, h => by
    rw [List.pairwise_cons] at hl hm
    have hxy : x = y := by
      rcases List.mem_cons.1 ((h x).1 List.mem_cons_self) with e | e
      · exact e
      rcases List.mem_cons.1 ((h y).2 List.mem_cons_self) with e' | e'
      · exact e'.symm
      · have h1 := hm.1 x e
        have h2 := hl.1 y e'
        have := g.anti x y
        omega
    subst hxy
    have hnx : ∀ {k : List α}, (∀ a ∈ k, c x a < 0) → x ∉ k := fun hk hx => by have := hk x hx; have := g.refl x; omega
    rw [sorted_unique g hl.2 hm.2 (fun z => ?_)]
    constructor
    · intro hz
      rcases List.mem_cons.1 ((h z).1 (List.mem_cons_of_mem _ hz)) with e | e
      · subst e; exact absurd hz (hnx hl.1)
      · exact e
    · intro hz
      rcases List.mem_cons.1 ((h z).2 (List.mem_cons_of_mem _ hz)) with e | e
      · subst e; exact absurd hz (hnx hm.1)
      · exact e
theorem Keysof.unique {α : Type} {f : Spot → Option α} {ss tt : List Spot} (h : Keysof f ss) (h' : Keysof f tt) : ss = tt :=
  sorted_unique spotC_good h.up h'.up (fun k => (h.mem k).trans (h'.mem k).symm)
theorem Good.lt_trans {α : Type} {c : α → α → Int} (g : Good c) {a b d : α} (h1 : c a b < 0) (h2 : c b d < 0) : c a d < 0 := by
  have := g.trans a b d (by omega) (by omega)
  by_cases h : c a d = 0
  · have := this.2 h; omega
  · omega
end Go.Proofs.Ytbmpoecmjmmngaa
