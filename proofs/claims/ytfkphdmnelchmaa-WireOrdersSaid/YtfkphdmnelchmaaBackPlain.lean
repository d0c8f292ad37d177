/- Backpressure, in plain words: what is met walking against the edges. No program in sight. -/
import Derived.Test.YtfkphdmnelchmaaArg
namespace Go.Proofs.Ytfkphdmnelchmaa

/-- Number x is reached in one step out of S. -/
def BStep (es : List (Int × Int)) (ws : List Bool) (S : List Int) (x : Int) : Prop := ∃ i : Nat, ∃ e, ws[i]? = some true ∧ es[i]? = some e ∧ e.2 ∈ S ∧ e.1 = x
theorem BStep.mono {es : List (Int × Int)} {ws : List Bool} {S S' : List Int} {x : Int} (h : BStep es ws S x) (hs : ∀ y ∈ S, y ∈ S') : BStep es ws S' x := by
  obtain ⟨i, e, h1, h2, h3, h4⟩ := h
  exact ⟨i, e, h1, h2, hs _ h3, h4⟩
/-- What was met so far, in some order. -/
inductive BGen (es : List (Int × Int)) (ws : List Bool) (p : Int) : List Int → Prop
  | nil : BGen es ws p []
  | snoc (L : List Int) (x : Int) : BGen es ws p L → BStep es ws (p :: L) x → x ∉ p :: L → BGen es ws p (L ++ [x])
def BDone (es : List (Int × Int)) (ws : List Bool) (p : Int) (L : List Int) : Prop := ∀ x, BStep es ws (p :: L) x → x ∈ p :: L

theorem BGen.sub {es : List (Int × Int)} {ws : List Bool} {p : Int} {L L' : List Int} (h : BGen es ws p L) (h' : BDone es ws p L') : ∀ x ∈ p :: L, x ∈ p :: L' := by
  induction h with
  | nil => intro x hx; simp at hx; simp [hx]
  | snoc L x _ hst _ ih =>
    intro y hy
    rcases List.mem_cons.1 hy with e | hy
    · simp [e]
    · rcases List.mem_append.1 hy with hy | hy
      · exact ih _ (List.mem_cons_of_mem _ hy)
      · rw [List.mem_singleton] at hy
        subst hy
        exact h' _ (hst.mono ih)
theorem BGen.nodup {es : List (Int × Int)} {ws : List Bool} {p : Int} {L : List Int} (h : BGen es ws p L) : (p :: L).Nodup := by
  induction h with
  | nil => simp
  | snoc L x _ _ hx ih =>
    rw [← List.cons_append]
    refine List.nodup_append.2 ⟨ih, by simp, ?_⟩
    intro a ha b hb e
    simp at hb
    subst hb; subst e
    exact hx ha
theorem nodup_len {M : List Int} : ∀ {L : List Int}, L.Nodup → (∀ x ∈ L, x ∈ M) → L.length ≤ M.length := by
  induction M with
  | nil => intro L _ h; cases L with
    | nil => simp
    | cons x L => exact absurd (h x (by simp)) (by simp)
  | cons m M ih =>
    intro L hn h
    have h1 : (L.erase m).length ≤ M.length := ih (hn.erase m) (fun x hx => by
      have hx2 := (List.Nodup.mem_erase_iff hn).1 hx
      rcases List.mem_cons.1 (h x hx2.2) with e | e
      · exact absurd e hx2.1
      · exact e)
    by_cases hm : m ∈ L
    · rw [List.length_erase_of_mem hm] at h1
      simp; omega
    · rw [List.erase_of_not_mem hm] at h1
      simp; omega
theorem BGen.inEs {es : List (Int × Int)} {ws : List Bool} {p : Int} {L : List Int} (h : BGen es ws p L) : ∀ x ∈ L, x ∈ es.map (·.1) := by
  induction h with
  | nil => intro x hx; cases hx
  | snoc L x _ hst _ ih =>
    intro y hy
    rcases List.mem_append.1 hy with hy | hy
    · exact ih y hy
    · rw [List.mem_singleton] at hy
      subst hy
      obtain ⟨i, e, _, h2, _, h4⟩ := hst
      exact List.mem_map.2 ⟨e, List.mem_of_getElem? h2, h4⟩
theorem BGen.len {es : List (Int × Int)} {ws : List Bool} {p : Int} {L : List Int} (h : BGen es ws p L) : L.length ≤ es.length := by
  have := nodup_len (List.nodup_cons.1 h.nodup).2 h.inEs
  simpa using this
theorem BGen.perm {es : List (Int × Int)} {ws : List Bool} {p : Int} {L L' : List Int} (h : BGen es ws p L) (d : BDone es ws p L) (h' : BGen es ws p L') (d' : BDone es ws p L') : L.Perm L' := by
  have n1 := List.nodup_cons.1 h.nodup
  have n2 := List.nodup_cons.1 h'.nodup
  refine (List.perm_ext_iff_of_nodup n1.2 n2.2).2 fun x => ⟨fun hx => ?_, fun hx => ?_⟩
  · rcases List.mem_cons.1 (h.sub d' x (List.mem_cons_of_mem _ hx)) with e | e
    · subst e; exact absurd hx n1.1
    · exact e
  · rcases List.mem_cons.1 (h'.sub d x (List.mem_cons_of_mem _ hx)) with e | e
    · subst e; exact absurd hx n2.1
    · exact e
/-- The list in order, told by what it is. -/
def InOrder (L S : List Int) : Prop := S.Perm L ∧ S.Pairwise (· ≤ ·)
theorem InOrder.unique {L L' S S' : List Int} (h : InOrder L S) (h' : InOrder L' S') (p : L.Perm L') : S = S' :=
  List.Perm.eq_of_pairwise (fun a b _ _ h1 h2 => Int.le_antisymm h1 h2) h.2 h'.2 ((h.1.trans p).trans h'.1.symm)
theorem InOrder.sort (L : List Int) : InOrder L (L.mergeSort fun x y => decide (x ≤ y)) :=
  ⟨List.mergeSort_perm _ _, by
    have := List.pairwise_mergeSort (le := fun x y : Int => decide (x ≤ y)) (fun a b c h1 h2 => by simp at *; omega) (fun a b => by simp; omega) L
    exact this.imp (by simp)⟩

def inCount (x : Int) : Bool := decide (0 ≤ x) && decide (x < 1000000)
def edgesOk (es : List (Int × Int)) : Bool := es.all fun e => inCount e.1 && inCount e.2
/-- What Backpressure says: errno and list. -/
def BackSays (es : List (Int × Int)) (ws : List Bool) (p : Int) (code : Int) (S : List Int) : Prop :=
  if es.length ≠ ws.length then code = 9 ∧ S = [] else if (inCount p && edgesOk es) = false then code = 7 ∧ S = [] else code = 0 ∧ ∃ L, BGen es ws p L ∧ BDone es ws p L ∧ InOrder L S
theorem BackSays.unique {es : List (Int × Int)} {ws : List Bool} {p c c' : Int} {S S' : List Int} (h : BackSays es ws p c S) (h' : BackSays es ws p c' S') : c = c' ∧ S = S' := by
  unfold BackSays at h h'
  split at h
  · rename_i hn; rw [if_pos hn] at h'; exact ⟨h.1.trans h'.1.symm, h.2.trans h'.2.symm⟩
  · rename_i hn; rw [if_neg hn] at h'
    split at h
    · rename_i hk; rw [if_pos hk] at h'; exact ⟨h.1.trans h'.1.symm, h.2.trans h'.2.symm⟩
    · rename_i hk; rw [if_neg hk] at h'
      obtain ⟨h0, L, a, b, o⟩ := h
      obtain ⟨h0', L', a', b', o'⟩ := h'
      exact ⟨h0.trans h0'.symm, o.unique o' (a.perm b a' b')⟩
end Go.Proofs.Ytfkphdmnelchmaa
