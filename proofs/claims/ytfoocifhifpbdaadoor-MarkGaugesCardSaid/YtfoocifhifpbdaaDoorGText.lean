/- The texts of gauges: what is written is read, and one way alone. No program in sight. -/
import Derived.Test.YtfoocifhifpbdaaDoorNum
import Derived.Lib.IndexMore
namespace Go.Proofs.YtfoocifhifpbdaaDoor
open Go.RowKit Go.Lib

/-- A list cut at the first blank. -/
theorem cut_at (l r : List UInt8) (h : ∀ c ∈ l, c ≠ 32) : Lib.cut (l ++ 32 :: r) [32] = (l, r, true) := by
  have hi : index (l ++ 32 :: r) [32] = l.length := by
    induction l with
    | nil => simp [index]
    | cons a l ih =>
      have ha : a ≠ 32 := h a (by simp)
      have ih := ih (fun c hc => h c (by simp [hc]))
      rw [List.cons_append, index]
      have hp : ([32] : List UInt8).isPrefixOf (a :: (l ++ 32 :: r)) = false := by
        simp [List.isPrefixOf]
        exact fun e => ha e.symm
      rw [hp, ih]
      simp <;> omega
  unfold cut
  rw [hi, if_pos (by omega)]
  simp
theorem cut_none (l : List UInt8) (h : ∀ c ∈ l, c ≠ 32) : Lib.cut l [32] = (l, [], false) := by
  have hi : index l [32] = -1 := by
    induction l with
    | nil => simp [index]
    | cons a l ih =>
      have ha : a ≠ 32 := h a (by simp)
      have ih := ih (fun c hc => h c (by simp [hc]))
      rw [index]
      have hp : ([32] : List UInt8).isPrefixOf (a :: l) = false := by
        simp [List.isPrefixOf]
        exact fun e => ha e.symm
      rw [hp, ih]
      simp
  unfold cut
  rw [hi, if_neg (by omega)]

def closedL : List UInt8 := [99, 108, 111, 115, 101, 100]
def gTail (closed : Bool) (mark : Int) : List UInt8 := if closed = true then closedL else itoa mark
def gText (bound mark : Int) (closed : Bool) : List UInt8 := itoa bound ++ 32 :: gTail closed mark
structure Canon (bound mark : Int) (closed : Bool) : Prop where
  b0 : 0 ≤ bound
  b1 : bound ≤ 1000000000
  cl : closed = true → mark = 1000000000001
  op : closed = false → -1000000000000 ≤ mark ∧ mark ≤ 1000000000000 - bound + 1
theorem itoa_noblank (n : Int) : ∀ c ∈ itoa n, c ≠ 32 := fun c hc e => by
  have := itoa_bytes n c hc
  subst e
  revert this; decide
theorem itoa_nocomma (n : Int) : ∀ c ∈ itoa n, c ≠ 44 := fun c hc e => by
  have := itoa_bytes n c hc
  subst e
  revert this; decide
theorem itoa_notclosed (n : Int) : itoa n ≠ closedL := fun e => by
  have := itoa_bytes n 99 (by rw [e]; simp [closedL])
  revert this; decide
theorem gTail_noblank (c : Bool) (m : Int) : ∀ x ∈ gTail c m, x ≠ 32 := by
  unfold gTail
  cases c
  · exact itoa_noblank m
  · intro x hx e
    subst e
    rw [if_pos rfl] at hx
    revert hx; decide
theorem gText_cut (b m : Int) (c : Bool) : Lib.cut (gText b m c) [32] = (itoa b, gTail c m, true) := cut_at _ _ (itoa_noblank b)
theorem gTail_closed (c : Bool) (m : Int) : (gTail c m == closedL) = c := by
  unfold gTail
  cases c
  · simpa using itoa_notclosed m
  · simp
theorem gText_inj {b m b' m' : Int} {c c' : Bool} (h : Canon b m c) (h' : Canon b' m' c') (e : gText b m c = gText b' m' c') : b = b' ∧ m = m' ∧ c = c' := by
  have e1 := congrArg (fun l => Lib.cut l [32]) e
  simp only [gText_cut, Prod.mk.injEq, and_true] at e1
  obtain ⟨e1, e2⟩ := e1
  have hb : b = b' := itoa_inj ⟨by have := h.b0; omega, by have := h.b1; omega⟩ ⟨by have := h'.b0; omega, by have := h'.b1; omega⟩ e1
  have hc : c = c' := by rw [← gTail_closed c m, ← gTail_closed c' m', e2]
  refine ⟨hb, ?_, hc⟩
  subst hc
  cases c
  · have h1 := h.op rfl
    have h2 := h'.op rfl
    have := h.b0
    have := h'.b0
    exact itoa_inj ⟨by omega, by omega⟩ ⟨by omega, by omega⟩ (by simpa [gTail] using e2)
  · rw [h.cl rfl, h'.cl rfl]

/-- What a text says, if it is one of a gauge. -/
def Says (t : List UInt8) (r : Option (Int × Int × Bool)) : Prop :=
  match r with
  | some (b, m, c) => Canon b m c ∧ gText b m c = t
  | none => ∀ b m c, Canon b m c → gText b m c ≠ t
open Classical in
noncomputable def parseG (t : List UInt8) : Option (Int × Int × Bool) := if h : ∃ x : Int × Int × Bool, Canon x.1 x.2.1 x.2.2 ∧ gText x.1 x.2.1 x.2.2 = t then some (Classical.choose h) else none
theorem parseG_says (t : List UInt8) : Says t (parseG t) := by
  unfold parseG
  split
  · rename_i h
    exact Classical.choose_spec h
  · rename_i h
    exact fun b m c hc e => h ⟨(b, m, c), hc, e⟩
theorem parseG_some {b m : Int} {c : Bool} (h : Canon b m c) : parseG (gText b m c) = some (b, m, c) := by
  have := parseG_says (gText b m c)
  cases hp : parseG (gText b m c) with
  | none => rw [hp] at this; exact absurd rfl (this b m c h)
  | some x =>
    obtain ⟨b', m', c'⟩ := x
    rw [hp] at this
    obtain ⟨h1, h2⟩ := this
    obtain ⟨rfl, rfl, rfl⟩ := gText_inj h1 h h2
    rfl
theorem parseG_none {t : List UInt8} (h : ∀ b m c, Canon b m c → gText b m c ≠ t) : parseG t = none := by
  have := parseG_says t
  cases hp : parseG t with
  | none => rfl
  | some x =>
    obtain ⟨b', m', c'⟩ := x
    rw [hp] at this
    exact absurd this.2 (h _ _ _ this.1)
theorem itoa_len {n : Int} (h : inI64 n) : (itoa n).length ≤ 21 := itoa_length_le n h.1 h.2
theorem gText_len {b m : Int} {c : Bool} (h : Canon b m c) : (gText b m c).length ≤ 43 := by
  have h0 := h.b0
  have h1 := h.b1
  have l1 := itoa_len (n := b) ⟨by omega, by omega⟩
  unfold gText
  rw [List.length_append, List.length_cons]
  unfold gTail
  cases c
  · obtain ⟨h2, h3⟩ := h.op rfl
    have l2 := itoa_len (n := m) ⟨by omega, by omega⟩
    rw [if_neg (by simp)]
    omega
  · rw [if_pos rfl]
    simp [closedL]; omega

/-- A text cut at its blanks. -/
def wordsOf (acc : List UInt8) : List UInt8 → List (List UInt8)
  | [] => [acc]
  | c :: r => if c = 32 then acc :: wordsOf [] r else wordsOf (acc ++ [c]) r
theorem wordsOf_none (acc l : List UInt8) (h : ∀ c ∈ l, c ≠ 32) : wordsOf acc l = [acc ++ l] := by
  induction l generalizing acc with
  | nil => simp [wordsOf]
  | cons c l ih =>
    rw [wordsOf, if_neg (h c (by simp)), ih _ (fun x hx => h x (by simp [hx]))]
    simp
theorem wordsOf_at (acc l r : List UInt8) (h : ∀ c ∈ l, c ≠ 32) : wordsOf acc (l ++ 32 :: r) = (acc ++ l) :: wordsOf [] r := by
  induction l generalizing acc with
  | nil => simp [wordsOf]
  | cons c l ih =>
    rw [List.cons_append, wordsOf, if_neg (h c (by simp)), ih _ (fun x hx => h x (by simp [hx]))]
    simp
theorem wordsOf_gText (b m : Int) (c : Bool) : wordsOf [] (gText b m c) = [itoa b, gTail c m] := by
  unfold gText
  rw [wordsOf_at [] _ _ (itoa_noblank b), wordsOf_none [] _ (gTail_noblank c m)]
  simp
end Go.Proofs.YtfoocifhifpbdaaDoor
