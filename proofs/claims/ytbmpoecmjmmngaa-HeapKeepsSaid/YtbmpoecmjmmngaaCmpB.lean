/- Orders: comparison functions, bytes: plain (XOrd's first part). -/
import Derived.Test.YtbmpoecmjmmngaaLib
namespace Go.Proofs.Ytbmpoecmjmmngaa

def bl (s : ByteArray) : List UInt8 := s.data.toList
theorem bl_inj {s t : ByteArray} (h : bl s = bl t) : s = t := by
  cases s; cases t; simpa [bl] using h

structure Good {α : Type} (c : α → α → Int) : Prop where
  refl : ∀ a, c a a = 0
  anti : ∀ a b, c b a = - c a b
  range : ∀ a b, c a b = -1 ∨ c a b = 0 ∨ c a b = 1
  trans : ∀ a b d, c a b ≤ 0 → c b d ≤ 0 → c a d ≤ 0 ∧ (c a d = 0 → c a b = 0 ∧ c b d = 0)

def cmpInt (a b : Int) : Int := if a < b then -1 else if b < a then 1 else 0
theorem cmpInt_good : Good cmpInt := by
  refine ⟨fun a => ?_, fun a b => ?_, fun a b => ?_, fun a b d => ?_⟩ <;> unfold cmpInt
  · simp
  · repeat' split
    all_goals omega
  · repeat' split
    all_goals omega
  · repeat' split
    all_goals omega
theorem Good.pull {α β : Type} {c : β → β → Int} (h : Good c) (f : α → β) : Good (fun a b => c (f a) (f b)) :=
  ⟨fun a => h.refl _, fun a b => h.anti _ _, fun a b => h.range _ _, fun a b d => h.trans _ _ _⟩
def lex {α : Type} (c1 c2 : α → α → Int) (a b : α) : Int := if c1 a b ≠ 0 then c1 a b else c2 a b
theorem lex_good {α : Type} {c1 c2 : α → α → Int} (h1 : Good c1) (h2 : Good c2) : Good (lex c1 c2) := by
  refine ⟨fun a => ?_, fun a b => ?_, fun a b => ?_, fun a b d => ?_⟩ <;> unfold lex
  · rw [h1.refl, h2.refl]; simp
  · have e1 := h1.anti a b
    have e2 := h2.anti a b
    repeat' split
    all_goals omega
  · have e1 := h1.range a b
    have e2 := h2.range a b
    split
    all_goals omega
  · have r1 := h1.range a b
    have r2 := h1.range b d
    have r3 := h1.range a d
    have t1 := h1.trans a b d
    have t2 := h2.trans a b d
    by_cases hx : c1 a b ≤ 0
    · by_cases hy : c1 b d ≤ 0
      · have t1 := t1 hx hy
        by_cases hx2 : c2 a b ≤ 0
        · by_cases hy2 : c2 b d ≤ 0
          · have t2 := t2 hx2 hy2
            repeat' split
            all_goals omega
          · repeat' split
            all_goals omega
        · repeat' split
          all_goals omega
      · repeat' split
        all_goals omega
    · repeat' split
      all_goals omega
def lexList {α : Type} (c : α → α → Int) : List α → List α → Int
  | [], [] => 0
  | [], _ :: _ => -1
  | _ :: _, [] => 1
  | a :: l, b :: m => if c a b ≠ 0 then c a b else lexList c l m
theorem lexList_good {α : Type} {c : α → α → Int} (h : Good c) : Good (lexList c) := by
  have hrefl : ∀ a, lexList c a a = 0 := fun a => by
    induction a with
    | nil => rfl
    | cons x l ih => simp [lexList, h.refl, ih]
  have hanti : ∀ a b, lexList c b a = - lexList c a b := fun a => by
    induction a with
    | nil => intro b; cases b <;> rfl
    | cons x l ih =>
      intro b
      cases b with
      | nil => rfl
      | cons y m =>
        have e1 := h.anti x y
        have e2 := ih m
        simp only [lexList]
        repeat' split
        all_goals omega
  have hrange : ∀ a b, lexList c a b = -1 ∨ lexList c a b = 0 ∨ lexList c a b = 1 := fun a => by
    induction a with
    | nil => intro b; cases b <;> simp [lexList]
    | cons x l ih =>
      intro b
      cases b with
      | nil => simp [lexList]
      | cons y m =>
        have e1 := h.range x y
        have e2 := ih m
        simp only [lexList]
        split
        all_goals omega
  refine ⟨hrefl, hanti, hrange, fun a => ?_⟩
  induction a with
  | nil =>
    intro b d
    cases b <;> cases d <;> simp [lexList]
  | cons x l ih =>
    intro b d
    cases b with
    | nil => simp [lexList]
    | cons y m =>
      cases d with
      | nil =>
        intro h1 h2
        simp [lexList] at h2
      | cons z n =>
        have r1 := h.range x y
        have r2 := h.range y z
        have r3 := h.range x z
        have t1 := h.trans x y z
        have t2 := ih m n
        simp only [lexList]
        by_cases hx : c x y ≤ 0
        · by_cases hy : c y z ≤ 0
          · have t1 := t1 hx hy
            by_cases hx2 : lexList c l m ≤ 0
            · by_cases hy2 : lexList c m n ≤ 0
              · have t2 := t2 hx2 hy2
                repeat' split
                all_goals omega
              · repeat' split
                all_goals omega
            · repeat' split
              all_goals omega
          · repeat' split
            all_goals omega
        · repeat' split
          all_goals omega

def cmpBytes : List UInt8 → List UInt8 → Int := lexList (fun a b => cmpInt a.toNat b.toNat)
theorem cmpBytes_good : Good cmpBytes := lexList_good (cmpInt_good.pull (fun a : UInt8 => (a.toNat : Int)))
theorem bytesLess_cmp : ∀ a b : List UInt8, Op.bytesLess a b = decide (cmpBytes a b < 0)
  | [], [] => rfl
  | [], _ :: _ => rfl
  | _ :: _, [] => rfl
  | a :: x, b :: y => by
    have ih := bytesLess_cmp x y
    have e : (a < b) = (a.toNat < b.toNat) := rfl
    simp only [Op.bytesLess, ih, cmpBytes, lexList, cmpInt]
    by_cases h1 : a.toNat < b.toNat
    · have h1' : a < b := h1
      simp [h1, h1']
    · have h1' : ¬ a < b := h1
      by_cases h2 : b.toNat < a.toNat
      · have h3 : (a == b) = false := by
          rw [beq_eq_false_iff_ne]; rintro rfl; omega
        simp [h3, h1', h1, h2]
      · obtain rfl : a = b := UInt8.toNat_inj.1 (by omega)
        simp [cmpBytes]
theorem bytesEq_cmp (a b : List UInt8) : (a == b) = decide (cmpBytes a b = 0) := by
  induction a generalizing b with
  | nil => cases b <;> rfl
  | cons x l ih =>
    cases b with
    | nil => rfl
    | cons y m =>
      rw [List.cons_beq_cons, ih m]
      simp only [cmpBytes, lexList, cmpInt]
      by_cases h : x = y
      · subst h; simp
      · have h3 : (x == y) = false := by rw [beq_eq_false_iff_ne]; exact h
        have h4 : ¬ x.toNat = y.toNat := fun e => h (UInt8.toNat_inj.1 e)
        rw [h3]
        simp
        repeat' split
        all_goals first | omega | simp
theorem bytesGtr_cmp (a b : List UInt8) : (!(Op.bytesLess a b || a == b)) = decide (0 < cmpBytes a b) := by
  rw [bytesLess_cmp, bytesEq_cmp]
  by_cases h : 0 < cmpBytes a b
  · have h1 : ¬ cmpBytes a b < 0 := by omega
    have h2 : ¬ cmpBytes a b = 0 := by omega
    simp [h, h1, h2]
  · by_cases h1 : cmpBytes a b < 0
    · simp [h, h1]
    · have h2 : cmpBytes a b = 0 := by omega
      simp [h2]

theorem cmpBytes_eq {a b : List UInt8} (h : cmpBytes a b = 0) : a = b := by
  have := bytesEq_cmp a b
  rw [h] at this
  simpa using this
end Go.Proofs.Ytbmpoecmjmmngaa
