/- Canonical texts of rows: what a reader meets. -/
import Derived.Test.YtkldimaoafgolaaDoorText
import Derived.Test.YtkldimaoafgolaaDoorNum
namespace Go.Proofs.YtkldimaoafgolaaDoor
open Go.RowKit

def leftText (l : List Val) : List UInt8 := Lib.join (l.map valText) [44]
theorem left_one (x : Val) : leftText [x] = valText x := by simp [leftText, Lib.join_cons, Lib.joinTail]
theorem left_more (x y : Val) (l : List Val) : leftText (x :: y :: l) = valText x ++ 44 :: leftText (y :: l) := by
  simp [leftText, Lib.join_cons, Lib.joinTail]
theorem left_row {r : List Val} (h : validRow r = true) : rowText r = leftText r := by unfold rowText leftText; rw [if_pos h]

/-- A quoted text behind its first byte, and what is behind it. -/
def qrest (q rest : List UInt8) : List UInt8 := q.flatMap quoteByte ++ 34 :: rest
theorem quote_rest (q rest : List UInt8) : quoteList q ++ rest = 34 :: qrest q rest := by simp [quoteList, qrest]
theorem q_cons (c : UInt8) (q rest : List UInt8) : qrest (c :: q) rest = quoteByte c ++ qrest q rest := by simp [qrest]
theorem quote_cases (c : UInt8) : ((c.toNat = 34 ∨ c.toNat = 92) ∧ quoteByte c = [92, c]) ∨ (c.toNat = 10 ∧ quoteByte c = [92, 110]) ∨ (c.toNat ≠ 34 ∧ c.toNat ≠ 92 ∧ quoteByte c = [92, 120, hexDigit (c.toNat / 16), hexDigit (c.toNat % 16)]) ∨ (c.toNat ≠ 34 ∧ c.toNat ≠ 92 ∧ quoteByte c = [c]) := by
  by_cases h1 : c.toNat = 34 ∨ c.toNat = 92
  · exact .inl ⟨h1, by unfold quoteByte; rw [if_pos h1]⟩
  · by_cases h2 : c.toNat = 10
    · exact .inr (.inl ⟨h2, by unfold quoteByte; rw [if_neg h1, if_pos h2]⟩)
    · by_cases h3 : c.toNat < 32 ∨ 126 < c.toNat
      · exact .inr (.inr (.inl ⟨by omega, by omega, by unfold quoteByte; rw [if_neg h1, if_neg h2, if_pos h3]⟩))
      · exact .inr (.inr (.inr ⟨by omega, by omega, by unfold quoteByte; rw [if_neg h1, if_neg h2, if_neg h3]⟩))
/-- What a reader of a quoted text has read, and what is left, if the text is canonical. -/
def QCond (all b s : List UInt8) : Prop := ∀ q rest, all = 34 :: qrest q rest → ∃ i, i ≤ q.length ∧ b = q.take i ∧ s = qrest (q.drop i) rest
theorem QCond.start (all s : List UInt8) (h : all = 34 :: s) : QCond all [] s := fun q rest e => ⟨0, by omega, rfl, by rw [h] at e; injection e⟩
theorem QCond.next {all b s : List UInt8} (h : QCond all b s) {q rest : List UInt8} (e : all = 34 :: qrest q rest) : (b = q ∧ s = 34 :: rest) ∨ ∃ i, ∃ hi : i < q.length, b = q.take i ∧ s = quoteByte q[i] ++ qrest (q.drop (i + 1)) rest := by
  obtain ⟨i, hi, hb, hs⟩ := h q rest e
  by_cases hl : i < q.length
  · exact .inr ⟨i, hl, hb, by rw [hs, List.drop_eq_getElem_cons hl, q_cons]⟩
  · obtain rfl : i = q.length := by omega
    exact .inl ⟨by rw [hb, List.take_length], by rw [hs, List.drop_length]; rfl⟩
theorem q_snoc {q : List UInt8} {i : Nat} (hi : i < q.length) {b : List UInt8} (hb : b = q.take i) : b ++ [q[i]] = q.take (i + 1) := by rw [hb, List.take_succ_eq_append_getElem hi]
theorem QCond.plain {all b s : List UInt8} {c : UInt8} (h : QCond all b (c :: s)) (h1 : c.toNat ≠ 34) (h2 : c.toNat ≠ 92) : QCond all (b ++ [c]) s := fun q rest e => by
  rcases h.next e with ⟨_, hs⟩ | ⟨i, hi, hb, hs⟩
  · injection hs with hs _; exact absurd (by rw [hs]; rfl) h1
  · rcases quote_cases q[i] with ⟨_, g⟩ | ⟨_, g⟩ | ⟨_, _, g⟩ | ⟨_, _, g⟩ <;> rw [g] at hs <;> injection hs with hs1 hs2
    · exact absurd (by rw [hs1]; rfl) h2
    · exact absurd (by rw [hs1]; rfl) h2
    · exact absurd (by rw [hs1]; rfl) h2
    · exact ⟨i + 1, hi, by rw [hs1]; exact q_snoc hi hb, hs2⟩
theorem QCond.nl {all b s : List UInt8} (h : QCond all b (92 :: 110 :: s)) : QCond all (b ++ [10]) s := fun q rest e => by
  rcases h.next e with ⟨_, hs⟩ | ⟨i, hi, hb, hs⟩
  · injection hs with hs _; cases hs
  · rcases quote_cases q[i] with ⟨k, g⟩ | ⟨k, g⟩ | ⟨_, _, g⟩ | ⟨_, k, g⟩ <;> rw [g] at hs <;> injection hs with hs1 hs2
    · injection hs2 with hs2 hs3
      rw [← hs2] at k; rcases k with k | k <;> cases k
    · injection hs2 with hs2 hs3
      have hq : q[i] = 10 := UInt8.toNat_inj.1 k
      exact ⟨i + 1, hi, by rw [← hq]; exact q_snoc hi hb, hs3⟩
    · injection hs2 with hs2 hs3; cases hs2
    · rw [← hs1] at k; exact absurd rfl k
/-- The two digits of a byte, as a reader of numbers tells it. -/
def HexIs (h1 h2 : UInt8) (n : Nat) : Prop := ∀ c : UInt8, h1 = hexDigit (c.toNat / 16) → h2 = hexDigit (c.toNat % 16) → n = c.toNat
theorem QCond.hex {all b s : List UInt8} {h1 h2 : UInt8} {n : Nat} (h : QCond all b (92 :: 120 :: h1 :: h2 :: s)) (hn : HexIs h1 h2 n) : QCond all (b ++ [UInt8.ofNat n]) s := fun q rest e => by
  rcases h.next e with ⟨_, hs⟩ | ⟨i, hi, hb, hs⟩
  · injection hs with hs _; cases hs
  · rcases quote_cases q[i] with ⟨k, g⟩ | ⟨k, g⟩ | ⟨_, _, g⟩ | ⟨_, k, g⟩ <;> rw [g] at hs <;> injection hs with hs1 hs2
    · injection hs2 with hs2 hs3
      rw [← hs2] at k; rcases k with k | k <;> cases k
    · injection hs2 with hs2 hs3; cases hs2
    · injection hs2 with hs2 hs3; injection hs3 with hs3 hs4; injection hs4 with hs4 hs5
      have := hn q[i] hs3 hs4
      exact ⟨i + 1, hi, by rw [this, UInt8.ofNat_toNat]; exact q_snoc hi hb, hs5⟩
    · rw [← hs1] at k; exact absurd rfl k
theorem QCond.esc {all b s : List UInt8} {c : UInt8} (h : QCond all b (92 :: c :: s)) (h1 : c.toNat ≠ 110) (h2 : c.toNat = 120 → s.length < 2) : QCond all (b ++ [c]) s := fun q rest e => by
  rcases h.next e with ⟨_, hs⟩ | ⟨i, hi, hb, hs⟩
  · injection hs with hs _; cases hs
  · rcases quote_cases q[i] with ⟨k, g⟩ | ⟨k, g⟩ | ⟨_, _, g⟩ | ⟨_, k, g⟩ <;> rw [g] at hs <;> injection hs with hs1 hs2
    · injection hs2 with hs2 hs3
      exact ⟨i + 1, hi, by rw [hs2]; exact q_snoc hi hb, hs3⟩
    · injection hs2 with hs2 hs3; exact absurd (by rw [hs2]; rfl) h1
    · injection hs2 with hs2 hs3
      have := h2 (by rw [hs2]; rfl)
      rw [hs3] at this
      simp at this
      omega
    · rw [← hs1] at k; exact absurd rfl k
theorem QCond.short {all b b' : List UInt8} (h : QCond all b [92]) : QCond all b' [] := fun q rest e => by
  rcases h.next e with ⟨_, hs⟩ | ⟨i, hi, hb, hs⟩
  · injection hs with hs _; cases hs
  · rcases quote_cases q[i] with ⟨k, g⟩ | ⟨k, g⟩ | ⟨_, _, g⟩ | ⟨_, k, g⟩ <;> rw [g] at hs <;> injection hs with hs1 hs2
    · cases hs2
    · cases hs2
    · cases hs2
    · rw [← hs1] at k; exact absurd rfl k
theorem QCond.done {all b s : List UInt8} (h : QCond all b (34 :: s)) {q rest : List UInt8} (e : all = 34 :: qrest q rest) : b = q ∧ s = rest := by
  rcases h.next e with ⟨hb, hs⟩ | ⟨i, hi, hb, hs⟩
  · injection hs with _ hs; exact ⟨hb, hs⟩
  · rcases quote_cases q[i] with ⟨k, g⟩ | ⟨k, g⟩ | ⟨_, _, g⟩ | ⟨k, _, g⟩ <;> rw [g] at hs <;> injection hs with hs1 hs2
    · cases hs1
    · cases hs1
    · cases hs1
    · rw [← hs1] at k; exact absurd rfl k
theorem QCond.none {all b : List UInt8} (h : QCond all b []) {q rest : List UInt8} (e : all = 34 :: qrest q rest) : False := by
  rcases h.next e with ⟨_, hs⟩ | ⟨i, hi, hb, hs⟩
  · cases hs
  · rcases quote_cases q[i] with ⟨k, g⟩ | ⟨k, g⟩ | ⟨_, _, g⟩ | ⟨_, k, g⟩ <;> rw [g] at hs <;> cases hs
/-- The first byte of a value's text. -/
theorem val_head {x : Val} (h : validVal x = true) : (x.kind = 0 ∧ valText x = [126]) ∨ (x.kind = 1 ∧ valText x = Lib.itoa x.n) ∨ (x.kind = 2 ∧ valText x = quoteList x.s.data.toList) := by
  rcases validVal_kinds h with k | k | k <;> unfold valText
  · exact .inl ⟨k, by rw [if_neg (by omega), if_neg (by omega)]⟩
  · exact .inr (.inl ⟨k, by rw [if_pos k]⟩)
  · exact .inr (.inr ⟨k, by rw [if_neg (by omega), if_pos k]⟩)
end Go.Proofs.YtkldimaoafgolaaDoor
