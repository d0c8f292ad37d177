/- Decimal numerals: what is written is read. No program in sight. -/
import Derived.Test.YtkldimaoafgolaaDoorLib
import Derived.Lib.AtoiAllCases
import Derived.Lib.ItoaLen
namespace Go.Proofs.YtkldimaoafgolaaDoor
open Go.RowKit Go.Lib

def isDig (c : UInt8) : Bool := decide (48 ≤ c.toNat ∧ c.toNat ≤ 57)
def dval (acc : Nat) : List UInt8 → Nat
  | [] => acc
  | c :: r => dval (acc * 10 + (c.toNat - 48)) r
theorem dval_snoc (acc : Nat) (l : List UInt8) (c : UInt8) : dval acc (l ++ [c]) = dval acc l * 10 + (c.toNat - 48) := by
  induction l generalizing acc with
  | nil => rfl
  | cons a l ih => exact ih _
theorem dval_lt (l : List UInt8) : ∀ (acc k : Nat), acc < 10 ^ k → (∀ c ∈ l, isDig c = true) → dval acc l < 10 ^ (k + l.length) := by
  induction l with
  | nil =>
    intro acc k h _
    exact h
  | cons c r ih =>
    intro acc k h hd
    have hc := hd c (by simp)
    unfold isDig at hc
    have hc := of_decide_eq_true hc
    have h2 : acc * 10 + (c.toNat - 48) < 10 ^ (k + 1) := by rw [Nat.pow_succ]; omega
    have := ih (acc * 10 + (c.toNat - 48)) (k + 1) h2 (fun x hx => hd x (by simp [hx]))
    have e : k + (c :: r).length = k + 1 + r.length := by rw [List.length_cons]; omega
    rw [e]
    exact this
theorem ofNat_dig (d : Nat) (h : d < 10) : (UInt8.ofNat (48 + d)).toNat = 48 + d := by
  rw [UInt8.toNat_ofNat']
  omega
theorem decDigits_dig (u : Nat) : ∀ c ∈ decDigits u, isDig c = true := by
  induction u using Nat.strongRecOn with
  | _ u ih =>
    intro c hc
    rw [decDigits] at hc
    split at hc
    · simp only [List.mem_singleton] at hc
      subst hc
      unfold isDig
      rw [ofNat_dig u (by omega)]
      simp; omega
    · rcases List.mem_append.1 hc with hc | hc
      · exact ih (u / 10) (by omega) c hc
      · simp only [List.mem_singleton] at hc
        subst hc
        unfold isDig
        rw [ofNat_dig (u % 10) (by omega)]
        simp; omega
theorem decDigits_val (u : Nat) : dval 0 (decDigits u) = u := by
  induction u using Nat.strongRecOn with
  | _ u ih =>
    rw [decDigits]
    split
    · show 0 * 10 + ((UInt8.ofNat (48 + u)).toNat - 48) = u
      rw [ofNat_dig u (by omega)]
      omega
    · rw [dval_snoc, ih (u / 10) (by omega), ofNat_dig (u % 10) (by omega)]
      omega
theorem decDigits_ne (u : Nat) : decDigits u ≠ [] := fun e => by
  have h1 := decDigits_length u
  have h2 := nDigits_pos u
  rw [e] at h1
  simp at h1
  omega
theorem parseUint10_dval : ∀ (l : List UInt8) (acc : Nat), (∀ c ∈ l, isDig c = true) → dval acc l < 18446744073709551616 → parseUint10 acc l = .ok (dval acc l)
  | [], _, _, _ => rfl
  | c :: r, acc, hd, hb => by
    have hc := hd c (by simp)
    unfold isDig at hc
    have hc := of_decide_eq_true hc
    have hmono : ∀ (l : List UInt8) (a : Nat), a ≤ dval a l := fun l => by
      induction l with
      | nil => exact fun a => Nat.le_refl a
      | cons x l ih => exact fun a => Nat.le_trans (by omega) (ih (a * 10 + (x.toNat - 48)))
    have h1 := hmono r (acc * 10 + (c.toNat - 48))
    have hb' : dval (acc * 10 + (c.toNat - 48)) r < 18446744073709551616 := hb
    simp only [parseUint10, if_pos hc]
    rw [if_neg (by omega), if_neg (by omega)]
    exact parseUint10_dval r _ (fun x hx => hd x (by simp [hx])) hb'
theorem parseMag_digits (u : Nat) (h : u < 18446744073709551616) : parseMag (decDigits u) = .ok u := by
  unfold parseMag
  rw [if_neg (decDigits_ne u), parseUint10_dval _ 0 (decDigits_dig u) (by rw [decDigits_val]; exact h), decDigits_val]
theorem atoi_itoa (n : Int) (h : inI64 n) : atoiAll (itoa n) = .ok n := by
  obtain ⟨h1, h2⟩ := h
  unfold itoa
  by_cases hn : n < 0
  · rw [if_pos hn, atoiAll_minus, parseMag_digits _ (by omega)]
    simp only [signed]
    rw [if_neg (by omega)]
    congr 1
    omega
  · rw [if_neg hn]
    have hm := parseMag_digits n.toNat (by omega)
    have hd := decDigits_dig n.toNat
    have hne := decDigits_ne n.toNat
    cases hl : decDigits n.toNat with
    | nil => exact absurd hl hne
    | cons c r =>
      rw [hl] at hm hd
      have hc := hd c (by simp)
      unfold isDig at hc
      have hc := of_decide_eq_true hc
      rw [atoiAll_plain c r (by omega) (by omega), hm]
      simp only [signless]
      rw [if_neg (by omega)]
      congr 1
      omega
theorem itoa_inj {a b : Int} (ha : inI64 a) (hb : inI64 b) (h : itoa a = itoa b) : a = b := by
  have h1 := atoi_itoa a ha
  rw [h, atoi_itoa b hb] at h1
  injection h1 with h1
  exact h1.symm
/-- The bytes of a numeral: digits, and a minus ahead. -/
theorem itoa_bytes (n : Int) : ∀ c ∈ itoa n, c.toNat = 45 ∨ (48 ≤ c.toNat ∧ c.toNat ≤ 57) := by
  intro c hc
  unfold itoa at hc
  have key : ∀ u, c ∈ decDigits u → 48 ≤ c.toNat ∧ c.toNat ≤ 57 := fun u hu => by
    have := decDigits_dig u c hu
    unfold isDig at this
    exact of_decide_eq_true this
  split at hc
  · rcases List.mem_cons.1 hc with rfl | hc
    · exact .inl rfl
    · exact .inr (key _ hc)
  · exact .inr (key _ hc)
theorem itoa_ne (n : Int) : itoa n ≠ [] := by
  unfold itoa
  split
  · simp
  · exact decDigits_ne _
theorem nDigits_le {u k : Nat} (hk : 1 ≤ k) (h : u < 10 ^ k) : nDigits u ≤ k := by
  induction k generalizing u with
  | zero => omega
  | succ k ih =>
    by_cases hu : u < 10
    · rw [nDigits_small hu]; omega
    · rw [nDigits_big hu]
      have hk' : 1 ≤ k := by
        rcases Nat.eq_zero_or_pos k with rfl | h0
        · simp at h; omega
        · exact h0
      have := ih hk' (u := u / 10) (by rw [Nat.pow_succ] at h; omega)
      omega

/-- The reference's Number. -/
def numTail (l : List UInt8) : List UInt8 := match l with | c :: r => if c = 45 then r else c :: r | [] => []
def numNeg (l : List UInt8) : Bool := match l with | c :: _ => c == 45 | [] => false
def numberOf (l : List UInt8) : Int × Bool :=
  if (numTail l).all isDig = true ∧ (numTail l).length ≤ 18 then (if numNeg l = true then -(dval 0 (numTail l) : Int) else (dval 0 (numTail l) : Int), decide (0 < (numTail l).length)) else (0, false)
theorem numberOf_itoa (n : Int) (h1 : -1000000000000000000 < n) (h2 : n < 1000000000000000000) : numberOf (itoa n) = (n, true) := by
  have key : ∀ u : Nat, u < 1000000000000000000 → (decDigits u).all isDig = true ∧ (decDigits u).length ≤ 18 ∧ 0 < (decDigits u).length := fun u hu => by
    refine ⟨List.all_eq_true.2 (decDigits_dig u), ?_, ?_⟩
    · rw [decDigits_length]
      exact nDigits_le (by decide) (by simpa using hu)
    · rw [decDigits_length]
      exact nDigits_pos u
  by_cases hn : n < 0
  · have hi : itoa n = 45 :: decDigits n.natAbs := by unfold itoa; rw [if_pos hn]
    obtain ⟨k1, k2, k3⟩ := key n.natAbs (by omega)
    have ht : numTail (45 :: decDigits n.natAbs) = decDigits n.natAbs := by simp [numTail]
    have hg : numNeg (45 :: decDigits n.natAbs) = true := by simp [numNeg]
    rw [hi]
    unfold numberOf
    rw [ht, hg, if_pos ⟨k1, k2⟩, if_pos rfl, decDigits_val]
    simp only [k3, decide_true, Prod.mk.injEq, and_true]
    omega
  · have hi : itoa n = decDigits n.toNat := by unfold itoa; rw [if_neg hn]
    obtain ⟨k1, k2, k3⟩ := key n.toNat (by omega)
    have hd := decDigits_dig n.toNat
    have hv := decDigits_val n.toNat
    rw [hi]
    generalize decDigits n.toNat = l at *
    cases l with
    | nil => simp at k3
    | cons c r =>
      have hc := hd c (by simp)
      unfold isDig at hc
      have hc := of_decide_eq_true hc
      have hne : ¬ c = 45 := fun e => by subst e; revert hc; decide
      have ht : numTail (c :: r) = c :: r := by simp [numTail, hne]
      have hg : numNeg (c :: r) = false := by simp [numNeg, hne]
      unfold numberOf
      rw [ht, hg, if_pos ⟨k1, k2⟩, if_neg Bool.false_ne_true, hv]
      simp only [k3, decide_true, Prod.mk.injEq, and_true]
      omega
end Go.Proofs.YtkldimaoafgolaaDoor
