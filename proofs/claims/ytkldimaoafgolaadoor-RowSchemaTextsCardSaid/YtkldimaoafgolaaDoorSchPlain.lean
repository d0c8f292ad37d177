/- Canonical texts of schemas: what a reader meets. No program in sight. -/
import Derived.Test.YtkldimaoafgolaaDoorFmtR
namespace Go.Proofs.YtkldimaoafgolaaDoor
open Go.RowKit

def kindL (k : Int) : List UInt8 := if k = 1 then [105, 110, 116] else [116, 101, 120, 116]
def colL (c : Col) : List UInt8 := bl c.name ++ 32 :: kindL c.kind
theorem colText_bl (c : Col) : (colText c).data.toList = colL c := by
  unfold colText colL
  rw [ByteArray.data_append, ByteArray.data_append]
  unfold kindText kindL
  split <;> simp [bl]
def leftS (l : List Col) : List UInt8 := Lib.join (l.map colL) [44, 32]
theorem partText_left (l : List Col) : partText l = leftS l := by
  unfold partText leftS
  congr 1
  exact List.map_congr_left (fun c _ => colText_bl c)
def tailS (s : List Col) (j : Nat) : List UInt8 := if j < s.length then 44 :: 32 :: leftS (s.drop j) else []
theorem leftS_at {s : List Col} {k : Nat} (hk : k < s.length) : leftS (s.drop k) = colL s[k] ++ tailS s (k + 1) := by
  rw [List.drop_eq_getElem_cons hk]
  unfold tailS
  by_cases h : k + 1 < s.length
  · rw [if_pos h]
    have e := List.drop_eq_getElem_cons h
    unfold leftS
    rw [List.map_cons, e, List.map_cons]
    simp only [Lib.join_cons, Lib.joinTail, List.cons_append, List.nil_append, List.append_assoc, List.map_cons, List.flatten_cons]
  · rw [if_neg h, List.drop_eq_nil_of_le (by omega)]
    simp [leftS, Lib.join_cons, Lib.joinTail]
def IsSch (s : List Col) (t : ByteArray) : Prop := validSchema s = true ∧ bl t = schemaText s
def okCol (c : Col) : Prop := isName c.name = true ∧ 1 ≤ c.kind ∧ c.kind ≤ 2
theorem IsSch.cols {s : List Col} {t : ByteArray} (h : IsSch s t) : 1 ≤ s.length ∧ s.length ≤ 8 ∧ ∀ c ∈ s, okCol c := schema_parts h.1
theorem IsSch.text {s : List Col} {t : ByteArray} (h : IsSch s t) : bl t = leftS s := by
  rw [h.2, ← partText_left]; unfold schemaText partText; rw [if_pos h.1]
theorem name_byte {s : ByteArray} (h : isName s = true) : ∀ c ∈ bl s, (97 ≤ c.toNat ∧ c.toNat ≤ 122) ∨ (48 ≤ c.toNat ∧ c.toNat ≤ 57) ∨ c.toNat = 95 := fun c hc => by
  obtain ⟨i, hi, rfl⟩ := List.getElem_of_mem hc
  have hs : i < s.size := hi
  unfold isName at h
  rw [Bool.and_eq_true, List.all_eq_true] at h
  have h1 := h.1 i (by simpa using hs)
  rw [← byteAt_get s i hs] at h1
  show (97 ≤ s[i].toNat ∧ s[i].toNat ≤ 122) ∨ (48 ≤ s[i].toNat ∧ s[i].toNat ≤ 57) ∨ s[i].toNat = 95
  unfold nameOk lowC at h1
  simp only [Bool.or_eq_true, Bool.and_eq_true, decide_eq_true_eq] at h1
  omega
theorem colL_no44 {c : Col} (h : okCol c) : ∀ x ∈ colL c, x.toNat ≠ 44 := fun x hx => by
  unfold colL at hx
  rcases List.mem_append.1 hx with h1 | h1
  · have := name_byte h.1 x h1; omega
  · rcases List.mem_cons.1 h1 with rfl | h1
    · decide
    · unfold kindL at h1
      split at h1 <;> simp at h1 <;> rcases h1 with rfl | rfl | rfl | rfl <;> decide
theorem colL_first {c : Col} (h : okCol c) {x : UInt8} {l : List UInt8} (e : colL c = x :: l) : x.toNat ≠ 32 := by
  have hn := (isName_size h.1).1
  unfold colL at e
  cases hb : bl c.name with
  | nil => have : (bl c.name).length = 0 := by rw [hb]; rfl
           rw [bl_len] at this; omega
  | cons y r =>
    rw [hb] at e
    injection e with e1 _
    have := name_byte h.1 y (by rw [hb]; exact List.mem_cons_self)
    rw [← e1]; omega
theorem colL_len (c : Col) (h : okCol c) : (colL c).length = c.name.size + (if c.kind = 1 then 4 else 5) := by
  unfold colL kindL
  split <;> simp [bl_len]
theorem leftS_len (l : List Col) (h : ∀ c ∈ l, okCol c) : (leftS l).length ≤ l.length * 23 := by
  have := join_le [44, 32] 21 (l.map colL) (fun x hx => by
    obtain ⟨c, hc, rfl⟩ := List.mem_map.1 hx
    rw [colL_len c (h c hc)]
    have := (isName_size (h c hc).1).2
    split <;> omega)
  rw [List.length_map] at this
  exact this
theorem IsSch.small {s : List Col} {t : ByteArray} (h : IsSch s t) : 0 < t.size ∧ t.size ≤ 184 := by
  obtain ⟨h1, h8, hc⟩ := h.cols
  have e := h.text
  have hl := leftS_len s hc
  rw [← e, bl_len] at hl
  refine ⟨?_, by omega⟩
  have e2 := leftS_at (s := s) (k := 0) (by omega)
  rw [List.drop_zero, ← e] at e2
  have := congrArg List.length e2
  rw [bl_len, List.length_append, colL_len _ (hc _ (List.getElem_mem _))] at this
  split at this <;> omega

/-- What the reference's reader has read, if the text is canonical. -/
def SCond (t : ByteArray) (outs : List Col) (word : List UInt8) (i : Nat) : Prop := ∀ s, IsSch s t →
  (∃ k, ∃ hk : k < s.length, outs = s.take k ∧ i ≤ t.size ∧ ∃ q, colL s[k] = word ++ q ∧ (bl t).drop i = q ++ tailS s (k + 1)) ∨
  (∃ k, k < s.length ∧ outs = s.take k ∧ word = [] ∧ (bl t).drop i = 32 :: leftS (s.drop k)) ∨ (outs = s ∧ i = t.size + 1)
theorem SCond.start (t : ByteArray) : SCond t [] [] 0 := fun s hs => by
  have h1 := hs.cols.1
  refine .inl ⟨0, by omega, rfl, by omega, colL s[0], rfl, ?_⟩
  rw [List.drop_zero, hs.text]
  exact (leftS_at (s := s) (k := 0) (by omega))
theorem SCond.char {t : ByteArray} {outs : List Col} {word : List UInt8} {i : Nat} (h : SCond t outs word i) (hi : i < t.size) (h44 : t[i].toNat ≠ 44) :
    (t[i].toNat ≠ 32 ∨ word ≠ [] → SCond t outs (word ++ [t[i]]) (i + 1)) ∧ (t[i].toNat = 32 → word = [] → SCond t outs [] (i + 1)) := by
  have hb := bl_get t i hi
  have key : ∀ s, IsSch s t → (∃ k, ∃ hk : k < s.length, outs = s.take k ∧ ∃ q, colL s[k] = word ++ t[i] :: q ∧ (bl t).drop (i + 1) = q ++ tailS s (k + 1)) ∨
      (∃ k, k < s.length ∧ outs = s.take k ∧ word = [] ∧ t[i].toNat = 32 ∧ (bl t).drop (i + 1) = leftS (s.drop k)) := fun s hs => by
    rcases h s hs with ⟨k, hk, ho, _, q, hq, hd⟩ | ⟨k, hk, ho, hw, hd⟩ | ⟨_, he⟩
    · rw [hb] at hd
      cases q with
      | nil =>
        rw [List.nil_append] at hd
        unfold tailS at hd
        split at hd
        · injection hd with hd _; exact absurd (by rw [hd]; rfl) h44
        · cases hd
      | cons c q =>
        injection hd with hd1 hd2
        exact .inl ⟨k, hk, ho, q, by rw [hq, hd1], hd2⟩
    · rw [hb] at hd
      injection hd with hd1 hd2
      exact .inr ⟨k, hk, ho, hw, by rw [hd1]; rfl, hd2⟩
    · omega
  refine ⟨fun hc s hs => ?_, fun h32 hw s hs => ?_⟩
  · rcases key s hs with ⟨k, hk, ho, q, hq, hd⟩ | ⟨k, hk, ho, hw, h32, hd⟩
    · exact .inl ⟨k, hk, ho, hi, q, by rw [hq]; simp, hd⟩
    · rcases hc with hc | hc
      · exact absurd h32 hc
      · exact absurd hw hc
  · rcases key s hs with ⟨k, hk, ho, q, hq, hd⟩ | ⟨k, hk, ho, _, _, hd⟩
    · rw [hw, List.nil_append] at hq
      exact absurd h32 (colL_first (hs.cols.2.2 _ (List.getElem_mem hk)) hq)
    · exact .inl ⟨k, hk, ho, hi, colL s[k], rfl, by rw [hd]; exact leftS_at hk⟩
/-- At a comma or at the end a word is whole. -/
theorem SCond.stop {t : ByteArray} {outs : List Col} {word : List UInt8} {i : Nat} (h : SCond t outs word i) (hi : i = t.size ∨ ∃ h : i < t.size, t[i].toNat = 44) : ∀ s, IsSch s t →
    ∃ k, ∃ hk : k < s.length, outs = s.take k ∧ word = colL s[k] ∧ ((k + 1 = s.length ∧ i = t.size) ∨ (k + 1 < s.length ∧ i < t.size ∧ (bl t).drop (i + 1) = 32 :: leftS (s.drop (k + 1)))) := fun s hs => by
  rcases h s hs with ⟨k, hk, ho, _, q, hq, hd⟩ | ⟨k, hk, ho, hw, hd⟩ | ⟨_, he⟩
  · have hq0 : q = [] := by
      cases q with
      | nil => rfl
      | cons c q =>
        rcases hi with rfl | ⟨h1, h2⟩
        · rw [List.drop_eq_nil_of_le (by rw [bl_len]; exact Nat.le_refl _)] at hd; cases hd
        · rw [bl_get t i h1] at hd
          injection hd with hd _
          exact absurd (by rw [← hd]; exact h2) (colL_no44 (hs.cols.2.2 _ (List.getElem_mem hk)) c (by rw [hq]; simp))
    subst hq0
    rw [List.append_nil] at hq
    rw [List.nil_append] at hd
    refine ⟨k, hk, ho, hq.symm, ?_⟩
    unfold tailS at hd
    split at hd
    · rename_i hk1
      rcases hi with rfl | ⟨h1, h2⟩
      · rw [List.drop_eq_nil_of_le (by rw [bl_len]; exact Nat.le_refl _)] at hd; cases hd
      · rw [bl_get t i h1] at hd
        injection hd with _ hd
        exact .inr ⟨hk1, h1, hd⟩
    · rcases hi with rfl | ⟨h1, h2⟩
      · exact .inl ⟨by omega, rfl⟩
      · rw [bl_get t i h1] at hd; cases hd
  · rcases hi with rfl | ⟨h1, h2⟩
    · rw [List.drop_eq_nil_of_le (by rw [bl_len]; exact Nat.le_refl _)] at hd; cases hd
    · rw [bl_get t i h1] at hd
      injection hd with hd _
      rw [hd] at h2; cases h2
  · rcases hi with rfl | ⟨h1, _⟩ <;> omega
theorem SCond.add {t : ByteArray} {outs : List Col} {word : List UInt8} {i : Nat} {c : Col} (h : SCond t outs word i) (hi : i = t.size ∨ ∃ h : i < t.size, t[i].toNat = 44) (hc : ∀ d, okCol d → word = colL d → c = d) : SCond t (outs ++ [c]) [] (i + 1) := fun s hs => by
  obtain ⟨k, hk, ho, hw, h2⟩ := h.stop hi s hs
  have e := hc s[k] (hs.cols.2.2 _ (List.getElem_mem hk)) hw
  have e2 : outs ++ [c] = s.take (k + 1) := by rw [ho, e, List.take_succ_eq_append_getElem hk]
  rcases h2 with ⟨h3, h4⟩ | ⟨h3, h4, h5⟩
  · exact .inr (.inr ⟨by rw [e2, h3, List.take_length], by rw [h4]⟩)
  · exact .inr (.inl ⟨k + 1, h3, e2, rfl, h5⟩)
theorem SCond.none {t : ByteArray} {outs : List Col} {word : List UInt8} {i : Nat} (h : SCond t outs word i) (hi : i = t.size ∨ ∃ h : i < t.size, t[i].toNat = 44) (hc : ∀ d, okCol d → word ≠ colL d) : SCond t outs [] (i + 1) := fun s hs => by
  obtain ⟨k, hk, ho, hw, h2⟩ := h.stop hi s hs
  exact absurd hw (hc s[k] (hs.cols.2.2 _ (List.getElem_mem hk)))
theorem SCond.done {t : ByteArray} {outs : List Col} {word : List UInt8} {i : Nat} (h : SCond t outs word i) (hi : t.size < i ∨ 300 ≤ t.size) : ∀ s, IsSch s t → outs = s := fun s hs => by
  have hsm := hs.small.2
  have hi : t.size < i := by omega
  rcases h s hs with ⟨k, hk, ho, h1, _⟩ | ⟨k, hk, ho, hw, hd⟩ | ⟨h1, _⟩
  · omega
  · rw [List.drop_eq_nil_of_le (by rw [bl_len]; omega)] at hd; cases hd
  · exact h1
/-- A whole word tells its column. -/
theorem word_col {wd : ByteArray} {c : Col} (hc : okCol c) (h : bl wd = colL c) :
    (c.kind = 1 ∧ 4 < wd.size ∧ bl (wd.extract (wd.size - 4) wd.size) = [32, 105, 110, 116] ∧ wd.extract 0 (wd.size - 4) = c.name) ∨
    (c.kind = 2 ∧ 5 < wd.size ∧ bl (wd.extract (wd.size - 4) wd.size) ≠ [32, 105, 110, 116] ∧ bl (wd.extract (wd.size - 5) wd.size) = [32, 116, 101, 120, 116] ∧ wd.extract 0 (wd.size - 5) = c.name) := by
  have hn := (isName_size hc.1).1
  have hl := congrArg List.length h
  rw [bl_len, colL_len c hc] at hl
  have hnl : (bl c.name).length = c.name.size := rfl
  have hk : c.kind = 1 ∨ c.kind = 2 := by have := hc.2; omega
  rcases hk with k | k
  · rw [if_pos k] at hl
    have e : bl wd = bl c.name ++ [32, 105, 110, 116] := by rw [h]; unfold colL kindL; rw [if_pos k]
    refine .inl ⟨k, by omega, ?_, ?_⟩
    · rw [bl_tail, e, show wd.size - 4 = (bl c.name).length by omega, List.drop_left]
    · refine bl_inj ?_
      rw [bl_extract, List.drop_zero, e, show wd.size - 4 - 0 = (bl c.name).length by omega, List.take_left]
  · rw [if_neg (by omega)] at hl
    have e : bl wd = bl c.name ++ [32, 116, 101, 120, 116] := by rw [h]; unfold colL kindL; rw [if_neg (by omega)]
    have e5 : (bl wd).drop (wd.size - 5) = [32, 116, 101, 120, 116] := by rw [e, show wd.size - 5 = (bl c.name).length by omega, List.drop_left]
    refine .inr ⟨k, by omega, ?_, ?_, ?_⟩
    · rw [bl_tail, show wd.size - 4 = wd.size - 5 + 1 by omega, ← List.drop_drop, e5]
      decide
    · rw [bl_tail]; exact e5
    · refine bl_inj ?_
      rw [bl_extract, List.drop_zero, e, show wd.size - 5 - 0 = (bl c.name).length by omega, List.take_left]
theorem col_eq {c : Col} {n : ByteArray} {k : Int} (h1 : n = c.name) (h2 : c.kind = k) : (⟨n, k⟩ : Col) = c := by
  cases c; cases h1; cases h2; rfl
end Go.Proofs.YtkldimaoafgolaaDoor
