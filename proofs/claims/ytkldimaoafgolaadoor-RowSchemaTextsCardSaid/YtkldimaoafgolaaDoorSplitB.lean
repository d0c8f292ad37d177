/- Splitting at ", " and cutting at a blank. No program in sight. -/
import Derived.Test.YtkldimaoafgolaaDoorSchPlain
import Derived.Lib.IndexMore
namespace Go.Proofs.YtkldimaoafgolaaDoor
open Go.RowKit

def splitB : Nat → ByteArray → List ByteArray
  | 0, s => [s]
  | n + 1, s => if 0 ≤ Lib.index (bl s) [44, 32] then s.extract 0 (Lib.index (bl s) [44, 32]).toNat :: splitB n (s.extract ((Lib.index (bl s) [44, 32]).toNat + 2) s.size) else [s]
def cutName (p : ByteArray) : ByteArray := ⟨(Lib.cut (bl p) [32]).1.toArray⟩
def cutKind (p : ByteArray) : ByteArray := ⟨(Lib.cut (bl p) [32]).2.1.toArray⟩
def colOf (p : ByteArray) : Col := ⟨cutName p, if bl (cutKind p) = [116, 101, 120, 116] then 2 else 1⟩
theorem splitB_stop {g : Nat} {s : ByteArray} (h : Lib.index (bl s) [44, 32] < 0) : splitB g s = [s] := by
  cases g with
  | zero => rfl
  | succ g => unfold splitB; rw [if_neg (by omega)]
theorem splitB_go {g : Nat} {s : ByteArray} (h : 0 ≤ Lib.index (bl s) [44, 32]) (hg : s.size ≤ g) : ∃ i g' : Nat, Lib.index (bl s) [44, 32] = i ∧ g = g' + 1 ∧ i + 2 ≤ s.size ∧ (s.extract (i + 2) s.size).size ≤ g' ∧
    splitB g s = s.extract 0 i :: splitB g' (s.extract (i + 2) s.size) := by
  have hr := Lib.index_room (bl s) [44, 32] h
  rw [bl_len] at hr
  simp only [List.length_cons, List.length_nil] at hr
  obtain ⟨i, hi⟩ := Int.eq_ofNat_of_zero_le h
  have hi2 : i + 2 ≤ s.size := by omega
  cases g with
  | zero => omega
  | succ g =>
    refine ⟨i, g, hi, rfl, hi2, by rw [ByteArray.size_extract]; omega, ?_⟩
    conv => lhs; unfold splitB
    rw [if_pos h, hi]
    rfl
theorem splitB_len : ∀ (g : Nat) (s : ByteArray), (splitB g s).length ≤ g + 1
  | 0, s => by simp [splitB]
  | g + 1, s => by
    unfold splitB
    split
    · simp only [List.length_cons]; have := splitB_len g (s.extract ((Lib.index (bl s) [44, 32]).toNat + 2) s.size); omega
    · simp
theorem splitB_size : ∀ (g : Nat) (s : ByteArray), ∀ p ∈ splitB g s, p.size ≤ s.size
  | 0, s, p, hp => by simp [splitB] at hp; rw [hp]; exact Nat.le_refl _
  | g + 1, s, p, hp => by
    unfold splitB at hp
    split at hp
    · rcases List.mem_cons.1 hp with rfl | h
      · rw [ByteArray.size_extract]; omega
      · have := splitB_size g _ p h
        rw [ByteArray.size_extract] at this; omega
    · rw [List.mem_singleton.1 hp]; exact Nat.le_refl _
theorem occ_no44 {l : List UInt8} (h : ∀ x ∈ l, x.toNat ≠ 44) (r : List UInt8) {j : Nat} (hj : j < l.length) : Lib.occAt (l ++ r) [44, 32] j = false := by
  unfold Lib.occAt
  rw [List.drop_append_of_le_length (by omega), List.drop_eq_getElem_cons hj, List.cons_append]
  have := h _ (List.getElem_mem hj)
  have e : ((44 : UInt8) == l[j]) = false := by
    rw [beq_eq_false_iff_ne]; intro e; rw [← e] at this; exact this rfl
  simp only [List.isPrefixOf, e, Bool.false_and]
theorem index_none44 {l : List UInt8} (h : ∀ x ∈ l, x.toNat ≠ 44) : Lib.index l [44, 32] = -1 := by
  refine Lib.index_none fun j hj => ?_
  by_cases hlt : j < l.length
  · have := occ_no44 h [] hlt
    rwa [List.append_nil] at this
  · unfold Lib.occAt
    rw [List.drop_eq_nil_of_le (by omega)]; rfl
theorem index_at44 {l : List UInt8} (h : ∀ x ∈ l, x.toNat ≠ 44) (r : List UInt8) : Lib.index (l ++ 44 :: 32 :: r) [44, 32] = l.length := by
  refine Lib.index_first (by simp) ?_ (fun j hj => occ_no44 h _ hj)
  unfold Lib.occAt
  rw [List.drop_left]
  simp [List.isPrefixOf]
theorem index_blank {l : List UInt8} (h : ∀ x ∈ l, x.toNat ≠ 32) (r : List UInt8) : Lib.index (l ++ 32 :: r) [32] = l.length := by
  refine Lib.index_first (by simp) ?_ (fun j hj => ?_)
  · unfold Lib.occAt
    rw [List.drop_left]
    simp [List.isPrefixOf]
  · unfold Lib.occAt
    rw [List.drop_append_of_le_length (by omega), List.drop_eq_getElem_cons hj, List.cons_append]
    have := h _ (List.getElem_mem hj)
    have e : ((32 : UInt8) == l[j]) = false := by
      rw [beq_eq_false_iff_ne]; intro e; rw [← e] at this; exact this rfl
    simp only [List.isPrefixOf, e, Bool.false_and]
theorem colOf_col {p : ByteArray} {c : Col} (hc : okCol c) (h : bl p = colL c) : colOf p = c := by
  have hn : ∀ x ∈ bl c.name, x.toNat ≠ 32 := fun x hx => by have := name_byte hc.1 x hx; omega
  have hi : Lib.index (bl p) [32] = (bl c.name).length := by rw [h]; exact index_blank hn _
  have hcut : Lib.cut (bl p) [32] = (bl c.name, kindL c.kind, true) := by
    unfold Lib.cut
    rw [if_pos (by omega), hi, h]
    unfold colL
    rw [Int.toNat_natCast, List.take_left]
    congr 2
    rw [show (bl c.name).length + [(32 : UInt8)].length = (bl c.name).length + 1 from rfl, ← List.drop_drop, List.drop_left]
    rfl
  have hk : c.kind = 1 ∨ c.kind = 2 := by have := hc.2; omega
  refine col_eq (bl_inj ?_) ?_
  · show bl ⟨(Lib.cut (bl p) [32]).1.toArray⟩ = _
    rw [hcut]; exact bl_mk _
  · have hck : bl (cutKind p) = kindL c.kind := by
      unfold cutKind
      rw [hcut]; exact bl_mk _
    show c.kind = if bl (cutKind p) = _ then 2 else 1
    rw [hck]
    unfold kindL
    rcases hk with k | k
    · rw [k]; decide
    · rw [k]; decide
theorem splitB_left : ∀ (cs : List Col) (u : ByteArray) (g : Nat), cs ≠ [] → (∀ c ∈ cs, okCol c) → bl u = leftS cs → u.size ≤ g → (splitB g u).map colOf = cs
  | [], _, _, h, _, _, _ => absurd rfl h
  | [c], u, g, _, hc, hu, hg => by
    have e : leftS [c] = colL c := by simp [leftS, Lib.join_cons, Lib.joinTail]
    rw [e] at hu
    have h1 := hc c (by simp)
    rw [splitB_stop (by rw [hu, index_none44 (colL_no44 h1)]; omega)]
    simp [colOf_col h1 hu]
  | c :: d :: cs, u, g, _, hc, hu, hg => by
    have e : leftS (c :: d :: cs) = colL c ++ 44 :: 32 :: leftS (d :: cs) := by simp [leftS, Lib.join_cons, Lib.joinTail]
    rw [e] at hu
    have h1 := hc c (by simp)
    have hi : Lib.index (bl u) [44, 32] = (colL c).length := by rw [hu]; exact index_at44 (colL_no44 h1) _
    obtain ⟨i, g', h2, rfl, h3, h4, h5⟩ := splitB_go (s := u) (g := g) (by omega) hg
    obtain rfl : i = (colL c).length := by omega
    rw [h5, List.map_cons]
    have e1 : bl (u.extract 0 (colL c).length) = colL c := by rw [bl_extract, List.drop_zero, hu, Nat.sub_zero, List.take_left]
    have e2 : bl (u.extract ((colL c).length + 2) u.size) = leftS (d :: cs) := by
      rw [bl_tail, hu, ← List.drop_drop, List.drop_left]; rfl
    rw [colOf_col h1 e1, splitB_left (d :: cs) _ g' (by simp) (fun x hx => hc x (by simp [hx])) e2 h4]
theorem splitB_sch {s : List Col} {t : ByteArray} (h : IsSch s t) : (splitB t.size t).map colOf = s := by
  obtain ⟨h1, h8, hc⟩ := h.cols
  exact splitB_left s t t.size (fun e => by rw [e] at h1; exact absurd h1 (by simp)) hc h.text (Nat.le_refl _)
end Go.Proofs.YtkldimaoafgolaaDoor
