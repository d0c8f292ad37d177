/- row.quoted at this program. -/
import Derived.Test.YtkldimaoafgolaaDoorBuild
import Derived.Test.YtkldimaoafgolaaDoorRowA
namespace Go.Proofs.YtkldimaoafgolaaDoor
open Go.RowKit

def hexDigit (n : Nat) : UInt8 := if n < 10 then UInt8.ofNat (48 + n) else UInt8.ofNat (87 + n)
def quoteByte (c : UInt8) : List UInt8 :=
  if c.toNat = 34 ∨ c.toNat = 92 then [92, c] else if c.toNat = 10 then [92, 110]
  else if c.toNat < 32 ∨ 126 < c.toNat then [92, 120, hexDigit (c.toNat / 16), hexDigit (c.toNat % 16)] else [c]
def quoteList (l : List UInt8) : List UInt8 := 34 :: (l.flatMap quoteByte ++ [34])
theorem quoteByte_length (c : UInt8) : 1 ≤ (quoteByte c).length ∧ (quoteByte c).length ≤ 4 := by
  unfold quoteByte
  repeat' split
  all_goals simp
theorem quoteFlat_length (l : List UInt8) : (l.flatMap quoteByte).length ≤ 4 * l.length := by
  induction l with
  | nil => simp
  | cons c l ih => have := (quoteByte_length c).2; simp only [List.flatMap_cons, List.length_append, List.length_cons]; omega
theorem quoteList_length (l : List UInt8) : (quoteList l).length ≤ 4 * l.length + 2 := by
  have := quoteFlat_length l
  unfold quoteList
  simp only [List.length_append, List.length_cons, List.length_nil]
  omega
theorem flat_snoc {l : List UInt8} {k : Nat} (h : k < l.length) : (l.take (k + 1)).flatMap quoteByte = (l.take k).flatMap quoteByte ++ quoteByte l[k] := by
  rw [List.take_add_one, List.getElem?_eq_getElem h, List.flatMap_append]
  simp
theorem byteCells_append (a b : List UInt8) : Lib.byteCells (a ++ b) = Lib.byteCells a ++ Lib.byteCells b := by simp [Lib.byteCells]
/-- The builder's cells after one byte more. -/
theorem cells_one (a : List UInt8) (c : UInt8) : Lib.byteCells a ++ [.int .u8 c.toNat] = Lib.byteCells (a ++ [c]) := by simp [Lib.byteCells]
theorem cells_str (a : List UInt8) (l : List UInt8) : Lib.byteCells a ++ Lib.strCells ⟨l.toArray⟩ = Lib.byteCells (a ++ l) := by simp [Lib.byteCells, Lib.strCells]

def hexText : ByteArray := ⟨#[48, 49, 50, 51, 52, 53, 54, 55, 56, 57, 97, 98, 99, 100, 101, 102]⟩
theorem hexFin : ∀ n : Fin 16, hexText[n.val]'(by show n.val < 16; exact n.isLt) = hexDigit n.val := by decide
theorem hexAt (n : Nat) (h : n < hexText.size) : hexText[n].toNat = (hexDigit n).toNat := by
  rw [hexFin ⟨n, h⟩]
/-- A builder of the call's own that holds these bytes. -/
def Bld (B b : Nat) (l : List UInt8) (w : World) : Prop := Lib.IsBuilder 113 5 B b (Lib.byteCells l) w
theorem putByte (B b : Nat) (l : List UInt8) (c : UInt8) (w : World) (h : Bld B b l w) (hl : l.length + 1 ≤ 140737488355328) (hB : B ≤ w.heap.size) :
    Calls Tryd.prog 101 #[.pointer (some ⟨b, 0, none⟩), .int .u8 c.toNat] w fun e w' => e = .returned .nilIface ∧ Bld B b (l ++ [c]) w' ∧ Below B w w' := by
  refine (writeByte_any B b (Lib.byteCells l) c.toNat w h (by rw [Lib.byteCells_length]; exact hl) hB).mono ?_
  rintro e w' ⟨rfl, h1, h2⟩
  rw [cells_one] at h1
  exact ⟨rfl, .inr h1, h2⟩
theorem putStr (B b : Nat) (l m : List UInt8) (w : World) (h : Bld B b l w) (hm : 0 < m.length) (hl : l.length + m.length ≤ 140737488355328) (hB : B ≤ w.heap.size) :
    Calls Tryd.prog 96 #[.pointer (some ⟨b, 0, none⟩), .string ⟨m.toArray⟩] w fun e w' => (∃ x, e = .returned x) ∧ Bld B b (l ++ m) w' ∧ Below B w w' := by
  have hs : (ByteArray.mk m.toArray).size = m.length := by simp [ByteArray.size]
  refine (writeString_any B b (Lib.byteCells l) ⟨m.toArray⟩ w h (by rw [Lib.byteCells_length, hs]; exact hl) (by rw [hs]; exact hm) hB).mono ?_
  rintro e w' ⟨hx, h1, h2⟩
  rw [cells_str] at h1
  exact ⟨hx, .inr h1, h2⟩
theorem putVal (B b : Nat) (l : List UInt8) (c : UInt8) (v : Int) (hv : v = (c.toNat : Int)) (w : World) (h : Bld B b l w) (hl : l.length + 1 ≤ 140737488355328) (hB : B ≤ w.heap.size) :
    Calls Tryd.prog 101 #[.pointer (some ⟨b, 0, none⟩), .int .u8 v] w fun e w' => e = .returned .nilIface ∧ Bld B b (l ++ [c]) w' ∧ Below B w w' := by
  subst hv
  exact putByte B b l c w h hl hB

set_option maxRecDepth 100000 in
set_option maxHeartbeats 4000000 in
theorem quoted_any (s : ByteArray) (w : World) (hs : s.size ≤ 1000000000) :
    Calls Tryd.prog 82 #[.string s] w fun e w' => e = .returned (.string ⟨(quoteList s.data.toList).toArray⟩) ∧ Below w.heap.size w w' := by
  go_enter Tryd.func82, Tryd.ntmps82
  go_wp2_with fail
  refine (putByte w.heap.size w.heap.size [] 34 _ (Lib.fresh_isBuilder _ _ w) (by decide) (by simp)).mono ?_
  rintro e w1 ⟨rfl, h1, hb1⟩
  have hb1 := ((Below.refl w.heap.size w).alloc (Nat.le_refl _) _).trans hb1
  go_wp2
  go_loopw [9] (fun i wr => ∃ k : Nat, k ≤ s.data.toList.length ∧ i = .int .i64 k ∧ Bld w.heap.size w.heap.size (34 :: (s.data.toList.take k).flatMap quoteByte) wr ∧ Below w.heap.size w wr) (fun i _ => s.size - (intOf i).toNat)
  case atStart => exact ⟨0, by omega, rfl, h1, hb1⟩
  case round =>
    obtain ⟨k, hk, rfl, hB, hW⟩ := hrel
    have hlen : s.data.toList.length = s.size := rfl
    by_cases hlt : k < s.size
    · have hq := flat_snoc (l := s.data.toList) (k := k) hlt
      have hc : s.data.toList[k] = s[k] := rfl
      rw [hc] at hq
      have hc2 : s[k].toNat < 256 := UInt8.toNat_lt _
      have hql := quoteFlat_length (s.data.toList.take k)
      rw [List.length_take] at hql
      have HQ := Lib.hid hq
      clear hq hc h1
      by_cases h34 : s[k].toNat = 34
      · have HQB := Lib.hid (show quoteByte s[k] = [92, s[k]] from by unfold quoteByte; rw [if_pos (.inl h34)])
        go_wp2_with fail
        refine (putByte w.heap.size w.heap.size _ 92 _ hB (by simp only [List.length_cons, List.length_append, List.length_nil]; omega) (by have := hW.size; omega)).mono ?_
        rintro e w2 ⟨rfl, hB2, hb2⟩
        have hW2 := hW.trans hb2
        go_wp2_with fail
        refine (putVal w.heap.size w.heap.size _ s[k] _ (by omega) _ hB2 (by simp only [List.length_cons, List.length_append, List.length_nil]; omega) (by have := hW2.size; omega)).mono ?_
        rintro e w3 ⟨rfl, hB3, hb3⟩
        have hW3 := hW2.trans hb3
        have HB3 := Lib.hid (show Bld w.heap.size w.heap.size (34 :: (s.data.toList.take (k + 1)).flatMap quoteByte) w3 by
          rw [HQ.out, HQB.out]; simpa using hB3)
        clear hB hB2 hB3 hb2 hb3
        go_wp2
        go_roundw
        case rel => exact ⟨k + 1, by omega, by go_num, HB3.out, hW3⟩
        case measure => simp [intOf]; omega
      by_cases h92 : s[k].toNat = 92
      · have HQB := Lib.hid (show quoteByte s[k] = [92, s[k]] from by unfold quoteByte; rw [if_pos (.inr h92)])
        go_wp2_with fail
        refine (putByte w.heap.size w.heap.size _ 92 _ hB (by simp only [List.length_cons, List.length_append, List.length_nil]; omega) (by have := hW.size; omega)).mono ?_
        rintro e w2 ⟨rfl, hB2, hb2⟩
        have hW2 := hW.trans hb2
        go_wp2_with fail
        refine (putVal w.heap.size w.heap.size _ s[k] _ (by omega) _ hB2 (by simp only [List.length_cons, List.length_append, List.length_nil]; omega) (by have := hW2.size; omega)).mono ?_
        rintro e w3 ⟨rfl, hB3, hb3⟩
        have hW3 := hW2.trans hb3
        have HB3 := Lib.hid (show Bld w.heap.size w.heap.size (34 :: (s.data.toList.take (k + 1)).flatMap quoteByte) w3 by
          rw [HQ.out, HQB.out]; simpa using hB3)
        clear hB hB2 hB3 hb2 hb3
        go_wp2
        go_roundw
        case rel => exact ⟨k + 1, by omega, by go_num, HB3.out, hW3⟩
        case measure => simp [intOf]; omega
      by_cases h10 : s[k].toNat = 10
      · have HQB := Lib.hid (show quoteByte s[k] = [92, 110] by unfold quoteByte; rw [if_neg (by omega), if_pos h10])
        go_wp2_with fail
        all_goals try (exfalso; simp only [beq_iff_eq, beq_eq_false_iff_ne] at *; omega)
        refine (putStr w.heap.size w.heap.size _ [92, 110] _ hB (by decide) (by simp only [List.length_cons, List.length_append, List.length_nil]; omega) (by have := hW.size; omega)).mono ?_
        rintro e w2 ⟨⟨x, rfl⟩, hB2, hb2⟩
        have hW2 := hW.trans hb2
        have HB3 := Lib.hid (show Bld w.heap.size w.heap.size (34 :: (s.data.toList.take (k + 1)).flatMap quoteByte) w2 by
          rw [HQ.out, HQB.out]; simpa using hB2)
        clear hB hB2 hb2
        go_wp2
        go_roundw
        case rel => exact ⟨k + 1, by omega, by go_num, HB3.out, hW2⟩
        case measure => simp [intOf]; omega
      by_cases hin : 32 ≤ s[k].toNat ∧ s[k].toNat ≤ 126
      · have HQB := Lib.hid (show quoteByte s[k] = [s[k]] by unfold quoteByte; rw [if_neg (by omega), if_neg h10, if_neg (by omega)])
        obtain ⟨hi1, hi2⟩ := hin
        go_wp2_with fail
        all_goals try (exfalso; simp only [beq_iff_eq, beq_eq_false_iff_ne] at *; omega)
        refine (putVal w.heap.size w.heap.size _ s[k] _ (by omega) _ hB (by simp only [List.length_cons, List.length_append, List.length_nil]; omega) (by have := hW.size; omega)).mono ?_
        rintro e w2 ⟨rfl, hB2, hb2⟩
        have hW2 := hW.trans hb2
        have HB3 := Lib.hid (show Bld w.heap.size w.heap.size (34 :: (s.data.toList.take (k + 1)).flatMap quoteByte) w2 by
          rw [HQ.out, HQB.out]; simpa using hB2)
        clear hB hB2 hb2
        go_wp2
        go_roundw
        case rel => exact ⟨k + 1, by omega, by go_num, HB3.out, hW2⟩
        case measure => simp [intOf]; omega
      · have HQB := Lib.hid (show quoteByte s[k] = [92, 120, hexDigit (s[k].toNat / 16), hexDigit (s[k].toNat % 16)] by unfold quoteByte; rw [if_neg (by omega), if_neg h10, if_pos (by omega)])
        go_wp2_with fail
        all_goals try (exfalso; simp only [beq_iff_eq, beq_eq_false_iff_ne] at *; omega)
        all_goals
          refine (putStr w.heap.size w.heap.size _ [92, 120] _ hB (by decide) (by simp only [List.length_cons, List.length_append, List.length_nil]; omega) (by have := hW.size; omega)).mono ?_
          rintro e w2 ⟨⟨x, rfl⟩, hB2, hb2⟩
          have hW2 := hW.trans hb2
          go_wp2_with fail
        all_goals
          refine (putVal w.heap.size w.heap.size _ (hexDigit (s[k].toNat / 16)) _ (congrArg Nat.cast (hexAt _ _)) _ hB2 (by simp only [List.length_cons, List.length_append, List.length_nil]; omega) (by have := hW2.size; omega)).mono ?_
          rintro e w3 ⟨rfl, hB3, hb3⟩
          have hW3 := hW2.trans hb3
          clear hb3 hB2 hb2 hB
          go_wp2_with fail
        all_goals
          refine (putVal w.heap.size w.heap.size _ (hexDigit (s[k].toNat % 16)) _ (congrArg Nat.cast (hexAt _ _)) _ hB3 (by simp only [List.length_cons, List.length_append, List.length_nil]; omega) (by have := hW3.size; omega)).mono ?_
          rintro e w4 ⟨rfl, hB4, hb4⟩
          have hW4 := hW3.trans hb4
          have HB4 := Lib.hid (show Bld w.heap.size w.heap.size (34 :: (s.data.toList.take (k + 1)).flatMap quoteByte) w4 by
            rw [HQ.out, HQB.out]; simpa using hB4)
          clear hb4 hB3 hB4
          go_wp2
          go_roundw
          case rel => exact ⟨k + 1, by omega, by go_num, HB4.out, hW4⟩
          case measure => simp [intOf]; omega
    · obtain rfl : k = s.size := by omega
      have HF := Lib.hid (show (34 :: (s.data.toList.take s.size).flatMap quoteByte) ++ [34] = quoteList s.data.toList by
        rw [← hlen, List.take_length]; rfl)
      have hql := quoteFlat_length (s.data.toList.take s.size)
      rw [List.length_take] at hql
      clear h1
      go_wp2_with fail
      refine (putByte w.heap.size w.heap.size _ 34 _ hB (by simp only [List.length_cons, List.length_append, List.length_nil]; omega) (by have := hW.size; omega)).mono ?_
      rintro e w2 ⟨rfl, hB2, hb2⟩
      have hW2 := hW.trans hb2
      rw [HF.out] at hB2
      clear hB hb2 HF
      go_wp2_with fail
      refine (Tryd.Builder_String_any w.heap.size w.heap.size _ w2 hB2 (by have := hW2.size; omega)).mono ?_
      rintro e w3 ⟨rfl, hb3⟩
      go_wp2
      go_ret
      exact ⟨rfl, hW2.trans hb3⟩
end Go.Proofs.YtkldimaoafgolaaDoor
