/- Part 8 of the texts that the law's proof stands on, merged. -/
import Derived.Deep.RegionLaw
import Derived.Deep.Cut
import Derived.BigRegion
import Derived.Test.YtafeaeaildfohaaGreatDoorRt07
set_option linter.unusedVariables false
set_option linter.unusedSimpArgs false
/- The reference's Parse (for RingTexts, seat .ZD). -/
namespace Go.Proofs.YtafeaeaildfohaaGreatDoor
open Go.RowKit Go.Maps Go.Shelf

def atomsB : List ByteArray → List Fct
  | n :: a :: b :: t => ⟨n, a, b⟩ :: atomsB t
  | _ => []
theorem atomsB_W : ∀ ws : List ByteArray, atomsW (ws.map bl) = atomsB ws
  | [] => rfl
  | [_] => rfl
  | [_, _] => rfl
  | n :: a :: b :: t => by
    show (⟨⟨(bl n).toArray⟩, ⟨(bl a).toArray⟩, ⟨(bl b).toArray⟩⟩ : Fct) :: atomsW (t.map bl) = ⟨n, a, b⟩ :: atomsB t
    rw [atomsB_W t, bl_back, bl_back, bl_back]
theorem atomsB_len : ∀ (m : Nat) (ws : List ByteArray), ws.length = 3 * m → (atomsB ws).length = m
  | 0, ws, h => by
    have : ws = [] := List.length_eq_zero_iff.1 (by omega)
    subst this; rfl
  | m + 1, n :: a :: b :: t, h => by
    simp only [List.length_cons] at h
    show (_ :: atomsB t).length = _
    rw [List.length_cons, atomsB_len m t (by omega)]
  | m + 1, [], h => absurd h (by simp)
  | m + 1, [_], h => absurd h (by simp; omega)
  | m + 1, [_, _], h => absurd h (by simp; omega)
theorem atomsB_get : ∀ (j : Nat) (ws : List ByteArray) (h : 3 * j + 2 < ws.length), (atomsB ws)[j]? = some ⟨ws[3 * j]'(by omega), ws[3 * j + 1]'(by omega), ws[3 * j + 2]⟩
  | 0, n :: a :: b :: t, h => rfl
  | j + 1, n :: a :: b :: t, h => by
    simp only [List.length_cons] at h
    show (_ :: atomsB t)[j + 1]? = _
    rw [List.getElem?_cons_succ, atomsB_get j t (by omega)]
    simp only [show 3 * (j + 1) = 3 * j + 3 by omega]
    rfl
  | j, [], h => absurd h (by simp)
  | j, [_], h => absurd h (by simp)
  | j, [_, _], h => absurd h (by simp)
def rW (ws : List ByteArray) : Rul := ruleW (ws.map bl)
theorem rW_parts {ws : List ByteArray} {m : Nat} (h : ws.length = 3 * (m + 1)) (h0 : 2 < ws.length) : rW ws = ⟨⟨ws[0]'(by omega), ws[1]'(by omega), ws[2]⟩, (atomsB ws).tail⟩ ∧ (atomsB ws).tail.length = m := by
  have h1 := atomsB_len (m + 1) ws h
  have h2 := atomsB_get 0 ws (by omega)
  refine ⟨?_, by rw [List.length_tail, h1]; rfl⟩
  unfold rW ruleW
  rw [atomsB_W]
  cases e : atomsB ws with
  | nil => rw [e] at h1; simp at h1
  | cons x l => rw [e] at h2; simp at h2; rw [← h2]; rfl
theorem rW_get {ws : List ByteArray} {m j : Nat} (h : ws.length = 3 * (m + 1)) (hj : j < m) (h' : j < (atomsB ws).tail.length) : (atomsB ws).tail[j] = ⟨ws[3 + 3 * j]'(by omega), ws[3 + 3 * j + 1]'(by omega), ws[3 + 3 * j + 2]'(by omega)⟩ := by
  have h2 := atomsB_get (j + 1) ws (by omega)
  have h3 : (atomsB ws).tail[j]? = (atomsB ws)[j + 1]? := by rw [List.getElem?_tail]
  rw [h2, List.getElem?_eq_getElem h'] at h3
  injection h3 with h3
  rw [h3]
  simp only [show 3 * (j + 1) = 3 + 3 * j by omega]
theorem rW_get2 {ws : List ByteArray} {j : Nat} (h3 : 3 + 3 * j + 2 < ws.length) (h' : j < (atomsB ws).tail.length) : (atomsB ws).tail[j] = ⟨ws[3 + 3 * j]'(by omega), ws[3 + 3 * j + 1]'(by omega), ws[3 + 3 * j + 2]⟩ := by
  have h2 := atomsB_get (j + 1) ws (by omega)
  have h4 : (atomsB ws).tail[j]? = (atomsB ws)[j + 1]? := by rw [List.getElem?_tail]
  rw [h2, List.getElem?_eq_getElem h'] at h4
  injection h4 with h4
  rw [h4]
  simp only [show 3 * (j + 1) = 3 + 3 * j by omega]
theorem lineR_words {L : List UInt8} {r : Rul} (h : lineR L = some r) : L.length ≤ 218 ∧ ∃ m, 1 ≤ m ∧ (wordsL L).length = 3 * (m + 1) := by
  obtain ⟨h1, rfl⟩ := lineR_some.1 h
  refine ⟨ruleL_len h1, r.bd.length, (validR_atoms h1).2.2.1, ?_⟩
  rw [words_rule h1, names_len]
  simp
theorem lineR_rW {L : List UInt8} {ws : List ByteArray} (h : ws.map bl = wordsL L) : lineR L = if validR (rW ws) = true ∧ ruleL (rW ws) = L then some (rW ws) else none := by
  unfold lineR rW
  rw [h]
theorem fmt_one (r : Rul) (L : List UInt8) : fmtL [r] = L ++ [10] ↔ (validR r = true ∧ ruleL r = L) := by
  unfold fmtL
  have e : validP [r] = validR r := by unfold validP; simp
  rw [e]
  constructor
  · intro h
    split at h
    · next hv =>
      rw [progL_cons, show progL [] = [] from rfl, List.append_nil] at h
      exact ⟨hv, List.append_cancel_right h⟩
    · exact absurd (congrArg List.length h) (by simp)
  · rintro ⟨hv, rfl⟩
    rw [if_pos hv, progL_cons, show progL [] = [] from rfl, List.append_nil]
/-- Between two lines. -/
structure HSt (W : World) (t : ByteArray) (wr : World) (k : Nat) (rs : List Rul) (v : Value) : Prop where
  rd : ∃ g, t.size - k ≤ g ∧ parsL t.size (bl t) [] = parsL g ((bl t).drop k) rs
  le : rs.length ≤ 12
  own : OwnsD tRul (W.heap.size ≤ ·) wr W.heap.size 28 v rs
  bl' : Below W.heap.size W wr
theorem HSt.bad {W wr : World} {t : ByteArray} {k : Nat} {rs : List Rul} {v : Value} (h : HSt W t wr k rs v) (hk : k < t.size) (hb : (Lib.cut ((bl t).drop k) [10]).2.2 = false ∨ lineR (Lib.cut ((bl t).drop k) [10]).1 = none ∨ 12 ≤ rs.length) : parsL t.size (bl t) [] = (none, rs.length) := by
  obtain ⟨g, hg, h2⟩ := h.rd
  obtain ⟨g', rfl⟩ : ∃ g', g = g' + 1 := ⟨g - 1, by omega⟩
  have hne : (bl t).drop k ≠ [] := fun e => by
    have := congrArg List.length e
    rw [List.length_drop, show (bl t).length = t.size from rfl] at this
    simp at this; omega
  rw [h2, parsL_bad hne hb]
theorem HSt.good {W wr w10 : World} {t : ByteArray} {k e : Nat} {rs : List Rul} {v v' : Value} {r : Rul} (h : HSt W t wr k rs v) (hk : k ≤ e) (he : e < t.size) (hc : Lib.cut ((bl t).drop k) [10] = (((bl t).drop k).take (e - k), (bl t).drop (e + 1), true)) (hl : lineR (((bl t).drop k).take (e - k)) = some r) (h12 : rs.length < 12)
    (own10 : OwnsD tRul (W.heap.size ≤ ·) w10 W.heap.size 28 v' (rs ++ [r])) (hb : Below W.heap.size W w10) : HSt W t w10 (e + 1) (rs ++ [r]) v' := by
  refine ⟨?_, by simp; omega, own10, hb⟩
  obtain ⟨g, hg, h2⟩ := h.rd
  obtain ⟨g', rfl⟩ : ∃ g', g = g' + 1 := ⟨g - 1, by omega⟩
  have hne : (bl t).drop k ≠ [] := fun e => by
    have := congrArg List.length e
    rw [List.length_drop, show (bl t).length = t.size from rfl] at this
    simp at this; omega
  refine ⟨g', by omega, h2.trans ?_⟩
  rw [parsL_good (r := r) hne (by rw [hc]) (by rw [hc]; exact hl) h12, hc]

/-- Inside the region that makes a rule of three words. -/
structure KJ (exp : Nat → Option Value) (w2 : World) (Fin : World → Prop) (L : Nat → Bool) (f : Nat → Value) (w' : World) : Prop where
  vs : ∀ i u, exp i = some u → L i = true → f i = u
  d12 : L 12 = true → L 11 = true
  wA : L 11 = false → w' = w2.drew
  wB : L 11 = true → L 12 = false → w' = w2.drew.alloc (.cells #[.string ⟨#[]⟩, .string ⟨#[]⟩, .string ⟨#[]⟩, .slice none 0 0] 28)
  wC : L 12 = true → Fin w'
theorem KJ.below {exp : Nat → Option Value} {w2 : World} {Fin : World → Prop} {L : Nat → Bool} {f : Nat → Value} {w' : World} (h : KJ exp w2 Fin L f w') (hF : ∀ w', Fin w' → Below w2.heap.size w2 w') : Below w2.heap.size w2 w' := by
  cases e12 : L 12 with
  | true => exact hF _ (h.wC e12)
  | false =>
    cases e11 : L 11 with
    | false => rw [h.wA e11]; exact (Below.refl _ w2).drew
    | true => rw [h.wB e11 e12]; exact ((Below.refl _ w2).drew).alloc (Nat.le_refl _) _
def expK (b o p n c : Nat) (x0 x1 x2 : ByteArray) : Nat → Option Value
  | 0 => some (.slice (some ⟨b, o, none⟩) n c)
  | 1 => some (.pointer (some ⟨b, o, none⟩))
  | 2 => some (.string x0)
  | 3 => some (.slice (some ⟨b, o, none⟩) n c)
  | 4 => some (.pointer (some ⟨b, o + 1, none⟩))
  | 5 => some (.string x1)
  | 6 => some (.slice (some ⟨b, o, none⟩) n c)
  | 7 => some (.pointer (some ⟨b, o + 2, none⟩))
  | 8 => some (.string x2)
  | 9 => some (.agg #[.string x0, .string x1, .string x2])
  | 10 => some (.agg #[.string x0, .string x1, .string x2, .slice none 0 0])
  | 11 => some (.pointer (some ⟨p, 0, none⟩))
  | _ => none
theorem set4R {w : World} {b : Nat} {y0 y1 y2 y3 c0 c1 c2 c3 : Value} {t : TypeId} (h : w.heap[b]? = some (.cells #[y0, y1, y2, y3] t (0, 0))) :
    ((((w.setCell ⟨b, 0, none⟩ c0).setCell ⟨b, 1, none⟩ c1).setCell ⟨b, 2, none⟩ c2).setCell ⟨b, 3, none⟩ c3).heap[b]? = some (.cells #[c0, c1, c2, c3] t (0, 0)) := by
  have h1 := heap_setCell_same w b 0 _ t c0 h
  have h2 := heap_setCell_same _ b 1 _ t c1 h1
  have h3 := heap_setCell_same _ b 2 _ t c2 h2
  exact heap_setCell_same _ b 3 _ t c3 h3

/-- Inside the region that appends an atom of three words. -/
structure LJ (exp : Nat → Option Value) (wr : World) (y0 y1 y2 : ByteArray) (C : Value → World → Prop) (Fin : World → Prop) (L : Nat → Bool) (f : Nat → Value) (w' : World) : Prop where
  vs : ∀ i u, exp i = some u → L i = true → f i = u
  d16 : L 16 = true → L 5 = true ∧ L 10 = true ∧ L 15 = true
  d17 : L 17 = true → L 16 = true
  d18 : L 18 = true → L 17 = true ∧ L 1 = true
  d20 : L 20 = true → L 18 = true
  wA : L 17 = false → w' = wr.drew
  wB : L 17 = true → L 18 = false → w' = wr.drew.alloc (.cells #[.string y0, .string y1, .string y2] 25) ∧ f 17 = .slice (some ⟨wr.heap.size, 0, none⟩) 1 1
  wC : L 18 = true → L 20 = false → C (f 18) w'
  wD : L 20 = true → Fin w'
def expL (b o p len c n : Nat) (sl : Value) (y0 y1 y2 : ByteArray) : Nat → Option Value
  | 0 => some (.pointer (some ⟨p, 3, none⟩))
  | 1 => some sl
  | 2 => some (.slice (some ⟨b, o, none⟩) len c)
  | 3 => some (.int .i64 (n : Int))
  | 4 => some (.pointer (some ⟨b, o + n, none⟩))
  | 5 => some (.string y0)
  | 6 => some (.slice (some ⟨b, o, none⟩) len c)
  | 7 => some (.int .i64 (n : Int))
  | 8 => some (.int .i64 ((n : Int) + 1))
  | 9 => some (.pointer (some ⟨b, o + (n + 1), none⟩))
  | 10 => some (.string y1)
  | 11 => some (.slice (some ⟨b, o, none⟩) len c)
  | 12 => some (.int .i64 (n : Int))
  | 13 => some (.int .i64 ((n : Int) + 2))
  | 14 => some (.pointer (some ⟨b, o + (n + 2), none⟩))
  | 15 => some (.string y2)
  | 16 => some (.agg #[.string y0, .string y1, .string y2])
  | 19 => some (.pointer (some ⟨p, 3, none⟩))
  | _ => none

/-- Inside the region that looks at the line: at the text's end; behind a whole line. -/
structure MJ0 (exp : Nat → Option Value) (wr : World) (L : Nat → Bool) (f : Nat → Value) (w' : World) : Prop where
  vs : ∀ i u, exp i = some u → L i = true → f i = u
  w : w' = wr.drew
structure MJ (exp : Nat → Option Value) (wr : World) (X : Obj) (fm : List UInt8) (L : Nat → Bool) (f : Nat → Value) (w' : World) : Prop where
  vs : ∀ i u, exp i = some u → L i = true → f i = u
  d6 : L 6 = true → L 5 = true
  d7 : L 7 = true → L 6 = true
  wA : L 6 = false → w' = wr.drew
  wB : L 6 = true → L 7 = false → w' = wr.drew.alloc X ∧ f 6 = .slice (some ⟨wr.heap.size, 0, none⟩) 1 1
  wC : L 7 = true → Below wr.heap.size wr w' ∧ ∃ s, f 7 = .string s ∧ bl s = fm
def expB (t : ByteArray) (e : Nat) : Nat → Option Value
  | 0 => some (.int .i64 (e : Int))
  | 1 => some (.string t)
  | 2 => some (.int .i64 (t.size : Int))
  | 3 => some (.bool true)
  | 4 => some (.bool true)
  | 14 => some (.bool true)
  | 15 => some (.bool true)
  | 19 => some (.bool true)
  | _ => none
def expA (t : ByteArray) (k e : Nat) (rv vv : Value) (rl : Nat) (nb c : Bool) : Nat → Option Value
  | 0 => some (.int .i64 (e : Int))
  | 1 => some (.string t)
  | 2 => some (.int .i64 (t.size : Int))
  | 3 => some (.bool false)
  | 4 => some (.bool false)
  | 5 => some rv
  | 8 => some (.string t)
  | 9 => some (.int .i64 (k : Int))
  | 10 => some (.int .i64 (e : Int))
  | 11 => some (.int .i64 ((e : Int) + 1))
  | 12 => some (.string (t.extract k (e + 1)))
  | 13 => some (.bool nb)
  | 14 => some (.bool nb)
  | 15 => some (.bool nb)
  | 16 => if nb then none else some vv
  | 17 => if nb then none else some (.int .i64 (rl : Int))
  | 18 => if nb then none else some (.bool c)
  | 19 => some (.bool (nb || c))
  | _ => none

set_option maxRecDepth 100000 in
set_option maxHeartbeats 8000000 in
theorem refParse_any (t : ByteArray) (W : World) (hs : t.size ≤ 200000) :
    Calls Tryz.prog 12 #[.string t] W (ParsOut t W) := by
  by_cases h64 : 65536 < t.size
  · have h64i : (65536 : Int) < (t.size : Int) := by omega
    go_enter Tryz.func12, Tryz.ntmps12
    go_wp2
    go_ret3
    exact ⟨Below.refl _ _, .inl ⟨h64, rfl⟩⟩
  have h64i : (t.size : Int) ≤ 65536 := by omega
  have H64 := Lib.hid (show t.size ≤ 65536 by omega)
  have HP0 := Lib.hid (show HSt W t W 0 [] (.slice none 0 0) from ⟨⟨t.size, by omega, rfl⟩, by simp, OwnsD.nil _ _ _ _ _, Below.refl _ _⟩)
  clear h64
  go_enter Tryz.func12, Tryz.ntmps12
  go_wp2_with fail
  go_loopw [2, 3, 5] (fun v lv iv wr => ∃ (k : Nat) (rs : List Rul), k ≤ t.size ∧ iv = .int .i64 k ∧ lv = .int .i64 rs.length ∧ Hid (HSt W t wr k rs v)) (fun _ _ iv _ => t.size - (intOf iv).toNat)
  case atStart => exact ⟨0, [], by omega, rfl, rfl, HP0⟩
  case round =>
    clear HP0 h64i
    obtain ⟨k, rs, hk, rfl, rfl, H2⟩ := hrel
    obtain ⟨av, cv, rfl, -⟩ := H2.out.own.len
    have H12 := Lib.hid H2.out.le
    by_cases hlt : k < t.size
    · have HLT := Lib.hid hlt
      have h64 := H64.out
      go_wp2_with fail
      go_loopw [6] (fun ev wr2 => ∃ e : Nat, k ≤ e ∧ e ≤ t.size ∧ ev = .int .i64 e ∧ Hid (∀ j, k ≤ j → (hj : j < e) → (hj2 : j < (bl t).length) → (bl t)[j] ≠ 10) ∧ wr2 = wr) (fun ev _ => t.size - (intOf ev).toNat)
      case atStart => exact ⟨k, Nat.le_refl _, hk, rfl, Lib.hid (fun j h1 h2 => absurd h2 (by omega)), rfl⟩
      case round =>
        obtain ⟨e, hke, he, rfl, HS, rfl⟩ := hrel
        by_cases hgo : ∃ h : e < t.size, t[e].toNat ≠ 10
        · obtain ⟨hlt2, h10⟩ := hgo
          have h10f : ((t[e].toNat : Int) != 10) = true := by simp; omega
          have HS2 := Lib.hid (show ∀ j, k ≤ j → (hj : j < e + 1) → (hj2 : j < (bl t).length) → (bl t)[j] ≠ 10 from fun j h1 h2 h3 => by
            by_cases hje : j = e
            · subst hje; intro h; exact h10 (by rw [show t[j] = 10 from h]; rfl)
            · exact HS.out j h1 (by omega) h3)
          go_wp2
          go_roundw
          case rel => exact ⟨e + 1, by omega, by omega, by go_num, HS2, by first | rfl | trivial⟩
          case measure => simp [intOf]; omega
        · have HEX := Lib.hid (show e = t.size ∨ ∃ h : e < t.size, t[e].toNat = 10 from by
            by_cases h : e < t.size
            · refine .inr ⟨h, ?_⟩
              by_cases h1 : t[e].toNat = 10
              · exact h1
              · exact absurd ⟨h, h1⟩ hgo
            · exact .inl (by omega))
          clear hgo
          have HBAD := Lib.hid (show (e = t.size ∨ lineR (bl (t.extract k e)) = none ∨ 12 ≤ rs.length) → parsL t.size (bl t) [] = (none, rs.length) from fun h => by
            refine H2.out.bad HLT.out ?_
            rcases HEX.out with he2 | ⟨hlt2, h10⟩
            · left
              rw [cut_scan_end (fun j h1 h2 => HS.out j h1 (by rw [he2]; exact h2) h2)]
            · rw [cut_scan hke (show e < (bl t).length from hlt2) (fun j h1 h2 => HS.out j h1 h2 (by show j < t.size; omega)) (UInt8.toNat_inj.1 h10)]
              rcases h with h | h | h
              · omega
              · right; left; rw [bl_extr] at h; exact h
              · right; right; exact h)
          have HGOOD := Lib.hid (show ∀ r v' w10, e < t.size → lineR (bl (t.extract k e)) = some r → rs.length < 12 → OwnsD tRul (W.heap.size ≤ ·) w10 W.heap.size 28 v' (rs ++ [r]) → Below W.heap.size W w10 → HSt W t w10 (e + 1) (rs ++ [r]) v' from fun r v' w10 h1 h2 h3 h4 h5 => by
            rcases HEX.out with he2 | ⟨hlt2, h10⟩
            · omega
            · exact H2.out.good hke h1 (cut_scan hke (show e < (bl t).length from hlt2) (fun j h1 h2 => HS.out j h1 h2 (by show j < t.size; omega)) (UInt8.toNat_inj.1 h10)) (by rw [bl_extr] at h2; exact h2) h3 h4 h5)
          have HXL := Lib.hid (show (bl (t.extract k e)).length = e - k from by show (t.extract k e).size = e - k; rw [ByteArray.size_extract]; omega)
          have HEE := Lib.hid (show e = t.size ∨ (e < t.size) from by omega)
          have HBR := Lib.hid H2.out.bl'
          have HOW := Lib.hid H2.out.own
          have HLE := Lib.hid H2.out.le
          have hex := HEX.out
          clear HS HEX H2
          have hB : (∃ h : e < t.size, ((t[e].toNat : Int) != 10) = false) ∨ ((t.size : Int) ≤ (e : Int) ∧ e = t.size) := by
            rcases hex with he2 | ⟨hlt2, h10⟩
            · exact .inr ⟨by omega, he2⟩
            · exact .inl ⟨hlt2, by simp; omega⟩
          clear hex
          have HKE := Lib.hid hke
          rcases hB with ⟨hlt2, h10f⟩ | ⟨hge, hee⟩
          rotate_left
          clear hee
          all_goals
            by_cases h400 : 400 ≤ e - k
            · have HE := Lib.hid (HBAD.out (.inr (.inl (by
                cases hl : lineR (bl (t.extract k e)) with
                | none => rfl
                | some r => have := (lineR_words hl).1; rw [HXL.out] at this; omega))))
              have h4a : ¬ ((e : Int) - (k : Int) < 400) := by omega
              go_wp2
              go_ret3
              exact ⟨HBR.out, .inr (.inr ⟨H64.out, _, HE.out, rfl⟩)⟩
            · have h4a : (e : Int) - (k : Int) < 400 := by omega
              have HWD := Lib.hid (refWords_any (t.extract k e) wr (by rw [ByteArray.size_extract]; omega))
              go_wp2_with fail
              refine HWD.out.mono ?_
              rintro e' w2 ⟨ov, ws, rfl, how, hwl, hwz, hwn, hb2⟩
              have HWZ := Lib.hid hwz
              have HLR := Lib.hid (lineR_rW hwl)
              have HWL := Lib.hid hwl
              have HROW := Lib.hid how.rv'
              have HB2 := Lib.hid hb2
              obtain ⟨wa, wc, rfl, hwc1, hwc2, -⟩ := slice_form how.rv'
              have hwc : wc ≤ 9223372036854775807 := by unfold maxLen at hwc2; exact hwc2
              clear how hwl hwz hb2 HWD hwc2
              by_cases hm : ∃ m, 1 ≤ m ∧ ws.length = 3 * (m + 1)
              · obtain ⟨m, hm1, hm2⟩ := hm
                have h6i : ¬ ((ws.length : Int) < 6) := by omega
                have h3a : (((ws.length : Int) % 3) != 0) = false := by
                  rw [bne_eq_false_iff_eq]
                  omega
                have p0 : 0 < ws.length := by omega
                have p1 : 1 < ws.length := by omega
                have p2 : 2 < ws.length := by omega
                obtain ⟨wb, wo, rfl, q0, hz0⟩ := str_cell HROW.out p0
                obtain ⟨b1, o1, e1, q1, hz1⟩ := str_cell HROW.out p1
                cases e1
                obtain ⟨b2, o2, e1, q2, hz2⟩ := str_cell HROW.out p2
                cases e1
                have HC0 := Lib.hid (show ∀ w', Below w2.heap.size w2 w' → w'.cell? ⟨wb, wo, none⟩ = some (.string (ws[0]'p0)) ∧ w'.cell? ⟨wb, wo + 1, none⟩ = some (.string (ws[1]'p1)) ∧ w'.cell? ⟨wb, wo + 2, none⟩ = some (.string (ws[2]'p2)) from fun w' hb => ⟨below_mem hb _ _ _ q0, below_mem hb _ _ _ q1, below_mem hb _ _ _ q2⟩)
                obtain ⟨hr1, hr2⟩ := rW_parts hm2 p2
                have HRW := Lib.hid hr1
                have HRB := Lib.hid hr2
                have HM2 := Lib.hid hm2
                have hn6 : (6 : Int) ≤ (ws.length : Int) := by omega
                have hwn2 : (ws.length : Int) ≤ 400 := by omega
                have HOKH := Lib.hid (show okF ⟨(ws[0]'p0), (ws[1]'p1), (ws[2]'p2)⟩ from ⟨hz0, hz1, hz2⟩)
                clear q0 q1 q2 hr1 hr2 hz0 hz1 hz2
                generalize (ws[0]'p0) = x0 at *
                generalize (ws[1]'p1) = x1 at *
                generalize (ws[2]'p2) = x2 at *
                clear hm2
                have i0 : ¬ ((ws.length : Int) ≤ 0) := by omega
                have i1 : (1 : Int) < (ws.length : Int) := by omega
                have i2 : (2 : Int) < (ws.length : Int) := by omega
                have i0' : (0 : Int) < (ws.length : Int) := by omega
                go_wp2_with fail
                refine wp_region_inv (by kernel_rfl) (by kernel_rfl) (by kernel_rfl) (KJ (expK wb wo w2.heap.size ws.length wc x0 x1 x2) w2 (fun w' => Below w2.heap.size w2 w' ∧ w'.heap[w2.heap.size]? = some (.cells #[.string x0, .string x1, .string x2, .slice none 0 0] 28 (0, 0)))) ?start (AllAt.all ?steps) ?ends
                case start => exact ⟨fun i u _ e => (by cases e), fun e => (by cases e), fun _ => rfl, fun e => (by cases e), fun e => (by cases e)⟩
                case ends =>
                  intro L f w3 hJ hall
                  obtain ⟨hb3, hp3⟩ := hJ.wC (hall 12 (by decide))
                  have e11 := hJ.vs 11 _ rfl (hall 11 (by decide))
                  have HB3 := Lib.hid hb3
                  have HP3 := Lib.hid hp3
                  clear hJ hall hb3 hp3
                  simp only [putAll, Exit.then, Nat.reduceAdd]
                  rw [e11]
                  go_frame
                  go_wp2_with fail
                  obtain ⟨bd, hbd⟩ : ∃ bd, bd = (atomsB ws).tail := ⟨_, rfl⟩
                  have HBDE := Lib.hid hbd
                  have HBL := Lib.hid (show bd.length = m from by rw [hbd]; exact HRB.out)
                  have HGET := Lib.hid (show ∀ j (h3 : 3 + 3 * j + 2 < ws.length) (h' : j < bd.length), bd[j] = ⟨ws[3 + 3 * j]'(by omega), ws[3 + 3 * j + 1]'(by omega), ws[3 + 3 * j + 2]⟩ from by
                    intro j h3 h'
                    subst hbd
                    exact rW_get2 h3 h')
                  rw [← hbd] at HRW
                  clear HRB hbd
                  generalize hpq : w2.heap.size = p at HP3
                  have HPQ := Lib.hid hpq
                  try rw [hpq]
                  have HSZ3 := Lib.hid (show p < w3.heap.size from (Array.getElem?_eq_some_iff.1 HP3.out).1)
                  clear hpq
                  go_loopw [9] (fun iv wr => ∃ (n j : Nat) (a : Option Addr) (ln c : Nat), iv = .int .i64 (n : Int) ∧ Hid (n = 3 + 3 * j ∧ j ≤ m) ∧ Hid (wr.heap[p]? = some (.cells #[.string x0, .string x1, .string x2, .slice a ln c] 28 (0, 0))) ∧ Hid (Owns tFct wr w3.heap.size 25 (.slice a ln c) (bd.take j)) ∧ Hid (Below w3.heap.size w3 wr ∨ True) ∧ Hid (Keeps (fun q => q = p ∨ w3.heap.size ≤ q) w3 wr)) (fun iv _ => ws.length - (intOf iv).toNat)
                  case atStart => exact ⟨3, 0, none, 0, 0, rfl, Lib.hid ⟨rfl, by omega⟩, HP3, Lib.hid (by rw [List.take_zero]; exact Owns.nil _ _ _ _), Lib.hid (.inr trivial), Lib.hid (Keeps.refl _ _)⟩
                  case round =>
                    clear HP3
                    obtain ⟨n, j, au, ln, cu, rfl, HNJ, HP, HU, -, HK⟩ := hrel
                    have HBW := Lib.hid (show Below w2.heap.size w2 wr from HB3.out.trans ((HK.out.below (B := w2.heap.size) HB3.out.size (fun q e => by have := HPQ.out; have := HSZ3.out; omega))))
                    by_cases hlj : j < m
                    · have hn1 : n + 2 < ws.length := by have := HNJ.out; have := HM2.out; omega
                      obtain ⟨y0, hy0⟩ : ∃ y0, y0 = (ws[n]'(by omega)) := ⟨_, rfl⟩
                      obtain ⟨y1, hy1⟩ : ∃ y1, y1 = (ws[n + 1]'(by omega)) := ⟨_, rfl⟩
                      obtain ⟨y2, hy2⟩ : ∃ y2, y2 = (ws[n + 2]'hn1) := ⟨_, rfl⟩
                      have hjb : j < bd.length := by rw [HBL.out]; exact hlj
                      have HBJ := Lib.hid (show bd[j]'hjb = ⟨y0, y1, y2⟩ from by
                        have hn := HNJ.out.1
                        subst hn
                        rw [HGET.out j hn1 hjb, hy0, hy1, hy2])
                      have HTK := Lib.hid (List.take_succ_eq_append_getElem hjb)
                      rw [HBJ.out] at HTK
                      have HRW2 := Lib.hid (tStrs.mono _ _ _ _ (below_mem HBW.out) HROW.out)
                      obtain ⟨bx, ox, ex, q0, hz0⟩ := str_cell HRW2.out (show n < ws.length by omega)
                      cases ex
                      obtain ⟨bx, ox, ex, q1, hz1⟩ := str_cell HRW2.out (show n + 1 < ws.length by omega)
                      cases ex
                      obtain ⟨bx, ox, ex, q2, hz2⟩ := str_cell HRW2.out hn1
                      cases ex
                      rw [← hy0] at q0 hz0
                      rw [← hy1] at q1 hz1
                      rw [← hy2] at q2 hz2
                      have k0 : wr.drew.cell? ⟨wb, wo + n, none⟩ = some (.string y0) := q0
                      have k1 : wr.drew.cell? ⟨wb, wo + (n + 1), none⟩ = some (.string y1) := q1
                      have k2 : wr.drew.cell? ⟨wb, wo + (n + 2), none⟩ = some (.string y2) := q2
                      have KW := Lib.hid (And.intro k0 (And.intro k1 k2))
                      have HOKY := Lib.hid (show okF ⟨y0, y1, y2⟩ from ⟨hz0, hz1, hz2⟩)
                      have kp : wr.drew.cell? ⟨p, 3, none⟩ = some (.slice au ln cu) := mem_cells HP.out 3
                      have KP := Lib.hid (And.intro kp (fun o => (show (wr.drew.alloc o).cell? ⟨p, 3, none⟩ = some (.slice au ln cu) from below_mem (boxB wr.drew o) _ _ _ kp)))
                      have HLNE := Lib.hid (show ln = (bd.take j).length from by obtain ⟨a', c', e', -⟩ := HU.out.len; cases e'; rfl)
                      have HAPP := Lib.hid (show ∃ a7 n7 c7 w7, (Builtin.append_ #[26, 26] 26 #[.slice au ln cu, .slice (some ⟨wr.heap.size, 0, none⟩) 1 1]).run Tryz.prog (wr.drew.alloc (.cells #[.string y0, .string y1, .string y2] 25)) = .ok (.slice a7 n7 c7) w7 ∧
                          w7.cell? ⟨p, 3, none⟩ = some (.slice au ln cu) ∧ w7.frozen? ⟨p, 3, none⟩ = false ∧ ((w7.setCell ⟨p, 3, none⟩ (.slice a7 n7 c7)).heap[p]? = some (.cells #[.string x0, .string x1, .string x2, .slice a7 n7 c7] 28 (0, 0)) ∧ Owns tFct (w7.setCell ⟨p, 3, none⟩ (.slice a7 n7 c7)) w3.heap.size 25 (.slice a7 n7 c7) (bd.take (j + 1)) ∧ Keeps (fun q => q = p ∨ w3.heap.size ≤ q) w3 (w7.setCell ⟨p, 3, none⟩ (.slice a7 n7 c7))) from by
                        have hpw : p < wr.heap.size := (Array.getElem?_eq_some_iff.1 HP.out).1
                        have hs3 := HSZ3.out
                        have hYd : Below wr.heap.size wr (wr.drew.alloc (.cells #[.string y0, .string y1, .string y2] 25)) := ((Below.refl _ wr).drew).alloc (Nat.le_refl _) _
                        have hrow := HU.out.keeps hYd
                        have hlen : (bd.take j).length ≤ 400 := by rw [List.length_take, HBL.out]; have := HM2.out; omega
                        have hszd : (wr.drew.alloc (.cells #[.string y0, .string y1, .string y2] 25)).heap.size = wr.heap.size + 1 := by rw [World.size_alloc]; rfl
                        obtain ⟨v', w7, hr, ho7, hg7, -⟩ := append_run2 (P := Tryz.prog) (ty := 26) Tryz.underlying26 infoAtm rfl (by decide) hrow (nb := wr.heap.size) (c := 1) (y := ⟨y0, y1, y2⟩) (cs := [.string y0, .string y1, .string y2])
                          (fun j w hj => by
                            have := mem_cells (heap_alloc_new wr.drew (.cells #[.string y0, .string y1, .string y2] 25)) (0 + j)
                            refine this.trans ?_
                            rw [Nat.zero_add]; simpa using hj) ⟨rfl, HOKY.out⟩ (fun w hw => by simp at hw; rcases hw with rfl | rfl | rfl <;> rfl) (by unfold maxLen; omega) (by omega) (by rw [hszd]; have := HK.out.size; omega)
                        obtain ⟨a7, c7, rfl, -⟩ := ho7.len
                        have hne : ∀ q, (Value.slice au ln cu).ownBlock = some q → w3.heap.size ≤ q := fun q hq => (hrow.lt q hq).1
                        have hc7 : w7.heap[p]? = some (.cells #[.string x0, .string x1, .string x2, .slice au ln cu] 28 (0, 0)) :=
                          (hg7.block _ (by rw [hszd]; omega) (fun e => by have := hne _ e.symm; omega)).trans ((hYd.block _ hpw).trans HP.out)
                        have hset : Keeps (fun q => q = p) w7 (w7.setCell ⟨p, 3, none⟩ (.slice a7 (bd.take j ++ [(⟨y0, y1, y2⟩ : Fct)]).length c7)) := (Keeps.refl (fun q => q = p) w7).setCell (p := ⟨p, 3, none⟩) (fun _ => rfl) _
                        refine ⟨_, _, _, w7, hr, mem_cells hc7 3, frozen_cells hc7 3, heap_setCell_same w7 p 3 _ _ _ hc7, ?_, ?_⟩
                        · rw [HTK.out]
                          exact ho7.keepsC tFct_flatG hset (fun q o h1 _ _ h => by omega)
                        · refine HK.out.trans ((((below_keeps hYd).wide (fun q _ h => .inr (by have := HK.out.size; omega))).trans ((grown_keeps hg7).wide (fun q _ h => .inr (hne q h.symm)))).trans (hset.wide (fun q _ h => .inl h)))
                      )
                      have hw1 : IntKind.i64.wrap ((n : Int) + 1) = (n : Int) + 1 := IntWalk.i64_in _ (by omega)
                      have hw2 : IntKind.i64.wrap ((n : Int) + 2) = (n : Int) + 2 := IntWalk.i64_in _ (by omega)
                      have HNUM := Lib.hid (And.intro hw1 hw2)
                      have hnl : (n : Int) < (ws.length : Int) := by omega
                      have HNB := Lib.hid hn1
                      clear q0 q1 q2 hz0 hz1 hz2 hy0 hy1 hy2 k0 k1 k2 kp hw1 hw2 hn1 hlj
                      go_wp2_with fail
                      refine wp_region_inv (by kernel_rfl) (by kernel_rfl) (by kernel_rfl) (LJ (expL wb wo p ws.length wc n (.slice au ln cu) y0 y1 y2) wr y0 y1 y2 (fun v w' => ∃ a7 n7 c7, v = .slice a7 n7 c7 ∧ w'.cell? ⟨p, 3, none⟩ = some (.slice au ln cu) ∧ w'.frozen? ⟨p, 3, none⟩ = false ∧ ((w'.setCell ⟨p, 3, none⟩ (.slice a7 n7 c7)).heap[p]? = some (.cells #[.string x0, .string x1, .string x2, .slice a7 n7 c7] 28 (0, 0)) ∧ Owns tFct (w'.setCell ⟨p, 3, none⟩ (.slice a7 n7 c7)) w3.heap.size 25 (.slice a7 n7 c7) (bd.take (j + 1)) ∧ Keeps (fun q => q = p ∨ w3.heap.size ≤ q) w3 (w'.setCell ⟨p, 3, none⟩ (.slice a7 n7 c7))))
                        (fun w' => ∃ a7 n7 c7, w'.heap[p]? = some (.cells #[.string x0, .string x1, .string x2, .slice a7 n7 c7] 28 (0, 0)) ∧ Owns tFct w' w3.heap.size 25 (.slice a7 n7 c7) (bd.take (j + 1)) ∧ Keeps (fun q => q = p ∨ w3.heap.size ≤ q) w3 w')) ?startB (AllAt.all ?stepsB) ?endsB
                      case startB => exact ⟨fun i u _ e => (by cases e), fun e => (by cases e), fun e => (by cases e), fun e => (by cases e), fun e => (by cases e), fun _ => rfl, fun e => (by cases e), fun e => (by cases e), fun e => (by cases e)⟩
                      case endsB =>
                        intro L f w4 hJ hall
                        obtain ⟨a7, n7, c7, h1, h2, h3⟩ := hJ.wD (hall 20 (by decide))
                        have HP7 := Lib.hid h1
                        have HU7 := Lib.hid h2
                        have HK7 := Lib.hid h3
                        clear hJ hall h1 h2 h3
                        simp only [putAll, Exit.then, Nat.reduceAdd]
                        go_frame
                        go_wp2_with fail
                        go_roundw
                        case rel => exact ⟨n + 3, j + 1, a7, n7, c7, by go_num, Lib.hid ⟨by have := HNJ.out; omega, by have := HNJ.out; have := HM2.out; have := HNB.out; omega⟩, HP7, HU7, Lib.hid (.inr trivial), HK7⟩
                        case measure => have := HNB.out; simp [intOf]; omega
                      case stepsB =>
                        refine AllAt.cons 1 ?r0 (AllAt.cons 2 ?r1 (AllAt.cons 3 ?r2 (AllAt.cons 4 ?r3 (AllAt.cons 5 ?r4 (AllAt.cons 6 ?r5 (AllAt.cons 7 ?r6 (AllAt.cons 8 ?r7 (AllAt.cons 9 ?r8 (AllAt.cons 10 ?r9 (AllAt.cons 11 ?r10 (AllAt.cons 12 ?r11 (AllAt.cons 13 ?r12 (AllAt.cons 14 ?r13 (AllAt.cons 15 ?r14 (AllAt.cons 16 ?r15 (AllAt.cons 17 ?r16 (AllAt.cons 18 ?r17 (AllAt.cons 19 ?r18 (AllAt.cons 20 ?r19 (AllAt.cons 21 ?r20 AllAt.nil rfl) rfl) rfl) rfl) rfl) rfl) rfl) rfl) rfl) rfl) rfl) rfl) rfl) rfl) rfl) rfl) rfl) rfl) rfl) rfl) rfl
                        case r0 =>
                          intro L f a wz hJ hLi hdep hv h0 K hK
                          have e8 : a.eval (.tmp 8) = .pointer (some ⟨p, 0, none⟩) := (h0 8 (noDst_spec (by kernel_rfl))).trans rfl
                          refine step_val rfl (v := .pointer (some ⟨p, 3, none⟩)) (w' := wz) ?_ (hK _ _ ⟨vsAddN hJ.vs (fun u e => Option.some.inj e), hJ.d16, hJ.d17, hJ.d18, hJ.d20, hJ.wA, hJ.wB, hJ.wC, hJ.wD⟩)
                          clear hJ hdep hv h0 hK
                          generalize a.eval = ρ at *
                          simp [go_sem, execOp, *]
                        case r1 =>
                          intro L f a wz hJ hLi hdep hv h0 K hK
                          have hL0 := hdep 0 (List.mem_of_elem_eq_true (by kernel_rfl))
                          have e66 := (hv 0 66 rfl hL0).trans (hJ.vs 0 _ rfl hL0)
                          have kc : wz.cell? ⟨p, 3, none⟩ = some (.slice au ln cu) := by
                            have h18 : L 18 = false := by
                              cases e : L 18 with
                              | false => rfl
                              | true => exact (bFalse hLi (hJ.d18 e).2).elim
                            cases e17 : L 17 with
                            | false => rw [hJ.wA e17]; exact KP.out.1
                            | true => rw [(hJ.wB e17 h18).1]; exact KP.out.2 _
                          refine step_val rfl (v := .slice au ln cu) (w' := wz) ?_ (hK _ _ ⟨vsAddN hJ.vs (fun u e => Option.some.inj e), hJ.d16, hJ.d17, fun e => ⟨(hJ.d18 e).1, rfl⟩, hJ.d20, hJ.wA, hJ.wB, hJ.wC, hJ.wD⟩)
                          clear hJ hdep hv h0 hK
                          generalize a.eval = ρ at *
                          simp [go_sem, execOp, *]
                        case r2 =>
                          intro L f a wz hJ hLi hdep hv h0 K hK
                          have e7 : a.eval (.tmp 7) = .slice (some ⟨wb, wo, none⟩) ws.length wc := (h0 7 (noDst_spec (by kernel_rfl))).trans rfl
                          refine step_val rfl (v := .slice (some ⟨wb, wo, none⟩) ws.length wc) (w' := wz) ?_ (hK _ _ ⟨vsAddN hJ.vs (fun u e => Option.some.inj e), hJ.d16, hJ.d17, hJ.d18, hJ.d20, hJ.wA, hJ.wB, hJ.wC, hJ.wD⟩)
                          clear hJ hdep hv h0 hK
                          generalize a.eval = ρ at *
                          simp [go_sem, execOp, *]
                        case r3 =>
                          intro L f a wz hJ hLi hdep hv h0 K hK
                          have e9 : a.eval (.tmp 9) = .int .i64 (n : Int) := (h0 9 (noDst_spec (by kernel_rfl))).trans rfl
                          refine step_val rfl (v := .int .i64 (n : Int)) (w' := wz) ?_ (hK _ _ ⟨vsAddN hJ.vs (fun u e => Option.some.inj e), hJ.d16, hJ.d17, hJ.d18, hJ.d20, hJ.wA, hJ.wB, hJ.wC, hJ.wD⟩)
                          clear hJ hdep hv h0 hK
                          generalize a.eval = ρ at *
                          simp [go_sem, execOp, *]
                        case r4 =>
                          intro L f a wz hJ hLi hdep hv h0 K hK
                          have hL2 := hdep 2 (List.mem_of_elem_eq_true (by kernel_rfl))
                          have e68 := (hv 2 68 rfl hL2).trans (hJ.vs 2 _ rfl hL2)
                          have hL3 := hdep 3 (List.mem_of_elem_eq_true (by kernel_rfl))
                          have e69 := (hv 3 69 rfl hL3).trans (hJ.vs 3 _ rfl hL3)
                          obtain ⟨hw1, hw2⟩ := HNUM.out
                          have hn1 := HNB.out
                          have ek1 : ((n : Int) + 1).toNat = n + 1 := by omega
                          have ek2 : ((n : Int) + 2).toNat = n + 2 := by omega
                          have el0 : (n : Int) < (ws.length : Int) := by omega
                          have el1 : (n : Int) + 1 < (ws.length : Int) := by omega
                          have el2 : (n : Int) + 2 < (ws.length : Int) := by omega
                          have en0 : (0 : Int) ≤ (n : Int) := by omega
                          have en1 : (0 : Int) ≤ (n : Int) + 1 := by omega
                          have en2 : (0 : Int) ≤ (n : Int) + 2 := by omega
                          clear HNUM HNB
                          refine step_val rfl (v := .pointer (some ⟨wb, wo + n, none⟩)) (w' := wz) ?_ (hK _ _ ⟨vsAddN hJ.vs (fun u e => Option.some.inj e), hJ.d16, hJ.d17, hJ.d18, hJ.d20, hJ.wA, hJ.wB, hJ.wC, hJ.wD⟩)
                          clear hJ hdep hv h0 hK
                          generalize a.eval = ρ at *
                          simp [go_sem, execOp, *]
                        case r5 =>
                          intro L f a wz hJ hLi hdep hv h0 K hK
                          have hL4 := hdep 4 (List.mem_of_elem_eq_true (by kernel_rfl))
                          have e70 := (hv 4 70 rfl hL4).trans (hJ.vs 4 _ rfl hL4)
                          have h17 : L 17 = false := by
                            cases e : L 17 with
                            | false => rfl
                            | true => exact (bFalse hLi (hJ.d16 (hJ.d17 e)).1).elim
                          obtain rfl := hJ.wA h17
                          obtain ⟨k0, k1, k2⟩ := KW.out
                          refine step_val rfl (v := .string y0) (w' := wr.drew) ?_ (hK _ _ ⟨vsAddN hJ.vs (fun u e => Option.some.inj e), fun e => ⟨rfl, (hJ.d16 e).2.1, (hJ.d16 e).2.2⟩, hJ.d17, hJ.d18, hJ.d20, hJ.wA, hJ.wB, hJ.wC, hJ.wD⟩)
                          clear hJ hdep hv h0 hK
                          generalize a.eval = ρ at *
                          simp [go_sem, execOp, *]
                        case r6 =>
                          intro L f a wz hJ hLi hdep hv h0 K hK
                          have e7 : a.eval (.tmp 7) = .slice (some ⟨wb, wo, none⟩) ws.length wc := (h0 7 (noDst_spec (by kernel_rfl))).trans rfl
                          refine step_val rfl (v := .slice (some ⟨wb, wo, none⟩) ws.length wc) (w' := wz) ?_ (hK _ _ ⟨vsAddN hJ.vs (fun u e => Option.some.inj e), hJ.d16, hJ.d17, hJ.d18, hJ.d20, hJ.wA, hJ.wB, hJ.wC, hJ.wD⟩)
                          clear hJ hdep hv h0 hK
                          generalize a.eval = ρ at *
                          simp [go_sem, execOp, *]
                        case r7 =>
                          intro L f a wz hJ hLi hdep hv h0 K hK
                          have e9 : a.eval (.tmp 9) = .int .i64 (n : Int) := (h0 9 (noDst_spec (by kernel_rfl))).trans rfl
                          refine step_val rfl (v := .int .i64 (n : Int)) (w' := wz) ?_ (hK _ _ ⟨vsAddN hJ.vs (fun u e => Option.some.inj e), hJ.d16, hJ.d17, hJ.d18, hJ.d20, hJ.wA, hJ.wB, hJ.wC, hJ.wD⟩)
                          clear hJ hdep hv h0 hK
                          generalize a.eval = ρ at *
                          simp [go_sem, execOp, *]
                        case r8 =>
                          intro L f a wz hJ hLi hdep hv h0 K hK
                          have hL7 := hdep 7 (List.mem_of_elem_eq_true (by kernel_rfl))
                          have e73 := (hv 7 73 rfl hL7).trans (hJ.vs 7 _ rfl hL7)
                          have eC : a.eval (.const (.int .i64 1)) = .int .i64 1 := rfl
                          obtain ⟨hw1, hw2⟩ := HNUM.out
                          have hn1 := HNB.out
                          have ek1 : ((n : Int) + 1).toNat = n + 1 := by omega
                          have ek2 : ((n : Int) + 2).toNat = n + 2 := by omega
                          have el0 : (n : Int) < (ws.length : Int) := by omega
                          have el1 : (n : Int) + 1 < (ws.length : Int) := by omega
                          have el2 : (n : Int) + 2 < (ws.length : Int) := by omega
                          have en0 : (0 : Int) ≤ (n : Int) := by omega
                          have en1 : (0 : Int) ≤ (n : Int) + 1 := by omega
                          have en2 : (0 : Int) ≤ (n : Int) + 2 := by omega
                          clear HNUM HNB
                          refine step_val rfl (v := .int .i64 ((n : Int) + 1)) (w' := wz) ?_ (hK _ _ ⟨vsAddN hJ.vs (fun u e => Option.some.inj e), hJ.d16, hJ.d17, hJ.d18, hJ.d20, hJ.wA, hJ.wB, hJ.wC, hJ.wD⟩)
                          clear hJ hdep hv h0 hK
                          generalize a.eval = ρ at *
                          simp [go_sem, execOp, *]
                        case r9 =>
                          intro L f a wz hJ hLi hdep hv h0 K hK
                          have hL6 := hdep 6 (List.mem_of_elem_eq_true (by kernel_rfl))
                          have e72 := (hv 6 72 rfl hL6).trans (hJ.vs 6 _ rfl hL6)
                          have hL8 := hdep 8 (List.mem_of_elem_eq_true (by kernel_rfl))
                          have e74 := (hv 8 74 rfl hL8).trans (hJ.vs 8 _ rfl hL8)
                          obtain ⟨hw1, hw2⟩ := HNUM.out
                          have hn1 := HNB.out
                          have ek1 : ((n : Int) + 1).toNat = n + 1 := by omega
                          have ek2 : ((n : Int) + 2).toNat = n + 2 := by omega
                          have el0 : (n : Int) < (ws.length : Int) := by omega
                          have el1 : (n : Int) + 1 < (ws.length : Int) := by omega
                          have el2 : (n : Int) + 2 < (ws.length : Int) := by omega
                          have en0 : (0 : Int) ≤ (n : Int) := by omega
                          have en1 : (0 : Int) ≤ (n : Int) + 1 := by omega
                          have en2 : (0 : Int) ≤ (n : Int) + 2 := by omega
                          clear HNUM HNB
                          refine step_val rfl (v := .pointer (some ⟨wb, wo + (n + 1), none⟩)) (w' := wz) ?_ (hK _ _ ⟨vsAddN hJ.vs (fun u e => Option.some.inj e), hJ.d16, hJ.d17, hJ.d18, hJ.d20, hJ.wA, hJ.wB, hJ.wC, hJ.wD⟩)
                          clear hJ hdep hv h0 hK
                          generalize a.eval = ρ at *
                          simp [go_sem, execOp, *]
                        case r10 =>
                          intro L f a wz hJ hLi hdep hv h0 K hK
                          have hL9 := hdep 9 (List.mem_of_elem_eq_true (by kernel_rfl))
                          have e75 := (hv 9 75 rfl hL9).trans (hJ.vs 9 _ rfl hL9)
                          have h17 : L 17 = false := by
                            cases e : L 17 with
                            | false => rfl
                            | true => exact (bFalse hLi (hJ.d16 (hJ.d17 e)).2.1).elim
                          obtain rfl := hJ.wA h17
                          obtain ⟨k0, k1, k2⟩ := KW.out
                          refine step_val rfl (v := .string y1) (w' := wr.drew) ?_ (hK _ _ ⟨vsAddN hJ.vs (fun u e => Option.some.inj e), fun e => ⟨(hJ.d16 e).1, rfl, (hJ.d16 e).2.2⟩, hJ.d17, hJ.d18, hJ.d20, hJ.wA, hJ.wB, hJ.wC, hJ.wD⟩)
                          clear hJ hdep hv h0 hK
                          generalize a.eval = ρ at *
                          simp [go_sem, execOp, *]
                        case r11 =>
                          intro L f a wz hJ hLi hdep hv h0 K hK
                          have e7 : a.eval (.tmp 7) = .slice (some ⟨wb, wo, none⟩) ws.length wc := (h0 7 (noDst_spec (by kernel_rfl))).trans rfl
                          refine step_val rfl (v := .slice (some ⟨wb, wo, none⟩) ws.length wc) (w' := wz) ?_ (hK _ _ ⟨vsAddN hJ.vs (fun u e => Option.some.inj e), hJ.d16, hJ.d17, hJ.d18, hJ.d20, hJ.wA, hJ.wB, hJ.wC, hJ.wD⟩)
                          clear hJ hdep hv h0 hK
                          generalize a.eval = ρ at *
                          simp [go_sem, execOp, *]
                        case r12 =>
                          intro L f a wz hJ hLi hdep hv h0 K hK
                          have e9 : a.eval (.tmp 9) = .int .i64 (n : Int) := (h0 9 (noDst_spec (by kernel_rfl))).trans rfl
                          refine step_val rfl (v := .int .i64 (n : Int)) (w' := wz) ?_ (hK _ _ ⟨vsAddN hJ.vs (fun u e => Option.some.inj e), hJ.d16, hJ.d17, hJ.d18, hJ.d20, hJ.wA, hJ.wB, hJ.wC, hJ.wD⟩)
                          clear hJ hdep hv h0 hK
                          generalize a.eval = ρ at *
                          simp [go_sem, execOp, *]
                        case r13 =>
                          intro L f a wz hJ hLi hdep hv h0 K hK
                          have hL12 := hdep 12 (List.mem_of_elem_eq_true (by kernel_rfl))
                          have e78 := (hv 12 78 rfl hL12).trans (hJ.vs 12 _ rfl hL12)
                          have eC : a.eval (.const (.int .i64 2)) = .int .i64 2 := rfl
                          obtain ⟨hw1, hw2⟩ := HNUM.out
                          have hn1 := HNB.out
                          have ek1 : ((n : Int) + 1).toNat = n + 1 := by omega
                          have ek2 : ((n : Int) + 2).toNat = n + 2 := by omega
                          have el0 : (n : Int) < (ws.length : Int) := by omega
                          have el1 : (n : Int) + 1 < (ws.length : Int) := by omega
                          have el2 : (n : Int) + 2 < (ws.length : Int) := by omega
                          have en0 : (0 : Int) ≤ (n : Int) := by omega
                          have en1 : (0 : Int) ≤ (n : Int) + 1 := by omega
                          have en2 : (0 : Int) ≤ (n : Int) + 2 := by omega
                          clear HNUM HNB
                          refine step_val rfl (v := .int .i64 ((n : Int) + 2)) (w' := wz) ?_ (hK _ _ ⟨vsAddN hJ.vs (fun u e => Option.some.inj e), hJ.d16, hJ.d17, hJ.d18, hJ.d20, hJ.wA, hJ.wB, hJ.wC, hJ.wD⟩)
                          clear hJ hdep hv h0 hK
                          generalize a.eval = ρ at *
                          simp [go_sem, execOp, *]
                        case r14 =>
                          intro L f a wz hJ hLi hdep hv h0 K hK
                          have hL11 := hdep 11 (List.mem_of_elem_eq_true (by kernel_rfl))
                          have e77 := (hv 11 77 rfl hL11).trans (hJ.vs 11 _ rfl hL11)
                          have hL13 := hdep 13 (List.mem_of_elem_eq_true (by kernel_rfl))
                          have e79 := (hv 13 79 rfl hL13).trans (hJ.vs 13 _ rfl hL13)
                          obtain ⟨hw1, hw2⟩ := HNUM.out
                          have hn1 := HNB.out
                          have ek1 : ((n : Int) + 1).toNat = n + 1 := by omega
                          have ek2 : ((n : Int) + 2).toNat = n + 2 := by omega
                          have el0 : (n : Int) < (ws.length : Int) := by omega
                          have el1 : (n : Int) + 1 < (ws.length : Int) := by omega
                          have el2 : (n : Int) + 2 < (ws.length : Int) := by omega
                          have en0 : (0 : Int) ≤ (n : Int) := by omega
                          have en1 : (0 : Int) ≤ (n : Int) + 1 := by omega
                          have en2 : (0 : Int) ≤ (n : Int) + 2 := by omega
                          clear HNUM HNB
                          refine step_val rfl (v := .pointer (some ⟨wb, wo + (n + 2), none⟩)) (w' := wz) ?_ (hK _ _ ⟨vsAddN hJ.vs (fun u e => Option.some.inj e), hJ.d16, hJ.d17, hJ.d18, hJ.d20, hJ.wA, hJ.wB, hJ.wC, hJ.wD⟩)
                          clear hJ hdep hv h0 hK
                          generalize a.eval = ρ at *
                          simp [go_sem, execOp, *]
                        case r15 =>
                          intro L f a wz hJ hLi hdep hv h0 K hK
                          have hL14 := hdep 14 (List.mem_of_elem_eq_true (by kernel_rfl))
                          have e80 := (hv 14 80 rfl hL14).trans (hJ.vs 14 _ rfl hL14)
                          have h17 : L 17 = false := by
                            cases e : L 17 with
                            | false => rfl
                            | true => exact (bFalse hLi (hJ.d16 (hJ.d17 e)).2.2).elim
                          obtain rfl := hJ.wA h17
                          obtain ⟨k0, k1, k2⟩ := KW.out
                          refine step_val rfl (v := .string y2) (w' := wr.drew) ?_ (hK _ _ ⟨vsAddN hJ.vs (fun u e => Option.some.inj e), fun e => ⟨(hJ.d16 e).1, (hJ.d16 e).2.1, rfl⟩, hJ.d17, hJ.d18, hJ.d20, hJ.wA, hJ.wB, hJ.wC, hJ.wD⟩)
                          clear hJ hdep hv h0 hK
                          generalize a.eval = ρ at *
                          simp [go_sem, execOp, *]
                        case r16 =>
                          intro L f a wz hJ hLi hdep hv h0 K hK
                          have hL5 := hdep 5 (List.mem_of_elem_eq_true (by kernel_rfl))
                          have e71 := (hv 5 71 rfl hL5).trans (hJ.vs 5 _ rfl hL5)
                          have hL10 := hdep 10 (List.mem_of_elem_eq_true (by kernel_rfl))
                          have e76 := (hv 10 76 rfl hL10).trans (hJ.vs 10 _ rfl hL10)
                          have hL15 := hdep 15 (List.mem_of_elem_eq_true (by kernel_rfl))
                          have e81 := (hv 15 81 rfl hL15).trans (hJ.vs 15 _ rfl hL15)
                          refine step_val rfl (v := .agg #[.string y0, .string y1, .string y2]) (w' := wz) ?_ (hK _ _ ⟨vsAddN hJ.vs (fun u e => Option.some.inj e), fun _ => ⟨hL5, hL10, hL15⟩, fun e => rfl, hJ.d18, hJ.d20, hJ.wA, hJ.wB, hJ.wC, hJ.wD⟩)
                          clear hJ hdep hv h0 hK
                          generalize a.eval = ρ at *
                          simp [go_sem, execOp, *]
                        case r17 =>
                          intro L f a wz hJ hLi hdep hv h0 K hK
                          have hL16 := hdep 16 (List.mem_of_elem_eq_true (by kernel_rfl))
                          have e82 := (hv 16 82 rfl hL16).trans (hJ.vs 16 _ rfl hL16)
                          obtain rfl := hJ.wA hLi
                          refine step_val rfl (v := .slice (some ⟨wr.heap.size, 0, none⟩) 1 1) (w' := wr.drew.alloc (.cells #[.string y0, .string y1, .string y2] 25)) ?_ (hK _ _ ⟨vsAddN hJ.vs (fun u e => absurd (show (none : Option Value) = some u from e) (by simp)), hJ.d16, fun _ => hL16, fun e => ⟨rfl, (hJ.d18 e).2⟩, hJ.d20, fun e => (by cases e), fun _ _ => ⟨rfl, rfl⟩, fun e => (bFalse hLi (hJ.d18 e).1).elim, fun e => (bFalse hLi (hJ.d18 (hJ.d20 e)).1).elim⟩)
                          have eY : wr.drew.heap.size = wr.heap.size := rfl
                          clear hJ hdep hv h0 hK
                          generalize a.eval = ρ at *
                          simp [go_sem, execOp, *]
                        case r18 =>
                          intro L f a wz hJ hLi hdep hv h0 K hK
                          have hL1 := hdep 1 (List.mem_of_elem_eq_true (by kernel_rfl))
                          have e67 := (hv 1 67 rfl hL1).trans (hJ.vs 1 _ rfl hL1)
                          have hL17 := hdep 17 (List.mem_of_elem_eq_true (by kernel_rfl))
                          obtain ⟨rfl, hf17⟩ := hJ.wB hL17 hLi
                          have e83 := (hv 17 83 rfl hL17).trans hf17
                          obtain ⟨a7, n7, c7, w7, hrun, hC⟩ := HAPP.out
                          refine step_val rfl (v := .slice a7 n7 c7) (w' := w7) ?_ (hK _ _ ⟨vsAddN hJ.vs (fun u e => absurd (show (none : Option Value) = some u from e) (by simp)), hJ.d16, hJ.d17, fun _ => ⟨hL17, hL1⟩, fun e => rfl, fun e => (bFalse e hL17).elim, fun _ e => (by cases e), fun _ _ => ⟨a7, n7, c7, rfl, hC⟩, fun e => (bFalse hLi (hJ.d20 e)).elim⟩)
                          clear hJ hdep hv h0 hK
                          generalize a.eval = ρ at *
                          simp only [execOp, resolve, invoke, builtin, Sem.run_bind, Sem.run_pure, Result.andThen_ok, List.map_toArray, List.map_cons, List.map_nil, e67, e83, hrun]
                        case r19 =>
                          intro L f a wz hJ hLi hdep hv h0 K hK
                          have e8 : a.eval (.tmp 8) = .pointer (some ⟨p, 0, none⟩) := (h0 8 (noDst_spec (by kernel_rfl))).trans rfl
                          refine step_val rfl (v := .pointer (some ⟨p, 3, none⟩)) (w' := wz) ?_ (hK _ _ ⟨vsAddN hJ.vs (fun u e => Option.some.inj e), hJ.d16, hJ.d17, hJ.d18, hJ.d20, hJ.wA, hJ.wB, hJ.wC, hJ.wD⟩)
                          clear hJ hdep hv h0 hK
                          generalize a.eval = ρ at *
                          simp [go_sem, execOp, *]
                        case r20 =>
                          intro L f a wz hJ hLi hdep hv h0 K hK
                          have hL19 := hdep 19 (List.mem_of_elem_eq_true (by kernel_rfl))
                          have e85 := (hv 19 85 rfl hL19).trans (hJ.vs 19 _ rfl hL19)
                          have hL18 := hdep 18 (List.mem_of_elem_eq_true (by kernel_rfl))
                          obtain ⟨a7, n7, c7, hf, hc, hfr, hfin⟩ := hJ.wC hL18 hLi
                          have e84 := (hv 18 84 rfl hL18).trans hf
                          refine step_skip rfl (w' := wz.setCell ⟨p, 3, none⟩ (.slice a7 n7 c7)) ?_ (hK _ _ ⟨vsAddN hJ.vs (fun u e => absurd (show (none : Option Value) = some u from e) (by simp)), hJ.d16, hJ.d17, hJ.d18, fun _ => hL18, fun e => (bFalse e (hJ.d18 hL18).1).elim, fun _ e => (bFalse e hL18).elim, fun _ e => (by cases e), fun _ => ⟨a7, n7, c7, hfin⟩⟩)
                          clear hJ hdep hv h0 hK
                          generalize a.eval = ρ at *
                          simp [go_sem, execOp, *]
                    · obtain rfl : j = m := by have := HNJ.out; omega
                      have hnge : ¬ ((n : Int) < (ws.length : Int)) := by have := HNJ.out; have := HM2.out; omega
                      have HBDU := Lib.hid (show Owns tFct wr w3.heap.size 25 (.slice au ln cu) bd from by
                        have h := HU.out
                        rwa [List.take_of_length_le (by rw [HBL.out]; exact Nat.le_refl _)] at h)
                      have HBW2 := Lib.hid (pure_trans HBR.out (pure_trans HB2.out HBW.out))
                      have HLR2 := Lib.hid (show lineR (bl (t.extract k e)) = if validR ⟨⟨x0, x1, x2⟩, bd⟩ = true ∧ ruleL ⟨⟨x0, x1, x2⟩, bd⟩ = bl (t.extract k e) then some ⟨⟨x0, x1, x2⟩, bd⟩ else none from by
                        have h := HLR.out
                        rwa [HRW.out] at h)
                      clear HU HLR HRW HGET HBDE
                      by_cases hes : e = t.size
                      · first
                          | (exfalso; omega)
                          | (have HE := Lib.hid (HBAD.out (.inl hes))
                             have heb : ((e : Int) == (t.size : Int)) = true := by rw [hes]; exact beq_self_eq_true _
                             clear hes
                             go_wp2_with fail
                             refine wp_region_inv (by kernel_rfl) (by kernel_rfl) (by kernel_rfl) (MJ0 (expB t e) wr) ?startC (AllAt.all ?stepsC) ?endsC
                             case startC => exact ⟨fun i u _ e => (by cases e), rfl⟩
                             case endsC =>
                               intro L f w4 hJ hall
                               have e19 := hJ.vs 19 _ rfl (hall 19 (by decide))
                               obtain rfl := hJ.w
                               clear hJ hall
                               simp only [putAll, Exit.then, Nat.reduceAdd]
                               rw [e19]
                               go_frame
                               go_wp2_with fail
                               go_ret3
                               exact ⟨HBW2.out.drew, .inr (.inr ⟨H64.out, _, HE.out, rfl⟩)⟩
                             case stepsC =>
                               refine AllAt.cons 1 ?b0 (AllAt.cons 2 ?b1 (AllAt.cons 3 ?b2 (AllAt.cons 4 ?b3 (AllAt.cons 5 ?b4 (AllAt.cons 6 ?b5 (AllAt.cons 7 ?b6 (AllAt.cons 8 ?b7 (AllAt.cons 9 ?b8 (AllAt.cons 10 ?b9 (AllAt.cons 11 ?b10 (AllAt.cons 12 ?b11 (AllAt.cons 13 ?b12 (AllAt.cons 14 ?b13 (AllAt.cons 15 ?b14 (AllAt.cons 16 ?b15 (AllAt.cons 17 ?b16 (AllAt.cons 18 ?b17 (AllAt.cons 19 ?b18 (AllAt.cons 20 ?b19 AllAt.nil rfl) rfl) rfl) rfl) rfl) rfl) rfl) rfl) rfl) rfl) rfl) rfl) rfl) rfl) rfl) rfl) rfl) rfl) rfl) rfl
                               case b0 =>
                                 intro L f a wz hJ hLi hdep hv h0 K hK
                                 have e6 : a.eval (.tmp 6) = .int .i64 (e : Int) := (h0 6 (noDst_spec (by kernel_rfl))).trans rfl
                                 refine step_val rfl (v := .int .i64 (e : Int)) (w' := wz) ?_ (hK _ _ ⟨vsAddN hJ.vs (fun u e => Option.some.inj e), hJ.w⟩)
                                 clear hJ hdep hv h0 hK
                                 generalize a.eval = ρ at *
                                 simp [go_sem, execOp, *]
                               case b1 =>
                                 intro L f a wz hJ hLi hdep hv h0 K hK
                                 have e0 : a.eval (.tmp 0) = .string t := (h0 0 (noDst_spec (by kernel_rfl))).trans rfl
                                 refine step_val rfl (v := .string t) (w' := wz) ?_ (hK _ _ ⟨vsAddN hJ.vs (fun u e => Option.some.inj e), hJ.w⟩)
                                 clear hJ hdep hv h0 hK
                                 generalize a.eval = ρ at *
                                 simp [go_sem, execOp, *]
                               case b2 =>
                                 intro L f a wz hJ hLi hdep hv h0 K hK
                                 have hL1 := hdep 1 (List.mem_of_elem_eq_true (by kernel_rfl))
                                 have e87 := (hv 1 87 rfl hL1).trans (hJ.vs 1 _ rfl hL1)
                                 refine step_val rfl (v := .int .i64 (t.size : Int)) (w' := wz) ?_ (hK _ _ ⟨vsAddN hJ.vs (fun u e => Option.some.inj e), hJ.w⟩)
                                 clear hJ hdep hv h0 hK
                                 generalize a.eval = ρ at *
                                 simp [go_sem, execOp, *]
                               case b3 =>
                                 intro L f a wz hJ hLi hdep hv h0 K hK
                                 have hL0 := hdep 0 (List.mem_of_elem_eq_true (by kernel_rfl))
                                 have e86 := (hv 0 86 rfl hL0).trans (hJ.vs 0 _ rfl hL0)
                                 have hL2 := hdep 2 (List.mem_of_elem_eq_true (by kernel_rfl))
                                 have e88 := (hv 2 88 rfl hL2).trans (hJ.vs 2 _ rfl hL2)
                                 refine step_val rfl (v := .bool true) (w' := wz) ?_ (hK _ _ ⟨vsAddN hJ.vs (fun u e => Option.some.inj e), hJ.w⟩)
                                 clear hJ hdep hv h0 hK
                                 generalize a.eval = ρ at *
                                 simp [go_sem, execOp, *]
                               case b4 =>
                                 intro L f a wz hJ hLi hdep hv h0 K hK
                                 have hL3 := hdep 3 (List.mem_of_elem_eq_true (by kernel_rfl))
                                 have e89 := (hv 3 89 rfl hL3).trans (hJ.vs 3 _ rfl hL3)
                                 refine step_val rfl (v := .bool true) (w' := wz) ?_ (hK _ _ ⟨vsAddN hJ.vs (fun u e => Option.some.inj e), hJ.w⟩)
                                 clear hJ hdep hv h0 hK
                                 generalize a.eval = ρ at *
                                 simp [go_sem, execOp, *]
                               case b5 =>
                                 intro L f a wz hJ hLi hdep hv h0 K hK
                                 have hL4 := hdep 4 (List.mem_of_elem_eq_true (by kernel_rfl))
                                 have ej := (hv 4 90 rfl hL4).trans (hJ.vs 4 _ rfl hL4)
                                 exact step_unG rfl (yielded_of (b := true) rfl ej) (by decide) (hK _ _ ⟨vsAddN hJ.vs (fun u e => absurd (show (none : Option Value) = some u from e) (by simp)), hJ.w⟩)
                               case b6 =>
                                 intro L f a wz hJ hLi hdep hv h0 K hK
                                 have hL4 := hdep 4 (List.mem_of_elem_eq_true (by kernel_rfl))
                                 have ej := (hv 4 90 rfl hL4).trans (hJ.vs 4 _ rfl hL4)
                                 exact step_unG rfl (yielded_of (b := true) rfl ej) (by decide) (hK _ _ ⟨vsAddN hJ.vs (fun u e => absurd (show (none : Option Value) = some u from e) (by simp)), hJ.w⟩)
                               case b7 =>
                                 intro L f a wz hJ hLi hdep hv h0 K hK
                                 have hL4 := hdep 4 (List.mem_of_elem_eq_true (by kernel_rfl))
                                 have ej := (hv 4 90 rfl hL4).trans (hJ.vs 4 _ rfl hL4)
                                 exact step_unG rfl (yielded_of (b := true) rfl ej) (by decide) (hK _ _ ⟨vsAddN hJ.vs (fun u e => absurd (show (none : Option Value) = some u from e) (by simp)), hJ.w⟩)
                               case b8 =>
                                 intro L f a wz hJ hLi hdep hv h0 K hK
                                 have hL4 := hdep 4 (List.mem_of_elem_eq_true (by kernel_rfl))
                                 have ej := (hv 4 90 rfl hL4).trans (hJ.vs 4 _ rfl hL4)
                                 exact step_unG rfl (yielded_of (b := true) rfl ej) (by decide) (hK _ _ ⟨vsAddN hJ.vs (fun u e => absurd (show (none : Option Value) = some u from e) (by simp)), hJ.w⟩)
                               case b9 =>
                                 intro L f a wz hJ hLi hdep hv h0 K hK
                                 have hL4 := hdep 4 (List.mem_of_elem_eq_true (by kernel_rfl))
                                 have ej := (hv 4 90 rfl hL4).trans (hJ.vs 4 _ rfl hL4)
                                 exact step_unG rfl (yielded_of (b := true) rfl ej) (by decide) (hK _ _ ⟨vsAddN hJ.vs (fun u e => absurd (show (none : Option Value) = some u from e) (by simp)), hJ.w⟩)
                               case b10 =>
                                 intro L f a wz hJ hLi hdep hv h0 K hK
                                 have hL4 := hdep 4 (List.mem_of_elem_eq_true (by kernel_rfl))
                                 have ej := (hv 4 90 rfl hL4).trans (hJ.vs 4 _ rfl hL4)
                                 exact step_unG rfl (yielded_of (b := true) rfl ej) (by decide) (hK _ _ ⟨vsAddN hJ.vs (fun u e => absurd (show (none : Option Value) = some u from e) (by simp)), hJ.w⟩)
                               case b11 =>
                                 intro L f a wz hJ hLi hdep hv h0 K hK
                                 have hL4 := hdep 4 (List.mem_of_elem_eq_true (by kernel_rfl))
                                 have ej := (hv 4 90 rfl hL4).trans (hJ.vs 4 _ rfl hL4)
                                 exact step_unG rfl (yielded_of (b := true) rfl ej) (by decide) (hK _ _ ⟨vsAddN hJ.vs (fun u e => absurd (show (none : Option Value) = some u from e) (by simp)), hJ.w⟩)
                               case b12 =>
                                 intro L f a wz hJ hLi hdep hv h0 K hK
                                 have hL4 := hdep 4 (List.mem_of_elem_eq_true (by kernel_rfl))
                                 have ej := (hv 4 90 rfl hL4).trans (hJ.vs 4 _ rfl hL4)
                                 exact step_unG rfl (yielded_of (b := true) rfl ej) (by decide) (hK _ _ ⟨vsAddN hJ.vs (fun u e => absurd (show (none : Option Value) = some u from e) (by simp)), hJ.w⟩)
                               case b13 =>
                                 intro L f a wz hJ hLi hdep hv h0 K hK
                                 have hL4 := hdep 4 (List.mem_of_elem_eq_true (by kernel_rfl))
                                 have ej := (hv 4 90 rfl hL4).trans (hJ.vs 4 _ rfl hL4)
                                 exact step_unG rfl (yielded_of (b := true) rfl ej) (by decide) (hK _ _ ⟨vsAddN hJ.vs (fun u e => absurd (show (none : Option Value) = some u from e) (by simp)), hJ.w⟩)
                               case b14 =>
                                 intro L f a wz hJ hLi hdep hv h0 K hK
                                 have hL4 := hdep 4 (List.mem_of_elem_eq_true (by kernel_rfl))
                                 have e90 := (hv 4 90 rfl hL4).trans (hJ.vs 4 _ rfl hL4)
                                 have eC : a.eval (.const (.bool true)) = .bool true := rfl
                                 refine step_val rfl (v := .bool true) (w' := wz) ?_ (hK _ _ ⟨vsAddN hJ.vs (fun u e => Option.some.inj e), hJ.w⟩)
                                 clear hJ hdep hv h0 hK
                                 generalize a.eval = ρ at *
                                 simp [go_sem, execOp, *]
                               case b15 =>
                                 intro L f a wz hJ hLi hdep hv h0 K hK
                                 have hL14 := hdep 14 (List.mem_of_elem_eq_true (by kernel_rfl))
                                 have e100 := (hv 14 100 rfl hL14).trans (hJ.vs 14 _ rfl hL14)
                                 refine step_val rfl (v := .bool true) (w' := wz) ?_ (hK _ _ ⟨vsAddN hJ.vs (fun u e => Option.some.inj e), hJ.w⟩)
                                 clear hJ hdep hv h0 hK
                                 generalize a.eval = ρ at *
                                 simp [go_sem, execOp, *]
                               case b16 =>
                                 intro L f a wz hJ hLi hdep hv h0 K hK
                                 have hL15 := hdep 15 (List.mem_of_elem_eq_true (by kernel_rfl))
                                 have ej := (hv 15 101 rfl hL15).trans (hJ.vs 15 _ rfl hL15)
                                 exact step_unG rfl (yielded_of (b := true) rfl ej) (by decide) (hK _ _ ⟨vsAddN hJ.vs (fun u e => absurd (show (none : Option Value) = some u from e) (by simp)), hJ.w⟩)
                               case b17 =>
                                 intro L f a wz hJ hLi hdep hv h0 K hK
                                 have hL15 := hdep 15 (List.mem_of_elem_eq_true (by kernel_rfl))
                                 have ej := (hv 15 101 rfl hL15).trans (hJ.vs 15 _ rfl hL15)
                                 exact step_unG rfl (yielded_of (b := true) rfl ej) (by decide) (hK _ _ ⟨vsAddN hJ.vs (fun u e => absurd (show (none : Option Value) = some u from e) (by simp)), hJ.w⟩)
                               case b18 =>
                                 intro L f a wz hJ hLi hdep hv h0 K hK
                                 have hL15 := hdep 15 (List.mem_of_elem_eq_true (by kernel_rfl))
                                 have ej := (hv 15 101 rfl hL15).trans (hJ.vs 15 _ rfl hL15)
                                 exact step_unG rfl (yielded_of (b := true) rfl ej) (by decide) (hK _ _ ⟨vsAddN hJ.vs (fun u e => absurd (show (none : Option Value) = some u from e) (by simp)), hJ.w⟩)
                               case b19 =>
                                 intro L f a wz hJ hLi hdep hv h0 K hK
                                 have hL15 := hdep 15 (List.mem_of_elem_eq_true (by kernel_rfl))
                                 have e101 := (hv 15 101 rfl hL15).trans (hJ.vs 15 _ rfl hL15)
                                 have eC : a.eval (.const (.bool true)) = .bool true := rfl
                                 refine step_val rfl (v := .bool true) (w' := wz) ?_ (hK _ _ ⟨vsAddN hJ.vs (fun u e => Option.some.inj e), hJ.w⟩)
                                 clear hJ hdep hv h0 hK
                                 generalize a.eval = ρ at *
                                 simp [go_sem, execOp, *])
                      · first
                          | (exfalso; omega)
                          | (have heb : ((e : Int) == (t.size : Int)) = false := by rw [beq_eq_false_iff_ne]; omega
                             clear hes
                             have HX := Lib.hid (show ∃ Xo, Xo = Obj.cells #[.string x0, .string x1, .string x2, .slice au ln cu] 28 from ⟨_, rfl⟩)
                             have HBX := Lib.hid (show Below wr.heap.size wr (wr.drew.alloc (.cells #[.string x0, .string x1, .string x2, .slice au ln cu] 28)) from ((Below.refl _ wr).drew).alloc (Nat.le_refl _) _)
                             have HFMT := Lib.hid (refFormat_any [⟨⟨x0, x1, x2⟩, bd⟩] (.slice (some ⟨wr.heap.size, 0, none⟩) 1 1) (wr.drew.alloc (.cells #[.string x0, .string x1, .string x2, .slice au ln cu] 28)) (slice_one (cs := [.string x0, .string x1, .string x2, .slice au ln cu]) (fun j z hj => (mem_cells (heap_alloc_new wr.drew (.cells #[.string x0, .string x1, .string x2, .slice au ln cu] 28)) (0 + j)).trans (by rw [Nat.zero_add]; simpa using hj)) ⟨_, rfl, HOKH.out, tFcts.mono _ _ _ _ (below_mem HBX.out) HBDU.out.rv'⟩))
                             have HEX1 := Lib.hid (show bl (t.extract k (e + 1)) = bl (t.extract k e) ++ [10] from by
                               rw [bl_extr, bl_extr]
                               have h1 : e + 1 - k = (e - k) + 1 := by have := HKE.out; omega
                               have h2 : e - k < ((bl t).drop k).length := by rw [List.length_drop]; show e - k < t.size - k; have := HKE.out; omega
                               rw [h1, List.take_succ_eq_append_getElem h2, List.getElem_drop]
                               congr 2
                               have h3 : (bl t)[k + (e - k)]'(by show k + (e - k) < t.size; have := HKE.out; omega) = 10 := by
                                 have h4 : k + (e - k) = e := by have := HKE.out; omega
                                 simp only [h4]
                                 exact UInt8.toNat_inj.1 (by show (t[e]).toNat = 10; simp at h10f; omega)
                               exact h3)
                             have HCMP := Lib.hid (show ∀ s : ByteArray, bl s = fmtL [⟨⟨x0, x1, x2⟩, bd⟩] → ((s.toList == (t.extract k (e + 1)).toList) = true ↔ (validR ⟨⟨x0, x1, x2⟩, bd⟩ = true ∧ ruleL ⟨⟨x0, x1, x2⟩, bd⟩ = bl (t.extract k e))) from fun s hs => by
                               rw [strEqB, decide_eq_true_iff, ← fmt_one, ← HEX1.out, ← hs]
                               exact ⟨fun h => by rw [h], fun h => bl_inj h⟩)
                             have hw1 : IntKind.i64.wrap ((e : Int) + 1) = (e : Int) + 1 := IntWalk.i64_in _ (by omega)
                             have HNE := Lib.hid hw1
                             have kp := fun o => mem_cells HP.out o
                             have q0 : wr.drew.cell? ⟨p, 0, none⟩ = some (.string x0) := kp 0
                             have q1 : wr.drew.cell? ⟨p, 1, none⟩ = some (.string x1) := kp 1
                             have q2 : wr.drew.cell? ⟨p, 2, none⟩ = some (.string x2) := kp 2
                             have q3 : wr.drew.cell? ⟨p, 3, none⟩ = some (.slice au ln cu) := kp 3
                             have HQ := Lib.hid (And.intro q0 (And.intro q1 (And.intro q2 q3)))
                             clear kp q0 q1 q2 q3 hw1
                             by_cases hgd : validR ⟨⟨x0, x1, x2⟩, bd⟩ = true ∧ ruleL ⟨⟨x0, x1, x2⟩, bd⟩ = bl (t.extract k e)
                             · have HLG := Lib.hid (show lineR (bl (t.extract k e)) = some ⟨⟨x0, x1, x2⟩, bd⟩ from by rw [HLR2.out, if_pos hgd])
                               have HEQ := Lib.hid (fun s hs => (HCMP.out s hs).2 hgd)
                               clear hgd HCMP HLR2
                               go_wp2_with fail
                               refine wp_region_inv (by kernel_rfl) (by kernel_rfl) (by kernel_rfl) (MJ (expA t k e (.agg #[.string x0, .string x1, .string x2, .slice au ln cu]) (.slice av rs.length cv) rs.length false ((rs.length : Int) == 12)) wr (.cells #[.string x0, .string x1, .string x2, .slice au ln cu] 28) (fmtL [⟨⟨x0, x1, x2⟩, bd⟩])) ?startD (AllAt.all ?stepsD) ?endsD
                               case startD => exact ⟨fun i u _ e => (by cases e), fun e => (by cases e), fun e => (by cases e), fun _ => rfl, fun e => (by cases e), fun e => (by cases e)⟩
                               case endsD =>
                                 intro L f w4 hJ hall
                                 have e19 : f 19 = .bool ((rs.length : Int) == 12) := hJ.vs 19 _ rfl (hall 19 (by decide))
                                 have hb4 := (hJ.wC (hall 7 (by decide))).1
                                 have HB4 := Lib.hid hb4
                                 have g0 : w4.cell? ⟨p, 0, none⟩ = some (.string x0) := below_mem hb4 _ _ _ HQ.out.1
                                 have g1 : w4.cell? ⟨p, 1, none⟩ = some (.string x1) := below_mem hb4 _ _ _ HQ.out.2.1
                                 have g2 : w4.cell? ⟨p, 2, none⟩ = some (.string x2) := below_mem hb4 _ _ _ HQ.out.2.2.1
                                 have g3 : w4.cell? ⟨p, 3, none⟩ = some (.slice au ln cu) := below_mem hb4 _ _ _ HQ.out.2.2.2
                                 clear hJ hall hb4
                                 simp only [putAll, Exit.then, Nat.reduceAdd]
                                 rw [e19]
                                 go_frame
                                 by_cases h12 : rs.length = 12
                                 · have HE := Lib.hid (HBAD.out (.inr (.inr (by omega))))
                                   have h12b : ((rs.length : Int) == 12) = true := by rw [h12]; rfl
                                   have HR12 := Lib.hid h12
                                   clear h12
                                   go_wp2_with fail
                                   go_ret3
                                   exact ⟨pure_trans HBW2.out HB4.out, .inr (.inr ⟨H64.out, _, HE.out, rfl⟩)⟩
                                 · have h12b : ((rs.length : Int) == 12) = false := by rw [beq_eq_false_iff_ne]; omega
                                   have HL12 := Lib.hid (show rs.length < 12 from by have := HLE.out; omega)
                                   have HOX := Lib.hid (show ∀ o, OwnsD tRul (W.heap.size ≤ ·) (w4.alloc o) W.heap.size 28 (.slice av rs.length cv) rs from fun o => HOW.out.keeps (pure_trans (pure_trans HB2.out HBW.out) (pure_trans HB4.out (boxB w4 o))))
                                   have HVLT := Lib.hid (fun k h => (HOW.out.lt k h).2)
                                   have HVGE := Lib.hid (fun k h => (HOW.out.lt k h).1)
                                   have HSS := Lib.hid (And.intro HBR.out.size (And.intro HB2.out.size (And.intro HB3.out.size (And.intro HBW.out.size HB4.out.size))))
                                   have HBA := Lib.hid (pure_trans HBW2.out HB4.out)
                                   have HRV := Lib.hid (HBDU.out.rv (S := fun b => w3.heap.size ≤ b) (fun b hb => hb) (fun _ _ _ h => h))
                                   have HY := Lib.hid (show (tSlice tRul).rv ((mem (w4.alloc (.cells #[.string x0, .string x1, .string x2, .slice au ln cu] 28))).on (fun b => (W.heap.size ≤ b) ∧ some b ≠ (Value.slice av rs.length cv).ownBlock)) [.slice (some ⟨w4.heap.size, 0, none⟩) 1 1] [⟨⟨x0, x1, x2⟩, bd⟩] from by
                                     have hss := HSS.out
                                     refine slice_one (cs := [.string x0, .string x1, .string x2, .slice au ln cu]) (fun j z hj => ?_) ⟨_, rfl, HOKH.out, tFcts.mono _ _ _ _ (fun b o z e => ?_) HRV.out⟩
                                     · refine Mem.on_some ((mem_cells (heap_alloc_new w4 (.cells #[.string x0, .string x1, .string x2, .slice au ln cu] 28)) (0 + j)).trans (by rw [Nat.zero_add]; simpa using hj)) ⟨by omega, fun e => ?_⟩
                                       have := HVLT.out _ e.symm
                                       omega
                                     · obtain ⟨hs, e⟩ := Mem.of_on e
                                       refine Mem.on_some (below_mem (pure_trans HB4.out (boxB w4 _)) _ _ _ e) ⟨by omega, fun e2 => ?_⟩
                                       have := HVLT.out _ e2.symm
                                       omega)
                                   have HNX := Lib.hid (fun v' w10 own10 (hg : (w4.alloc (.cells #[.string x0, .string x1, .string x2, .slice au ln cu] 28)).grownBy w10 (Value.slice av rs.length cv).ownBlock) => HGOOD.out ⟨⟨x0, x1, x2⟩, bd⟩ v' w10 hlt2 HLG.out HL12.out own10 ((pure_trans HBA.out (boxB w4 _)).grown hg (by have := HSS.out; simp; omega) (fun k hk => HVGE.out k hk)))
                                   have HLT2 := Lib.hid hlt2
                                   go_wp2_with (at_builtin; refine wpList_append_d rfl _ _ 22 rfl tRul tRul_one Tryz.underlying22 infoRul rfl (by decide) (W.heap.size ≤ ·) W.heap.size _ rs [⟨⟨x0, x1, x2⟩, bd⟩] rfl (HOX.out _) _ _ _ rfl rfl HY.out (by have := HL12.out; unfold maxLen; simp; omega) (by have := HL12.out; simp; omega) (by have := HSS.out; simp; omega) ?_)
                                   intro v' w10 own10 hgrow _
                                   have HP := Lib.hid (HNX.out v' w10 own10 hgrow)
                                   clear own10 hgrow HNX
                                   obtain ⟨a10, c10, rfl, -⟩ := HP.out.own.len
                                   have hwl : IntKind.i64.wrap ((rs.length : Int) + 1) = (rs.length : Int) + 1 := IntWalk.i64_in _ (by have := HL12.out; omega)
                                   have hwe := HNE.out
                                   go_wp2_with fail
                                   go_roundw
                                   case rel => exact ⟨e + 1, rs ++ [⟨⟨x0, x1, x2⟩, bd⟩], HLT2.out, by go_num, by simp, HP⟩
                                   case measure => have h1 := HKE.out; have h2 := HLT2.out; simp [intOf]; omega
                               case stepsD =>
                                 refine AllAt.cons 1 ?c0 (AllAt.cons 2 ?c1 (AllAt.cons 3 ?c2 (AllAt.cons 4 ?c3 (AllAt.cons 5 ?c4 (AllAt.cons 6 ?c5 (AllAt.cons 7 ?c6 (AllAt.cons 8 ?c7 (AllAt.cons 9 ?c8 (AllAt.cons 10 ?c9 (AllAt.cons 11 ?c10 (AllAt.cons 12 ?c11 (AllAt.cons 13 ?c12 (AllAt.cons 14 ?c13 (AllAt.cons 15 ?c14 (AllAt.cons 16 ?c15 (AllAt.cons 17 ?c16 (AllAt.cons 18 ?c17 (AllAt.cons 19 ?c18 (AllAt.cons 20 ?c19 AllAt.nil rfl) rfl) rfl) rfl) rfl) rfl) rfl) rfl) rfl) rfl) rfl) rfl) rfl) rfl) rfl) rfl) rfl) rfl) rfl) rfl
                                 case c0 =>
                                   intro L f a wz hJ hLi hdep hv h0 K hK
                                   have e6 : a.eval (.tmp 6) = .int .i64 (e : Int) := (h0 6 (noDst_spec (by kernel_rfl))).trans rfl
                                   refine step_val rfl (v := .int .i64 (e : Int)) (w' := wz) ?_ (hK _ _ ⟨vsAddN hJ.vs (fun u e => Option.some.inj e), hJ.d6, hJ.d7, hJ.wA, hJ.wB, hJ.wC⟩)
                                   clear hJ hdep hv h0 hK
                                   generalize a.eval = ρ at *
                                   simp [go_sem, execOp, *]
                                 case c1 =>
                                   intro L f a wz hJ hLi hdep hv h0 K hK
                                   have e0 : a.eval (.tmp 0) = .string t := (h0 0 (noDst_spec (by kernel_rfl))).trans rfl
                                   refine step_val rfl (v := .string t) (w' := wz) ?_ (hK _ _ ⟨vsAddN hJ.vs (fun u e => Option.some.inj e), hJ.d6, hJ.d7, hJ.wA, hJ.wB, hJ.wC⟩)
                                   clear hJ hdep hv h0 hK
                                   generalize a.eval = ρ at *
                                   simp [go_sem, execOp, *]
                                 case c2 =>
                                   intro L f a wz hJ hLi hdep hv h0 K hK
                                   have hL1 := hdep 1 (List.mem_of_elem_eq_true (by kernel_rfl))
                                   have e87 := (hv 1 87 rfl hL1).trans (hJ.vs 1 _ rfl hL1)
                                   refine step_val rfl (v := .int .i64 (t.size : Int)) (w' := wz) ?_ (hK _ _ ⟨vsAddN hJ.vs (fun u e => Option.some.inj e), hJ.d6, hJ.d7, hJ.wA, hJ.wB, hJ.wC⟩)
                                   clear hJ hdep hv h0 hK
                                   generalize a.eval = ρ at *
                                   simp [go_sem, execOp, *]
                                 case c3 =>
                                   intro L f a wz hJ hLi hdep hv h0 K hK
                                   have hL0 := hdep 0 (List.mem_of_elem_eq_true (by kernel_rfl))
                                   have e86 := (hv 0 86 rfl hL0).trans (hJ.vs 0 _ rfl hL0)
                                   have hL2 := hdep 2 (List.mem_of_elem_eq_true (by kernel_rfl))
                                   have e88 := (hv 2 88 rfl hL2).trans (hJ.vs 2 _ rfl hL2)
                                   refine step_val rfl (v := .bool false) (w' := wz) ?_ (hK _ _ ⟨vsAddN hJ.vs (fun u e => Option.some.inj e), hJ.d6, hJ.d7, hJ.wA, hJ.wB, hJ.wC⟩)
                                   clear hJ hdep hv h0 hK
                                   generalize a.eval = ρ at *
                                   simp [go_sem, execOp, *]
                                 case c4 =>
                                   intro L f a wz hJ hLi hdep hv h0 K hK
                                   have hL3 := hdep 3 (List.mem_of_elem_eq_true (by kernel_rfl))
                                   have e89 := (hv 3 89 rfl hL3).trans (hJ.vs 3 _ rfl hL3)
                                   refine step_val rfl (v := .bool false) (w' := wz) ?_ (hK _ _ ⟨vsAddN hJ.vs (fun u e => Option.some.inj e), hJ.d6, hJ.d7, hJ.wA, hJ.wB, hJ.wC⟩)
                                   clear hJ hdep hv h0 hK
                                   generalize a.eval = ρ at *
                                   simp [go_sem, execOp, *]
                                 case c5 =>
                                   intro L f a wz hJ hLi hdep hv h0 K hK
                                   have hL4 := hdep 4 (List.mem_of_elem_eq_true (by kernel_rfl))
                                   have ej := (hv 4 90 rfl hL4).trans (hJ.vs 4 _ rfl hL4)
                                   have e8 : a.eval (.tmp 8) = .pointer (some ⟨p, 0, none⟩) := (h0 8 (noDst_spec (by kernel_rfl))).trans rfl
                                   have h6 : L 6 = false := by
                                     cases e : L 6 with
                                     | false => rfl
                                     | true => exact (bFalse hLi (hJ.d6 e)).elim
                                   obtain rfl := hJ.wA h6
                                   obtain ⟨q0, q1, q2, q3⟩ := HQ.out
                                   refine step_valG rfl (yielded_of (b := false) rfl ej) (v := .agg #[.string x0, .string x1, .string x2, .slice au ln cu]) (w' := wr.drew) ?_ (hK _ _ ⟨vsAddN hJ.vs (fun u e => Option.some.inj e), fun _ => rfl, hJ.d7, hJ.wA, hJ.wB, hJ.wC⟩)
                                   clear hJ hdep hv h0 hK
                                   generalize a.eval = ρ at *
                                   simp [go_sem, execOp, *]
                                 case c6 =>
                                   intro L f a wz hJ hLi hdep hv h0 K hK
                                   have hL4 := hdep 4 (List.mem_of_elem_eq_true (by kernel_rfl))
                                   have ej := (hv 4 90 rfl hL4).trans (hJ.vs 4 _ rfl hL4)
                                   have hL5 := hdep 5 (List.mem_of_elem_eq_true (by kernel_rfl))
                                   have e91 := (hv 5 91 rfl hL5).trans (hJ.vs 5 _ rfl hL5)
                                   obtain rfl := hJ.wA hLi
                                   have eY : wr.drew.heap.size = wr.heap.size := rfl
                                   refine step_valG rfl (yielded_of (b := false) rfl ej) (v := .slice (some ⟨wr.heap.size, 0, none⟩) 1 1) (w' := wr.drew.alloc (.cells #[.string x0, .string x1, .string x2, .slice au ln cu] 28)) ?_ (hK _ _ ⟨vsAddN hJ.vs (fun u e => absurd (show (none : Option Value) = some u from e) (by simp)), fun _ => hL5, fun e => rfl, fun e => (by cases e), fun _ _ => ⟨rfl, rfl⟩, fun e => (bFalse hLi (hJ.d7 e)).elim⟩)
                                   clear hJ hdep hv h0 hK
                                   generalize a.eval = ρ at *
                                   simp [go_sem, execOp, *]
                                 case c7 =>
                                   intro L f a wz hJ hLi hdep hv h0 K hK
                                   have hL4 := hdep 4 (List.mem_of_elem_eq_true (by kernel_rfl))
                                   have ej := (hv 4 90 rfl hL4).trans (hJ.vs 4 _ rfl hL4)
                                   have hL6 := hdep 6 (List.mem_of_elem_eq_true (by kernel_rfl))
                                   obtain ⟨rfl, hf6⟩ := hJ.wB hL6 hLi
                                   have e92 := (hv 6 92 rfl hL6).trans hf6
                                   have eF : a.eval (.func 6) = .func (.func 6) #[] #[] := rfl
                                   have eE : ∀ args w, (callFunc 6 args).run Tryz.prog w = .ok (.enter 6 args) w := fun _ _ => rfl
                                   refine step_callG rfl (yielded_of (b := false) rfl ej) (fn := 6) (args := #[.slice (some ⟨wr.heap.size, 0, none⟩) 1 1]) (w' := wr.drew.alloc (.cells #[.string x0, .string x1, .string x2, .slice au ln cu] 28)) (R := fun v w'' => Below wr.heap.size wr w'' ∧ ∃ s, v = .string s ∧ bl s = fmtL [⟨⟨x0, x1, x2⟩, bd⟩]) ?_ (HFMT.out.mono (fun e w'' h => ?_)) (fun v w'' h => ?_)
                                   · clear hJ hdep hv h0 hK
                                     generalize a.eval = ρ at *
                                     simp [go_sem, execOp, *]
                                   · obtain ⟨s, h1, h2, h3⟩ := h
                                     exact ⟨_, h1, pure_trans HBX.out h3, s, rfl, h2⟩
                                   · obtain ⟨h1, s, rfl, h2⟩ := h
                                     exact hK _ _ ⟨vsAddN hJ.vs (fun u e => absurd (show (none : Option Value) = some u from e) (by simp)), hJ.d6, fun _ => hL6, fun e => (bFalse e hL6).elim, fun _ e => (by cases e), fun _ => ⟨h1, s, rfl, h2⟩⟩
                                 case c8 =>
                                   intro L f a wz hJ hLi hdep hv h0 K hK
                                   have hL4 := hdep 4 (List.mem_of_elem_eq_true (by kernel_rfl))
                                   have ej := (hv 4 90 rfl hL4).trans (hJ.vs 4 _ rfl hL4)
                                   have e0 : a.eval (.tmp 0) = .string t := (h0 0 (noDst_spec (by kernel_rfl))).trans rfl
                                   refine step_valG rfl (yielded_of (b := false) rfl ej) (v := .string t) (w' := wz) ?_ (hK _ _ ⟨vsAddN hJ.vs (fun u e => Option.some.inj e), hJ.d6, hJ.d7, hJ.wA, hJ.wB, hJ.wC⟩)
                                   clear hJ hdep hv h0 hK
                                   generalize a.eval = ρ at *
                                   simp [go_sem, execOp, *]
                                 case c9 =>
                                   intro L f a wz hJ hLi hdep hv h0 K hK
                                   have hL4 := hdep 4 (List.mem_of_elem_eq_true (by kernel_rfl))
                                   have ej := (hv 4 90 rfl hL4).trans (hJ.vs 4 _ rfl hL4)
                                   have e5 : a.eval (.tmp 5) = .int .i64 (k : Int) := (h0 5 (noDst_spec (by kernel_rfl))).trans rfl
                                   refine step_valG rfl (yielded_of (b := false) rfl ej) (v := .int .i64 (k : Int)) (w' := wz) ?_ (hK _ _ ⟨vsAddN hJ.vs (fun u e => Option.some.inj e), hJ.d6, hJ.d7, hJ.wA, hJ.wB, hJ.wC⟩)
                                   clear hJ hdep hv h0 hK
                                   generalize a.eval = ρ at *
                                   simp [go_sem, execOp, *]
                                 case c10 =>
                                   intro L f a wz hJ hLi hdep hv h0 K hK
                                   have hL4 := hdep 4 (List.mem_of_elem_eq_true (by kernel_rfl))
                                   have ej := (hv 4 90 rfl hL4).trans (hJ.vs 4 _ rfl hL4)
                                   have e6 : a.eval (.tmp 6) = .int .i64 (e : Int) := (h0 6 (noDst_spec (by kernel_rfl))).trans rfl
                                   refine step_valG rfl (yielded_of (b := false) rfl ej) (v := .int .i64 (e : Int)) (w' := wz) ?_ (hK _ _ ⟨vsAddN hJ.vs (fun u e => Option.some.inj e), hJ.d6, hJ.d7, hJ.wA, hJ.wB, hJ.wC⟩)
                                   clear hJ hdep hv h0 hK
                                   generalize a.eval = ρ at *
                                   simp [go_sem, execOp, *]
                                 case c11 =>
                                   intro L f a wz hJ hLi hdep hv h0 K hK
                                   have hL4 := hdep 4 (List.mem_of_elem_eq_true (by kernel_rfl))
                                   have ej := (hv 4 90 rfl hL4).trans (hJ.vs 4 _ rfl hL4)
                                   have hL10 := hdep 10 (List.mem_of_elem_eq_true (by kernel_rfl))
                                   have e96 := (hv 10 96 rfl hL10).trans (hJ.vs 10 _ rfl hL10)
                                   have eC : a.eval (.const (.int .i64 1)) = .int .i64 1 := rfl
                                   have hw1 := HNE.out
                                   refine step_valG rfl (yielded_of (b := false) rfl ej) (v := .int .i64 ((e : Int) + 1)) (w' := wz) ?_ (hK _ _ ⟨vsAddN hJ.vs (fun u e => Option.some.inj e), hJ.d6, hJ.d7, hJ.wA, hJ.wB, hJ.wC⟩)
                                   clear hJ hdep hv h0 hK
                                   generalize a.eval = ρ at *
                                   simp [go_sem, execOp, *]
                                 case c12 =>
                                   intro L f a wz hJ hLi hdep hv h0 K hK
                                   have hL4 := hdep 4 (List.mem_of_elem_eq_true (by kernel_rfl))
                                   have ej := (hv 4 90 rfl hL4).trans (hJ.vs 4 _ rfl hL4)
                                   have hL8 := hdep 8 (List.mem_of_elem_eq_true (by kernel_rfl))
                                   have e94 := (hv 8 94 rfl hL8).trans (hJ.vs 8 _ rfl hL8)
                                   have hL9 := hdep 9 (List.mem_of_elem_eq_true (by kernel_rfl))
                                   have e95 := (hv 9 95 rfl hL9).trans (hJ.vs 9 _ rfl hL9)
                                   have hL11 := hdep 11 (List.mem_of_elem_eq_true (by kernel_rfl))
                                   have e97 := (hv 11 97 rfl hL11).trans (hJ.vs 11 _ rfl hL11)
                                   have hke := HKE.out
                                   have hsl := run_slice_string (P := Tryz.prog) wz 9 t .i64 .i64 (k : Int) ((e : Int) + 1) Tryz.underlying9 (by omega) (by omega) (by omega)
                                   have ek : ((e : Int) + 1).toNat = e + 1 := by omega
                                   simp only [Int.toNat_natCast, ek] at hsl
                                   refine step_valG rfl (yielded_of (b := false) rfl ej) (v := .string (t.extract k (e + 1))) (w' := wz) ?_ (hK _ _ ⟨vsAddN hJ.vs (fun u e => Option.some.inj e), hJ.d6, hJ.d7, hJ.wA, hJ.wB, hJ.wC⟩)
                                   clear hJ hdep hv h0 hK
                                   generalize a.eval = ρ at *
                                   simp [go_sem, execOp, *]
                                 case c13 =>
                                   intro L f a wz hJ hLi hdep hv h0 K hK
                                   have hL4 := hdep 4 (List.mem_of_elem_eq_true (by kernel_rfl))
                                   have ej := (hv 4 90 rfl hL4).trans (hJ.vs 4 _ rfl hL4)
                                   have hL7 := hdep 7 (List.mem_of_elem_eq_true (by kernel_rfl))
                                   obtain ⟨-, s, hf7, hs7⟩ := hJ.wC hL7
                                   have e93 := (hv 7 93 rfl hL7).trans hf7
                                   have hL12 := hdep 12 (List.mem_of_elem_eq_true (by kernel_rfl))
                                   have e98 := (hv 12 98 rfl hL12).trans (hJ.vs 12 _ rfl hL12)
                                   have hcm := HEQ.out s hs7
                                   refine step_valG rfl (yielded_of (b := false) rfl ej) (v := .bool false) (w' := wz) ?_ (hK _ _ ⟨vsAddN hJ.vs (fun u e => Option.some.inj e), hJ.d6, hJ.d7, hJ.wA, hJ.wB, hJ.wC⟩)
                                   clear hJ hdep hv h0 hK
                                   generalize a.eval = ρ at *
                                   simp [go_sem, execOp, *]
                                 case c14 =>
                                   intro L f a wz hJ hLi hdep hv h0 K hK
                                   have hL4 := hdep 4 (List.mem_of_elem_eq_true (by kernel_rfl))
                                   have e90 := (hv 4 90 rfl hL4).trans (hJ.vs 4 _ rfl hL4)
                                   have hL13 := hdep 13 (List.mem_of_elem_eq_true (by kernel_rfl))
                                   have e99 := (hv 13 99 rfl hL13).trans (hJ.vs 13 _ rfl hL13)
                                   have eC : a.eval (.const (.bool true)) = .bool true := rfl
                                   refine step_val rfl (v := .bool false) (w' := wz) ?_ (hK _ _ ⟨vsAddN hJ.vs (fun u e => Option.some.inj e), hJ.d6, hJ.d7, hJ.wA, hJ.wB, hJ.wC⟩)
                                   clear hJ hdep hv h0 hK
                                   generalize a.eval = ρ at *
                                   simp [go_sem, execOp, *]
                                 case c15 =>
                                   intro L f a wz hJ hLi hdep hv h0 K hK
                                   have hL14 := hdep 14 (List.mem_of_elem_eq_true (by kernel_rfl))
                                   have e100 := (hv 14 100 rfl hL14).trans (hJ.vs 14 _ rfl hL14)
                                   refine step_val rfl (v := .bool false) (w' := wz) ?_ (hK _ _ ⟨vsAddN hJ.vs (fun u e => Option.some.inj e), hJ.d6, hJ.d7, hJ.wA, hJ.wB, hJ.wC⟩)
                                   clear hJ hdep hv h0 hK
                                   generalize a.eval = ρ at *
                                   simp [go_sem, execOp, *]
                                 case c16 =>
                                   intro L f a wz hJ hLi hdep hv h0 K hK
                                   have hL15 := hdep 15 (List.mem_of_elem_eq_true (by kernel_rfl))
                                   have ej := (hv 15 101 rfl hL15).trans (hJ.vs 15 _ rfl hL15)
                                   have e2 : a.eval (.tmp 2) = .slice av rs.length cv := (h0 2 (noDst_spec (by kernel_rfl))).trans rfl
                                   refine step_valG rfl (yielded_of (b := false) rfl ej) (v := .slice av rs.length cv) (w' := wz) ?_ (hK _ _ ⟨vsAddN hJ.vs (fun u e => Option.some.inj e), hJ.d6, hJ.d7, hJ.wA, hJ.wB, hJ.wC⟩)
                                   clear hJ hdep hv h0 hK
                                   generalize a.eval = ρ at *
                                   simp [go_sem, execOp, *]
                                 case c17 =>
                                   intro L f a wz hJ hLi hdep hv h0 K hK
                                   have hL15 := hdep 15 (List.mem_of_elem_eq_true (by kernel_rfl))
                                   have ej := (hv 15 101 rfl hL15).trans (hJ.vs 15 _ rfl hL15)
                                   have hL16 := hdep 16 (List.mem_of_elem_eq_true (by kernel_rfl))
                                   have e102 := (hv 16 102 rfl hL16).trans (hJ.vs 16 _ rfl hL16)
                                   refine step_valG rfl (yielded_of (b := false) rfl ej) (v := .int .i64 (rs.length : Int)) (w' := wz) ?_ (hK _ _ ⟨vsAddN hJ.vs (fun u e => Option.some.inj e), hJ.d6, hJ.d7, hJ.wA, hJ.wB, hJ.wC⟩)
                                   clear hJ hdep hv h0 hK
                                   generalize a.eval = ρ at *
                                   simp [go_sem, execOp, *]
                                 case c18 =>
                                   intro L f a wz hJ hLi hdep hv h0 K hK
                                   have hL15 := hdep 15 (List.mem_of_elem_eq_true (by kernel_rfl))
                                   have ej := (hv 15 101 rfl hL15).trans (hJ.vs 15 _ rfl hL15)
                                   have hL17 := hdep 17 (List.mem_of_elem_eq_true (by kernel_rfl))
                                   have e103 := (hv 17 103 rfl hL17).trans (hJ.vs 17 _ rfl hL17)
                                   have eC : a.eval (.const (.int .i64 12)) = .int .i64 12 := rfl
                                   refine step_valG rfl (yielded_of (b := false) rfl ej) (v := .bool ((rs.length : Int) == 12)) (w' := wz) ?_ (hK _ _ ⟨vsAddN hJ.vs (fun u e => Option.some.inj e), hJ.d6, hJ.d7, hJ.wA, hJ.wB, hJ.wC⟩)
                                   clear hJ hdep hv h0 hK
                                   generalize a.eval = ρ at *
                                   simp [go_sem, execOp, *]
                                 case c19 =>
                                   intro L f a wz hJ hLi hdep hv h0 K hK
                                   have hL15 := hdep 15 (List.mem_of_elem_eq_true (by kernel_rfl))
                                   have e101 := (hv 15 101 rfl hL15).trans (hJ.vs 15 _ rfl hL15)
                                   have hL18 := hdep 18 (List.mem_of_elem_eq_true (by kernel_rfl))
                                   have e104 := (hv 18 104 rfl hL18).trans (hJ.vs 18 _ rfl hL18)
                                   have eC : a.eval (.const (.bool true)) = .bool true := rfl
                                   refine step_val rfl (v := .bool ((rs.length : Int) == 12)) (w' := wz) ?_ (hK _ _ ⟨vsAddN hJ.vs (fun u e => Option.some.inj e), hJ.d6, hJ.d7, hJ.wA, hJ.wB, hJ.wC⟩)
                                   clear hJ hdep hv h0 hK
                                   generalize a.eval = ρ at *
                                   simp [go_sem, execOp, *]
                             · have HE := Lib.hid (HBAD.out (.inr (.inl (by rw [HLR2.out, if_neg hgd]))))
                               have HEQ := Lib.hid (show ∀ s : ByteArray, bl s = fmtL [⟨⟨x0, x1, x2⟩, bd⟩] → (s.toList == (t.extract k (e + 1)).toList) = false from fun s hs => by
                                 cases h : (s.toList == (t.extract k (e + 1)).toList) with
                                 | false => rfl
                                 | true => exact absurd ((HCMP.out s hs).1 h) hgd)
                               clear hgd HCMP HLR2
                               go_wp2_with fail
                               refine wp_region_inv (by kernel_rfl) (by kernel_rfl) (by kernel_rfl) (MJ (expA t k e (.agg #[.string x0, .string x1, .string x2, .slice au ln cu]) (.slice av rs.length cv) rs.length true false) wr (.cells #[.string x0, .string x1, .string x2, .slice au ln cu] 28) (fmtL [⟨⟨x0, x1, x2⟩, bd⟩])) ?startE (AllAt.all ?stepsE) ?endsE
                               case startE => exact ⟨fun i u _ e => (by cases e), fun e => (by cases e), fun e => (by cases e), fun _ => rfl, fun e => (by cases e), fun e => (by cases e)⟩
                               case endsE =>
                                 intro L f w4 hJ hall
                                 have e19 : f 19 = .bool true := hJ.vs 19 _ rfl (hall 19 (by decide))
                                 have HB4 := Lib.hid (hJ.wC (hall 7 (by decide))).1
                                 clear hJ hall
                                 simp only [putAll, Exit.then, Nat.reduceAdd]
                                 rw [e19]
                                 go_frame
                                 go_wp2_with fail
                                 go_ret3
                                 exact ⟨pure_trans HBW2.out HB4.out, .inr (.inr ⟨H64.out, _, HE.out, rfl⟩)⟩
                               case stepsE =>
                                 refine AllAt.cons 1 ?d0 (AllAt.cons 2 ?d1 (AllAt.cons 3 ?d2 (AllAt.cons 4 ?d3 (AllAt.cons 5 ?d4 (AllAt.cons 6 ?d5 (AllAt.cons 7 ?d6 (AllAt.cons 8 ?d7 (AllAt.cons 9 ?d8 (AllAt.cons 10 ?d9 (AllAt.cons 11 ?d10 (AllAt.cons 12 ?d11 (AllAt.cons 13 ?d12 (AllAt.cons 14 ?d13 (AllAt.cons 15 ?d14 (AllAt.cons 16 ?d15 (AllAt.cons 17 ?d16 (AllAt.cons 18 ?d17 (AllAt.cons 19 ?d18 (AllAt.cons 20 ?d19 AllAt.nil rfl) rfl) rfl) rfl) rfl) rfl) rfl) rfl) rfl) rfl) rfl) rfl) rfl) rfl) rfl) rfl) rfl) rfl) rfl) rfl
                                 case d0 =>
                                   intro L f a wz hJ hLi hdep hv h0 K hK
                                   have e6 : a.eval (.tmp 6) = .int .i64 (e : Int) := (h0 6 (noDst_spec (by kernel_rfl))).trans rfl
                                   refine step_val rfl (v := .int .i64 (e : Int)) (w' := wz) ?_ (hK _ _ ⟨vsAddN hJ.vs (fun u e => Option.some.inj e), hJ.d6, hJ.d7, hJ.wA, hJ.wB, hJ.wC⟩)
                                   clear hJ hdep hv h0 hK
                                   generalize a.eval = ρ at *
                                   simp [go_sem, execOp, *]
                                 case d1 =>
                                   intro L f a wz hJ hLi hdep hv h0 K hK
                                   have e0 : a.eval (.tmp 0) = .string t := (h0 0 (noDst_spec (by kernel_rfl))).trans rfl
                                   refine step_val rfl (v := .string t) (w' := wz) ?_ (hK _ _ ⟨vsAddN hJ.vs (fun u e => Option.some.inj e), hJ.d6, hJ.d7, hJ.wA, hJ.wB, hJ.wC⟩)
                                   clear hJ hdep hv h0 hK
                                   generalize a.eval = ρ at *
                                   simp [go_sem, execOp, *]
                                 case d2 =>
                                   intro L f a wz hJ hLi hdep hv h0 K hK
                                   have hL1 := hdep 1 (List.mem_of_elem_eq_true (by kernel_rfl))
                                   have e87 := (hv 1 87 rfl hL1).trans (hJ.vs 1 _ rfl hL1)
                                   refine step_val rfl (v := .int .i64 (t.size : Int)) (w' := wz) ?_ (hK _ _ ⟨vsAddN hJ.vs (fun u e => Option.some.inj e), hJ.d6, hJ.d7, hJ.wA, hJ.wB, hJ.wC⟩)
                                   clear hJ hdep hv h0 hK
                                   generalize a.eval = ρ at *
                                   simp [go_sem, execOp, *]
                                 case d3 =>
                                   intro L f a wz hJ hLi hdep hv h0 K hK
                                   have hL0 := hdep 0 (List.mem_of_elem_eq_true (by kernel_rfl))
                                   have e86 := (hv 0 86 rfl hL0).trans (hJ.vs 0 _ rfl hL0)
                                   have hL2 := hdep 2 (List.mem_of_elem_eq_true (by kernel_rfl))
                                   have e88 := (hv 2 88 rfl hL2).trans (hJ.vs 2 _ rfl hL2)
                                   refine step_val rfl (v := .bool false) (w' := wz) ?_ (hK _ _ ⟨vsAddN hJ.vs (fun u e => Option.some.inj e), hJ.d6, hJ.d7, hJ.wA, hJ.wB, hJ.wC⟩)
                                   clear hJ hdep hv h0 hK
                                   generalize a.eval = ρ at *
                                   simp [go_sem, execOp, *]
                                 case d4 =>
                                   intro L f a wz hJ hLi hdep hv h0 K hK
                                   have hL3 := hdep 3 (List.mem_of_elem_eq_true (by kernel_rfl))
                                   have e89 := (hv 3 89 rfl hL3).trans (hJ.vs 3 _ rfl hL3)
                                   refine step_val rfl (v := .bool false) (w' := wz) ?_ (hK _ _ ⟨vsAddN hJ.vs (fun u e => Option.some.inj e), hJ.d6, hJ.d7, hJ.wA, hJ.wB, hJ.wC⟩)
                                   clear hJ hdep hv h0 hK
                                   generalize a.eval = ρ at *
                                   simp [go_sem, execOp, *]
                                 case d5 =>
                                   intro L f a wz hJ hLi hdep hv h0 K hK
                                   have hL4 := hdep 4 (List.mem_of_elem_eq_true (by kernel_rfl))
                                   have ej := (hv 4 90 rfl hL4).trans (hJ.vs 4 _ rfl hL4)
                                   have e8 : a.eval (.tmp 8) = .pointer (some ⟨p, 0, none⟩) := (h0 8 (noDst_spec (by kernel_rfl))).trans rfl
                                   have h6 : L 6 = false := by
                                     cases e : L 6 with
                                     | false => rfl
                                     | true => exact (bFalse hLi (hJ.d6 e)).elim
                                   obtain rfl := hJ.wA h6
                                   obtain ⟨q0, q1, q2, q3⟩ := HQ.out
                                   refine step_valG rfl (yielded_of (b := false) rfl ej) (v := .agg #[.string x0, .string x1, .string x2, .slice au ln cu]) (w' := wr.drew) ?_ (hK _ _ ⟨vsAddN hJ.vs (fun u e => Option.some.inj e), fun _ => rfl, hJ.d7, hJ.wA, hJ.wB, hJ.wC⟩)
                                   clear hJ hdep hv h0 hK
                                   generalize a.eval = ρ at *
                                   simp [go_sem, execOp, *]
                                 case d6 =>
                                   intro L f a wz hJ hLi hdep hv h0 K hK
                                   have hL4 := hdep 4 (List.mem_of_elem_eq_true (by kernel_rfl))
                                   have ej := (hv 4 90 rfl hL4).trans (hJ.vs 4 _ rfl hL4)
                                   have hL5 := hdep 5 (List.mem_of_elem_eq_true (by kernel_rfl))
                                   have e91 := (hv 5 91 rfl hL5).trans (hJ.vs 5 _ rfl hL5)
                                   obtain rfl := hJ.wA hLi
                                   have eY : wr.drew.heap.size = wr.heap.size := rfl
                                   refine step_valG rfl (yielded_of (b := false) rfl ej) (v := .slice (some ⟨wr.heap.size, 0, none⟩) 1 1) (w' := wr.drew.alloc (.cells #[.string x0, .string x1, .string x2, .slice au ln cu] 28)) ?_ (hK _ _ ⟨vsAddN hJ.vs (fun u e => absurd (show (none : Option Value) = some u from e) (by simp)), fun _ => hL5, fun e => rfl, fun e => (by cases e), fun _ _ => ⟨rfl, rfl⟩, fun e => (bFalse hLi (hJ.d7 e)).elim⟩)
                                   clear hJ hdep hv h0 hK
                                   generalize a.eval = ρ at *
                                   simp [go_sem, execOp, *]
                                 case d7 =>
                                   intro L f a wz hJ hLi hdep hv h0 K hK
                                   have hL4 := hdep 4 (List.mem_of_elem_eq_true (by kernel_rfl))
                                   have ej := (hv 4 90 rfl hL4).trans (hJ.vs 4 _ rfl hL4)
                                   have hL6 := hdep 6 (List.mem_of_elem_eq_true (by kernel_rfl))
                                   obtain ⟨rfl, hf6⟩ := hJ.wB hL6 hLi
                                   have e92 := (hv 6 92 rfl hL6).trans hf6
                                   have eF : a.eval (.func 6) = .func (.func 6) #[] #[] := rfl
                                   have eE : ∀ args w, (callFunc 6 args).run Tryz.prog w = .ok (.enter 6 args) w := fun _ _ => rfl
                                   refine step_callG rfl (yielded_of (b := false) rfl ej) (fn := 6) (args := #[.slice (some ⟨wr.heap.size, 0, none⟩) 1 1]) (w' := wr.drew.alloc (.cells #[.string x0, .string x1, .string x2, .slice au ln cu] 28)) (R := fun v w'' => Below wr.heap.size wr w'' ∧ ∃ s, v = .string s ∧ bl s = fmtL [⟨⟨x0, x1, x2⟩, bd⟩]) ?_ (HFMT.out.mono (fun e w'' h => ?_)) (fun v w'' h => ?_)
                                   · clear hJ hdep hv h0 hK
                                     generalize a.eval = ρ at *
                                     simp [go_sem, execOp, *]
                                   · obtain ⟨s, h1, h2, h3⟩ := h
                                     exact ⟨_, h1, pure_trans HBX.out h3, s, rfl, h2⟩
                                   · obtain ⟨h1, s, rfl, h2⟩ := h
                                     exact hK _ _ ⟨vsAddN hJ.vs (fun u e => absurd (show (none : Option Value) = some u from e) (by simp)), hJ.d6, fun _ => hL6, fun e => (bFalse e hL6).elim, fun _ e => (by cases e), fun _ => ⟨h1, s, rfl, h2⟩⟩
                                 case d8 =>
                                   intro L f a wz hJ hLi hdep hv h0 K hK
                                   have hL4 := hdep 4 (List.mem_of_elem_eq_true (by kernel_rfl))
                                   have ej := (hv 4 90 rfl hL4).trans (hJ.vs 4 _ rfl hL4)
                                   have e0 : a.eval (.tmp 0) = .string t := (h0 0 (noDst_spec (by kernel_rfl))).trans rfl
                                   refine step_valG rfl (yielded_of (b := false) rfl ej) (v := .string t) (w' := wz) ?_ (hK _ _ ⟨vsAddN hJ.vs (fun u e => Option.some.inj e), hJ.d6, hJ.d7, hJ.wA, hJ.wB, hJ.wC⟩)
                                   clear hJ hdep hv h0 hK
                                   generalize a.eval = ρ at *
                                   simp [go_sem, execOp, *]
                                 case d9 =>
                                   intro L f a wz hJ hLi hdep hv h0 K hK
                                   have hL4 := hdep 4 (List.mem_of_elem_eq_true (by kernel_rfl))
                                   have ej := (hv 4 90 rfl hL4).trans (hJ.vs 4 _ rfl hL4)
                                   have e5 : a.eval (.tmp 5) = .int .i64 (k : Int) := (h0 5 (noDst_spec (by kernel_rfl))).trans rfl
                                   refine step_valG rfl (yielded_of (b := false) rfl ej) (v := .int .i64 (k : Int)) (w' := wz) ?_ (hK _ _ ⟨vsAddN hJ.vs (fun u e => Option.some.inj e), hJ.d6, hJ.d7, hJ.wA, hJ.wB, hJ.wC⟩)
                                   clear hJ hdep hv h0 hK
                                   generalize a.eval = ρ at *
                                   simp [go_sem, execOp, *]
                                 case d10 =>
                                   intro L f a wz hJ hLi hdep hv h0 K hK
                                   have hL4 := hdep 4 (List.mem_of_elem_eq_true (by kernel_rfl))
                                   have ej := (hv 4 90 rfl hL4).trans (hJ.vs 4 _ rfl hL4)
                                   have e6 : a.eval (.tmp 6) = .int .i64 (e : Int) := (h0 6 (noDst_spec (by kernel_rfl))).trans rfl
                                   refine step_valG rfl (yielded_of (b := false) rfl ej) (v := .int .i64 (e : Int)) (w' := wz) ?_ (hK _ _ ⟨vsAddN hJ.vs (fun u e => Option.some.inj e), hJ.d6, hJ.d7, hJ.wA, hJ.wB, hJ.wC⟩)
                                   clear hJ hdep hv h0 hK
                                   generalize a.eval = ρ at *
                                   simp [go_sem, execOp, *]
                                 case d11 =>
                                   intro L f a wz hJ hLi hdep hv h0 K hK
                                   have hL4 := hdep 4 (List.mem_of_elem_eq_true (by kernel_rfl))
                                   have ej := (hv 4 90 rfl hL4).trans (hJ.vs 4 _ rfl hL4)
                                   have hL10 := hdep 10 (List.mem_of_elem_eq_true (by kernel_rfl))
                                   have e96 := (hv 10 96 rfl hL10).trans (hJ.vs 10 _ rfl hL10)
                                   have eC : a.eval (.const (.int .i64 1)) = .int .i64 1 := rfl
                                   have hw1 := HNE.out
                                   refine step_valG rfl (yielded_of (b := false) rfl ej) (v := .int .i64 ((e : Int) + 1)) (w' := wz) ?_ (hK _ _ ⟨vsAddN hJ.vs (fun u e => Option.some.inj e), hJ.d6, hJ.d7, hJ.wA, hJ.wB, hJ.wC⟩)
                                   clear hJ hdep hv h0 hK
                                   generalize a.eval = ρ at *
                                   simp [go_sem, execOp, *]
                                 case d12 =>
                                   intro L f a wz hJ hLi hdep hv h0 K hK
                                   have hL4 := hdep 4 (List.mem_of_elem_eq_true (by kernel_rfl))
                                   have ej := (hv 4 90 rfl hL4).trans (hJ.vs 4 _ rfl hL4)
                                   have hL8 := hdep 8 (List.mem_of_elem_eq_true (by kernel_rfl))
                                   have e94 := (hv 8 94 rfl hL8).trans (hJ.vs 8 _ rfl hL8)
                                   have hL9 := hdep 9 (List.mem_of_elem_eq_true (by kernel_rfl))
                                   have e95 := (hv 9 95 rfl hL9).trans (hJ.vs 9 _ rfl hL9)
                                   have hL11 := hdep 11 (List.mem_of_elem_eq_true (by kernel_rfl))
                                   have e97 := (hv 11 97 rfl hL11).trans (hJ.vs 11 _ rfl hL11)
                                   have hke := HKE.out
                                   have hsl := run_slice_string (P := Tryz.prog) wz 9 t .i64 .i64 (k : Int) ((e : Int) + 1) Tryz.underlying9 (by omega) (by omega) (by omega)
                                   have ek : ((e : Int) + 1).toNat = e + 1 := by omega
                                   simp only [Int.toNat_natCast, ek] at hsl
                                   refine step_valG rfl (yielded_of (b := false) rfl ej) (v := .string (t.extract k (e + 1))) (w' := wz) ?_ (hK _ _ ⟨vsAddN hJ.vs (fun u e => Option.some.inj e), hJ.d6, hJ.d7, hJ.wA, hJ.wB, hJ.wC⟩)
                                   clear hJ hdep hv h0 hK
                                   generalize a.eval = ρ at *
                                   simp [go_sem, execOp, *]
                                 case d13 =>
                                   intro L f a wz hJ hLi hdep hv h0 K hK
                                   have hL4 := hdep 4 (List.mem_of_elem_eq_true (by kernel_rfl))
                                   have ej := (hv 4 90 rfl hL4).trans (hJ.vs 4 _ rfl hL4)
                                   have hL7 := hdep 7 (List.mem_of_elem_eq_true (by kernel_rfl))
                                   obtain ⟨-, s, hf7, hs7⟩ := hJ.wC hL7
                                   have e93 := (hv 7 93 rfl hL7).trans hf7
                                   have hL12 := hdep 12 (List.mem_of_elem_eq_true (by kernel_rfl))
                                   have e98 := (hv 12 98 rfl hL12).trans (hJ.vs 12 _ rfl hL12)
                                   have hcm := HEQ.out s hs7
                                   refine step_valG rfl (yielded_of (b := false) rfl ej) (v := .bool true) (w' := wz) ?_ (hK _ _ ⟨vsAddN hJ.vs (fun u e => Option.some.inj e), hJ.d6, hJ.d7, hJ.wA, hJ.wB, hJ.wC⟩)
                                   clear hJ hdep hv h0 hK
                                   generalize a.eval = ρ at *
                                   simp [go_sem, execOp, *]
                                 case d14 =>
                                   intro L f a wz hJ hLi hdep hv h0 K hK
                                   have hL4 := hdep 4 (List.mem_of_elem_eq_true (by kernel_rfl))
                                   have e90 := (hv 4 90 rfl hL4).trans (hJ.vs 4 _ rfl hL4)
                                   have hL13 := hdep 13 (List.mem_of_elem_eq_true (by kernel_rfl))
                                   have e99 := (hv 13 99 rfl hL13).trans (hJ.vs 13 _ rfl hL13)
                                   have eC : a.eval (.const (.bool true)) = .bool true := rfl
                                   refine step_val rfl (v := .bool true) (w' := wz) ?_ (hK _ _ ⟨vsAddN hJ.vs (fun u e => Option.some.inj e), hJ.d6, hJ.d7, hJ.wA, hJ.wB, hJ.wC⟩)
                                   clear hJ hdep hv h0 hK
                                   generalize a.eval = ρ at *
                                   simp [go_sem, execOp, *]
                                 case d15 =>
                                   intro L f a wz hJ hLi hdep hv h0 K hK
                                   have hL14 := hdep 14 (List.mem_of_elem_eq_true (by kernel_rfl))
                                   have e100 := (hv 14 100 rfl hL14).trans (hJ.vs 14 _ rfl hL14)
                                   refine step_val rfl (v := .bool true) (w' := wz) ?_ (hK _ _ ⟨vsAddN hJ.vs (fun u e => Option.some.inj e), hJ.d6, hJ.d7, hJ.wA, hJ.wB, hJ.wC⟩)
                                   clear hJ hdep hv h0 hK
                                   generalize a.eval = ρ at *
                                   simp [go_sem, execOp, *]
                                 case d16 =>
                                   intro L f a wz hJ hLi hdep hv h0 K hK
                                   have hL15 := hdep 15 (List.mem_of_elem_eq_true (by kernel_rfl))
                                   have ej := (hv 15 101 rfl hL15).trans (hJ.vs 15 _ rfl hL15)
                                   exact step_unG rfl (yielded_of (b := true) rfl ej) (by decide) (hK _ _ ⟨vsAddN hJ.vs (fun u e => absurd (show (none : Option Value) = some u from e) (by simp)), hJ.d6, hJ.d7, hJ.wA, hJ.wB, hJ.wC⟩)
                                 case d17 =>
                                   intro L f a wz hJ hLi hdep hv h0 K hK
                                   have hL15 := hdep 15 (List.mem_of_elem_eq_true (by kernel_rfl))
                                   have ej := (hv 15 101 rfl hL15).trans (hJ.vs 15 _ rfl hL15)
                                   exact step_unG rfl (yielded_of (b := true) rfl ej) (by decide) (hK _ _ ⟨vsAddN hJ.vs (fun u e => absurd (show (none : Option Value) = some u from e) (by simp)), hJ.d6, hJ.d7, hJ.wA, hJ.wB, hJ.wC⟩)
                                 case d18 =>
                                   intro L f a wz hJ hLi hdep hv h0 K hK
                                   have hL15 := hdep 15 (List.mem_of_elem_eq_true (by kernel_rfl))
                                   have ej := (hv 15 101 rfl hL15).trans (hJ.vs 15 _ rfl hL15)
                                   exact step_unG rfl (yielded_of (b := true) rfl ej) (by decide) (hK _ _ ⟨vsAddN hJ.vs (fun u e => absurd (show (none : Option Value) = some u from e) (by simp)), hJ.d6, hJ.d7, hJ.wA, hJ.wB, hJ.wC⟩)
                                 case d19 =>
                                   intro L f a wz hJ hLi hdep hv h0 K hK
                                   have hL15 := hdep 15 (List.mem_of_elem_eq_true (by kernel_rfl))
                                   have e101 := (hv 15 101 rfl hL15).trans (hJ.vs 15 _ rfl hL15)
                                   have eC : a.eval (.const (.bool true)) = .bool true := rfl
                                   refine step_val rfl (v := .bool true) (w' := wz) ?_ (hK _ _ ⟨vsAddN hJ.vs (fun u e => Option.some.inj e), hJ.d6, hJ.d7, hJ.wA, hJ.wB, hJ.wC⟩)
                                   clear hJ hdep hv h0 hK
                                   generalize a.eval = ρ at *
                                   simp [go_sem, execOp, *])
                case steps =>
                  refine AllAt.cons 1 ?s0 (AllAt.cons 2 ?s1 (AllAt.cons 3 ?s2 (AllAt.cons 4 ?s3 (AllAt.cons 5 ?s4 (AllAt.cons 6 ?s5 (AllAt.cons 7 ?s6 (AllAt.cons 8 ?s7 (AllAt.cons 9 ?s8 (AllAt.cons 10 ?s9 (AllAt.cons 11 ?s10 (AllAt.cons 12 ?s11 (AllAt.cons 13 ?s12 AllAt.nil rfl) rfl) rfl) rfl) rfl) rfl) rfl) rfl) rfl) rfl) rfl) rfl) rfl
                  case s0 =>
                    intro L f a wz hJ hLi hdep hv h0 K hK
                    have e7 : a.eval (.tmp 7) = .slice (some ⟨wb, wo, none⟩) ws.length wc := (h0 7 (noDst_spec (by kernel_rfl))).trans rfl
                    refine step_val rfl (v := .slice (some ⟨wb, wo, none⟩) ws.length wc) (w' := wz) ?_ (hK _ _ ⟨vsAddN hJ.vs (fun u e => Option.some.inj e), hJ.d12, hJ.wA, hJ.wB, hJ.wC⟩)
                    clear hJ hdep hv h0 hK
                    generalize a.eval = ρ at *
                    simp [go_sem, execOp, *]
                  case s1 =>
                    intro L f a wz hJ hLi hdep hv h0 K hK
                    have hL0 := hdep 0 (List.mem_of_elem_eq_true (by kernel_rfl))
                    have e49 := (hv 0 49 rfl hL0).trans (hJ.vs 0 _ rfl hL0)
                    have eC : a.eval (.const (.int .i64 0)) = .int .i64 0 := rfl
                    refine step_val rfl (v := .pointer (some ⟨wb, wo, none⟩)) (w' := wz) ?_ (hK _ _ ⟨vsAddN hJ.vs (fun u e => Option.some.inj e), hJ.d12, hJ.wA, hJ.wB, hJ.wC⟩)
                    clear hJ hdep hv h0 hK
                    generalize a.eval = ρ at *
                    simp [go_sem, execOp, *]
                  case s2 =>
                    intro L f a wz hJ hLi hdep hv h0 K hK
                    have hL1 := hdep 1 (List.mem_of_elem_eq_true (by kernel_rfl))
                    have e50 := (hv 1 50 rfl hL1).trans (hJ.vs 1 _ rfl hL1)
                    obtain ⟨k0, k1, k2⟩ := HC0.out wz (hJ.below (fun _ h => h.1))
                    refine step_val rfl (v := .string x0) (w' := wz) ?_ (hK _ _ ⟨vsAddN hJ.vs (fun u e => Option.some.inj e), hJ.d12, hJ.wA, hJ.wB, hJ.wC⟩)
                    clear hJ hdep hv h0 hK
                    generalize a.eval = ρ at *
                    simp [go_sem, execOp, *]
                  case s3 =>
                    intro L f a wz hJ hLi hdep hv h0 K hK
                    have e7 : a.eval (.tmp 7) = .slice (some ⟨wb, wo, none⟩) ws.length wc := (h0 7 (noDst_spec (by kernel_rfl))).trans rfl
                    refine step_val rfl (v := .slice (some ⟨wb, wo, none⟩) ws.length wc) (w' := wz) ?_ (hK _ _ ⟨vsAddN hJ.vs (fun u e => Option.some.inj e), hJ.d12, hJ.wA, hJ.wB, hJ.wC⟩)
                    clear hJ hdep hv h0 hK
                    generalize a.eval = ρ at *
                    simp [go_sem, execOp, *]
                  case s4 =>
                    intro L f a wz hJ hLi hdep hv h0 K hK
                    have hL3 := hdep 3 (List.mem_of_elem_eq_true (by kernel_rfl))
                    have e52 := (hv 3 52 rfl hL3).trans (hJ.vs 3 _ rfl hL3)
                    have eC : a.eval (.const (.int .i64 1)) = .int .i64 1 := rfl
                    refine step_val rfl (v := .pointer (some ⟨wb, wo + 1, none⟩)) (w' := wz) ?_ (hK _ _ ⟨vsAddN hJ.vs (fun u e => Option.some.inj e), hJ.d12, hJ.wA, hJ.wB, hJ.wC⟩)
                    clear hJ hdep hv h0 hK
                    generalize a.eval = ρ at *
                    simp [go_sem, execOp, *]
                  case s5 =>
                    intro L f a wz hJ hLi hdep hv h0 K hK
                    have hL4 := hdep 4 (List.mem_of_elem_eq_true (by kernel_rfl))
                    have e53 := (hv 4 53 rfl hL4).trans (hJ.vs 4 _ rfl hL4)
                    obtain ⟨k0, k1, k2⟩ := HC0.out wz (hJ.below (fun _ h => h.1))
                    refine step_val rfl (v := .string x1) (w' := wz) ?_ (hK _ _ ⟨vsAddN hJ.vs (fun u e => Option.some.inj e), hJ.d12, hJ.wA, hJ.wB, hJ.wC⟩)
                    clear hJ hdep hv h0 hK
                    generalize a.eval = ρ at *
                    simp [go_sem, execOp, *]
                  case s6 =>
                    intro L f a wz hJ hLi hdep hv h0 K hK
                    have e7 : a.eval (.tmp 7) = .slice (some ⟨wb, wo, none⟩) ws.length wc := (h0 7 (noDst_spec (by kernel_rfl))).trans rfl
                    refine step_val rfl (v := .slice (some ⟨wb, wo, none⟩) ws.length wc) (w' := wz) ?_ (hK _ _ ⟨vsAddN hJ.vs (fun u e => Option.some.inj e), hJ.d12, hJ.wA, hJ.wB, hJ.wC⟩)
                    clear hJ hdep hv h0 hK
                    generalize a.eval = ρ at *
                    simp [go_sem, execOp, *]
                  case s7 =>
                    intro L f a wz hJ hLi hdep hv h0 K hK
                    have hL6 := hdep 6 (List.mem_of_elem_eq_true (by kernel_rfl))
                    have e55 := (hv 6 55 rfl hL6).trans (hJ.vs 6 _ rfl hL6)
                    have eC : a.eval (.const (.int .i64 2)) = .int .i64 2 := rfl
                    refine step_val rfl (v := .pointer (some ⟨wb, wo + 2, none⟩)) (w' := wz) ?_ (hK _ _ ⟨vsAddN hJ.vs (fun u e => Option.some.inj e), hJ.d12, hJ.wA, hJ.wB, hJ.wC⟩)
                    clear hJ hdep hv h0 hK
                    generalize a.eval = ρ at *
                    simp [go_sem, execOp, *]
                  case s8 =>
                    intro L f a wz hJ hLi hdep hv h0 K hK
                    have hL7 := hdep 7 (List.mem_of_elem_eq_true (by kernel_rfl))
                    have e56 := (hv 7 56 rfl hL7).trans (hJ.vs 7 _ rfl hL7)
                    obtain ⟨k0, k1, k2⟩ := HC0.out wz (hJ.below (fun _ h => h.1))
                    refine step_val rfl (v := .string x2) (w' := wz) ?_ (hK _ _ ⟨vsAddN hJ.vs (fun u e => Option.some.inj e), hJ.d12, hJ.wA, hJ.wB, hJ.wC⟩)
                    clear hJ hdep hv h0 hK
                    generalize a.eval = ρ at *
                    simp [go_sem, execOp, *]
                  case s9 =>
                    intro L f a wz hJ hLi hdep hv h0 K hK
                    have hL2 := hdep 2 (List.mem_of_elem_eq_true (by kernel_rfl))
                    have e51 := (hv 2 51 rfl hL2).trans (hJ.vs 2 _ rfl hL2)
                    have hL5 := hdep 5 (List.mem_of_elem_eq_true (by kernel_rfl))
                    have e54 := (hv 5 54 rfl hL5).trans (hJ.vs 5 _ rfl hL5)
                    have hL8 := hdep 8 (List.mem_of_elem_eq_true (by kernel_rfl))
                    have e57 := (hv 8 57 rfl hL8).trans (hJ.vs 8 _ rfl hL8)
                    refine step_val rfl (v := .agg #[.string x0, .string x1, .string x2]) (w' := wz) ?_ (hK _ _ ⟨vsAddN hJ.vs (fun u e => Option.some.inj e), hJ.d12, hJ.wA, hJ.wB, hJ.wC⟩)
                    clear hJ hdep hv h0 hK
                    generalize a.eval = ρ at *
                    simp [go_sem, execOp, *]
                  case s10 =>
                    intro L f a wz hJ hLi hdep hv h0 K hK
                    have hL9 := hdep 9 (List.mem_of_elem_eq_true (by kernel_rfl))
                    have e58 := (hv 9 58 rfl hL9).trans (hJ.vs 9 _ rfl hL9)
                    refine step_val rfl (v := .agg #[.string x0, .string x1, .string x2, .slice none 0 0]) (w' := wz) ?_ (hK _ _ ⟨vsAddN hJ.vs (fun u e => Option.some.inj e), hJ.d12, hJ.wA, hJ.wB, hJ.wC⟩)
                    clear hJ hdep hv h0 hK
                    generalize a.eval = ρ at *
                    simp [go_sem, execOp, *]
                  case s11 =>
                    intro L f a wz hJ hLi hdep hv h0 K hK
                    obtain rfl := hJ.wA hLi
                    have eY : w2.drew.heap.size = w2.heap.size := rfl
                    refine step_val rfl (v := .pointer (some ⟨w2.heap.size, 0, none⟩)) (w' := w2.drew.alloc (.cells #[.string ⟨#[]⟩, .string ⟨#[]⟩, .string ⟨#[]⟩, .slice none 0 0] 28)) ?_ (hK _ _ ⟨vsAddN hJ.vs (fun u e => Option.some.inj e), fun _ => rfl, fun e => (by cases e), fun _ _ => rfl, fun e => (bFalse hLi (hJ.d12 e)).elim⟩)
                    clear hJ hdep hv h0 hK
                    generalize a.eval = ρ at *
                    simp [go_sem, execOp, *]
                  case s12 =>
                    intro L f a wz hJ hLi hdep hv h0 K hK
                    have hL10 := hdep 10 (List.mem_of_elem_eq_true (by kernel_rfl))
                    have e59 := (hv 10 59 rfl hL10).trans (hJ.vs 10 _ rfl hL10)
                    have hL11 := hdep 11 (List.mem_of_elem_eq_true (by kernel_rfl))
                    have e8 := (hv 11 8 rfl hL11).trans (hJ.vs 11 _ rfl hL11)
                    obtain rfl := hJ.wB hL11 hLi
                    have hx := heap_alloc_new w2.drew (.cells #[.string ⟨#[]⟩, .string ⟨#[]⟩, .string ⟨#[]⟩, .slice none 0 0] 28)
                    have hf := set4R (c0 := .string x0) (c1 := .string x1) (c2 := .string x2) (c3 := .slice none 0 0) hx
                    refine step_skip rfl (w' := ((((w2.drew.alloc (.cells #[.string ⟨#[]⟩, .string ⟨#[]⟩, .string ⟨#[]⟩, .slice none 0 0] 28)).setCell ⟨w2.heap.size, 0, none⟩ (.string x0)).setCell ⟨w2.heap.size, 1, none⟩ (.string x1)).setCell ⟨w2.heap.size, 2, none⟩ (.string x2)).setCell ⟨w2.heap.size, 3, none⟩ (.slice none 0 0)) ?_ (hK _ _ ⟨vsAddN hJ.vs (fun u e => absurd (show (none : Option Value) = some u from e) (by simp)), fun _ => hL11, fun e => (bFalse e hL11).elim, fun _ e => (by cases e), fun _ => ⟨(((((Below.refl _ w2).drew.alloc (Nat.le_refl _) _).setCell (Nat.le_refl _) _).setCell (Nat.le_refl _) _).setCell (Nat.le_refl _) _).setCell (Nat.le_refl _) _, hf⟩⟩)
                    have m0 := mem_cells hx 0
                    have m1 := mem_cells hx 1
                    have m2 := mem_cells hx 2
                    have m3 := mem_cells hx 3
                    have z0 := frozen_cells hx 0
                    have z1 := frozen_cells hx 1
                    have z2 := frozen_cells hx 2
                    have z3 := frozen_cells hx 3
                    clear hJ hdep hv h0 hK
                    generalize a.eval = ρ at *
                    simp [go_sem, execOp, *]
              · have HE := Lib.hid (HBAD.out (.inr (.inl (by
                  cases hl : lineR (bl (t.extract k e)) with
                  | none => rfl
                  | some r =>
                    obtain ⟨m, h1, h2⟩ := (lineR_words hl).2
                    rw [← HWL.out, List.length_map] at h2
                    exact absurd ⟨m, h1, h2⟩ hm))))
                have HB3 := Lib.hid (pure_trans HBR.out HB2.out)
                by_cases h6 : ws.length < 6
                · have h6i : (ws.length : Int) < 6 := by omega
                  go_wp2
                  go_ret3
                  exact ⟨HB3.out, .inr (.inr ⟨H64.out, _, HE.out, rfl⟩)⟩
                · have h6i : ¬ ((ws.length : Int) < 6) := by omega
                  have h3 := Lib.hid (show 1 ≤ ws.length % 3 from Nat.pos_of_ne_zero (fun h => hm ⟨ws.length / 3 - 1, by omega, by omega⟩))
                  have h3a : (((ws.length : Int) % 3) != 0) = true := by
                    rw [bne_iff_ne]
                    intro h
                    have := h3.out
                    omega
                  clear hm
                  go_wp2
                  go_ret3
                  exact ⟨HB3.out, .inr (.inr ⟨H64.out, _, HE.out, rfl⟩)⟩
    · obtain rfl : k = t.size := by omega
      have HE := Lib.hid (show parsL t.size (bl t) [] = (some rs, 0) from by
        obtain ⟨g, hg, h⟩ := H2.out.rd
        rw [h, List.drop_eq_nil_of_le (show (bl t).length ≤ t.size from Nat.le_refl _), parsL_end])
      go_wp2
      go_ret3
      exact ⟨H2.out.bl', .inr (.inl ⟨H64.out, rs, _, HE.out, rfl, tRuls.mono _ _ _ _ (Mem.on_le _ (W.heap.size ≤ ·)) (H2.out.own.rv (fun _ h => h) (fun _ h => h))⟩)⟩
end Go.Proofs.YtafeaeaildfohaaGreatDoor
