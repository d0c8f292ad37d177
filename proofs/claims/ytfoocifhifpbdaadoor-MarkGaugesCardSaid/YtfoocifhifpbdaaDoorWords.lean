/- Lists of texts of the call's own; the reference's Words. -/
import Derived.Test.YtfoocifhifpbdaaDoorGText
import Derived.Test.YtfoocifhifpbdaaDoorRows
import Derived.StillTailTactics
import Derived.IntWalk
import Derived.Laws.Rows
namespace Go.Proofs.YtfoocifhifpbdaaDoor
open Go.RowKit

theorem Tryd.infoStr2 : (Tryd.prog.info? 9).map (fun i => (i.zero, i.size, i.bytes)) = some (some (.string ⟨#[]⟩), tStr.sz, 16) := by kernel_rfl
/-- Append of one text. -/
theorem wpList_append_str2 {P : Program} {ops : Array Oper} {rest : List Oper} {o : Oper} {a : Act} {Q : Exit → Act → World → Prop} {w : World} (hgd : o.guard = none) (s x : Operand) (T : TypeId)
    (ho : o.op = .call { callee := .builtin .append, args := #[s, x], argTypes := #[T, T] }) {e : TypeId} (hT : P.underlying T = some (.slice e))
    (hinf : (P.info? e).map (fun i => (i.zero, i.size, i.bytes)) = some (some (.string ⟨#[]⟩), tStr.sz, 16)) (B : Nat) (v : Value) (xs : List ByteArray) (hs : a.eval s = v) (hown : Owns tStr w B e v xs)
    (nb c : Nat) (y : ByteArray) (hx : a.eval x = .slice (some ⟨nb, 0, none⟩) 1 c) (hc : w.cell? ⟨nb, 0, none⟩ = some (.string y)) (hin : y.size ≤ maxLen) (hlen : xs.length ≤ 1000000000) (hbase : B ≤ w.heap.size)
    (h : ∀ v' w', Owns tStr w' B e v' (xs ++ [y]) → w.grownBy w' v.ownBlock → (v'.ownBlock = v.ownBlock ∨ ∀ k, v'.ownBlock = some k → w.heap.size ≤ k) → wpList P ops Q rest (a.put o.dst v') w') : wpList P ops Q (o :: rest) a w :=
  wpList_append_one hgd s x T ho tStr hT hinf rfl (by decide) B v xs hs hown nb c y hx [.string y] (fun j u hj => by match j, hj with | 0, hj => simp at hj; subst hj; exact hc) ⟨rfl, hin⟩ (fun u hu => by simp at hu; subst hu; rfl) (by unfold maxLen; omega) (by omega) hbase h

/-- An owned row of elements of one cell: where it lies. -/
theorem owns_block {α : Type} {t : Ty α} {w : World} {B : Nat} {e : TypeId} {v : Value} {xs : List α} (h : Owns t w B e v xs) (hpos : 0 < xs.length) :
    ∃ g cap cur, v = .slice (some ⟨g, 0, none⟩) xs.length cap ∧ B ≤ g ∧ w.heap[g]? = some (.cells cur e (0, 0)) ∧ xs.length ≤ cap ∧ cap ≤ maxLen ∧ cur.size = cap * t.sz := by
  obtain ⟨css, h1, ⟨h2, h3⟩, h4, h5⟩ := h
  rcases h3 with ⟨rfl, h6⟩ | ⟨g, cap, cur, rfl, hg, hh, hn, hm, hc, ht⟩
  · omega
  · exact ⟨g, cap, cur, rfl, hg, hh, hn, hm, hc⟩
theorem flat_single (l : List ByteArray) : (l.map (fun x => [Value.string x])).flatten = l.map Value.string := by
  induction l with
  | nil => rfl
  | cons x l ih => rw [List.map_cons, List.flatten_cons, ih]; rfl
/-- One text of an owned row is written anew. -/
theorem owns_set {w : World} {B : Nat} {e : TypeId} {g cap : Nat} {n : Nat} {xs : List ByteArray} (h : Owns tStr w B e (.slice (some ⟨g, 0, none⟩) n cap) xs) {k : Nat} (hk : k < xs.length) {y : ByteArray} (hy : y.size ≤ maxLen) :
    Owns tStr (w.setCell ⟨g, k, none⟩ (.string y)) B e (.slice (some ⟨g, 0, none⟩) n cap) (xs.set k y) := by
  obtain ⟨css, h1, ⟨h2, h3⟩, h4, h5⟩ := h
  rcases h3 with ⟨e1, h6⟩ | ⟨g', cap', cur, e1, hg, hh, hn, hm, hc, ht⟩
  · omega
  injection e1 with e2 e3 e4
  injection e2 with e2
  injection e2 with e5 e6
  subst e5; subst e3; subst e4
  have one : ∀ k (h : k < css.length) (h' : k < xs.length), css[k] = [.string xs[k]] := fun k h h' => (h5 k h h').1
  have hfl : css.flatten = xs.map Value.string := by
    have : css = xs.map (fun x => [Value.string x]) := by
      apply List.ext_getElem (by simp [h1])
      intro i hi hi'
      rw [one i hi (by omega), List.getElem_map]
    rw [this, flat_single]
  have hsz : tStr.sz = 1 := rfl
  have hkc : k < cur.size := by rw [hc, hsz]; omega
  refine ⟨(xs.set k y).map (fun x => [Value.string x]), by simp, ⟨?_, .inr ⟨g, cap, cur.setIfInBounds k (.string y), by rw [List.length_set], hg, ?_, by simpa using hn, hm, by simpa using hc, ?_⟩⟩, fun c hc => ?_, fun j h h' => ?_⟩
  · rw [flat_single, List.length_map, List.length_set, hsz, Nat.mul_one]
  · exact heap_setCell_same w g k cur e (.string y) hh
  · rw [flat_single, hsz, Nat.mul_one, List.length_set, Array.toList_setIfInBounds, List.take_set]
    rw [hsz, Nat.mul_one] at ht
    rw [ht, hfl, List.map_set]
  · obtain ⟨x, _, rfl⟩ := List.mem_map.1 hc; rfl
  · rw [List.getElem_map]
    refine ⟨rfl, ?_⟩
    by_cases e : j = k
    · subst e; rw [List.getElem_set_self]; exact hy
    · rw [List.getElem_set_ne (fun e' => e e'.symm)]
      have h'' : j < xs.length := by simpa using h'
      exact (h5 j (by omega) h'').2

theorem owns_one_str (w : World) (y : ByteArray) (T : TypeId) (hy : y.size ≤ maxLen) : Owns tStr (w.alloc (.cells #[.string y] T)) w.heap.size T (.slice (some ⟨w.heap.size, 0, none⟩) 1 1) [y] :=
  ⟨[[.string y]], rfl, ⟨rfl, .inr ⟨w.heap.size, 1, #[.string y], rfl, Nat.le_refl _, heap_alloc_new w _, Nat.le_refl _, by unfold maxLen; decide, rfl, rfl⟩⟩, fun c hc => by simp at hc; subst hc; rfl,
    fun k h h' => by
      have hk : k = 0 := by simp at h'; exact h'
      subst hk
      exact ⟨rfl, hy⟩⟩

def bl (x : ByteArray) : List UInt8 := x.data.toList
theorem wordsOf_cons32 {acc l : List UInt8} {k : Nat} (hk : k < l.length) (h : l[k] = 32) : wordsOf acc (l.drop k) = acc :: wordsOf [] (l.drop (k + 1)) := by
  rw [List.drop_eq_getElem_cons hk, wordsOf, if_pos h]
theorem wordsOf_consx {acc l : List UInt8} {k : Nat} (hk : k < l.length) (h : l[k] ≠ 32) : wordsOf acc (l.drop k) = wordsOf (acc ++ [l[k]]) (l.drop (k + 1)) := by
  rw [List.drop_eq_getElem_cons hk, wordsOf, if_neg h]
theorem bl_app (x s : ByteArray) (k : Nat) (hk : k < s.size) : bl (x ++ s.extract k (k + 1)) = bl x ++ [s[k]] := by
  unfold bl
  have hk' : k < s.data.toList.length := hk
  have e : (s.extract k (k + 1)).data.toList = [s[k]] := by
    rw [Lib.extract_data, show k + 1 - k = 1 by omega, List.drop_eq_getElem_cons hk']
    rfl
  rw [ByteArray.data_append, Array.toList_append, e]

set_option maxRecDepth 100000 in
set_option maxHeartbeats 4000000 in
theorem words_any (s : ByteArray) (w : World) (hs : s.size ≤ 100) :
    Calls Tryd.prog 26 #[.string s] w fun e w' => ∃ ov ws, e = .returned ov ∧ Owns tStr w' w.heap.size 9 ov ws ∧ ws.map bl = wordsOf [] (bl s) ∧ (∀ x ∈ ws, x.size ≤ 100) ∧ Below w.heap.size w w' := by
  have hl : (bl s).length = s.size := rfl
  have HL := Lib.hid hl
  have h0 := Lib.hid (owns_one_str w ⟨#[]⟩ 9 (by unfold maxLen; decide))
  go_enter Tryd.func26, Tryd.ntmps26
  go_wp2
  go_loopw [3, 4] (fun ov i wr => ∃ k : Nat, k ≤ s.size ∧ i = .int .i64 k ∧ ∃ ds cur, Owns tStr wr w.heap.size 9 ov (ds ++ [cur]) ∧ Hid (wordsOf [] (bl s) = ds.map bl ++ wordsOf (bl cur) ((bl s).drop k)) ∧ cur.size ≤ k ∧ Hid (∀ x ∈ ds, x.size ≤ 100) ∧ ds.length ≤ k ∧ Below w.heap.size w wr) (fun _ i _ => s.size - (intOf i).toNat)
  case atStart => exact ⟨0, by omega, rfl, [], ⟨#[]⟩, h0.out, Lib.hid (by simp [bl]), Nat.le_refl _, Lib.hid (by simp), Nat.le_refl _, (Below.refl _ _).alloc (Nat.le_refl _) _⟩
  case round =>
    obtain ⟨k, hk, rfl, ds, cur, hown, HW, hcs, HD, hdl, hB⟩ := hrel
    have hws : w.heap.size ≤ wr.heap.size := hB.size
    have hlen : (ds ++ [cur]).length = ds.length + 1 := by simp
    by_cases hlt : k < s.size
    · have hcd : (bl s)[k]'(by rw [HL.out]; exact hlt) = s[k] := rfl
      have HA := Lib.hid (fun h => wordsOf_cons32 (acc := bl cur) (l := bl s) (k := k) (by rw [HL.out]; exact hlt) h)
      have HX := Lib.hid (fun h => wordsOf_consx (acc := bl cur) (l := bl s) (k := k) (by rw [HL.out]; exact hlt) h)
      rw [hcd] at HA HX
      by_cases h32 : s[k] = 32
      · have e1 : (((s[k]).toNat : Int) == 32) = true := by rw [h32]; rfl
        have HN := Lib.hid (show wordsOf [] (bl s) = (ds ++ [cur]).map bl ++ wordsOf (bl ⟨#[]⟩) ((bl s).drop (k + 1)) by
          rw [HW.out, HA.out h32]; simp [bl])
        have HDN := Lib.hid (show ∀ x ∈ ds ++ [cur], x.size ≤ 100 from fun x hx => by
          rcases List.mem_append.1 hx with hx | hx
          · exact HD.out x hx
          · simp at hx; subst hx; omega)
        have HLN := Lib.hid hlen
        clear HA HX h32 hcd HW hlen
        generalize ds ++ [cur] = es at *
        go_wp2_with (at_builtin; refine wpList_append_str2 rfl _ _ 55 rfl Tryd.underlying55 Tryd.infoStr2 w.heap.size _ es rfl (hown.alloc _) _ _ ⟨#[]⟩ rfl ?c1 ?c2 ?c3 ?c4 ?_)
        case c1 => simp
        case c2 => unfold maxLen; decide
        case c3 => rw [HLN.out]; omega
        case c4 => simp; omega
        intro v' w3 hown' hgrow _
        have hB3 : Below w.heap.size w w3 := (hB.alloc hws _).grown hgrow (by simp; omega) (fun k hk => (hown.lt k hk).1)
        clear hown hgrow hB
        go_wp2
        go_roundw
        case rel => exact ⟨k + 1, by omega, by go_num, es, ⟨#[]⟩, hown', HN, Nat.zero_le _, HDN, by rw [HLN.out]; omega, hB3⟩
        case measure => simp [intOf]; omega
      · have e1 : (((s[k]).toNat : Int) == 32) = false := by
          simp only [beq_eq_false_iff_ne]
          intro e
          exact h32 (UInt8.toNat_inj.1 (by show (s[k]).toNat = 32; omega))
        have HN := Lib.hid (show wordsOf [] (bl s) = ds.map bl ++ wordsOf (bl (cur ++ s.extract k (k + 1))) ((bl s).drop (k + 1)) by
          rw [HW.out, HX.out h32, bl_app cur s k hlt])
        obtain ⟨g, cap, cells, rfl, hg, hh, hc1, hc2, _⟩ := owns_block hown (by rw [hlen]; omega)
        obtain ⟨b', o', e', hat⟩ := slice_at hown.rv' (k := ds.length) (by rw [hlen]; omega)
        injection e' with e'
        injection e' with e2 e3
        subst e2; subst e3
        have hcell0 := (str_at hat).1
        have hcell : wr.cell? ⟨g, ds.length, none⟩ = some (.string cur) := by
          have e4 : (ds ++ [cur])[ds.length]'(by rw [hlen]; omega) = cur := by simp
          rw [e4] at hcell0
          have e5 : 0 + ds.length * tStr.sz = ds.length := by show 0 + ds.length * 1 = _; omega
          rw [e5] at hcell0
          exact hcell0
        have hfr := frozen_cells hh ds.length
        have hset := owns_set hown (k := ds.length) (by rw [hlen]; omega) (y := cur ++ s.extract k (k + 1)) (by rw [ByteArray.size_append, ByteArray.size_extract]; unfold maxLen; omega)
        have e6 : (ds ++ [cur]).set ds.length (cur ++ s.extract k (k + 1)) = ds ++ [cur ++ s.extract k (k + 1)] := by simp
        rw [e6, hlen] at hset
        have hsz : (cur ++ s.extract k (k + 1)).size ≤ k + 1 := by rw [ByteArray.size_append, ByteArray.size_extract]; omega
        have HSZ := Lib.hid hsz
        have HSET := Lib.hid hset
        have hno : ¬ 9223372036854775807 < cur.size + (k + 1 - k) := by omega
        have hno2 : ¬ 9223372036854775807 < cur.size + 1 := by omega
        rw [hlen] at hc1 ⊢
        unfold maxLen at hc2
        have hB3 : Below w.heap.size w (wr.setCell ⟨g, ds.length, none⟩ (.string (cur ++ s.extract k (k + 1)))) := hB.setCell hg _
        have HB3 := Lib.hid hB3
        clear hset hsz hat hcell0 hown HA HX hcd HW hh hB h32 e6 hB3 hlen
        have s2 : IntKind.i64.wrap ((ds.length : Int) + 1 - 1) = ds.length := by rw [IntWalk.i64_in _ (by omega)]; omega
        have s3 : IntKind.i64.wrap ((k : Int) + 1) = k + 1 := IntWalk.i64_in _ (by omega)
        have s4 : IntKind.i64.wrap (ds.length : Int) = ds.length := IntWalk.i64_in _ (by omega)
        have s5 : ds.length < ds.length + 1 := by omega
        have s6 : (ds.length : Int) < (ds.length : Int) + 1 := by omega
        have s7 : (0 : Int) ≤ ds.length := by omega
        have hsl := fun (wx : World) => run_slice_string (P := Tryd.prog) wx 9 s .i64 .i64 (k : Int) ((k : Int) + 1) Tryd.underlying9 (by omega) (by omega) (by omega)
        have ek : ((k : Int) + 1).toNat = k + 1 := by omega
        simp only [Int.toNat_natCast, ek] at hsl
        clear ek
        have hno3 : ¬ 9223372036854775807 < cur.size + (min (k + 1) s.size - k) := by omega
        go_wp2
        go_still_tail 17, (by kernel_rfl)
        change wpList _ _ _ _ _ wr.drew
        have hcd2 : wr.drew.cell? ⟨g, ds.length, none⟩ = some (.string cur) := hcell
        have hfd2 : wr.drew.frozen? ⟨g, ds.length, none⟩ = false := hfr
        clear hsl s2 s3 s4 s5 s6 s7 hno hno2 hno3
        go_wp2
        go_roundw
        case rel => exact ⟨k + 1, by omega, by go_num, ds, cur ++ s.extract k (k + 1), HSET.out.drew, HN, HSZ.out, HD, by omega, HB3.out.drew⟩
        case measure => simp [intOf]; omega
    · obtain rfl : k = s.size := by omega
      have hlen2 : ((bl s).drop s.size) = [] := List.drop_eq_nil_of_le (by rw [HL.out]; exact Nat.le_refl _)
      have HF := Lib.hid (show (ds ++ [cur]).map bl = wordsOf [] (bl s) by rw [HW.out, hlen2]; simp [wordsOf])
      have HDN := Lib.hid (show ∀ x ∈ ds ++ [cur], x.size ≤ 100 from fun x hx => by
        rcases List.mem_append.1 hx with hx | hx
        · exact HD.out x hx
        · simp at hx; subst hx; omega)
      obtain ⟨oa, oc, rfl, _⟩ := hown.len
      clear hlen2 HW HD
      go_wp2
      go_ret
      exact ⟨_, _, rfl, hown, HF.out, HDN.out, hB⟩
end Go.Proofs.YtfoocifhifpbdaaDoor
