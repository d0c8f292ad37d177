/- ParseGauge of the reference. -/
import Derived.Test.YtfoocifhifpbdaaDoorGParse
import Derived.Test.YtfoocifhifpbdaaDoorNumber
import Derived.Test.YtfoocifhifpbdaaDoorWords
namespace Go.Proofs.YtfoocifhifpbdaaDoor
open Go.RowKit

theorem parse_words {t b0 b1 : List UInt8} {q o0 o1 : Bool} {n k : Int} (hw : wordsOf [] t = [b0, b1]) (hq : (b1 == closedL) = q) (h0 : numberOf b0 = (n, o0))
    (hk : q = false → numberOf b1 = (k, o1)) (hl : q = true → k = 1000000000001 ∧ o1 = true) :
    ((0 ≤ n ∧ n ≤ 1000000000) → (q = false → -1000000000000 ≤ k ∧ k ≤ 1000000000000 - n + 1) → gText n k q = t → parseG t = some (n, k, q)) ∧
    (¬ (o0 = true ∧ o1 = true ∧ (0 ≤ n ∧ n ≤ 1000000000) ∧ (q = false → -1000000000000 ≤ k ∧ k ≤ 1000000000000 - n + 1) ∧ gText n k q = t) → parseG t = none) := by
  refine ⟨fun h1 h2 h3 => ?_, fun h => parseG_none fun b m c hc e => h ?_⟩
  · rw [← h3]
    exact parseG_some ⟨h1.1, h1.2, fun h => (hl h).1, h2⟩
  · rw [← e, wordsOf_gText] at hw
    simp only [List.cons.injEq, and_true] at hw
    obtain ⟨e1, e2⟩ := hw
    have hb := hc.b0
    have hb1 := hc.b1
    rw [← e1, numberOf_itoa b (by omega) (by omega)] at h0
    injection h0 with h3 h4
    subst h3; subst h4
    rw [← e2, gTail_closed] at hq
    subst hq
    have hkm : k = m ∧ o1 = true := by
      cases c
      · obtain ⟨h1, h2⟩ := hc.op rfl
        have hk := hk rfl
        rw [← e2] at hk
        have e3 : gTail false m = Lib.itoa m := rfl
        rw [e3, numberOf_itoa m (by omega) (by omega)] at hk
        injection hk with h3 h4
        exact ⟨h3.symm, h4.symm⟩
      · exact ⟨by rw [(hl rfl).1, hc.cl rfl], (hl rfl).2⟩
    obtain ⟨rfl, rfl⟩ := hkm
    exact ⟨rfl, rfl, ⟨hc.b0, hc.b1⟩, hc.op, e⟩
theorem parse_count {t : List UInt8} (h : (wordsOf [] t).length ≠ 2) : parseG t = none :=
  parseG_none fun b m c _ e => h (by rw [← e, wordsOf_gText]; rfl)
theorem parse_long {t : List UInt8} (h : 100 < t.length) : parseG t = none :=
  parseG_none fun b m c hc e => by have := gText_len hc; rw [e] at this; omega

theorem two_strs {w : World} {B : Nat} {e : TypeId} {v : Value} {x0 x1 : ByteArray} (h : Owns tStr w B e v [x0, x1]) :
    ∃ g cap, v = .slice (some ⟨g, 0, none⟩) 2 cap ∧ cap ≤ 9223372036854775807 ∧ 2 ≤ cap ∧ w.cell? ⟨g, 0, none⟩ = some (.string x0) ∧ w.cell? ⟨g, 1, none⟩ = some (.string x1) := by
  obtain ⟨g, cap, cells, rfl, hg, hh, hc1, hc2, _⟩ := owns_block h (by simp)
  refine ⟨g, cap, rfl, by unfold maxLen at hc2; exact hc2, hc1, ?_, ?_⟩
  · obtain ⟨b', o', e', hat⟩ := slice_at h.rv' (k := 0) (by simp)
    injection e' with e'
    injection e' with e2 e3
    subst e2; subst e3
    have := (str_at hat).1
    have e4 : 0 + 0 * tStr.sz = 0 := by simp
    rw [e4] at this
    exact this
  · obtain ⟨b', o', e', hat⟩ := slice_at h.rv' (k := 1) (by simp)
    injection e' with e'
    injection e' with e2 e3
    subst e2; subst e3
    have := (str_at hat).1
    have e4 : 0 + 1 * tStr.sz = 1 := rfl
    rw [e4] at this
    exact this

set_option maxRecDepth 100000 in
set_option maxHeartbeats 8000000 in
theorem rparse_any (t : ByteArray) (w : World) (ht : t.size ≤ maxLen) (hT : Tryd.Tab w) :
    Calls Tryd.prog 7 #[.string t] w (ParsedAs w t) := by
  unfold maxLen at ht
  by_cases hlong : 65536 < t.size
  · have HL := Lib.hid hlong
    go_enter Tryd.func7, Tryd.ntmps7
    go_wp2_with fail
    go_ret2
    exact ParsedAs.long (Below.refl _ _) HL.out rfl
  have HL := Lib.hid hlong
  have hlen : t.data.toList.length = t.size := rfl
  by_cases h100 : 100 < t.size
  · have HP := Lib.hid (parse_long (t := t.data.toList) (by rw [hlen]; exact h100))
    clear hlen
    go_enter Tryd.func7, Tryd.ntmps7
    go_wp2_with fail
    go_ret2
    exact ParsedAs.bad (Below.refl _ _) HL.out HP.out rfl
  have HW := Lib.hid (words_any t w (by omega))
  clear hlen
  go_enter Tryd.func7, Tryd.ntmps7
  go_wp2_with fail
  refine HW.out.mono ?_
  rintro e w1 ⟨ov, ws, rfl, hown, hws, hsm, hB⟩
  clear HW
  by_cases h2 : ws.length = 2
  · obtain ⟨x0, x1, rfl⟩ : ∃ x0 x1, ws = [x0, x1] := by
      match ws, h2 with
      | [a, b], _ => exact ⟨a, b, rfl⟩
    obtain ⟨g, cap, rfl, hcap, hcap2, c0, c1⟩ := two_strs hown
    have hs0 : x0.size ≤ 100 := hsm x0 (by simp)
    have hs1 : x1.size ≤ 100 := hsm x1 (by simp)
    have hgl : g < w1.heap.size := mem_lt (w := w1) c0
    have HN0 := Lib.hid (fun wr => number_any x0 wr (by unfold maxLen; omega))
    have HN1 := Lib.hid (fun wr => number_any x1 wr (by unfold maxLen; omega))
    have HPW := Lib.hid (fun q o0 o1 n k => parse_words (t := t.data.toList) (b0 := bl x0) (b1 := bl x1) (q := q) (o0 := o0) (o1 := o1) (n := n) (k := k) hws.symm)
    have hqq : (x1.toList == closedL) = (bl x1 == closedL) := by rw [ByteArray.toList_eq]; rfl
    generalize hq : (bl x1 == closedL) = q at hqq
    have HQ := Lib.hid hq
    unfold closedL at hqq
    have hbl0 : x0.data.toList = bl x0 := rfl
    have hbl1 : x1.data.toList = bl x1 := rfl
    rw [hbl0] at HN0
    rw [hbl1] at HN1
    generalize h0 : numberOf (bl x0) = r0 at HN0
    generalize h1 : numberOf (bl x1) = r1 at HN1
    obtain ⟨n, o0⟩ := r0
    obtain ⟨k, o1⟩ := r1
    simp only at HN0 HN1
    have H0 := Lib.hid h0
    have H1 := Lib.hid h1
    have hwb := hB.size
    have HB := Lib.hid hB
    have HG := Lib.hid (fun (b m : Int) (c : Bool) => (GCells.made (w := w1) (b := b) (m := m) (c := c) 60))
    have HBA := Lib.hid (fun o => hB.alloc hwb o)
    clear hown hws hsm h2 hq hbl0 hbl1 h0 h1 hB
    cases o0
    · have HPB := Lib.hid (show parseG t.data.toList = none by
        cases q
        · exact (HPW.out false false o1 n k HQ.out H0.out (fun _ => H1.out) (fun h => by cases h)).2 (fun h => by cases h.1)
        · exact (HPW.out true false true n 1000000000001 HQ.out H0.out (fun h => by cases h) (fun _ => ⟨rfl, rfl⟩)).2 (fun h => by cases h.1))
      clear HPW HQ H0 H1 HN1
      go_wp2_with (first | (go_at_call_of 27 (Value.string x0); refine (HN0.out _).mono ?_; rintro e w' ⟨rfl, rfl⟩) | fail)
      go_ret2
      exact ParsedAs.bad (HBA.out _) HL.out HPB.out rfl
    · cases q
      · have hP := HPW.out false true o1 n k HQ.out H0.out (fun _ => H1.out) (fun h => by cases h)
        have HP1 := Lib.hid hP.1
        have HP2 := Lib.hid hP.2
        clear hP HPW HQ H0 H1
        cases o1
        · have HPB := Lib.hid (HP2.out (fun h => by cases h.2.1))
          go_wp2_with (first | (go_at_call_of 27 (Value.string x0); refine (HN0.out _).mono ?_; rintro e w' ⟨rfl, rfl⟩) | (go_at_call_of 27 (Value.string x1); refine (HN1.out _).mono ?_; rintro e w' ⟨rfl, rfl⟩) | fail)
          go_ret2
          exact ParsedAs.bad (HBA.out _) HL.out HPB.out rfl
        · by_cases h3 : 0 ≤ n ∧ n ≤ 1000000000
          · have HW1 := Lib.hid (fun w => (by have := rwithin_any n 0 1000000000 w; rw [decide_eq_true h3] at this; exact this : Calls Tryd.prog 28 #[.int .i64 n, .int .i64 0, .int .i64 1000000000] w fun e w' => e = .returned (.bool true) ∧ w = w'))
            have HH3 := Lib.hid h3
            obtain ⟨hn0, hn1⟩ := h3
            by_cases h4 : -1000000000000 ≤ k ∧ k ≤ 1000000000000 - n + 1
            · have HW2 := Lib.hid (fun w hi (hh : hi = 1000000000000 - n + 1) => (by subst hh; have := rwithin_any k (-1000000000000) (1000000000000 - n + 1) w; rw [decide_eq_true h4] at this; exact this : Calls Tryd.prog 28 #[.int .i64 k, .int .i64 (-1000000000000), .int .i64 hi] w fun e w' => e = .returned (.bool true) ∧ w = w'))
              have HH4 := Lib.hid h4
              clear h4
              have HOK := Lib.hid (show Gauge.ok ⟨n, k, false⟩ from ⟨hn0, hn1, by exact HH4.out.1, by have := HH4.out.2; show k ≤ _; omega⟩)
              have HTX := Lib.hid (fun wr (h : Below w.heap.size w wr) (hg : GCells wr w1.heap.size n k false) => rtext_any w1.heap.size ⟨n, k, false⟩ wr (hg.gauge HOK.out) (Tryd.tabStays hT h))
              have HTT := Lib.hid (show (Gauge.text ⟨n, k, false⟩).data.toList = gText n k false from rfl)
              generalize Gauge.text ⟨n, k, false⟩ = tx at HTX HTT
              by_cases h5 : tx.toList = t.toList
              · have e3 : (tx.toList == t.toList) = true := by simp [h5]
                have e3n : (tx.toList != t.toList) = false := by simp [h5]
                have HF := Lib.hid (HP1.out HH3.out (fun _ => HH4.out) (by rw [← HTT.out]; rw [ByteArray.toList_eq, ByteArray.toList_eq] at h5; exact h5))
                clear h5
                go_wp2_with (first | (go_at_call_of 27 (Value.string x0); refine (HN0.out _).mono ?_; rintro e w' ⟨rfl, rfl⟩) | (go_at_call_of 27 (Value.string x1); refine (HN1.out _).mono ?_; rintro e w' ⟨rfl, rfl⟩) | (go_at_call_of 28 (Value.int .i64 1000000000); refine (HW1.out _).mono ?_; rintro e w' ⟨rfl, rfl⟩) | (go_at_call_of 28 (Value.int .i64 k); refine (HW2.out _ _ (by first | rfl | omega)).mono ?_; rintro e w' ⟨rfl, rfl⟩) | (go_at_call 20; refine (HTX.out _ (HBA.out _) (HG.out _ _ _)).mono ?_; rintro e w4 ⟨rfl, hb4⟩) | fail)
                go_ret2
                exact ParsedAs.good ((HBA.out _).trans (hb4.mono (by have := (HBA.out (.cells #[] 0)).size; simp at this ⊢; omega))) HL.out HF.out hwb rfl (((HG.out _ _ _).below hb4).gauge HOK.out)
              · have e3 : (tx.toList == t.toList) = false := by simp [h5]
                have e3n : (tx.toList != t.toList) = true := by simp [h5]
                have HPB := Lib.hid (HP2.out (fun h => h5 (by rw [ByteArray.toList_eq, ByteArray.toList_eq]; exact HTT.out.trans h.2.2.2.2)))
                clear h5
                go_wp2_with (first | (go_at_call_of 27 (Value.string x0); refine (HN0.out _).mono ?_; rintro e w' ⟨rfl, rfl⟩) | (go_at_call_of 27 (Value.string x1); refine (HN1.out _).mono ?_; rintro e w' ⟨rfl, rfl⟩) | (go_at_call_of 28 (Value.int .i64 1000000000); refine (HW1.out _).mono ?_; rintro e w' ⟨rfl, rfl⟩) | (go_at_call_of 28 (Value.int .i64 k); refine (HW2.out _ _ (by first | rfl | omega)).mono ?_; rintro e w' ⟨rfl, rfl⟩) | (go_at_call 20; refine (HTX.out _ (HBA.out _) (HG.out _ _ _)).mono ?_; rintro e w4 ⟨rfl, hb4⟩) | fail)
                go_ret2
                exact ParsedAs.bad ((HBA.out _).trans (hb4.mono (by simp; omega))) HL.out HPB.out rfl
            · have HW2 := Lib.hid (fun w hi (hh : hi = 1000000000000 - n + 1) => (by subst hh; have := rwithin_any k (-1000000000000) (1000000000000 - n + 1) w; rw [decide_eq_false h4] at this; exact this : Calls Tryd.prog 28 #[.int .i64 k, .int .i64 (-1000000000000), .int .i64 hi] w fun e w' => e = .returned (.bool false) ∧ w = w'))
              have HH4 := Lib.hid h4
              clear h4
              have HPB := Lib.hid (HP2.out (fun h => HH4.out (h.2.2.2.1 (by trivial))))
              go_wp2_with (first | (go_at_call_of 27 (Value.string x0); refine (HN0.out _).mono ?_; rintro e w' ⟨rfl, rfl⟩) | (go_at_call_of 27 (Value.string x1); refine (HN1.out _).mono ?_; rintro e w' ⟨rfl, rfl⟩) | (go_at_call_of 28 (Value.int .i64 1000000000); refine (HW1.out _).mono ?_; rintro e w' ⟨rfl, rfl⟩) | (go_at_call_of 28 (Value.int .i64 k); refine (HW2.out _ _ (by first | rfl | omega)).mono ?_; rintro e w' ⟨rfl, rfl⟩) | fail)
              go_ret2
              exact ParsedAs.bad (HBA.out _) HL.out HPB.out rfl
          · have HW1 := Lib.hid (fun w => (by have := rwithin_any n 0 1000000000 w; rw [decide_eq_false h3] at this; exact this : Calls Tryd.prog 28 #[.int .i64 n, .int .i64 0, .int .i64 1000000000] w fun e w' => e = .returned (.bool false) ∧ w = w'))
            have HH3 := Lib.hid h3
            clear h3
            have HPB := Lib.hid (HP2.out (fun h => HH3.out h.2.2.1))
            go_wp2_with (first | (go_at_call_of 27 (Value.string x0); refine (HN0.out _).mono ?_; rintro e w' ⟨rfl, rfl⟩) | (go_at_call_of 27 (Value.string x1); refine (HN1.out _).mono ?_; rintro e w' ⟨rfl, rfl⟩) | (go_at_call_of 28 (Value.int .i64 1000000000); refine (HW1.out _).mono ?_; rintro e w' ⟨rfl, rfl⟩) | fail)
            go_ret2
            exact ParsedAs.bad (HBA.out _) HL.out HPB.out rfl
      · have hP := HPW.out true true true n 1000000000001 HQ.out H0.out (fun h => by cases h) (fun _ => ⟨rfl, rfl⟩)
        have HP1 := Lib.hid hP.1
        have HP2 := Lib.hid hP.2
        clear hP HPW HQ H0 H1 HN1
        by_cases h3 : 0 ≤ n ∧ n ≤ 1000000000
        · have HW1 := Lib.hid (fun w => (by have := rwithin_any n 0 1000000000 w; rw [decide_eq_true h3] at this; exact this : Calls Tryd.prog 28 #[.int .i64 n, .int .i64 0, .int .i64 1000000000] w fun e w' => e = .returned (.bool true) ∧ w = w'))
          have HH3 := Lib.hid h3
          obtain ⟨hn0, hn1⟩ := h3
          have HOK := Lib.hid (show Gauge.ok ⟨n, 1000000000001, true⟩ from ⟨hn0, hn1, by show _ ≤ (1000000000001 : Int); omega, by show (1000000000001 : Int) ≤ _; omega⟩)
          have HTX := Lib.hid (fun wr (h : Below w.heap.size w wr) (hg : GCells wr w1.heap.size n 1000000000001 true) => rtext_any w1.heap.size ⟨n, 1000000000001, true⟩ wr (hg.gauge HOK.out) (Tryd.tabStays hT h))
          have HTT := Lib.hid (show (Gauge.text ⟨n, 1000000000001, true⟩).data.toList = gText n 1000000000001 true from rfl)
          generalize Gauge.text ⟨n, 1000000000001, true⟩ = tx at HTX HTT
          by_cases h5 : tx.toList = t.toList
          · have e3 : (tx.toList == t.toList) = true := by simp [h5]
            have e3n : (tx.toList != t.toList) = false := by simp [h5]
            have HF := Lib.hid (HP1.out HH3.out (fun h => by cases h) (by rw [← HTT.out]; rw [ByteArray.toList_eq, ByteArray.toList_eq] at h5; exact h5))
            clear h5
            go_wp2_with (first | (go_at_call_of 27 (Value.string x0); refine (HN0.out _).mono ?_; rintro e w' ⟨rfl, rfl⟩) | (go_at_call_of 28 (Value.int .i64 1000000000); refine (HW1.out _).mono ?_; rintro e w' ⟨rfl, rfl⟩) | (go_at_call 20; refine (HTX.out _ (HBA.out _) (HG.out _ _ _)).mono ?_; rintro e w4 ⟨rfl, hb4⟩) | fail)
            go_ret2
            exact ParsedAs.good ((HBA.out _).trans (hb4.mono (by have := (HBA.out (.cells #[] 0)).size; simp at this ⊢; omega))) HL.out HF.out hwb rfl (((HG.out _ _ _).below hb4).gauge HOK.out)
          · have e3 : (tx.toList == t.toList) = false := by simp [h5]
            have e3n : (tx.toList != t.toList) = true := by simp [h5]
            have HPB := Lib.hid (HP2.out (fun h => h5 (by rw [ByteArray.toList_eq, ByteArray.toList_eq]; exact HTT.out.trans h.2.2.2.2)))
            clear h5
            go_wp2_with (first | (go_at_call_of 27 (Value.string x0); refine (HN0.out _).mono ?_; rintro e w' ⟨rfl, rfl⟩) | (go_at_call_of 28 (Value.int .i64 1000000000); refine (HW1.out _).mono ?_; rintro e w' ⟨rfl, rfl⟩) | (go_at_call 20; refine (HTX.out _ (HBA.out _) (HG.out _ _ _)).mono ?_; rintro e w4 ⟨rfl, hb4⟩) | fail)
            go_ret2
            exact ParsedAs.bad ((HBA.out _).trans (hb4.mono (by simp; omega))) HL.out HPB.out rfl
        · have HW1 := Lib.hid (fun w => (by have := rwithin_any n 0 1000000000 w; rw [decide_eq_false h3] at this; exact this : Calls Tryd.prog 28 #[.int .i64 n, .int .i64 0, .int .i64 1000000000] w fun e w' => e = .returned (.bool false) ∧ w = w'))
          have HH3 := Lib.hid h3
          clear h3
          have HPB := Lib.hid (HP2.out (fun h => HH3.out h.2.2.1))
          go_wp2_with (first | (go_at_call_of 27 (Value.string x0); refine (HN0.out _).mono ?_; rintro e w' ⟨rfl, rfl⟩) | (go_at_call_of 28 (Value.int .i64 1000000000); refine (HW1.out _).mono ?_; rintro e w' ⟨rfl, rfl⟩) | fail)
          go_ret2
          exact ParsedAs.bad (HBA.out _) HL.out HPB.out rfl
  · have HP := Lib.hid (parse_count (t := t.data.toList) (by rw [show wordsOf [] t.data.toList = ws.map bl from hws.symm, List.length_map]; exact h2))
    have e1 : ((ws.length : Int) == 2) = false := by simp; omega
    have e2 : ((ws.length : Int) != 2) = true := by simp; omega
    obtain ⟨oa, oc, rfl, hoc⟩ := hown.len
    have hoc2 : ws.length ≤ 9223372036854775807 := by unfold maxLen at hoc; exact hoc
    clear h2 hws hsm hown hoc
    go_wp2_with fail
    go_ret2
    exact ParsedAs.bad hB HL.out HP.out rfl
end Go.Proofs.YtfoocifhifpbdaaDoor
