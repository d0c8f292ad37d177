/- The tied card of RowTexts: for every input the law returns true and leaves its arguments as they were. -/
import Derived.Test.YtkldimaoafgolaaDoorRc04
set_option linter.unusedVariables false
set_option linter.unusedSimpArgs false
/- The law RowTexts, walked. -/
namespace Go.Proofs.YtkldimaoafgolaaDoor
open Go.RowKit

theorem valEq_eq {x y : Val} (h : valEq x y = true) : x = y := by
  obtain ⟨k, n, s⟩ := x
  obtain ⟨k', n', s'⟩ := y
  obtain ⟨e1, e2, e3⟩ := (valEq_mk _ _ _ _ _ _).1 h
  rw [e1, e2, bl_inj (show bl s = bl s' by rw [Lib.toList_data, Lib.toList_data] at e3; exact e3)]
theorem sameRow_eq {a b : List Val} (h : sameRow a b = true) : a = b := by
  unfold sameRow at h
  rw [Bool.and_eq_true, beq_iff_eq, List.all_eq_true] at h
  obtain ⟨hl, h⟩ := h
  refine List.ext_getElem hl fun j h1 h2 => valEq_eq ?_
  have := h (a[j], b[j]) (by
    rw [List.mem_iff_getElem]
    exact ⟨j, by rw [List.length_zip]; omega, by rw [List.getElem_zip]⟩)
  exact this
theorem isRow_text {r : List Val} (h : validRow r = true) : IsRow r ⟨(rowText r).toArray⟩ := ⟨h, rfl⟩
theorem rowText_size {r : List Val} (h : validRow r = true) (hn : ∀ x ∈ r, inI64 x.n) : (rowText r).length ≤ 6424 := by
  have h2 : r.length ≤ 8 ∧ ∀ x ∈ r, validVal x = true := by unfold validRow at h; simpa using h
  have := join_le [44] 802 (r.map valText) (fun x hx => by
    obtain ⟨y, hy, rfl⟩ := List.mem_map.1 hx
    exact valText_length (h2.2 y hy) (hn y hy))
  rw [List.length_map] at this
  unfold rowText
  rw [if_pos h]
  have h3 : r.length * (802 + [(44 : UInt8)].length) ≤ 8 * 803 := Nat.mul_le_mul h2.1 (by decide)
  omega
/-- What the law knows of two rows and their texts. -/
theorem text_same {a b : List Val} (ha : validRow a = true) (hb : validRow b = true) (hu : ∀ r', IsRow r' ⟨(rowText a).toArray⟩ → r' = a) : (rowText a == rowText b) = sameRow a b := by
  by_cases h : rowText a = rowText b
  · have : b = a := hu b ⟨hb, h⟩
    subst this
    rw [sameRow_refl]; simp
  · rw [beq_eq_false_iff_ne.2 h]
    cases hs : sameRow a b with
    | false => rfl
    | true => exact absurd (by rw [sameRow_eq hs]) h
set_option maxRecDepth 100000 in
set_option maxHeartbeats 4000000 in
theorem rowTexts_any (a b : List Val) (va vb : Value) (w : World) (hva : tRow.rv (mem w) [va] a) (hvb : tRow.rv (mem w) [vb] b) (ht : Tryd.Tab w) (he : Tryd.Errs w) :
    Calls Tryd.prog 9 #[va, vb] w fun e w' => e = .returned (.bool true) ∧ Below w.heap.size w w' := by
  have hb0 : ∀ o, Below w.heap.size w (w.alloc o) := fun o => (Below.refl _ _).alloc (Nat.le_refl _) o
  have HAW := Lib.hid (fun (wr : World) (h : Below w.heap.size w wr) => awake_any wr (Tryd.tabStays ht h))
  have HL := Lib.hid (fun (m : Mem) bk h0 h1 hx hy => rows2 (m := m) (b := bk) (x := a) (y := b) (u := va) (v := vb) h0 h1 hx hy)
  have HVa := Lib.hid hva
  have HVb := Lib.hid hvb
  have HTa := Lib.hid (fun wr (h : Below w.heap.size w wr) => rowText_any a va wr (tRow.mono _ _ _ _ (below_mem h) hva) (Tryd.tabStays ht h))
  have HTb := Lib.hid (fun wr (h : Below w.heap.size w wr) => rowText_any b vb wr (tRow.mono _ _ _ _ (below_mem h) hvb) (Tryd.tabStays ht h))
  have HRa := Lib.hid (fun wr (h : Below w.heap.size w wr) => refText_any a va wr (tRow.mono _ _ _ _ (below_mem h) hva) (Tryd.tabStays ht h))
  have HRb := Lib.hid (fun wr (h : Below w.heap.size w wr) => refText_any b vb wr (tRow.mono _ _ _ _ (below_mem h) hvb) (Tryd.tabStays ht h))
  have HWa := Lib.hid (fun wr (h : Below w.heap.size w wr) => refValid_any a va wr (tRow.mono _ _ _ _ (below_mem h) hva))
  have HWb := Lib.hid (fun wr (h : Below w.heap.size w wr) => refValid_any b vb wr (tRow.mono _ _ _ _ (below_mem h) hvb))
  have HSab := Lib.hid (fun wr (h : Below w.heap.size w wr) => same_any a b va vb wr (tRow.mono _ _ _ _ (below_mem h) hva) (tRow.mono _ _ _ _ (below_mem h) hvb))
  have HIN := Lib.hid (show ∀ x ∈ a, inI64 x.n from fun x hx => by
    obtain ⟨k, hk, rfl⟩ := List.getElem_of_mem hx
    obtain ⟨a1, cap1, rfl, _, _, hva⟩ := slice_form hva
    obtain ⟨b, o, rfl, hat⟩ := slice_at hva hk
    exact (val_at hat).2.2.2.2.1)
  have HP := Lib.hid (fun (t : ByteArray) wr (hs : t.size ≤ 200000) (h : Below w.heap.size w wr) => rowParse_any t wr hs (Tryd.tabStays ht h) (Tryd.errsStay he h))
  obtain ⟨a1, cap1, rfl, hl1, hm1, hva⟩ := slice_form hva
  have hcap1 : cap1 ≤ 9223372036854775807 := by unfold maxLen at hm1; exact hm1
  obtain ⟨a2, cap2, rfl, hl2, hm2, hvb⟩ := slice_form hvb
  have hcap2 : cap2 ≤ 9223372036854775807 := by unfold maxLen at hm2; exact hm2
  clear hm1 hm2 hva hvb ht he
  go_enter Tryd.func9, Tryd.ntmps9
  go_wp2_with fail
  refine (long_any [a, b] _ _ (HL.out _ _ (by simp [mem]) (by simp [mem]) (tRow.mono _ _ _ _ (below_mem (hb0 _)) HVa.out) (tRow.mono _ _ _ _ (below_mem (hb0 _)) HVb.out))).mono ?_
  rintro e w1 ⟨⟨r, rfl⟩, hb1⟩
  have hB := pure_trans (hb0 _) hb1
  clear hb0 hb1 HL
  cases r with
  | true =>
    go_wp2_with fail
    refine (HAW.out _ hB).mono ?_
    rintro e wz ⟨rfl, hz⟩
    have hz := pure_trans hB hz
    go_wp2
    go_ret
    exact ⟨rfl, hz⟩
  | false =>
  go_wp2_with fail
  refine (HTa.out _ hB).mono ?_
  rintro e w2 ⟨rfl, hb2⟩
  have hB2 := pure_trans hB hb2
  clear hB hb2
  go_wp2_with fail
  refine (HTb.out _ hB2).mono ?_
  rintro e w3 ⟨rfl, hb3⟩
  have hB3 := pure_trans hB2 hb3
  clear hB2 hb3
  have HS := Lib.hid (fun (h : validRow a = true) => (⟨rowText_size h HIN.out, isRow_text h⟩ : (rowText a).length ≤ 6424 ∧ IsRow a ⟨(rowText a).toArray⟩))
  have HTS := Lib.hid (fun (ha : validRow a = true) (hb : validRow b = true) hu => text_same ha hb hu)
  go_wp2_with fail
  refine (HRa.out _ hB3).mono ?_
  rintro e w4 ⟨rfl, hb4⟩
  have hB4 := pure_trans hB3 hb4
  clear hB3 hb4
  generalize hta : rowText a = ta at *
  generalize htb : rowText b = tb at *
  have qa : (ta == ta) = true := by simp
  have qb : (tb == tb) = true := by simp
  clear hta htb
  go_wp2_with fail
  refine (HRb.out _ hB4).mono ?_
  rintro e w5 ⟨rfl, hb5⟩
  have hB5 := pure_trans hB4 hb5
  clear hB4 hb5
  go_wp2_with fail
  refine (HWa.out _ hB5).mono ?_
  rintro e w6 ⟨rfl, hb6⟩
  have hB6 := pure_trans hB5 hb6
  clear hB5 hb6
  cases hva : validRow a with
  | false =>
    clear hva
    go_wp2_with fail
    refine (HAW.out _ hB6).mono ?_
    rintro e wz ⟨rfl, hz⟩
    have hz := pure_trans hB6 hz
    go_wp2
    go_ret
    exact ⟨rfl, hz⟩
  | true =>
  have HVA := Lib.hid hva
  clear hva
  go_wp2_with fail
  refine (HWb.out _ hB6).mono ?_
  rintro e w7 ⟨rfl, hb7⟩
  have hB7 := pure_trans hB6 hb7
  clear hB6 hb7
  cases hvb : validRow b with
  | false =>
    clear hvb
    go_wp2_with fail
    refine (HAW.out _ hB7).mono ?_
    rintro e wz ⟨rfl, hz⟩
    have hz := pure_trans hB7 hz
    go_wp2
    go_ret
    exact ⟨rfl, hz⟩
  | true =>
  have HVB := Lib.hid hvb
  clear hvb
  have HSZ := Lib.hid (show (⟨ta.toArray⟩ : ByteArray).size ≤ 6424 from (HS.out HVA.out).1)
  go_wp2_with fail
  refine (HP.out _ _ (by have := HSZ.out; omega) hB7).mono ?_
  rintro e w8 ⟨hb8, ⟨h1, _⟩ | ⟨_, h1, _⟩ | ⟨_, r, v8, ⟨hr, hu⟩, rfl, hr8⟩⟩
  · exact absurd h1 (by have := HSZ.out; omega)
  · exact absurd (HS.out HVA.out).2 (h1 a)
  obtain rfl : a = r := hu a (HS.out HVA.out).2
  have hB8 := pure_trans hB7 hb8
  have HTE := Lib.hid (HTS.out HVA.out HVB.out hu)
  obtain ⟨a8, c8, rfl, _, hm8, hr8⟩ := slice_form hr8
  have hc8 : c8 ≤ 9223372036854775807 := by unfold maxLen at hm8; exact hm8
  have HR8 := Lib.hid (tRow.mono _ _ _ _ (Mem.on_le _ _) hr8)
  clear hb8 hr hu hm8 hr8 hB7 HS HTS
  go_wp2_with fail
  refine (same_any a a _ _ w8 HR8.out (tRow.mono _ _ _ _ (below_mem hB8) HVa.out)).mono ?_
  rintro e w9 ⟨rfl, hb9⟩
  rw [sameRow_refl]
  have hB9 := pure_trans hB8 hb9
  clear hB8 hb9
  go_wp2_with fail
  refine (HSab.out _ hB9).mono ?_
  rintro e w10 ⟨rfl, hb10⟩
  have hB10 := pure_trans hB9 hb10
  clear hB9 hb10
  have hte := HTE.out
  generalize sameRow a b = sm at hte ⊢
  have hq : ((ta == tb) == sm) = true := by rw [hte]; simp
  clear HTE
  go_wp2_with fail
  refine (HAW.out _ hB10).mono ?_
  rintro e wz ⟨rfl, hz⟩
  have hz := pure_trans hB10 hz
  go_wp2
  go_ret
  exact ⟨rfl, hz⟩
end Go.Proofs.YtkldimaoafgolaaDoor
namespace Go.Proofs.YtkldimaoafgolaaDoor.lawRowTexts
open Go.ChangeShapes Go.WideShapes Go.ChangeAt Go.RowKit

set_option maxRecDepth 100000 in
theorem contract (H : Type) (enc : TypeId × Value → H) (W : World) (base : Nat) (args : Array Value) (ds gs : List (DataW H)) (before : List MemPlace)
    (hval0 : ∀ (j : Nat) t v, Tryd.f9.params[j]? = some t → args[j]? = some v → Value.okWide Tryd.prog W .any base t v)
    (hW : DataW.Whole enc Tryd.prog Tryd.f9.params.toList Rows.rowTextsSpec.vars false W args.toList ds gs before) (hL : laidMetH Tryd.prog Rows.rowTextsRow.laid W) :
    Calls Tryd.prog 9 args W fun e W' => ∃ v, e = .returned v ∧ Rows.rowTextsSpec.post enc Tryd.prog Tryd.f9 false true false false W args v W' := by
  have ht := tabOf hL
  have hE := errsOf hL
  have hval : ∀ (j : Nat) t v, Tryd.f9.params[j]? = some t → args[j]? = some v → Value.okWide Tryd.prog W .any base t v := hval0
  have hW' := hW
  obtain ⟨p, q, hA0, hV, rfl, hfz, hnd⟩ := hW
  have hA : DataW.TrodAll enc Tryd.prog W 0 (fun _ => true) true Tryd.f9.params.toList args.toList ds p := hA0
  rw [Tryd.params9] at hA hval
  obtain ⟨v0, vs0, d0, ds0, p0, q0, hargs, rfl, rfl, h0, r0⟩ := trodAll_cons hA
  obtain ⟨v1, vs1, d1, ds1, p1, q1, rfl, rfl, rfl, h1, r1⟩ := trodAll_cons r0
  obtain ⟨rfl, rfl, rfl⟩ := trodAll_nil r1
  obtain rfl : args = #[v0, v1] := by cases args; simp_all
  obtain ⟨rfl, rfl⟩ := trodVars_none hV
  obtain ⟨x0, w0⟩ := arg_slice (t := tVal) reads_row Tryd.underlying25 (hval 0 25 v0 rfl rfl) h0
  obtain ⟨x1, w1⟩ := arg_slice (t := tVal) reads_row Tryd.underlying25 (hval 1 25 v1 rfl rfl) h1
  clear hA0 hval0
  refine (rowTexts_any x0 x1 v0 v1 W w0 w1 ht hE).mono fun e W' ⟨he, bel⟩ => ?_
  subst he
  exact ⟨_, rfl, law_post Tryd.laidOut rfl (by rw [Tryd.params9]; intro t ht; have hs : Tryd.prog.types.size = Tryd.prog.types.size := rfl; simp only [List.mem_cons, List.not_mem_nil, or_false] at ht; rcases ht with rfl | rfl <;> exact ⟨by kernel_rfl, of_decide_eq_true (by kernel_rfl)⟩) (by kernel_rfl) Tryd.underlying4 rfl rfl rfl hW' bel⟩

theorem laid_met (os : Os) : laidMet Tryd.prog Rows.rowTextsRow.laid ((laidWorld os).forCall (fun _ _ => 0) ⟨#[], #[.slice none 0 0, .slice none 0 0], []⟩).memory :=
  laidMet_of_run' 8 (by kernel_rfl) (by kernel_rfl)
theorem readsW (os : Os) {H : Type} (enc : TypeId × Value → H) : (DataW.whole enc Tryd.prog ((laidWorld os).forCall (fun _ _ => 0) ⟨#[], #[.slice none 0 0, .slice none 0 0], []⟩).memory Tryd.f9.params.toList Rows.rowTextsSpec.vars false #[Value.slice none 0 0, Value.slice none 0 0].toList 8).isSome = true := by kernel_rfl

set_option maxRecDepth 100000 in
theorem lifted (os : Os) (started : os.Started) (H : Type) (enc : TypeId × Value → H) (F : Stop.Interp) :
    ReturnsInHanded {} Tryd.checked os 9 .any ((OpenSpec.ofChange Rows.rowTextsSpec).preRow enc Tryd.prog Tryd.f9 Rows.rowTextsRow.domain false Rows.rowTextsRow.laid) (((OpenSpec.ofChange Rows.rowTextsSpec).at F).post enc Tryd.prog Tryd.f9 false true false false) := by
  obtain ⟨⟨xd, xg, places⟩, hx⟩ := Option.isSome_iff_exists.1 (readsW os enc)
  refine returnsInHanded_of_row (C := Tryd.checked) (s := OpenSpec.ofChange Rows.rowTextsSpec) Tryd.own started (by kernel_rfl) Tryd.func9
    (witness_row_at (enc := enc) (C := Tryd.checked) false (laidWorld os) #[.slice none 0 0, .slice none 0 0] rfl (by kernel_rfl) (by kernel_rfl) (by kernel_rfl)
      (OpenSpec.preRow_of_cond 8 hx (by kernel_rfl) (fun k hk => by cases hk) (by kernel_rfl) (laid_met os))) ?_
  intro W base args ds gs before hval hW _ _ _ hL _ _
  exact contract H enc W base args ds gs before hval hW hL

theorem said : Rows.RowTextsSaid :=
  OpenClaim.holds_of_cond 9 Tryd.f9 rfl rfl rfl rfl rfl rfl rfl ⟨rfl, rfl, rfl, rfl, rfl⟩ rfl rfl rfl rfl rfl (by kernel_rfl) Tryd.func9 (by kernel_rfl)
    (of_decide_eq_true (by kernel_rfl)) (by unfold Func.isWrapper; first | (rw [if_pos (by decide +kernel)]; kernel_rfl) | (rw [if_neg (by decide +kernel)]; exact ⟨rfl, rfl⟩))
    (fun os started H enc _ F => by rw [OpenClaim.pre_eq_preRow]; exact lifted os started H enc F)

theorem plain (f : FuncId) (fn : Func) (hf : Tryd.pinned.checked.prog.funcNamed "tidewright/tidewrightlaw02.RowTexts" = some f) (hfn : Tryd.pinned.checked.prog.funcs[f]? = some fn) :
    true = Tryd.pinned.checked.prog.looks [] ∧ ∀ (j : Nat) t, fn.params[j]? = some t → Tryd.pinned.checked.prog.wantsStandIn t = false := by
  obtain rfl : f = 9 := Option.some.inj ((show Tryd.prog.funcNamed "tidewright/tidewrightlaw02.RowTexts" = some 9 by kernel_rfl).symm.trans hf) |>.symm
  obtain rfl : fn = Tryd.f9 := (Option.some.inj (Tryd.func9.symm.trans hfn)).symm
  refine ⟨by kernel_rfl, fun j t ht => ?_⟩
  rw [Tryd.params9] at ht
  have hm := Array.mem_of_getElem? ht
  simp only [List.mem_toArray, List.mem_cons, List.not_mem_nil, or_false] at hm
  rcases hm with rfl | rfl
  · exact (show Tryd.prog.wantsStandIn 25 = false by kernel_rfl)
  · exact (show Tryd.prog.wantsStandIn 25 = false by kernel_rfl)

theorem card : Rows.RowTextsCardSaid :=
  Claim7.holds_tied_plain_at .later [] _ _ _ _ said (fun _ h => by cases h) (by kernel_rfl) (fun _ h => by cases h) rowTexts_row_tie rfl ⟨rfl, rfl⟩ (by kernel_rfl) rfl plain (by kernel_rfl)
#print axioms card
end Go.Proofs.YtkldimaoafgolaaDoor.lawRowTexts
