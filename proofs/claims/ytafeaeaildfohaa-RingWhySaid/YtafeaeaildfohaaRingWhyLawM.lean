/- The statement RingWhySaid: for every input the law RingWhy returns true and leaves its arguments as they were. -/
import Derived.Test.YtafeaeaildfohaaRf09
set_option linter.unusedVariables false
set_option linter.unusedSimpArgs false
/- ring.Why, walked (printed by gen_rwhy.py). -/
namespace Go.Proofs.Ytafeaeaildfohaa
open Go.RowKit Go.Maps Go.Shelf
attribute [local go_sem] Oper.semAt_some

theorem WS.slots {W w : World} {fcs : Array Value} (h : WS W fcs w) : (w.cell? ⟨W.heap.size + 1, 0, none⟩ = some (.int .i64 0) ∧ w.cell? ⟨W.heap.size + 2, 0, none⟩ = some (.slice none 0 0) ∧ w.cell? ⟨W.heap.size + 3, 0, none⟩ = some (.int .i64 0)) ∧
    w.frozen? ⟨W.heap.size + 1, 0, none⟩ = false ∧ w.frozen? ⟨W.heap.size + 2, 0, none⟩ = false ∧ w.frozen? ⟨W.heap.size + 3, 0, none⟩ = false :=
  ⟨⟨mem_cells h.r6 0, mem_cells h.r7 0, mem_cells h.r8 0⟩, frozen_cells h.r6 0, frozen_cells h.r7 0, frozen_cells h.r8 0⟩
theorem WS.set0 {W w : World} {fcs : Array Value} (h : WS W fcs w) : WS W fcs (w.setCell ⟨W.heap.size + 3, 0, none⟩ (.int .i64 0)) := by
  have h3 := (P3.start h).set8 h.lt (u := .int .i64 0)
  exact ⟨(setC_other (by omega)).trans h.bx, h3.r6, h3.r7, h3.r8, h3.bl h⟩
theorem P3.slots {W B w : World} {v6 v7 v8 : Value} {R : Option (Value × List Fct)} (h : P3 W B v6 v7 v8 R w) : (w.cell? ⟨W.heap.size + 1, 0, none⟩ = some v6 ∧ w.cell? ⟨W.heap.size + 2, 0, none⟩ = some v7 ∧ w.cell? ⟨W.heap.size + 3, 0, none⟩ = some v8) ∧
    w.frozen? ⟨W.heap.size + 1, 0, none⟩ = false ∧ w.frozen? ⟨W.heap.size + 2, 0, none⟩ = false ∧ w.frozen? ⟨W.heap.size + 3, 0, none⟩ = false :=
  ⟨⟨mem_cells h.r6 0, mem_cells h.r7 0, mem_cells h.r8 0⟩, frozen_cells h.r6 0, frozen_cells h.r7 0, frozen_cells h.r8 0⟩
theorem why_marks {W wr Q W6 : World} {ds : List Deferred} {D : Nat} {F : Nat → Prop} (hm : Marks (W.heap.size + 4) ds wr) (hX : Below wr.heap.size wr Q) (hk : Keeps F Q W6) (hF : ∀ q, F q → q < W.heap.size + 4 ∨ Q.heap.size ≤ q) (hD : D = Q.heap.size) (hd : W6.heap[D]? = some (.deferred (some []))) (hw : W.heap.size + 4 ≤ wr.heap.size) : Marks (W.heap.size + 4) ({ target := .collected D, args := #[] } :: ds) W6 := by
  have hs := hX.size
  refine Marks.cons (n := wr.heap.size) (marks_p3 (F := fun q => q < W.heap.size + 4 ∨ wr.heap.size ≤ q) hm (((below_keeps hX).wide (fun q _ e => .inr e)).trans (hk.wide (fun q _ e => by rcases hF q e with h | h; exact .inl h; exact .inr (by omega)))) (fun q e => e)) (by omega) hd hm.lt (by omega)
theorem WS.box {W w : World} {f : Fct} {fcs : Array Value} (h : WS W fcs w) (hf : fcs = #[.string f.n, .string f.a, .string f.b]) : w.cell? ⟨W.heap.size, 0, none⟩ = some (.string f.n) ∧ w.cell? ⟨W.heap.size, 1, none⟩ = some (.string f.a) ∧ w.cell? ⟨W.heap.size, 2, none⟩ = some (.string f.b) := by
  have := h.bx
  rw [hf] at this
  exact ⟨mem_cells this 0, mem_cells this 1, mem_cells this 2⟩
theorem befL_del {M : Rnds} {f : Fct} {q : Int} (hq : q = rnd M f) : (srt (keysR M)).filter (fun x => !(fun x => !decide (intOr (lkR M x) < q)) x) = befL M f := by
  unfold befL
  refine List.filter_congr (fun x hx => ?_)
  have h := rnd_mem ((srt_mem (keysR M) x).1 hx)
  simp only [h, hq]
  simp [befB]
theorem four_allocW {w X : World} {c1 c2 c3 c4 : Array Value} {t1 t2 t3 t4 : TypeId} (hX : X = (((w.alloc (.cells c1 t1)).alloc (.cells c2 t2)).alloc (.cells c3 t3)).alloc (.cells c4 t4)) :
    Below w.heap.size w X ∧ X.heap.size = w.heap.size + 4 ∧ X.heap[w.heap.size]? = some (.cells c1 t1 (0, 0)) ∧ X.heap[w.heap.size + 1]? = some (.cells c2 t2 (0, 0)) ∧ X.heap[w.heap.size + 2]? = some (.cells c3 t3 (0, 0)) ∧ X.heap[w.heap.size + 3]? = some (.cells c4 t4 (0, 0)) := by
  obtain ⟨Y, hY⟩ : ∃ Y, Y = ((w.alloc (.cells c1 t1)).alloc (.cells c2 t2)).alloc (.cells c3 t3) := ⟨_, rfl⟩
  rw [← hY] at hX
  obtain ⟨h1, h2, h3, h4, h5⟩ := three_allocW hY
  subst hX
  refine ⟨pure_trans h1 (boxW Y _), by simp; omega, (Below.heap_alloc _ _ _ (by omega)).trans h3, (Below.heap_alloc _ _ _ (by omega)).trans h4, (Below.heap_alloc _ _ _ (by omega)).trans h5, ?_⟩
  rw [← h2]
  exact heap_alloc_new Y _
local macro "p3 " hB:term:max h0:term:max : tactic => `(tactic| (repeat (first | with_reducible exact $h0 | with_reducible refine P3.drew ?_ | with_reducible refine P3.drewN ?_ _ | apply P3.set6 $hB | apply P3.set7 $hB | apply P3.set8 $hB)))
set_option maxRecDepth 100000 in
set_option maxHeartbeats 16000000 in
theorem ringWhy_any (rules : List Rul) (l : List Fct) (f : Fct) (rv fv : Value) (w : World) (hr : tRuls.rv (mem w) [rv] rules) (hf : tFcts.rv (mem w) [fv] l) (hok : okF f) :
    Calls Try.prog 24 #[rv, fv, f.v] w (WhyU rules l f w) := by
  have HP := Lib.hid (fun w' (hb : Below w.heap.size w w') => ringProgram_any rules rv w' (tRuls.mono _ _ _ _ (below_mem hb) hr))
  have HG := Lib.hid (fun w' (hb : Below w.heap.size w w') => ringGiven_any l fv w' (tFcts.mono _ _ _ _ (below_mem hb) hf))
  have HV := Lib.hid (fun w' => ringFact_any f w' hok)
  have HC := Lib.hid (fun w' (hb : Below w.heap.size w w') => containsFct_any l f fv w' (tFcts.mono _ _ _ _ (below_mem hb) hf))
  have HF := Lib.hid (fun w' (hb : Below w.heap.size w w') (h1 : validP rules = true) (h2 : validG l = true) => follow_any rules l rv fv w' (tRuls.mono _ _ _ _ (below_mem hb) hr) (tFcts.mono _ _ _ _ (below_mem hb) hf) (by have := validG_len h2; omega) (validP_body h1))
  obtain ⟨ar, cr, rfl, hlr, hmr, hr⟩ := slice_form hr
  obtain ⟨af, cf, rfl, -⟩ := slice_form hf
  have hcr : cr ≤ 9223372036854775807 := by unfold maxLen at hmr; exact hmr
  have HR := Lib.hid hr
  have HOK := Lib.hid hok
  obtain ⟨f1, f2, f3⟩ := f
  obtain ⟨fcs, hfcs⟩ : ∃ fcs : Array Value, fcs = #[.string f1, .string f2, .string f3] := ⟨_, rfl⟩
  have HFC := Lib.hid hfcs
  obtain ⟨X, hX⟩ : ∃ X, X = (((w.alloc (.cells fcs 33)).alloc (.cells #[.int .i64 0] 3)).alloc (.cells #[.slice none 0 0] 23)).alloc (.cells #[.int .i64 0] 34) := ⟨_, rfl⟩
  have HS0 := Lib.hid (WS.start w hX)
  rw [hfcs] at hX
  have HX := Lib.hid hX
  have hwl : w.heap.size + 4 ≤ X.heap.size := HS0.out.lt
  clear hr hf hok hmr hfcs hX
  refine (callsIn_wide (n := 0)).1 (callsIn_of_wp_marks Try.func24 rfl trivial ?_ rfl)
  simp only [Try.ntmps24, List.size_toArray, List.length_cons, List.length_nil, Nat.reduceAdd, Nat.reduceSub, Array.replicate_succ, Array.replicate_zero, List.push_toArray, List.append_toArray, List.nil_append, List.cons_append]
  refine (wpIn_wide (n := 0)).2 ?_
  go_wp2_with fail
  rw [← HX.out]
  refine (HP.out X HS0.out.bl).mono ?_
  rintro e w1 ⟨rfl, hb1⟩
  have HS1 := Lib.hid (HS0.out.below hb1)
  clear hb1
  cases hp : validP rules with
  | false =>
    have HT := Lib.hid (whyT_bad (rules := rules) (l := l) (f := ⟨f1, f2, f3⟩) (by rw [hp]; rfl))
    obtain ⟨⟨s6, s7, s8⟩, t6, t7, t8⟩ := HS1.out.slots
    clear HP HG HF HV HC hp
    go_wp2_with fail
    exact why_fail rfl rfl rfl HS1.out (Marks.nil _ _) HT.out (P3.set8 HS1.out.lt (P3.set7 HS1.out.lt (P3.set6 HS1.out.lt (P3.start HS1.out))))
  | true =>
  go_wp2_with fail
  refine (HG.out w1 HS1.out.bl).mono ?_
  rintro e w2 ⟨rfl, hb2⟩
  have HS2 := Lib.hid (HS1.out.below hb2)
  clear hb2
  cases hg : validG l with
  | false =>
    have HT := Lib.hid (whyT_bad (rules := rules) (l := l) (f := ⟨f1, f2, f3⟩) (by rw [hp, hg]; rfl))
    obtain ⟨⟨s6, s7, s8⟩, t6, t7, t8⟩ := HS2.out.slots
    clear HP HG HF HV HC hp
    go_wp2_with fail
    exact why_fail rfl rfl rfl HS2.out (Marks.nil _ _) HT.out (P3.set8 HS2.out.lt (P3.set7 HS2.out.lt (P3.set6 HS2.out.lt (P3.start HS2.out))))
  | true =>
  obtain ⟨c0, c1, c2⟩ := HS2.out.box (f := ⟨f1, f2, f3⟩) HFC.out
  simp only at c0 c1 c2
  go_wp2_with fail
  refine (HV.out w2).mono ?_
  rintro e w3 ⟨rfl, hb3⟩
  have HS3 := Lib.hid (HS2.out.below hb3)
  clear hb3 c0 c1 c2
  cases hv : validF ⟨f1, f2, f3⟩ with
  | false =>
    have HT := Lib.hid (whyT_bad (rules := rules) (l := l) (f := ⟨f1, f2, f3⟩) (by rw [hp, hg, hv]; rfl))
    obtain ⟨⟨s6, s7, s8⟩, t6, t7, t8⟩ := HS3.out.slots
    clear HP HG HF HV HC hp
    go_wp2_with fail
    exact why_fail rfl rfl rfl HS3.out (Marks.nil _ _) HT.out (P3.set8 HS3.out.lt (P3.set7 HS3.out.lt (P3.set6 HS3.out.lt (P3.start HS3.out))))
  | true =>
  obtain ⟨c0, c1, c2⟩ := HS3.out.box (f := ⟨f1, f2, f3⟩) HFC.out
  simp only at c0 c1 c2
  go_wp2_with fail
  refine (HC.out w3 HS3.out.bl).mono ?_
  rintro e w4 ⟨rfl, hb4⟩
  have HS4 := Lib.hid (HS3.out.below hb4)
  have HVV := Lib.hid (show (validP rules && (validG l && validF ⟨f1, f2, f3⟩)) = true by rw [hp, hg, hv]; rfl)
  have HPP := Lib.hid hp
  have HFF := Lib.hid (HF.out w4 HS4.out.bl hp hg)
  clear hb4 c0 c1 c2 HP HG HV HC HF hp hg hv HS0 HS1 HS2 HS3
  by_cases hin : (⟨f1, f2, f3⟩ : Fct) ∈ l
  · rw [decide_eq_true hin]
    have HT := Lib.hid (whyT_in HVV.out hin)
    obtain ⟨⟨s6, s7, s8⟩, t6, t7, t8⟩ := HS4.out.slots
    clear HFF hin
    go_wp2_with fail
    exact why_fail rfl rfl rfl HS4.out (Marks.nil _ _) HT.out (P3.set8 HS4.out.lt (P3.set7 HS4.out.lt (P3.set6 HS4.out.lt (P3.start HS4.out))))
  rw [decide_eq_false hin]
  have HNI := Lib.hid hin
  clear hin
  go_wp2_with fail
  refine HFF.out.mono ?_
  rintro e w5 ⟨hb5, h⟩
  have HS5 := Lib.hid (HS4.out.below hb5)
  clear hb5 HFF
  rcases h with ⟨h0, rfl⟩ | ⟨M, mb, h0, rfl, h1, h2, h3, h4⟩
  · have HT := Lib.hid (whyT_big HVV.out HNI.out h0)
    have HSY := Lib.hid (show WS w fcs (w5.alloc (.cells #[.map none] 56)) from HS5.out.below (boxW w5 _))
    clear h0
    obtain ⟨⟨s6, s7, s8⟩, t6, t7, t8⟩ := HSY.out.slots
    go_wp2_with fail
    go_region
    all_goals
      go_wp2
      refine why_fail (R := none) rfl rfl rfl HSY.out (Marks.nil _ _) HT.out ?_
      p3 HSY.out.lt (P3.start HSY.out)
  · have HW4 := Lib.hid (show w.heap.size + 4 ≤ mb from Nat.le_trans HS4.out.lt h1)
    have HM := Lib.hid h0
    have HND := Lib.hid h3
    have HKO := Lib.hid h4
    have HLE := Lib.hid (follow_fin h0).le
    have HSA := Lib.hid (show WS w fcs (w5.alloc (.cells #[.map (some mb)] 56)) from HS5.out.below (boxW w5 _))
    obtain ⟨Y, hY⟩ : ∃ Y, Y = (w5.alloc (.cells #[.map (some mb)] 56)).setCell ⟨w.heap.size + 1 + 1 + 1, 0, none⟩ (.int .i64 0) := ⟨_, rfl⟩
    have HSY := Lib.hid (show WS w fcs Y from by rw [hY]; exact HSA.out.set0)
    have hgl := HSA.out.lt
    have HFY := Lib.hid (show FM Y mb M.length (lkR M) from by
      rw [hY]
      exact FM.at h2 ((setC_other (w := w5.alloc (.cells #[.map (some mb)] 56)) (by have := HW4.out; omega)).trans ((boxW w5 _).block mb (MapOf.lt h2))))
    have HGY := Lib.hid (show Y.heap[w5.heap.size]? = some (.cells #[.map (some mb)] 56 (0, 0)) from by
      rw [hY]
      exact (setC_other (by have := HS5.out.lt; omega)).trans (heap_alloc_new w5 _))
    have HG5 := Lib.hid (show w.heap.size + 4 ≤ w5.heap.size from HS5.out.lt)
    have HY := Lib.hid hY
    obtain ⟨⟨s6, s7, s8⟩, t6, t7, t8⟩ := HSA.out.slots
    clear hY h0 h1 h2 h3 h4 hgl
    go_upto_region 6 with fail
    rw [← HY.out]
    generalize w5.heap.size = gc at *
    clear s6 s7 s8 t6 t7 t8 HSA HS5 HS4 HY
    obtain ⟨⟨s6, s7, s8⟩, t6, t7, t8⟩ := HSY.out.slots
    obtain ⟨c0, c1, c2⟩ := HSY.out.box (f := ⟨f1, f2, f3⟩) HFC.out
    simp only at c0 c1 c2
    have n1 : Y.cell? ⟨gc, 0, none⟩ = some (.map (some mb)) := mem_cells HGY.out 0
    have hlk : (Instr.lookup 56 (.map (some mb)) (.agg #[.string f1, .string f2, .string f3]) true).run Try.prog Y = .ok (.tuple #[.int .i64 (intOr (lkR M ⟨f1, f2, f3⟩)), .bool (lkR M ⟨f1, f2, f3⟩).isSome]) Y := HFY.out.lookOk HOK.out
    have HIS := Lib.hid (lkR_some (M := M) (f := ⟨f1, f2, f3⟩))
    have HRQ := Lib.hid (fun h => rnd_mem (M := M) (x := ⟨f1, f2, f3⟩) h)
    generalize intOr (lkR M ⟨f1, f2, f3⟩) = q at *
    have HSZ := Lib.hid (show WS w fcs (Y.alloc (.cells #[.int .i64 q] 3)) from HSY.out.below (boxW Y _))
    cases hs : (lkR M ⟨f1, f2, f3⟩).isSome with
    | false =>
      rw [hs] at hlk
      have HT := Lib.hid (whyT_no HVV.out HNI.out HM.out (fun h => by have := HIS.out.2 h; rw [hs] at this; cases this))
      obtain ⟨⟨z6, z7, z8⟩, y6, y7, y8⟩ := HSZ.out.slots
      clear hs HIS HRQ HOK
      go_wp2_with fail
      exact why_fail rfl rfl rfl HSZ.out (Marks.nil _ _) HT.out (P3.set8 HSZ.out.lt (P3.set7 HSZ.out.lt (P3.set6 HSZ.out.lt (P3.start HSZ.out))))
    | true =>
      rw [hs] at hlk
      have HKM := Lib.hid (HIS.out.1 hs)
      have HQE := Lib.hid (HRQ.out HKM.out)
      obtain ⟨Z, hZ⟩ : ∃ Z, Z = Y.alloc (.cells #[.int .i64 q] 3) := ⟨_, rfl⟩
      have hbz : Below Y.heap.size Y Z := by rw [hZ]; exact boxW Y _
      have HBZ := Lib.hid hbz
      have HRZ := Lib.hid (show Z.heap[Y.heap.size]? = some (.cells #[.int .i64 q] 3 (0, 0)) from by rw [hZ]; exact heap_alloc_new Y _)
      have HGZ := Lib.hid ((hbz.block gc (Array.getElem?_eq_some_iff.1 HGY.out).1).trans HGY.out)
      have HFZ := Lib.hid (FM.at HFY.out (hbz.block mb (MapOf.lt HFY.out)))
      rw [← hZ] at HSZ
      have HZ := Lib.hid hZ
      clear hs HIS HRQ hZ hbz
      go_upto_region 11 with fail
      rw [← HZ.out]
      have HGY5 := Lib.hid (show gc < Y.heap.size from (Array.getElem?_eq_some_iff.1 HGY.out).1)
      have HGZ5 := Lib.hid (show Y.heap.size < Z.heap.size from (Array.getElem?_eq_some_iff.1 HRZ.out).1)
      generalize Y.heap.size = rb at *
      clear s6 s7 s8 t6 t7 t8 c0 c1 c2 n1 hlk HSY HGY HFY HZ HBZ
      have n1 : Z.cell? ⟨gc, 0, none⟩ = some (.map (some mb)) := mem_cells HGZ.out 0
      go_wp2_with fail
      refine (ringSorted2 mb M.length (lkR M) Z HFZ.out (by have := HLE.out; omega)).mono ?_
      rintro e w7 ⟨v7, ss, rfl, k1, -, -, hown, hb7⟩
      obtain rfl : srt (keysR M) = ss := srt_eq k1.up (fun x => (k1.mem x).trans lkR_some)
      have HB7 := Lib.hid hb7
      have HSL := Lib.hid (show (srt (keysR M)).length ≤ 400 from Nat.le_trans (srt_len_le _) (by rw [keys_len]; exact HLE.out))
      have hne : 0 < (srt (keysR M)).length := List.length_pos_iff.2 (fun h => by have := (srt_mem (keysR M) _).2 HKM.out; rw [h] at this; cases this)
      have HDEL := Lib.hid (deleteFct2 54 #[ptr0 gc, ptr0 rb] (fun x => !decide (intOr (lkR M x) < q)) (srt (keysR M)) v7 Z.heap.size w7 hown hb7.size (by have := HSL.out; omega) (fun _ _ => rfl) (fun x hx W hk => by
        have hlt := hown.lt hne
        have hz := HGZ5.out
        have hy := HGY5.out
        have hblk : ∀ k, k < Z.heap.size → W.heap[k]? = Z.heap[k]? := fun k h => (hk.block k (by have := hb7.size; omega) (fun e => by
          rcases e with e | e
          · have := hlt _ e; omega
          · have := hb7.size; omega)).trans (hb7.block k h)
        exact why1_any M mb gc rb q x W (FM.at HFZ.out (hblk mb (MapOf.lt HFZ.out))) (mem_cells ((hblk gc (by omega)).trans HGZ.out) 0) (mem_cells ((hblk rb (by omega)).trans HRZ.out) 0) hx))
      obtain ⟨a7, e7, rfl, -⟩ := hown.len
      clear k1 hown hb7 hne n1
      go_wp2_with fail
      refine HDEL.out.mono ?_
      rintro e w8 ⟨v8, rfl, hv8, hb8⟩
      rw [befL_del HQE.out] at hv8
      have HSL8 := Lib.hid (show (befL M ⟨f1, f2, f3⟩).length ≤ 400 from Nat.le_trans (List.length_filter_le _ _) HSL.out)
      have HS8 := Lib.hid (((HSZ.out.below HB7.out).keeps (below_keeps hb8) (fun q e => Nat.le_trans HSZ.out.lt e)))
      have HIX := Lib.hid (indexed_any (befL M ⟨f1, f2, f3⟩) v8 w8 (tFcts.mono _ _ _ _ (Mem.on_le _ _) hv8) (by have := HSL8.out; omega))
      obtain ⟨a8, e8, rfl, -⟩ := slice_form hv8
      have HOKB := Lib.hid (fcts_okAll hv8)
      clear hv8 hb8 HDEL HSL HB7
      go_wp2_with fail
      refine HIX.out.mono ?_
      rintro e We ⟨ib, fi, rfl, hI, hb9⟩
      have HSE := Lib.hid (HS8.out.below hb9)
      have HI := Lib.hid hI
      have HBE := Lib.hid hb9.size
      have H8L := Lib.hid HS8.out.lt
      clear hI hb9 HIX HS8 HSZ HRZ HGZ HFZ
      have HSOM := Lib.hid (fun (i : Nat) (b : List Fct) (h5 : whyR (befL M ⟨f1, f2, f3⟩) ⟨f1, f2, f3⟩ rules 0 = some (i, b)) => whyT_some HVV.out HNI.out HM.out HKM.out h5)
      have HNON := Lib.hid (fun (h5 : whyR (befL M ⟨f1, f2, f3⟩) ⟨f1, f2, f3⟩ rules 0 = none) => whyT_none HVV.out HNI.out HM.out HKM.out h5)
      clear HVV HNI HM HKM HQE HLE HND HKO HW4 HG5 HGY5 HGZ5
      generalize befL M ⟨f1, f2, f3⟩ = B at *
      go_wp2_with fail
      obtain ⟨I3, hI3⟩ : ∃ I : Act → World → Prop, I = fun a wr => ∃ (u2 u3 u4 u11 u13 u14 u15 u16 u17 u18 u19 u20 u21 u22 u23 u24 u25 u26 u27 u28 u29 u30 u31 u32 u33 u34 u35 u36 u37 u38 u39 u40 u41 u42 u43 u44 u45 u46 u47 u48 u49 u50 u51 u52 u53 u54 u55 u56 u60 u61 u62 u63 u64 u65 u66 u67 u68 u69 u70 u71 u72 u73 u74 u75 u76 u77 u78 : Value) (ds : List Deferred) (i : Nat), a = { tmps := #[.slice ar rules.length cr, .slice af l.length cf, u2, u3, u4, .pointer (some ⟨w.heap.size, 0, none⟩), .pointer (some ⟨w.heap.size + 1, 0, none⟩), .pointer (some ⟨w.heap.size + 2, 0, none⟩), .pointer (some ⟨w.heap.size + 3, 0, none⟩), .pointer (some ⟨gc, 0, none⟩), .pointer (some ⟨rb, 0, none⟩), u11, .map (some ib), u13, u14, u15, u16, u17, u18, u19, u20, u21, u22, u23, u24, u25, u26, u27, u28, u29, u30, u31, u32, u33, u34, u35, u36, u37, u38, u39, u40, u41, u42, u43, u44, u45, u46, u47, u48, u49, u50, u51, u52, u53, u54, u55, u56, .slice ar rules.length cr, .int .i64 rules.length, .int .i64 i, u60, u61, u62, u63, u64, u65, u66, u67, u68, u69, u70, u71, u72, u73, u74, u75, u76, u77, u78], defers := ds } ∧ i ≤ rules.length ∧ Hid (WI w We fcs ds wr) ∧ Hid (whyR B ⟨f1, f2, f3⟩ rules 0 = whyR B ⟨f1, f2, f3⟩ (rules.drop i) i) := ⟨_, rfl⟩
      obtain ⟨μ3, hμ3⟩ : ∃ μ : Act → World → Nat, μ = fun a w => rules.length - slotInt a 59 := ⟨_, rfl⟩
      have HI3 := Lib.hid hI3
      have HM3 := Lib.hid hμ3
      refine wp_loop I3 μ3 ?_ ?_
      · rw [hI3]
        exact ⟨_, _, _, _, _, _, _, _, _, _, _, _, _, _, _, _, _, _, _, _, _, _, _, _, _, _, _, _, _, _, _, _, _, _, _, _, _, _, _, _, _, _, _, _, _, _, _, _, _, _, _, _, _, _, _, _, _, _, _, _, _, _, _, _, _, _, _, [], 0, rfl, Nat.zero_le _, Lib.hid ⟨HSE.out, Marks.nil _ _, Below.refl _ _⟩, Lib.hid rfl⟩
      clear hI3 hμ3
      intro a wr h3
      have h3 := (congrFun (congrFun HI3.out a) wr).mp h3
      obtain ⟨u2, u3, u4, u11, u13, u14, u15, u16, u17, u18, u19, u20, u21, u22, u23, u24, u25, u26, u27, u28, u29, u30, u31, u32, u33, u34, u35, u36, u37, u38, u39, u40, u41, u42, u43, u44, u45, u46, u47, u48, u49, u50, u51, u52, u53, u54, u55, u56, u60, u61, u62, u63, u64, u65, u66, u67, u68, u69, u70, u71, u72, u73, u74, u75, u76, u77, u78, ds, i, rfl, hile, H3, HT⟩ := h3
      by_cases hlt : i < rules.length
      · obtain ⟨b, o, bv, rfl, ⟨q0, q1, q2, q3⟩, hokr, hbd⟩ := ruls_at (tRuls.mono _ _ _ _ (show (mem w).le ((mem wr).on (· < w.heap.size)) from fun b o u e => Mem.on_some (below_mem H3.out.st.bl _ _ _ e) (mem_lt e)) HR.out) hlt
        have c0 : wr.cell? ⟨b, o + i * 4, none⟩ = some (.string rules[i].hd.n) := (Mem.of_on q0).2
        have c1 : wr.cell? ⟨b, o + i * 4 + 1, none⟩ = some (.string rules[i].hd.a) := (Mem.of_on q1).2
        have c2 : wr.cell? ⟨b, o + i * 4 + 2, none⟩ = some (.string rules[i].hd.b) := (Mem.of_on q2).2
        have c3 : wr.cell? ⟨b, o + i * 4 + 3, none⟩ = some bv := (Mem.of_on q3).2
        obtain ⟨ab, cb, rfl, -, -, -⟩ := slice_form hbd
        have HBDV := Lib.hid hbd
        have HOKR := Lib.hid hokr
        have HB3 := Lib.hid (validP_bd HPP.out rules[i] (List.getElem_mem hlt)).2
        have HWD := Lib.hid (HT.out.trans (whyR_drop hlt))
        have HHIT := Lib.hid (fun (pre : List Way) (x : Way) (post : List Way) (g1 : ways rules[i].bd B [] [] = pre ++ x :: post) (g2 : ∀ y ∈ pre, hitF rules[i] ⟨f1, f2, f3⟩ y = false) (g3 : hitF rules[i] ⟨f1, f2, f3⟩ x = true) => wayW_hit g1 g2 g3)
        have HMISS := Lib.hid (fun (g : ∀ y ∈ ways rules[i].bd B [] [], hitF rules[i] ⟨f1, f2, f3⟩ y = false) => wayW_none g)
        have HILT := Lib.hid hlt
        have HMD := Lib.hid H3.out.mks
        have HWL := Lib.hid H3.out.st.lt
        clear q0 q1 q2 q3 hbd hokr HT
        generalize rules[i] = r at *
        obtain ⟨⟨r1, r2, r3⟩, bd⟩ := r
        simp only at c0 c1 c2 c3
        obtain ⟨Q, hQ⟩ : ∃ Q, Q = (((wr.alloc (.cells #[.int .i64 i] 3)).alloc (.cells #[.string r1, .string r2, .string r3, .slice ab bd.length cb] 31)).alloc (.cells #[.map (some ib)] 69)).alloc (.cells #[.slice ab bd.length cb] 29) := ⟨_, rfl⟩
        have HQ := Lib.hid hQ
        clear hQ
        go_wp2_with fail
        refine (matchesCall_any ib _ _ _ _ _ rfl).mono ?_
        rintro e w5 ⟨rfl, rfl⟩
        obtain ⟨hxb, hxs, x1, x2, x3, x4⟩ := four_allocW HQ.out
        have HXB := Lib.hid hxb
        have HXI := Lib.hid x1
        have HXR := Lib.hid x2
        have HSQ := Lib.hid (H3.out.st.below hxb)
        have HQW := Lib.hid (show w.heap.size + 4 ≤ wr.heap.size ∧ wr.heap.size + 4 = Q.heap.size from ⟨HWL.out, hxs.symm⟩)
        have HGV := Lib.hid (matches_gives2 (SW w Q) (wr.heap.size + 3) (wr.heap.size + 2) ib _ (.slice ab bd.length cb) bd B fi Q (why_env HI.out H8L.out HBE.out H3.out hxb HBDV.out HB3.out (mem_cells x4 0) (mem_cells x3 0) (by omega) (by omega)) HSL8.out)
        have HR0 := Lib.hid (show WR w Q fcs ⟨⟨r1, r2, r3⟩, bd⟩ ⟨f1, f2, f3⟩ [] Q from ⟨HSQ.out, Below.refl _ _, by simp⟩)
        clear hxb hxs x1 x2 x3 x4 c0 c1 c2 c3
        go_wp2_with fail
        rw [← HQ.out]
        refine wp_rangeM2 (gf := 67) (lb := #[ptr0 (wr.heap.size + 3), ptr0 (wr.heap.size + 2)]) (by first | rfl | simp) (fun _ _ => rfl) HGV.out (Below.refl _ _) (fun k hk => hk.1) (fun x vs n W' hE => by obtain ⟨lv, mb, rfl, -⟩ := hE; rfl)
          (fun pre W1 => WR w Q fcs ⟨⟨r1, r2, r3⟩, bd⟩ ⟨f1, f2, f3⟩ pre W1) (fun pre x W1 => WL w Q ⟨⟨r1, r2, r3⟩, bd⟩ ⟨f1, f2, f3⟩ i pre x W1) ?cI ?cL ?c0 ?cr ?cd ?cl
        case cI => exact fun s A C hI hk => hI.keeps (by have := HQW.out; omega) (below_keeps hk) (fun q e => e)
        case cL => exact fun s x A C hL hA hk => hL.keeps (by have := HQW.out; omega) hA hk
        case c0 => exact HR0.out
        case cd =>
          intro D W6 hD hsz hI hd
          have H6 := Lib.hid (show WI w We fcs ({ target := .collected D, args := #[] } :: ds) W6 from ⟨hI.st, why_marks HMD.out HXB.out (below_keeps hI.kp) (fun q e => .inr e) hD hd HWL.out, pure_trans (pure_trans H3.out.kp HXB.out) hI.kp⟩)
          have HNX := Lib.hid (HWD.out.trans (by rw [HMISS.out hI.ms]))
          clear hI hd hsz hD HGV HR0 HHIT HMISS HSOM HNON
          go_wp2_with fail
          rw [HI3.out, HM3.out]
          exact ⟨⟨_, _, _, _, _, _, _, _, _, _, _, _, _, _, _, _, _, _, _, _, _, _, _, _, _, _, _, _, _, _, _, _, _, _, _, _, _, _, _, _, _, _, _, _, _, _, _, _, _, _, _, _, _, _, _, _, _, _, _, _, _, _, _, _, _, _, _, _, i + 1, rfl, by omega, H6, HNX⟩, by simp [slotInt, intOf]; omega⟩
        case cl =>
          intro D W6 pre x post hD hsz hx hL hd
          obtain ⟨⟨v, hp3, hrd⟩, hms, hhit⟩ := hL
          have HMK := Lib.hid (why_marks HMD.out HXB.out hp3.kp (fun q e => by rcases e with e | e | e | e; exact .inl (by omega); exact .inl (by omega); exact .inl (by omega); exact .inr e) hD hd HWL.out)
          have HP3 := Lib.hid hp3
          have HRD := Lib.hid (tFcts.mono _ _ _ _ (Mem.on_le _ _) hrd)
          have HTT := Lib.hid (HSOM.out i x.2 (HWD.out.trans (by rw [HHIT.out pre x post hx hms hhit])))
          clear hp3 hrd hms hhit hd hsz hx HGV HR0 HHIT HMISS HSOM HNON
          go_wp2_with fail
          exact why_leave rfl rfl rfl HMK.out HP3.out.r6 HP3.out.r7 HP3.out.r8 (HP3.out.bl HSQ.out) HTT.out HRD.out
        case cr =>
          intro l' pre x post W1 vs hl' hx hI hE hsz
          obtain ⟨lv, mb', rfl, hmb, hB, hlv⟩ := hE
          have hx3 : x.2.length ≤ 3 := by
            obtain ⟨ad, h1, h2, -⟩ := ways_sub bd [] [] x (show x ∈ ways bd B [] [] from by rw [hx]; simp)
            rw [h1, List.nil_append, h2]
            exact HB3.out
          have HX3 := Lib.hid hx3
          have HI1 := Lib.hid hI
          have HBM := Lib.hid hB
          have HLV := Lib.hid hlv
          clear hI hB hlv HGV HR0 hx HSOM HNON HWD HHIT HMISS hx3
          gi_wp2_with fail
          refine ⟨Keeps.refl _ _, fun W3 hk hs3 => ?_⟩
          have hlt3 : Q.heap.size + 1 < W3.heap.size := by omega
          have HQ3 := Lib.hid (show Q.heap.size + 2 ≤ W3.heap.size ∧ W1.heap.size ≤ W3.heap.size from ⟨by omega, by omega⟩)
          have HR3 := Lib.hid (HI1.out.keeps (by have := HQW.out; omega) hk (fun q e => by omega))
          have HBM3 := Lib.hid (show BMB W3.drew mb' x.1 from (HBM.out.at (hk.block mb' (MapOf.lt HBM.out.1) (fun e => by omega)) : BMB W3 mb' x.1))
          have HLV3 := Lib.hid (show tFcts.rv ((mem W3).on (Q.heap.size + 2 ≤ ·)) [lv] x.2 from tFcts.mono _ _ _ _ (fun b o u e => by
            obtain ⟨e1, e2⟩ := Mem.of_on e
            exact Mem.on_some ((mem_of_block (hk.block b (mem_lt e2) (fun h => by omega)) o).trans e2) e1) HLV.out)
          have hr0 := (HR3.out.kp.block (wr.heap.size + 1) (by have := HQW.out; omega)).trans HXR.out
          have hi0 := (HR3.out.kp.block wr.heap.size (by have := HQW.out; omega)).trans HXI.out
          have HI0 := Lib.hid hi0
          have HCALL := Lib.hid (headed_any ⟨⟨r1, r2, r3⟩, bd⟩ (.slice ab bd.length cb) mb' x.1 W3.drew HBM3.out HOKR.out ab bd.length cb rfl)
          have HBOX := Lib.hid (show ∀ W4, Below W3.drew.heap.size W3.drew W4 → W4.cell? ⟨w.heap.size, 0, none⟩ = some (.string f1) ∧ W4.cell? ⟨w.heap.size, 1, none⟩ = some (.string f2) ∧ W4.cell? ⟨w.heap.size, 2, none⟩ = some (.string f3) from fun W4 hb => by
            obtain ⟨g0, g1, g2⟩ := HR3.out.st.box (f := ⟨f1, f2, f3⟩) HFC.out
            exact ⟨below_mem hb _ _ _ (g0 : W3.drew.cell? _ = _), below_mem hb _ _ _ (g1 : W3.drew.cell? _ = _), below_mem hb _ _ _ (g2 : W3.drew.cell? _ = _)⟩)
          have n0 : W3.drew.cell? ⟨wr.heap.size + 1, 0, none⟩ = some (.string r1) := mem_cells hr0 0
          have n1 : W3.drew.cell? ⟨wr.heap.size + 1, 1, none⟩ = some (.string r2) := mem_cells hr0 1
          have n2 : W3.drew.cell? ⟨wr.heap.size + 1, 2, none⟩ = some (.string r3) := mem_cells hr0 2
          have n3 : W3.drew.cell? ⟨wr.heap.size + 1, 3, none⟩ = some (.slice ab bd.length cb) := mem_cells hr0 3
          obtain ⟨g0, g1, g2⟩ := HBOX.out W3.drew (Below.refl _ _)
          have HK34 := Lib.hid (fun (W4 : World) (hb : Below W3.drew.heap.size W3.drew W4) => (show Keeps (fun q => W3.heap.size ≤ q) W3 W4 from ((Keeps.refl (fun q => W3.heap.size ≤ q) W3).drew).trans (below_keeps hb)))
          have HHQ := Lib.hid (show hitF ⟨⟨r1, r2, r3⟩, bd⟩ ⟨f1, f2, f3⟩ x = decide (headF ⟨⟨r1, r2, r3⟩, bd⟩ x.1 = ⟨f1, f2, f3⟩) from rfl)
          have HEQ := Lib.hid (fct_eqB (headF ⟨⟨r1, r2, r3⟩, bd⟩ x.1) ⟨f1, f2, f3⟩)
          obtain ⟨hf, hhf⟩ : ∃ hf, hf = headF ⟨⟨r1, r2, r3⟩, bd⟩ x.1 := ⟨_, rfl⟩
          have HHF := Lib.hid hhf
          rw [← hhf] at HEQ HHQ
          clear hhf hr0 hi0 HBM3 hk
          obtain ⟨h1, h2, h3⟩ := hf
          obtain ⟨al, nl, cl, hlf⟩ : ∃ a n c, lv = .slice a n c := by
            obtain ⟨a, c, e, -⟩ := slice_form HLV3.out
            exact ⟨a, _, c, e⟩
          subst hlf
          have HKN := Lib.hid (fun (W4 : World) (hb : Below W3.drew.heap.size W3.drew W4) => (show Keeps (fun k => (k < Q.heap.size ∧ ¬ SW w Q k) ∨ W1.heap.size ≤ k) W3 W4 from (HK34.out W4 hb).wide (fun q _ e => .inr (by have := HQ3.out; omega))))
          have HWN := Lib.hid (fun (W4 : World) (hb : Below W3.drew.heap.size W3.drew W4) (hn : hitF ⟨⟨r1, r2, r3⟩, bd⟩ ⟨f1, f2, f3⟩ x = false) => (show WR w Q fcs ⟨⟨r1, r2, r3⟩, bd⟩ ⟨f1, f2, f3⟩ (pre ++ [x]) W4 from by
            have h4 := HR3.out.keeps (by have := HQW.out; omega) (HK34.out W4 hb) (fun q e => by have := HQ3.out; omega)
            exact ⟨h4.st, h4.kp, fun y hy => by
              rcases List.mem_append.1 hy with hy | hy
              · exact h4.ms y hy
              · simp at hy; subst hy; exact hn⟩))
          have HNE := Lib.hid (fun (h : decide ((⟨h1, h2, h3⟩ : Fct) = ⟨f1, f2, f3⟩) = false) => (show hitF ⟨⟨r1, r2, r3⟩, bd⟩ ⟨f1, f2, f3⟩ x = false from HHQ.out.trans h))
          have HHE := Lib.hid (fun (h : decide ((⟨h1, h2, h3⟩ : Fct) = ⟨f1, f2, f3⟩) = true) => (show hitF ⟨⟨r1, r2, r3⟩, bd⟩ ⟨f1, f2, f3⟩ x = true from HHQ.out.trans h))
          have HKD := Lib.hid (fun (W4 : World) (hb : Below W3.drew.heap.size W3.drew W4) => (show Keeps (fun q => W3.heap.size ≤ q) W3 W4.drew from (HK34.out W4 hb).drew))
          have HSD := Lib.hid (fun (W4 : World) (hb : Below W3.drew.heap.size W3.drew W4) => (show WS w fcs W4.drew from HR3.out.st.keeps (HKD.out W4 hb) (fun q e => by have := HQ3.out; have := HQW.out; omega)))
          have HIC := Lib.hid (fun (W4 : World) (hb : Below W3.drew.heap.size W3.drew W4) (v6 v7 v8 : Value) (R : Option (Value × List Fct)) (w' : World) (hp : P3 w W4.drew v6 v7 v8 R w') => (show w'.cell? ⟨wr.heap.size, 0, none⟩ = some (.int .i64 i) from by
            have h0 := HQ3.out
            have h1 := HQW.out
            have h2 := (HKD.out W4 hb).size
            exact mem_cells ((hp.kp.block wr.heap.size (by omega) (fun e => by rcases e with e | e | e | e <;> omega)).trans (((HKD.out W4 hb).block wr.heap.size (by omega) (fun e => by omega)).trans HI0.out)) 0))
          have HCL := Lib.hid (fun (W4 : World) (hb : Below W3.drew.heap.size W3.drew W4) (Wc : World) (v6 v7 v8 : Value) (hp : P3 w W4.drew v6 v7 v8 none Wc) => (show Calls Try.prog 49 #[.slice al nl cl] Wc fun e W6 => ∃ a n c, e = .returned (.slice a n c) ∧ P3 w W4.drew v6 v7 v8 (some (.slice a n c, x.2)) W6 from by
            have h0 := HQ3.out
            have h1 := HQW.out
            have hs := hp.kp.size
            have hlt := (HSD.out W4 hb).lt
            refine (cloneFcts_any x.2 (.slice al nl cl) Wc (tFcts.mono _ _ _ _ (fun b o u e => ?_) HLV3.out) (by have := HX3.out; omega)).mono ?_
            · obtain ⟨g1, g2⟩ := Mem.of_on e
              have hl := mem_lt g2
              have hl2 := (HKD.out W4 hb).size
              exact ((mem_of_block (hp.kp.block b (by omega) (fun e => by rcases e with e | e | e | e <;> omega)) o).trans ((mem_of_block ((HKD.out W4 hb).block b hl (fun e => by omega)) o).trans g2))
            · rintro e W6 ⟨v, rfl, hown, hb6⟩
              obtain ⟨a, c, rfl, -⟩ := hown.len
              exact ⟨_, _, _, rfl, P3.call hlt hb6 (hown.rv (S := (W4.drew.heap.size ≤ ·)) (fun q e => by omega) (fun i cs _ h => h)) hp⟩))
          have HFIN := Lib.hid (fun (W4 : World) (hb : Below W3.drew.heap.size W3.drew W4) (hh : hitF ⟨⟨r1, r2, r3⟩, bd⟩ ⟨f1, f2, f3⟩ x = true) (v : Value) (w' : World) (hp : P3 w W4.drew (.int .i64 i) v (.int .i64 0) (some (v, x.2)) w') => (show Keeps (fun k => (k < Q.heap.size ∧ ¬ SW w Q k) ∨ W1.heap.size ≤ k) W3 w' ∧ WL w Q ⟨⟨r1, r2, r3⟩, bd⟩ ⟨f1, f2, f3⟩ i pre x w' from by
            have h0 := HQ3.out
            have h1 := HQW.out
            have hl2 := (HKD.out W4 hb).size
            refine ⟨((HKD.out W4 hb).wide (fun q _ e => .inr (by omega))).trans (hp.kp.wide (fun q _ e => ?_)), WL.of (by omega) (HR3.out.keeps (by omega) (HKD.out W4 hb) (fun q e => by omega)) (by omega) hh hp⟩
            rcases e with e | e | e | e
            · exact .inl ⟨by omega, fun h => h.2.1 e⟩
            · exact .inl ⟨by omega, fun h => h.2.2.1 e⟩
            · exact .inl ⟨by omega, fun h => h.2.2.2 e⟩
            · exact .inr (by omega)))
          clear HHQ HK34 HLV HLV3 HI1 HBM HR3 HX3 HI0
          gi_wp2_with fail
          cases e1 : (h1.toList == f1.toList) <;> cases e2 : (h2.toList == f2.toList) <;> cases e3 : (h3.toList == f3.toList)
          all_goals
            have HQ := Lib.hid (HEQ.out.trans (by rw [e1, e2, e3]))
            clear HEQ
            first
              | (have hne := HNE.out HQ.out
                 have HNEQ := Lib.hid hne
                 clear hne HFIN HCL HIC HSD HKD HHE HNE
                 gi_region_with (refine ⟨trivial, rfl, CallsIn.mono (show CallsIn (Fence.wide.inRound (Q.heap.size + 1)) 0 _ _ _ _ _ from (callsIn_wide (n := 0)).2 HCALL.out) ?_⟩; rintro e W4 ⟨rfl, hb4⟩; rw [← HHF.out]; obtain ⟨d0, d1, d2⟩ := HBOX.out W4 hb4; have HB4 := Lib.hid hb4; clear hb4)
                 all_goals
                   have HN := Lib.hid (HWN.out W4 HB4.out HNEQ.out)
                   gi_wp2_with fail
                   exact ⟨HKN.out W4 HB4.out, HN.out⟩)
              | (have HHT := Lib.hid (HHE.out HQ.out)
                 clear HNE HHE HWN HKN
                 refine (fun (HK : Hid (∀ W4, Below W3.drew.heap.size W3.drew W4 → (?goalAt : World → Prop) W4)) => ?mainAt) (Lib.hid ?restAt)
                 case mainAt =>
                   gi_region_with (refine ⟨trivial, rfl, CallsIn.mono (show CallsIn (Fence.wide.inRound (Q.heap.size + 1)) 0 _ _ _ _ _ from (callsIn_wide (n := 0)).2 HCALL.out) ?_⟩; rintro e W4 ⟨rfl, hb4⟩; rw [← HHF.out]; obtain ⟨d0, d1, d2⟩ := HBOX.out W4 hb4; have HB4 := Lib.hid hb4; clear hb4)
                   all_goals exact HK.out _ HB4.out
                 case restAt =>
                   intro W4 hb4
                   have HB4 := Lib.hid hb4
                   have HS5 := Lib.hid (HSD.out W4 HB4.out)
                   obtain ⟨⟨s6, s7, s8⟩, t6, t7, t8⟩ := HS5.out.slots
                   have i0 := HIC.out W4 HB4.out _ _ _ _ _ (P3.start HS5.out)
                   clear HSD HKD hb4 n0 n1 n2 n3 g0 g1 g2
                   gi_wp2_with fail
                   gi_region_with (refine ⟨trivial, rfl, CallsIn.mono (show CallsIn (Fence.wide.inRound (Q.heap.size + 1)) 0 _ _ _ _ _ from (callsIn_wide (n := 0)).2 (HCL.out W4 HB4.out _ _ _ _ (by p3 (HS5.out.lt) (P3.start HS5.out)))) ?_⟩; rintro e W6 ⟨a6, n6, c6, rfl, hp6⟩; obtain ⟨⟨z6, z7, z8⟩, y6, y7, y8⟩ := hp6.slots; have i6 := HIC.out W4 HB4.out _ _ _ _ _ hp6)
                   all_goals
                     gi_wp2_with fail
                     refine HFIN.out W4 HB4.out HHT.out (.slice a6 n6 c6) _ ?_
                     p3 (HS5.out.lt) hp6)
      · obtain rfl : i = rules.length := by omega
        have HS9 := Lib.hid H3.out.st
        have HTT := Lib.hid (HNON.out (HT.out.trans (whyR_end _ _ _)))
        have HMK := Lib.hid H3.out.mks
        obtain ⟨⟨s6, s7, s8⟩, t6, t7, t8⟩ := HS9.out.slots
        clear HSOM HNON HT H3
        go_wp2_with fail
        exact why_fail rfl rfl rfl HS9.out HMK.out HTT.out (P3.set8 HS9.out.lt (P3.set7 HS9.out.lt (P3.set6 HS9.out.lt (P3.start HS9.out))))
end Go.Proofs.Ytafeaeaildfohaa
/- The law RingWhy, walked. -/
namespace Go.Proofs.Ytafeaeaildfohaa
open Go.RowKit Go.Maps

set_option maxRecDepth 100000 in
set_option maxHeartbeats 8000000 in
theorem ringWhyLaw_any (rules : List Rul) (rv : Value) (l : List Fct) (lv : Value) (f : Fct) (w : World) (hr : tRuls.rv (mem w) [rv] rules) (hf : tFcts.rv (mem w) [lv] l) (hok : okF f) (hsz : l.length * 48 ≤ 140737488355328) :
    Calls Try.prog 6 #[rv, lv, f.v] w fun e w' => e = .returned (.bool true) ∧ Below w.heap.size w w' := by
  have HHV := Lib.hid (fun w' (hb : Below w.heap.size w w') => heavy_any rules l rv lv w' (tRuls.mono _ _ _ _ (below_mem hb) hr) (tFcts.mono _ _ _ _ (below_mem hb) hf) hsz)
  have HN1 := Lib.hid (fun w' (hb : Below w.heap.size w w') => ringWhy_any rules l f rv lv w' (tRuls.mono _ _ _ _ (below_mem hb) hr) (tFcts.mono _ _ _ _ (below_mem hb) hf) hok)
  have HN2 := Lib.hid (fun w' (hb : Below w.heap.size w w') => refWhy_any rules l f rv lv w' (tRuls.mono _ _ _ _ (below_mem hb) hr) (tFcts.mono _ _ _ _ (below_mem hb) hf) hok)
  have HFL := Lib.hid (fun w' (hb : Below w.heap.size w w') => (ringFollows_any rules l rv lv w' (tRuls.mono _ _ _ _ (below_mem hb) hr) (tFcts.mono _ _ _ _ (below_mem hb) hf)).mono (fun e w2 h => FollowsAnsR.uni (FollowsAns.weak h)))
  have HGV := Lib.hid (fun (r : Rul) (b : List Fct) (bv v : Value) w' (h1 : okF r.hd) (h2 : tFcts.rv (mem w') [bv] r.bd) (h3 : tFcts.rv (mem w') [v] b) => (ringGives_any r b bv v w' h1 h2 h3).mono (fun e w2 h => GivesAns.uni h))
  obtain ⟨ar, cr, rfl, hlr, hmr, hr⟩ := slice_form hr
  obtain ⟨af, cf, rfl, -⟩ := slice_form hf
  have hcr : cr ≤ 9223372036854775807 := by unfold maxLen at hmr; exact hmr
  have HR := Lib.hid (fun wr (hb : Below w.heap.size w wr) => tRuls.mono _ _ _ _ (below_mem hb) hr)
  obtain ⟨f1, f2, f3⟩ := f
  obtain ⟨X, hX⟩ : ∃ X, X = w.alloc (.cells #[.string f1, .string f2, .string f3] 33) := ⟨_, rfl⟩
  have HBX := Lib.hid (show Below w.heap.size w X from by rw [hX]; exact boxW w _)
  have HCX := Lib.hid (show X.heap[w.heap.size]? = some (.cells #[.string f1, .string f2, .string f3] 33 (0, 0)) from by rw [hX]; exact heap_alloc_new w _)
  have HX := Lib.hid hX
  have HCB := Lib.hid (fun (w' : World) (hb : Below X.heap.size X w') => (show w'.cell? ⟨w.heap.size, 0, none⟩ = some (.string f1) ∧ w'.cell? ⟨w.heap.size, 1, none⟩ = some (.string f2) ∧ w'.cell? ⟨w.heap.size, 2, none⟩ = some (.string f3) from by
    have hb2 := (hb.block _ (Array.getElem?_eq_some_iff.1 HCX.out).1).trans HCX.out
    exact ⟨mem_cells hb2 0, mem_cells hb2 1, mem_cells hb2 2⟩))
  obtain ⟨s1, s2, s3⟩ := hok
  simp only at s1 s2 s3
  unfold maxLen at s1 s2 s3
  clear hr hf hmr hX hsz
  go_enter Try.func6, Try.ntmps6
  go_wp2_with fail
  rw [← HX.out]
  refine (HHV.out X HBX.out).mono ?_
  rintro e w1 ⟨b, rfl, hb1, -⟩
  have HB1 := Lib.hid hb1
  obtain ⟨c0, c1, c2⟩ := HCB.out w1 hb1
  clear hb1 HHV
  cases b with
  | true =>
    clear c0 c1 c2
    go_wp2_with fail
    refine (awake_any w1).mono ?_
    rintro e w2 ⟨rfl, hb2⟩
    have HB2 := Lib.hid (pure_trans HBX.out (pure_trans HB1.out hb2))
    go_wp2
    go_ret
    exact ⟨rfl, HB2.out⟩
  | false =>
  obtain ⟨T, hT⟩ : ∃ T, T = whyT rules l ⟨f1, f2, f3⟩ := ⟨_, rfl⟩
  have HTE := Lib.hid hT
  have HGD := Lib.hid (whyT_good (rules := rules) (l := l) (f := ⟨f1, f2, f3⟩))
  have HTI := whyT_in64 rules l ⟨f1, f2, f3⟩
  rw [← hT] at HGD HTI
  obtain ⟨i, F, c⟩ := T
  simp only at HGD HTI
  obtain ⟨hi0, hi1, hc0, hc1, hF⟩ := HTI
  have HI0 := Lib.hid hi0
  have HI1 := Lib.hid hi1
  have HF3 := Lib.hid hF
  have hcc : (c != c) = false := by simp
  have hcc2 : (c == c) = true := by simp
  have hii : (i != i) = false := by simp
  have hii2 : (i == i) = true := by simp
  clear hT hi0 hi1 hF
  go_wp2_with fail
  · clear c0 c1 c2
    refine (awake_any w1).mono ?_
    rintro e w2 ⟨rfl, hb2⟩
    have HB2 := Lib.hid (pure_trans HBX.out (pure_trans HB1.out hb2))
    go_wp2
    go_ret
    exact ⟨rfl, HB2.out⟩
  · clear c0 c1 c2
    refine (HN1.out w1 (pure_trans HBX.out HB1.out)).mono ?_
    rintro e w4 ⟨v4, rfl, hv4, hb4⟩
    rw [← HTE.out] at hv4 ⊢
    simp only at hv4 ⊢
    have HB4 := Lib.hid (pure_trans HB1.out hb4)
    have HV4 := Lib.hid (fun (w' : World) (hb : Below w4.heap.size w4 w') => tFcts.mono _ _ _ _ (below_mem hb) hv4)
    obtain ⟨a4, c4, rfl, -⟩ := slice_form hv4
    obtain ⟨c0, c1, c2⟩ := HCB.out w4 HB4.out
    clear hv4 hb4 HN1
    go_wp2_with fail
    refine (HN2.out w4 (pure_trans HBX.out HB4.out)).mono ?_
    rintro e w5 ⟨v5, rfl, hv5, hb5⟩
    rw [← HTE.out] at hv5 ⊢
    simp only at hv5 ⊢
    have HB5 := Lib.hid (pure_trans HB4.out hb5)
    have HB45 := Lib.hid hb5
    have HSM := Lib.hid (refSame_any F _ _ w5 (HV4.out w5 hb5) hv5)
    obtain ⟨a5, c5, rfl, -⟩ := slice_form hv5
    clear hv5 hb5 HN2 HB4 c0 c1 c2
    go_wp2_with fail
    refine HSM.out.mono ?_
    rintro e w6 ⟨rfl, hb6⟩
    have HB6 := Lib.hid (pure_trans HB5.out hb6)
    have HB46 := Lib.hid (pure_trans HB45.out hb6)
    clear hb6 HSM HB5 HB1 HB45
    by_cases hc : c = 0
    · subst hc
      obtain ⟨k, hk, g1, g2, hkl, g3, g4⟩ := HGD.out rfl
      subst hk
      have HCF := Lib.hid g1
      have HLS := Lib.hid g2
      have HCG := Lib.hid g3
      have HFG := Lib.hid g4
      clear g1 g2 g3 g4 HGD hcc hcc2 hii hii2 HI0 HI1 HTE
      go_wp2_with fail
      refine (HFL.out w6 (pure_trans HBX.out HB6.out)).mono ?_
      rintro e w7 ⟨v7, rfl, hv7, hb7⟩
      rw [HCF.out]
      have HB7 := Lib.hid (pure_trans HB6.out hb7)
      have HB47 := Lib.hid (pure_trans HB46.out hb7)
      have HLE := Lib.hid (refLess_any F (factsF rules l) (.slice a4 F.length c4) v7 w7 (HV4.out w7 HB47.out) hv7 (by have := HF3.out; omega))
      rw [HLS.out] at HLE
      obtain ⟨a7, c7, rfl, -⟩ := slice_form hv7
      clear hv7 hb7 HFL HB6 HB46
      go_wp2_with fail
      refine HLE.out.mono ?_
      rintro e w8 ⟨v8, rfl, hown8, hb8⟩
      have HB8 := Lib.hid (pure_trans HB7.out hb8)
      have HB48 := Lib.hid (pure_trans HB47.out hb8)
      obtain ⟨a8, c8, rfl, -⟩ := hown8.len
      obtain ⟨b, o, bv, rfl, ⟨q0, q1, q2, q3⟩, hokr, hbd⟩ := ruls_at (HR.out w8 (pure_trans HBX.out HB8.out)) hkl
      have d0 : w8.cell? ⟨b, o + k * 4, none⟩ = some (.string rules[k].hd.n) := q0
      have d1 : w8.cell? ⟨b, o + k * 4 + 1, none⟩ = some (.string rules[k].hd.a) := q1
      have d2 : w8.cell? ⟨b, o + k * 4 + 2, none⟩ = some (.string rules[k].hd.b) := q2
      have d3 : w8.cell? ⟨b, o + k * 4 + 3, none⟩ = some bv := q3
      have HGI := Lib.hid (HGV.out rules[k] F bv (.slice a4 F.length c4) w8 hokr hbd (HV4.out w8 HB48.out))
      obtain ⟨ab, cb, rfl, -, -, -⟩ := slice_form hbd
      clear q0 q1 q2 q3 hokr hbd hown8 hb8 HLE HB7 HB47 HGV
      generalize rules[k] = r at *
      obtain ⟨⟨r1, r2, r3⟩, bd⟩ := r
      simp only at d0 d1 d2 d3
      go_wp2_with fail
      refine HGI.out.mono ?_
      rintro e w9 ⟨v9, rfl, hv9, hb9⟩
      rw [HCG.out]
      have HB9 := Lib.hid (pure_trans HB8.out hb9)
      obtain ⟨c0, c1, c2⟩ := HCB.out w9 HB9.out
      have HIN := Lib.hid (refIn_any (factsG ⟨⟨r1, r2, r3⟩, bd⟩ F) ⟨f1, f2, f3⟩ v9 w9 hv9)
      rw [decide_eq_true HFG.out] at HIN
      obtain ⟨a9, c9, rfl, -⟩ := slice_form hv9
      clear hv9 hb9 HGI HB8 HB48
      go_wp2_with fail
      refine HIN.out.mono ?_
      rintro e w10 ⟨rfl, hb10⟩
      have HB10 := Lib.hid (pure_trans HB9.out hb10)
      clear c0 c1 c2 hb10 HIN HB9
      go_wp2_with fail
      refine (awake_any w10).mono ?_
      rintro e w11 ⟨rfl, hb11⟩
      have HB11 := Lib.hid (pure_trans HBX.out (pure_trans HB10.out hb11))
      go_wp2
      go_ret
      exact ⟨rfl, HB11.out⟩
    · have hc2 : (c != 0) = true := by simpa using hc
      clear hc HGD HFL HGV
      go_wp2_with fail
      refine (awake_any w6).mono ?_
      rintro e w7 ⟨rfl, hb7⟩
      have HB7 := Lib.hid (pure_trans HBX.out (pure_trans HB6.out hb7))
      go_wp2
      go_ret
      exact ⟨rfl, HB7.out⟩
end Go.Proofs.Ytafeaeaildfohaa
namespace Go.Proofs.Ytafeaeaildfohaa.lawRingWhy
open Go.ChangeShapes Go.WideShapes Go.ChangeAt Go.RowKit
set_option maxRecDepth 100000 in
theorem lifted (os : Os) (started : os.Started) (H : Type) (enc : TypeId × Value → H) :
    ReturnsInHanded {} Try.checked os 6 .any (Rows.ringWhySpec.pre6 enc Try.prog Try.f6 Rows.ringWhyRow.domain false) (Rows.ringWhySpec.post enc Try.prog Try.f6 false true false false) := by
  refine returnsInHanded_of_change_sized (C := Try.checked) Try.own started (by kernel_rfl) Try.func6
    (ChangeSpec.witness6 (enc := enc) (C := Try.checked) false ⟨#[], #[.slice none 0 0, .slice none 0 0, .agg #[.string .empty, .string .empty, .string .empty]], []⟩ 8 (by kernel_rfl) (by kernel_rfl) (by kernel_rfl) (by kernel_rfl)) ?_
  intro W base args ds gs before hval0 hW hcnd hszs _
  have hval : ∀ (j : Nat) t v, Try.f6.params[j]? = some t → args[j]? = some v → Value.okWide Try.prog W .any base t v := hval0
  have hW' := hW
  obtain ⟨p, q, hA0, hV, rfl, hfz, hnd⟩ := hW
  have hA : DataW.TrodAll enc Try.prog W 0 (fun _ => true) true Try.f6.params.toList args.toList ds p := hA0
  rw [Try.params6] at hA hval
  obtain ⟨v0, vs0, d0, ds0, p0, q0, hargs, rfl, rfl, h0, r0⟩ := trodAll_cons hA
  obtain ⟨v1, vs1, d1, ds1, p1, q1, rfl, rfl, rfl, h1, r1⟩ := trodAll_cons r0
  obtain ⟨v2, vs2, d2, ds2, p2, q2, rfl, rfl, rfl, h2, r2⟩ := trodAll_cons r1
  obtain ⟨rfl, rfl, rfl⟩ := trodAll_nil r2
  obtain rfl : args = #[v0, v1, v2] := by cases args; simp_all
  obtain ⟨rfl, rfl⟩ := trodVars_none hV
  obtain ⟨x0, w0⟩ := arg_slice (t := tRul) reads_ruls Try.underlying22 (hval 0 22 v0 rfl rfl) h0
  obtain ⟨x1, w1⟩ := arg_slice (t := tFct) reads_fcts Try.underlying23 (hval 1 23 v1 rfl rfl) h1
  obtain ⟨x2, cs2, rfl, e2, w2⟩ := arg_struct (t := tFct) reads_fct Try.underlying33 (hval 2 33 v2 rfl rfl) h2
  obtain rfl : cs2 = #[.string x2.n, .string x2.a, .string x2.b] := by cases cs2; simpa using e2
  have hsz := sized_len (t := tFct) (v := v1) 1 48 Try.underlying23 (by kernel_rfl) w1 h1 hszs (by rw [Try.params6]; rfl) rfl
  clear hA0 hval0 hszs
  refine (ringWhyLaw_any x0 v0 x1 v1 x2 W w0 w1 w2 hsz).mono fun e W' ⟨he, bel⟩ => ?_
  subst he
  exact ⟨_, rfl, law_post Try.laidOut rfl (by rw [Try.params6]; intro t ht; have hs : Try.prog.types.size = Try.prog.types.size := rfl; simp only [List.mem_cons, List.not_mem_nil, or_false] at ht; rcases ht with rfl | rfl | rfl <;> exact ⟨by kernel_rfl, of_decide_eq_true (by kernel_rfl)⟩) (by kernel_rfl) Try.underlying4 rfl rfl rfl hW' bel⟩

theorem proved : Rows.RingWhySaid :=
  OpenClaim.holds_of_wide 6 Try.f6 rfl rfl rfl rfl rfl rfl rfl ⟨rfl, rfl, rfl, rfl, rfl⟩ rfl rfl rfl rfl rfl (by kernel_rfl) Try.func6 (by kernel_rfl)
    (of_decide_eq_true (by kernel_rfl)) (by unfold Func.isWrapper; first | (rw [if_pos (by decide +kernel)]; kernel_rfl) | (rw [if_neg (by decide +kernel)]; exact ⟨rfl, rfl⟩))
    (fun os started H enc _ => lifted os started H enc)
#print axioms proved
end Go.Proofs.Ytafeaeaildfohaa.lawRingWhy
