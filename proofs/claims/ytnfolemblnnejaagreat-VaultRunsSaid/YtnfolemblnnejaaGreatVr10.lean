/- Part 10 of the texts that the law's proof stands on, merged. -/
import Derived.Test.YtnfolemblnnejaaGreatVr09
set_option linter.unusedVariables false
set_option linter.unusedSimpArgs false
/- The law's complete: printed by gen_vcompl.py. -/
namespace Go.Proofs.YtnfolemblnnejaaGreat
open Go.RowKit Go.Maps

/-- What is told is small. -/
def Small (s : VS) : Prop := ∀ k t, s.find k = some t → t.ents.length ≤ 100000 ∧ ∀ x ∈ t.ents, 0 ≤ x.g ∧ x.nm.size + x.key.size + x.val.size ≤ 200000
theorem entsSay_one {o : Option Sn} {a b : List Ent} (ha : EntsSay o a) (hb : EntsSay o b) : a = b := by
  cases o with
  | none => exact (show a = [] from ha).trans (show b = [] from hb).symm
  | some t =>
    unfold EntsSay at ha hb
    simp only at ha hb
    by_cases hd : t.done = true
    · rw [if_pos hd] at ha hb
      exact sorted_one (ha.1.trans hb.1.symm) ha.2 hb.2
    · rw [if_neg hd] at ha hb
      exact ha.trans hb.symm
theorem name_size {s : VS} (h : VOk s) {nm : ByteArray} (hn : nm ∈ sortTexts s.names) : nm.size ≤ maxLen := by
  have := (sortTexts_perm s.names).mem_iff.1 hn
  unfold VS.names at this
  obtain ⟨x, hx, rfl⟩ := List.mem_map.1 this
  have hx := (List.mem_filter.1 (List.mem_filter.1 hx).1).1
  exact (h.tk _ hx).2.2
set_option maxRecDepth 100000 in
set_option maxHeartbeats 16000000 in
theorem lawCompl_any {base p : Nat} {r : HV} (a : Value) (W : World) (hI : VInv W base p r) (hR : RV (mem W) r.vs a) (hs : Small r.vs) :
    Calls Tryz.prog 34 #[ptrTo p, rvV r.vs a] W fun e w' => e = .returned (.bool true) ∧ Below W.heap.size W w' := by
  obtain ⟨aa, ca, rfl, hla, hma, -⟩ := slice_form hR.ha
  have hca : ca ≤ 9223372036854775807 := by unfold maxLen at hma; exact hma
  obtain ⟨HB, HC⟩ := box5 W r.vs (.slice aa r.vs.all.length ca)
  have HIW := Lib.hid (fun w' (hb : Below W.heap.size W w') => (hI.pure hb : VInv w' base p r))
  have HRW := Lib.hid (fun w' (hb : Below W.heap.size W w') => (hR.mono (below_mem hb) : RV (mem w') r.vs (.slice aa r.vs.all.length ca)))
  have HNU := Lib.hid (fun w' (hb : Below W.heap.size W w') => refNumbers_any r.vs _ w' (HRW.out w' hb) true)
  rw [comp_eq] at HNU
  have HCM := Lib.hid (fun w' (hb : Below W.heap.size W w') => vComplete_any w' (HIW.out w' hb))
  have HLA := Lib.hid (fun w' (hb : Below W.heap.size W w') => vLatest_any w' (HIW.out w' hb))
  have HRL := Lib.hid (fun w' (hb : Below W.heap.size W w') => refLatest_any r.vs _ w' (HRW.out w' hb))
  have HNM := Lib.hid (fun w' (hb : Below W.heap.size W w') => vNames_any w' (HIW.out w' hb))
  have HRN := Lib.hid (fun w' (hb : Below W.heap.size W w') => refNames_any r.vs _ w' (HRW.out w' hb))
  have HNS := Lib.hid (fun nm (h : nm ∈ sortTexts r.vs.names) => name_size hI.ok h)
  have HSM := Lib.hid hs
  have HAL := Lib.hid (show r.vs.comp.length ≤ 1000000 from those_len hI.ok Sn.done)
  have HNL := Lib.hid (show (sortTexts r.vs.names).length = r.vs.names.length ∧ r.vs.names.length ≤ 1000000 from by
    refine ⟨(sortTexts_perm _).length_eq, ?_⟩
    unfold VS.names
    rw [List.length_map]
    have h1 := all_len hI.ok
    have h2 := hI.ok.l
    exact Nat.le_trans (List.length_filter_le _ _) (Nat.le_trans (List.length_filter_le _ _) (by omega)))
  clear hma hR hI hs
  generalize latAns r.vs.comp = la at *
  generalize sortTexts r.vs.names = NS at *
  generalize r.vs.comp = L at *
  obtain ⟨n1, n2⟩ := la
  simp only at HLA HRL
  have e1 : (n1 == n1) = true := by simp
  have e2 : (n2 == n2) = true := by simp
  go_enter Tryz.func34, Tryz.ntmps34
  obtain ⟨c0, c1, c2, c3, c4⟩ := HC.out _ (Below.refl _ _)
  go_wp2_with fail
  generalize W.alloc (rvB r.vs (.slice aa r.vs.all.length ca)) = X at *
  refine (HNU.out _ HB.out).mono ?_
  rintro e w1 ⟨al, cl, rfl, ho, hb⟩
  have HX1 := Lib.hid hb
  have HB1 := Lib.hid (HB.out.trans (hb.mono HB.out.size))
  have HL := Lib.hid (fun w' (hb : Below w1.heap.size w1 w') => (show (tSlice tInt).rv (mem w') [.slice al L.length cl] L from (tSlice tInt).mono _ _ _ _ (below_mem hb) ho.rv'))
  have hcl : cl ≤ 9223372036854775807 := by
    obtain ⟨a', k', e', h2, h3, -⟩ := slice_form ho.rv'
    simp only [Value.slice.injEq] at e'
    unfold maxLen at h3
    rw [e'.2.2]; exact h3
  clear hb ho HNU c0 c1 c2 c3 c4
  go_wp2_with fail
  refine (HLA.out _ HB1.out).mono ?_
  rintro e w2 ⟨rfl, hb⟩
  have HX2 := Lib.hid (pure_trans HX1.out hb)
  have HB2 := Lib.hid (HB1.out.trans (hb.mono HB1.out.size))
  have HY2 := Lib.hid hb
  obtain ⟨c0, c1, c2, c3, c4⟩ := HC.out _ HX2.out
  clear hb HLA
  go_wp2_with fail
  refine (HRL.out _ HB2.out).mono ?_
  rintro e w3 ⟨rfl, hb⟩
  have HX3 := Lib.hid (pure_trans HX2.out hb)
  have HB3 := Lib.hid (HB2.out.trans (hb.mono HB2.out.size))
  have HY3 := Lib.hid (pure_trans HY2.out hb)
  clear hb HRL c0 c1 c2 c3 c4 HX1 HX2 HY2
  have HS := Lib.hid (fun (w' : World) (hb : Below w3.heap.size w3 w') => HC.out w' (pure_trans HX3.out hb))
  have hb0 : Below w3.heap.size w3 w3.drew := (Below.refl _ _).drew
  have HW := Lib.hid (fun (w' : World) (hb : Below w3.heap.size w3 w') => (show Below W.heap.size W w' from HB3.out.trans (hb.mono HB3.out.size)))
  have HLL := Lib.hid (fun w' (hb : Below w3.heap.size w3 w') => HL.out w' (pure_trans HY3.out hb))
  clear HL
  go_wp2_with fail
  go_region_held3 (fun w' => w'.cell? ⟨W.heap.size, 0, none⟩ = some (.int .i64 r.vs.tasks) ∧ w'.cell? ⟨W.heap.size, 1, none⟩ = some (.int .i64 r.vs.most) ∧ w'.cell? ⟨W.heap.size, 2, none⟩ = some (.int .i64 r.vs.keep) ∧ w'.cell? ⟨W.heap.size, 3, none⟩ = some (.int .i64 ((r.vs.last : Int) + 1)) ∧ w'.cell? ⟨W.heap.size, 4, none⟩ = some (.slice aa r.vs.all.length ca))
    (first | with_reducible exact HS.out _ hb0 | with_reducible exact HS.out _ hb4 | with_reducible exact HS.out _ hb5 | with_reducible exact HS.out _ hb6 | with_reducible exact HS.out _ hb7 | with_reducible exact HS.out _ hb8)
    ((first
      | (go_at_call 13; refine (HCM.out _ (HW.out _ hb0)).mono ?_; rintro e w4 ⟨ua, uc, rfl, hu, hb⟩; have hb4 := pure_trans hb0 hb; have HSI := Lib.hid (sameInts_self L _ _ w4 hu.rv' (HLL.out w4 hb4)); clear hb hu)
      | (go_at_call 12; refine HSI.out.mono ?_; rintro e w5 ⟨rfl, hb⟩; have hb5 := pure_trans hb4 hb; clear hb)
      | (go_at_call 65; first
          | (refine (HNM.out _ (HW.out _ hb5)).mono ?_; rintro e w6 ⟨u6, k6, rfl, hu6, hb⟩; have hb6 := pure_trans hb5 hb; clear hb)
          | (refine (HNM.out _ (HW.out _ hb7)).mono ?_; rintro e w6 ⟨u6, k6, rfl, hu6, hb⟩; have hb6 := pure_trans hb7 hb; have hu8 := tStrs.mono _ _ _ _ (below_mem hb) hu7; have HST := Lib.hid (sameTexts_self NS _ _ w6 hu6 hu8); clear hb))
      | (go_at_call 66; first
          | (refine (HRN.out _ (HW.out _ hb6)).mono ?_; rintro e w7 ⟨u7, rfl, hu7, hb⟩; have hb7 := pure_trans hb6 hb; have hu8 := tStrs.mono _ _ _ _ (below_mem hb) hu6; have HST := Lib.hid (sameTexts_self NS _ _ w7 hu8 hu7); clear hb)
          | (refine (HRN.out _ (HW.out _ hb5)).mono ?_; rintro e w7 ⟨u7, rfl, hu7, hb⟩; have hb7 := pure_trans hb5 hb; clear hb))
      | (go_at_call 38; refine HST.out.mono ?_; rintro e w8 ⟨rfl, hb⟩; have hb8 := (by first | exact pure_trans hb7 hb | exact pure_trans hb6 hb : Below w3.heap.size w3 w8); clear hb)))
  all_goals
    have HB8 := Lib.hid (HW.out _ hb8)
    have HS8 := Lib.hid (fun w' (hb : Below w8.heap.size w8 w') => HS.out w' (pure_trans hb8 hb))
    have HL8 := Lib.hid (fun w' (hb : Below w8.heap.size w8 w') => HLL.out w' (pure_trans hb8 hb))
    clear hb0 hb4 hb5 hb6 hb7 hb8 HLL HS HW HX3 HY3 HCM HNM HB1 HB2 HB3
    have hb8 : Below w8.heap.size w8 w8 := Below.refl _ _
    go_wp2
    go_loopw [10] (fun iv wr => ∃ i : Nat, i ≤ L.length ∧ iv = .int .i64 i ∧ Hid (Below w8.heap.size w8 wr)) (fun iv _ => L.length - (intOf iv).toNat)
    case atStart => exact ⟨0, by omega, rfl, Lib.hid hb8⟩
    case round =>
      clear hb8
      obtain ⟨i, hi, rfl, HBR⟩ := hrel
      have hal := HAL.out
      have HWR := Lib.hid (fun w' (hb : Below wr.heap.size wr w') => (show Below W.heap.size W w' from HB8.out.trans ((pure_trans HBR.out hb).mono HB8.out.size)))
      have HSR := Lib.hid (fun w' (hb : Below wr.heap.size wr w') => HS8.out w' (pure_trans HBR.out hb))
      have hbr : Below wr.heap.size wr wr := Below.refl _ _
      by_cases hlt : i < L.length
      · obtain ⟨bl, ol, e, hat⟩ := slice_at (HL8.out wr HBR.out) hlt
        subst e
        have d0 : wr.cell? ⟨bl, ol + i, none⟩ = some (.int .i64 L[i]) := by
          have := (int_at hat).1
          simpa [tInt, mem] using this
        have hk := (int_at hat).2
        clear hat
        generalize L[i] = k at *
        have HD0 := Lib.hid (fun w' (hb : Below wr.heap.size wr w') => (show w'.cell? ⟨bl, ol + i, none⟩ = some (.int .i64 k) from below_mem hb _ _ _ d0))
        have H9 := Lib.hid (fun w' (hb : Below W.heap.size W w') => vTexts_any k w' (HIW.out w' hb) hk)
        have H10 := Lib.hid (fun w' (hb : Below W.heap.size W w') => refTextsV_any r.vs _ w' (HRW.out w' hb) k)
        have H11 := Lib.hid (fun w' (hb : Below W.heap.size W w') => vEntries_any k w' (HIW.out w' hb) hk (fun t h => (HSM.out k t h).1))
        have H12 := Lib.hid (fun w' (hb : Below W.heap.size W w') => refEntriesV_any r.vs _ w' (HRW.out w' hb) k (fun t h => (HSM.out k t h).1))
        have H13 := Lib.hid (fun w' (hb : Below W.heap.size W w') => vSize_any k w' (HIW.out w' hb) hk (fun t h => ⟨(HSM.out k t h).1, fun x hx => ((HSM.out k t h).2 x hx).2⟩))
        have H14 := Lib.hid (fun w' (hb : Below W.heap.size W w') => refSizeV_any r.vs _ w' (HRW.out w' hb) k (fun t h => ⟨(HSM.out k t h).1, fun x hx => ((HSM.out k t h).2 x hx).2⟩))
        generalize textsAns (r.vs.find k) = ta at *
        generalize r.vs.find k = ok at *
        obtain ⟨tx, tc⟩ := ta
        simp only at H9 H10
        go_wp2_with fail
        refine (H9.out _ (HWR.out _ hbr)).mono ?_
        rintro e w9 ⟨a9, k9, rfl, hr9, hb9⟩
        have HT9 := Lib.hid (fun w' (hb : Below w9.heap.size w9 w') => (show tStrs.rv (mem w') [.slice a9 tx.length k9] tx from tStrs.mono _ _ _ _ (Mem.le_trans (Mem.on_le _ _) (below_mem hb)) hr9))
        have hc9 : Below w9.heap.size w9 w9.drew := (Below.refl _ _).drew
        have hd9 := pure_trans hb9 hc9
        clear hr9 d0 hbr H9
        have HK9 := Lib.hid (fun w' (hb : Below wr.heap.size wr w') => And.intro (HSR.out w' hb) (HD0.out w' hb))
        go_wp2_with fail
        go_region_held3 (fun w' => (w'.cell? ⟨W.heap.size, 0, none⟩ = some (.int .i64 r.vs.tasks) ∧ w'.cell? ⟨W.heap.size, 1, none⟩ = some (.int .i64 r.vs.most) ∧ w'.cell? ⟨W.heap.size, 2, none⟩ = some (.int .i64 r.vs.keep) ∧ w'.cell? ⟨W.heap.size, 3, none⟩ = some (.int .i64 ((r.vs.last : Int) + 1)) ∧ w'.cell? ⟨W.heap.size, 4, none⟩ = some (.slice aa r.vs.all.length ca)) ∧ w'.cell? ⟨bl, ol + i, none⟩ = some (.int .i64 k))
          (first | with_reducible exact HK9.out _ hd9 | with_reducible exact HK9.out _ hb10)
          ((go_at_call 33; refine (H10.out _ (HWR.out _ hd9)).mono ?_; rintro e w10 ⟨v10, rfl, hr10, hb⟩; have hb10 := pure_trans hd9 hb; have HY10 := Lib.hid (pure_trans hc9 hb); clear hb))
        all_goals
          have HTS := Lib.hid (fun w' (hb : Below w10.heap.size w10 w') => sameTexts_self tx _ _ w' (HT9.out w' (pure_trans HY10.out hb)) (tStrs.mono _ _ _ _ (below_mem hb) hr10))
          obtain ⟨a10, k10, rfl, -, -, -⟩ := slice_form hr10
          have d0 := HD0.out _ hb10
          clear hr10 hd9 hc9 hb9 H10 HT9 HY10
          go_wp2_with fail
          refine (H11.out _ (HWR.out _ hb10)).mono ?_
          rintro e w11 ⟨es, a11, k11, rfl, hs11, hr11, hb⟩
          have hb11 := pure_trans hb10 hb
          have HY11 := Lib.hid hb
          have HE11 := Lib.hid (fun w' (hb : Below w11.heap.size w11 w') => (show tEnts.rv (mem w') [.slice a11 es.length k11] es from tEnts.mono _ _ _ _ (Mem.le_trans (Mem.on_le _ _) (below_mem hb)) hr11))
          have HS11 := Lib.hid hs11
          have hc11 : Below w11.heap.size w11 w11.drew := (Below.refl _ _).drew
          have hd11 := pure_trans hb11 hc11
          clear hr11 hs11 hb H11 d0
          go_wp2_with fail
          go_region_held3 (fun w' => (w'.cell? ⟨W.heap.size, 0, none⟩ = some (.int .i64 r.vs.tasks) ∧ w'.cell? ⟨W.heap.size, 1, none⟩ = some (.int .i64 r.vs.most) ∧ w'.cell? ⟨W.heap.size, 2, none⟩ = some (.int .i64 r.vs.keep) ∧ w'.cell? ⟨W.heap.size, 3, none⟩ = some (.int .i64 ((r.vs.last : Int) + 1)) ∧ w'.cell? ⟨W.heap.size, 4, none⟩ = some (.slice aa r.vs.all.length ca)) ∧ w'.cell? ⟨bl, ol + i, none⟩ = some (.int .i64 k))
            (first | with_reducible exact HK9.out _ hd11 | with_reducible exact HK9.out _ hb12)
            ((go_at_call 58; refine (H12.out _ (HWR.out _ hd11)).mono ?_; rintro e w12 ⟨es2, a12, k12, rfl, hs12, hr12, hb⟩; have hb12 := pure_trans hd11 hb; have HY12 := Lib.hid (pure_trans hc11 hb); clear hb))
          all_goals
            obtain rfl := entsSay_one HS11.out hs12
            have HES := Lib.hid (fun w' (hb : Below w12.heap.size w12 w') => sameEnts_any es _ _ w' (HE11.out w' (pure_trans HY12.out hb)) (tEnts.mono _ _ _ _ (Mem.le_trans (Mem.on_le _ _) (below_mem hb)) hr12))
            have HY12b := Lib.hid (pure_trans HY11.out HY12.out)
            have d0 := HD0.out _ hb12
            clear hr12 hs12 hd11 hc11 hb11 hb10 H12 HE11 HY12 HY11
            go_wp2_with fail
            refine (H13.out _ (HWR.out _ hb12)).mono ?_
            rintro e w13 ⟨es3, hs13, rfl, hb⟩
            obtain rfl := entsSay_one HS11.out hs13
            have hb13 := pure_trans hb12 hb
            have HY13 := Lib.hid hb
            have hc13 : Below w13.heap.size w13 w13.drew := (Below.refl _ _).drew
            have hd13 := pure_trans hb13 hc13
            clear hs13 hb H13 d0
            go_wp2_with fail
            go_region_held3 (fun w' => (w'.cell? ⟨W.heap.size, 0, none⟩ = some (.int .i64 r.vs.tasks) ∧ w'.cell? ⟨W.heap.size, 1, none⟩ = some (.int .i64 r.vs.most) ∧ w'.cell? ⟨W.heap.size, 2, none⟩ = some (.int .i64 r.vs.keep) ∧ w'.cell? ⟨W.heap.size, 3, none⟩ = some (.int .i64 ((r.vs.last : Int) + 1)) ∧ w'.cell? ⟨W.heap.size, 4, none⟩ = some (.slice aa r.vs.all.length ca)) ∧ w'.cell? ⟨bl, ol + i, none⟩ = some (.int .i64 k))
              (first | with_reducible exact HK9.out _ hd13 | with_reducible exact HK9.out _ hb14)
              ((go_at_call 68; refine (H14.out _ (HWR.out _ hd13)).mono ?_; rintro e w14 ⟨es4, hs14, rfl, hb⟩; have hb14 := pure_trans hd13 hb; have HY14 := Lib.hid (pure_trans HY13.out (pure_trans hc13 hb)); clear hb))
            all_goals
              obtain rfl := entsSay_one HS11.out hs14
              have HY14b := Lib.hid (pure_trans HY12b.out HY14.out)
              have HB14 := Lib.hid (pure_trans HBR.out hb14)
              clear hs14 hd13 hc13 hb13 hb12 H14 HY13 HK9 HD0 HWR HSR HS11 HIW HRW HL8 HS8
              have q1 : (tc == tc) = true := by simp
              have q2 : (entsCode ok == entsCode ok) = true := by simp
              have q3 : (((bytesOf es : Nat) : Int) == ((bytesOf es : Nat) : Int)) = true := by simp
              generalize bytesOf es = nb at *
              generalize entsCode ok = ec at *
              go_wp2_with fail
              refine (HTS.out _ HY14b.out).mono ?_
              rintro e w15 ⟨rfl, hb15⟩
              have HY15 := Lib.hid (pure_trans HY14.out hb15)
              have HB15 := Lib.hid (pure_trans HB14.out hb15)
              clear hb15 HTS HY14b HY12b hb14
              go_wp2_with fail
              refine (HES.out _ HY15.out).mono ?_
              rintro e w16 ⟨rfl, hb16⟩
              have HB16 := Lib.hid (pure_trans HB15.out hb16)
              clear hb16
              go_wp2
              go_roundw
              case rel => exact ⟨i + 1, by omega, by go_num, HB16⟩
              case measure => simp [intOf]; omega
      · obtain rfl : i = L.length := by omega
        obtain ⟨c0, c1, c2, c3, c4⟩ := HSR.out _ hbr
        go_wp2_with fail
        refine (HRN.out _ (HWR.out _ hbr)).mono ?_
        rintro e w17 ⟨v17, rfl, hr17, hb17⟩
        have HB17 := Lib.hid (HWR.out _ hb17)
        have HS17 := Lib.hid (fun w' (hb : Below w17.heap.size w17 w') => HSR.out w' (pure_trans hb17 hb))
        obtain ⟨a17, k17, rfl, -, hm17, -⟩ := slice_form hr17
        have hk17 : k17 ≤ 9223372036854775807 := by unfold maxLen at hm17; exact hm17
        have HN17 := Lib.hid (fun w' (hb : Below w17.heap.size w17 w') => (show tStrs.rv (mem w') [.slice a17 NS.length k17] NS from tStrs.mono _ _ _ _ (below_mem hb) hr17))
        obtain ⟨hn1, hn2⟩ := HNL.out
        clear hb17 hr17 hm17 HRN HBR HWR HSR hbr HL8 HS8 HSM c0 c1 c2 c3 c4
        go_wp2_with fail
        go_loopw [24] (fun iv wr => ∃ i : Nat, i ≤ NS.length ∧ iv = .int .i64 i ∧ Hid (Below w17.heap.size w17 wr)) (fun iv _ => NS.length - (intOf iv).toNat)
        case atStart => exact ⟨0, by omega, rfl, Lib.hid (Below.refl _ _)⟩
        case round =>
          obtain ⟨i, hi, rfl, HBR⟩ := hrel
          have HWR := Lib.hid (fun w' (hb : Below wr.heap.size wr w') => (show Below W.heap.size W w' from HB17.out.trans ((pure_trans HBR.out hb).mono HB17.out.size)))
          have HSR := Lib.hid (fun w' (hb : Below wr.heap.size wr w') => HS17.out w' (pure_trans HBR.out hb))
          have hbr : Below wr.heap.size wr wr := Below.refl _ _
          by_cases hlt : i < NS.length
          · obtain ⟨bl, ol, e, g0, hnz⟩ := texts_at (HN17.out wr HBR.out) hlt
            subst e
            have d0 : wr.cell? ⟨bl, ol + i, none⟩ = some (.string NS[i]) := g0
            clear g0
            generalize NS[i] = nm at *
            have HD0 := Lib.hid (fun w' (hb : Below wr.heap.size wr w') => (show w'.cell? ⟨bl, ol + i, none⟩ = some (.string nm) from below_mem hb _ _ _ d0))
            have HK := Lib.hid (fun w' (hb : Below wr.heap.size wr w') => And.intro (HSR.out w' hb) (HD0.out w' hb))
            have H1 := Lib.hid (fun w' (hb : Below W.heap.size W w') => vNamed_any nm w' (HIW.out w' hb) hnz)
            have H2 := Lib.hid (fun w' (hb : Below W.heap.size W w') => refNamedV_any r.vs _ w' (HRW.out w' hb) nm hnz)
            generalize namedAns r.vs nm = na at *
            obtain ⟨m1, m2⟩ := na
            simp only at H1 H2
            have q1 : (m1 == m1) = true := by simp
            have q2 : (m2 == m2) = true := by simp
            go_wp2_with fail
            refine (H1.out _ (HWR.out _ hbr)).mono ?_
            rintro e w18 ⟨rfl, hb18⟩
            have hc18 : Below w18.heap.size w18 w18.drew := (Below.refl _ _).drew
            have hd18 := pure_trans hb18 hc18
            clear d0 hbr H1
            go_wp2_with fail
            go_region_held3 (fun w' => (w'.cell? ⟨W.heap.size, 0, none⟩ = some (.int .i64 r.vs.tasks) ∧ w'.cell? ⟨W.heap.size, 1, none⟩ = some (.int .i64 r.vs.most) ∧ w'.cell? ⟨W.heap.size, 2, none⟩ = some (.int .i64 r.vs.keep) ∧ w'.cell? ⟨W.heap.size, 3, none⟩ = some (.int .i64 ((r.vs.last : Int) + 1)) ∧ w'.cell? ⟨W.heap.size, 4, none⟩ = some (.slice aa r.vs.all.length ca)) ∧ w'.cell? ⟨bl, ol + i, none⟩ = some (.string nm))
              (first | with_reducible exact HK.out _ hd18 | with_reducible exact HK.out _ hb19)
              ((go_at_call 31; refine (H2.out _ (HWR.out _ hd18)).mono ?_; rintro e w19 ⟨rfl, hb⟩; have hb19 := pure_trans hd18 hb; clear hb))
            all_goals
              have HB19 := Lib.hid (pure_trans HBR.out hb19)
              clear hd18 hc18 hb18 hb19 H2 HK HD0 HSR HWR
              go_wp2
              go_roundw
              case rel => exact ⟨i + 1, by omega, by go_num, HB19⟩
              case measure => simp [intOf]; omega
          · obtain rfl : i = NS.length := by omega
            have HE := Lib.hid (HWR.out _ hbr)
            go_wp2
            go_ret
            exact ⟨rfl, HE.out⟩
end Go.Proofs.YtnfolemblnnejaaGreat
/- The law's same: printed by gen_vsame24.py. -/
namespace Go.Proofs.YtnfolemblnnejaaGreat
open Go.RowKit Go.Maps

set_option maxRecDepth 100000 in
set_option maxHeartbeats 16000000 in
theorem lawSame_any {base p : Nat} {r : HV} (a : Value) (W : World) (k : Int) (nm : ByteArray) (parts groups : Int) (hI : VInv W base p r) (hR : RV (mem W) r.vs a) (hs : Small r.vs) (hk : inI64 k) (hnm : nm.size ≤ maxLen) :
    Calls Tryz.prog 9 #[ptrTo p, rvV r.vs a, .int .i64 k, .string nm, .int .i64 parts, .int .i64 groups] W fun e w' => e = .returned (.bool true) ∧ Below W.heap.size W w' := by
  obtain ⟨aa, ca, rfl, hla, hma, -⟩ := slice_form hR.ha
  have hca : ca ≤ 9223372036854775807 := by unfold maxLen at hma; exact hma
  obtain ⟨HB, HC⟩ := box5 W r.vs (.slice aa r.vs.all.length ca)
  have HIW := Lib.hid (fun w' (hb : Below W.heap.size W w') => (hI.pure hb : VInv w' base p r))
  have HRW := Lib.hid (fun w' (hb : Below W.heap.size W w') => (hR.mono (below_mem hb) : RV (mem w') r.vs (.slice aa r.vs.all.length ca)))
  have H1 := Lib.hid (fun w' (hb : Below W.heap.size W w') => vMissing_any k w' (HIW.out w' hb) hk)
  have H2 := Lib.hid (fun w' (hb : Below W.heap.size W w') => refMissingV_any r.vs _ w' (HRW.out w' hb) k)
  have H3 := Lib.hid (fun w' (hb : Below W.heap.size W w') => vDealt_any k parts groups w' (HIW.out w' hb) hk (fun t h => ⟨(hs k t h).1, fun x hx => ((hs k t h).2 x hx).1⟩))
  have H4 := Lib.hid (fun w' (hb : Below W.heap.size W w') => refDealtV_any r.vs _ w' (HRW.out w' hb) k parts groups (fun t h => ⟨(hs k t h).1, fun x hx => ((hs k t h).2 x hx).1⟩))
  have H5 := Lib.hid (fun w' (hb : Below W.heap.size W w') => vNamed_any nm w' (HIW.out w' hb) hnm)
  have H6 := Lib.hid (fun w' (hb : Below W.heap.size W w') => refNamedV_any r.vs _ w' (HRW.out w' hb) nm hnm)
  have H7 := Lib.hid (fun w' (hb : Below W.heap.size W w') => vTexts_any k w' (HIW.out w' hb) hk)
  have H8 := Lib.hid (fun w' (hb : Below W.heap.size W w') => refTextsV_any r.vs _ w' (HRW.out w' hb) k)
  have HCO := Lib.hid (fun w' (hb : Below W.heap.size W w') => lawCompl_any _ w' (HIW.out w' hb) (HRW.out w' hb) hs)
  have HPE := Lib.hid (fun w' (hb : Below W.heap.size W w') => vPending_any w' (HIW.out w' hb))
  have HNU := Lib.hid (fun w' (hb : Below W.heap.size W w') => refNumbers_any r.vs _ w' (HRW.out w' hb) false)
  rw [pend_eq] at HNU
  clear hma hR hI hs
  generalize missAns (r.vs.find k) = ma at *
  generalize textsAns (r.vs.find k) = ta at *
  generalize namedAns r.vs nm = na at *
  generalize r.vs.find k = ok at *
  generalize r.vs.pend = PE at *
  obtain ⟨m1, m2⟩ := ma
  obtain ⟨t1, t2⟩ := ta
  obtain ⟨n1, n2⟩ := na
  simp only at H1 H2 H5 H6 H7 H8
  have e1 : (m2 == m2) = true := by simp
  have e2 : (t2 == t2) = true := by simp
  have e3 : (n1 == n1) = true := by simp
  have e4 : (n2 == n2) = true := by simp
  go_enter Tryz.func9, Tryz.ntmps9
  go_wp2_with fail
  generalize W.alloc (rvB r.vs (.slice aa r.vs.all.length ca)) = X at *
  refine (H1.out _ HB.out).mono ?_
  rintro e w1 ⟨a1, k1, rfl, ho1, hb⟩
  have HX1 := Lib.hid hb
  have HB1 := Lib.hid (HB.out.trans (hb.mono HB.out.size))
  have HM1 := Lib.hid ho1.rv'
  obtain ⟨c0, c1, c2, c3, c4⟩ := HC.out _ HX1.out
  clear hb ho1 H1
  go_wp2_with fail
  refine (H2.out _ HB1.out).mono ?_
  rintro e w2 ⟨a2, k2, rfl, ho2, hb⟩
  have HX2 := Lib.hid (pure_trans HX1.out hb)
  have HB2 := Lib.hid (HB1.out.trans (hb.mono HB1.out.size))
  have HMI := Lib.hid (fun w' (hb' : Below w2.heap.size w2 w') => sameInts_self m1 _ _ w' ((tSlice tInt).mono _ _ _ _ (Mem.le_trans (below_mem hb) (below_mem hb')) HM1.out) ((tSlice tInt).mono _ _ _ _ (below_mem hb') ho2.rv'))
  clear hb ho2 H2 HM1 c0 c1 c2 c3 c4
  go_wp2_with fail
  refine (H3.out _ HB2.out).mono ?_
  rintro e w3 ⟨es, a3, k3, hs3, rfl, hr3, hb⟩
  have HY3 := Lib.hid hb
  have HX3 := Lib.hid (pure_trans HX2.out hb)
  have HB3 := Lib.hid (HB2.out.trans (hb.mono HB2.out.size))
  have HD3 := Lib.hid (fun w' (hb' : Below w3.heap.size w3 w') => (tSlice tEnts).mono _ _ _ _ (Mem.le_trans (Mem.on_le _ _) (below_mem hb')) hr3)
  have HS3 := Lib.hid hs3
  obtain ⟨c0, c1, c2, c3, c4⟩ := HC.out _ HX3.out
  clear hb hs3 hr3 H3 HX1 HX2
  go_wp2_with fail
  refine (H4.out _ HB3.out).mono ?_
  rintro e w4 ⟨es4, a4, k4, hs4, rfl, hr4, hb⟩
  obtain rfl := entsSay_one HS3.out hs4
  have HY4 := Lib.hid (pure_trans HY3.out hb)
  have HX4 := Lib.hid (pure_trans HX3.out hb)
  have HB4 := Lib.hid (HB3.out.trans (hb.mono HB3.out.size))
  have HSD := Lib.hid (fun w' (hb' : Below w4.heap.size w4 w') => sameDealt_any (dealtRes ok parts groups es) _ _ w' (HD3.out w' (pure_trans hb hb')) ((tSlice tEnts).mono _ _ _ _ (Mem.le_trans (Mem.on_le _ _) (below_mem hb')) hr4))
  clear hb hs4 hr4 H4 HX3 HY3 HD3 HS3 c0 c1 c2 c3 c4
  generalize dealtCode ok parts groups es = dc at *
  generalize dealtRes ok parts groups es = dl at *
  have e5 : (dc == dc) = true := by simp
  go_wp2_with fail
  refine (H5.out _ HB4.out).mono ?_
  rintro e w5 ⟨rfl, hb⟩
  have HY5 := Lib.hid hb
  have HX5 := Lib.hid (pure_trans HX4.out hb)
  have HB5 := Lib.hid (HB4.out.trans (hb.mono HB4.out.size))
  obtain ⟨c0, c1, c2, c3, c4⟩ := HC.out _ HX5.out
  clear hb H5
  go_wp2_with fail
  refine (H6.out _ HB5.out).mono ?_
  rintro e w6 ⟨rfl, hb⟩
  have HY6 := Lib.hid (pure_trans HY5.out hb)
  have HX6 := Lib.hid (pure_trans HX5.out hb)
  have HB6 := Lib.hid (HB5.out.trans (hb.mono HB5.out.size))
  clear hb H6 c0 c1 c2 c3 c4 HY5 HX5
  go_wp2_with fail
  refine (H7.out _ HB6.out).mono ?_
  rintro e w7 ⟨a7, k7, rfl, hr7, hb⟩
  have HY7 := Lib.hid (pure_trans HY6.out hb)
  have HX7 := Lib.hid (pure_trans HX6.out hb)
  have HB7 := Lib.hid (HB6.out.trans (hb.mono HB6.out.size))
  have HT7 := Lib.hid (tStrs.mono _ _ _ _ (Mem.on_le _ _) hr7)
  obtain ⟨c0, c1, c2, c3, c4⟩ := HC.out _ HX7.out
  clear hb hr7 H7 HY6 HX6
  go_wp2_with fail
  refine (H8.out _ HB7.out).mono ?_
  rintro e w8 ⟨v8, rfl, hr8, hb⟩
  have HY8 := Lib.hid (pure_trans HY7.out hb)
  have HX8 := Lib.hid (pure_trans HX7.out hb)
  have HB8 := Lib.hid (HB7.out.trans (hb.mono HB7.out.size))
  have HTT := Lib.hid (fun w' (hb' : Below w8.heap.size w8 w') => sameTexts_self t1 _ _ w' (tStrs.mono _ _ _ _ (Mem.le_trans (below_mem hb) (below_mem hb')) HT7.out) (tStrs.mono _ _ _ _ (below_mem hb') hr8))
  obtain ⟨a8, k8, rfl, -, -, -⟩ := slice_form hr8
  have HSDX := Lib.hid (fun w' (hb' : Below w8.heap.size w8 w') => HSD.out w' (pure_trans HY8.out hb'))
  have HY48 := Lib.hid (pure_trans HY4.out HY8.out)
  have HMIX := Lib.hid (fun w' (hb' : Below w8.heap.size w8 w') => HMI.out w' (pure_trans HY48.out hb'))
  have HS := Lib.hid (fun (w' : World) (hb : Below w8.heap.size w8 w') => HC.out w' (pure_trans HX8.out hb))
  have HW := Lib.hid (fun (w' : World) (hb : Below w8.heap.size w8 w') => (show Below W.heap.size W w' from HB8.out.trans (hb.mono HB8.out.size)))
  have hb0 : Below w8.heap.size w8 w8.drew := (Below.refl _ _).drew
  clear hb hr8 H8 HY7 HX7 HT7 HSD HMI HY4 HY8 HY48 HX4 HX8 HC HIW HRW HB1 HB2 HB3 HB4 HB5 HB6 HB7 HB8 HB c0 c1 c2 c3 c4
  go_wp2_with fail
  go_region_held3 (fun w' => w'.cell? ⟨W.heap.size, 0, none⟩ = some (.int .i64 r.vs.tasks) ∧ w'.cell? ⟨W.heap.size, 1, none⟩ = some (.int .i64 r.vs.most) ∧ w'.cell? ⟨W.heap.size, 2, none⟩ = some (.int .i64 r.vs.keep) ∧ w'.cell? ⟨W.heap.size, 3, none⟩ = some (.int .i64 ((r.vs.last : Int) + 1)) ∧ w'.cell? ⟨W.heap.size, 4, none⟩ = some (.slice aa r.vs.all.length ca))
    (first | with_reducible exact HS.out _ hb0 | with_reducible exact HS.out _ hb10 | with_reducible exact HS.out _ hb11 | with_reducible exact HS.out _ hb12 | with_reducible exact HS.out _ hb13 | with_reducible exact HS.out _ hb14 | with_reducible exact HS.out _ hb15 | with_reducible exact HS.out _ hb16)
    ((first
      | (go_at_call 34; refine (HCO.out _ (HW.out _ hb0)).mono ?_; rintro e w10 ⟨rfl, hb⟩; have hb10 := pure_trans hb0 hb; clear hb)
      | (go_at_call 35; first
          | (refine (HPE.out _ (HW.out _ hb10)).mono ?_; rintro e w11 ⟨p11, q11, rfl, hp11, hb⟩; have hb11 := pure_trans hb10 hb; clear hb)
          | (refine (HPE.out _ (HW.out _ hb12)).mono ?_; rintro e w11 ⟨p11, q11, rfl, hp11, hb⟩; have hb11 := pure_trans hb12 hb; have HPI := Lib.hid (sameInts_self PE _ _ w11 hp11.rv' ((tSlice tInt).mono _ _ _ _ (below_mem hb) hp12.rv')); clear hb))
      | (go_at_call 36; first
          | (refine (HNU.out _ (HW.out _ hb11)).mono ?_; rintro e w12 ⟨p12, q12, rfl, hp12, hb⟩; have hb12 := pure_trans hb11 hb; have HPI := Lib.hid (sameInts_self PE _ _ w12 ((tSlice tInt).mono _ _ _ _ (below_mem hb) hp11.rv') hp12.rv'); clear hb)
          | (refine (HNU.out _ (HW.out _ hb10)).mono ?_; rintro e w12 ⟨p12, q12, rfl, hp12, hb⟩; have hb12 := pure_trans hb10 hb; clear hb))
      | (go_at_call 12; first
          | (refine HPI.out.mono ?_; rintro e w13 ⟨rfl, hb⟩; have hb13 := (by first | exact pure_trans hb12 hb | exact pure_trans hb11 hb : Below w8.heap.size w8 w13); clear hb HPI)
          | (refine (HMIX.out _ hb13).mono ?_; rintro e w14 ⟨rfl, hb⟩; have hb14 := pure_trans hb13 hb; clear hb))
      | (go_at_call 37; refine (HSDX.out _ hb14).mono ?_; rintro e w15 ⟨rfl, hb⟩; have hb15 := pure_trans hb14 hb; clear hb)
      | (go_at_call 38; refine (HTT.out _ hb15).mono ?_; rintro e w16 ⟨rfl, hb⟩; have hb16 := pure_trans hb15 hb; clear hb)))
  all_goals
    have HE := Lib.hid (HW.out _ hb16)
    go_wp2
    go_ret
    exact ⟨rfl, HE.out⟩
end Go.Proofs.YtnfolemblnnejaaGreat
/- Plain: what is told stays small. -/
namespace Go.Proofs.YtnfolemblnnejaaGreat
open Go.RowKit Go.Maps

def SnOk (t : Sn) : Prop := ∀ y : Part, some y ∈ t.told → y.2.length ≤ 20 ∧ y.2.all validE = true
def TellsOk (s : VS) : Prop := ∀ x ∈ s.all, SnOk x.2
theorem TellsOk.dels {s : VS} (h : TellsOk s) (ks : List Int) : TellsOk (s.dels ks) := fun x hx => h x (List.mem_filter.1 hx).1
theorem TellsOk.del {s : VS} (h : TellsOk s) (k : Int) : TellsOk (s.del k) := fun x hx => h x (List.mem_filter.1 hx).1
theorem TellsOk.upd {s : VS} (h : TellsOk s) (k : Int) {f : Sn → Sn} (hf : ∀ t, SnOk t → SnOk (f t)) : TellsOk (s.upd k f) := fun x hx => by
  obtain ⟨y, hy, rfl⟩ := List.mem_map.1 hx
  split
  · exact hf _ (h y hy)
  · exact h y hy
theorem SnOk.tell {t : Sn} (h : SnOk t) (i : Nat) {x : Part} (hx : x.2.length ≤ 20 ∧ x.2.all validE = true) : SnOk (t.tell i x) := fun y hy => by
  rcases List.mem_or_eq_of_mem_set hy with e | e
  · exact h y e
  · injection e with e; subst e; exact hx
theorem act_tells {s : VS} (h : TellsOk s) (x : VAct) (hx : x.es.length ≤ 20) : TellsOk (actVS s x) := by
  unfold actVS
  split
  · unfold VS.trigged
    split
    · intro y hy
      rcases List.mem_append.1 hy with hy | hy
      · exact h y hy
      · simp at hy
        subst hy
        intro z hz
        unfold Sn.new at hz
        have := List.eq_of_mem_replicate hz
        cases this
    · exact h
  split
  · unfold VS.declined
    split
    · exact h.del _
    · exact h
  split
  · exact h.dels _
  split
  · unfold VS.forget
    split
    · exact TellsOk.dels (h.upd _ (f := Sn.noName) (fun t ht => ht)) _
    · exact h
  split
  · unfold VS.retasked
    split
    · exact h
    · exact h
  · unfold VS.told
    split
    · exact h
    · next hne =>
      have hv : x.es.all validE = true := by
        by_cases hv : x.es.all validE = true
        · exact hv
        · have := tellAns_bad (s := s) (k := x.n) (task := x.t) (x := (x.tx, x.es)) (by simpa using hv)
          rw [this] at hne
          exact absurd (by decide) hne
      have hu : TellsOk (s.upd x.n (fun t => t.tell x.t.toNat (x.tx, x.es))) := h.upd _ (fun t ht => ht.tell _ ⟨hx, hv⟩)
      split
      · exact TellsOk.dels (TellsOk.dels hu _) _
      · exact hu
theorem flat_bound {ls : List (List Ent)} {B : Nat} (h : ∀ l ∈ ls, l.length ≤ B) : ls.flatten.length ≤ ls.length * B := by
  induction ls with
  | nil => simp
  | cons l r ih =>
    have h1 := h l (by simp)
    have h2 := ih (fun x hx => h x (by simp [hx]))
    rw [List.flatten_cons, List.length_append, List.length_cons, Nat.add_mul, Nat.one_mul]
    omega
theorem rents_mem {t : Sn} {l : List Ent} (hl : l ∈ t.rents) : l = [] ∨ ∃ y : Part, some y ∈ t.told ∧ l = y.2 := by
  obtain ⟨o, ho, rfl⟩ := List.mem_map.1 hl
  cases o with
  | none => exact .inl rfl
  | some y => exact .inr ⟨y, ho, rfl⟩
theorem valid_small {x : Ent} (h : validE x = true) : 0 ≤ x.g ∧ x.nm.size + x.key.size + x.val.size ≤ 200000 := by
  unfold validE at h
  simp only [Bool.and_eq_true, decide_eq_true_eq, Bool.not_eq_true', big, isName, decide_eq_false_iff_not] at h
  obtain ⟨⟨h0, -⟩, ⟨-, -, h1⟩, h2, h3⟩ := h
  exact ⟨h0, by omega⟩
theorem TellsOk.small {s : VS} (h : TellsOk s) (hk : VOk s) : Small s := fun k t hf => by
  have hm := find_mem hf
  have h40 := (hk.tk _ hm).2.1
  have ht := h _ hm
  simp only at h40 ht
  refine ⟨?_, fun x hx => ?_⟩
  · have h1 := flat_bound (ls := t.rents) (B := 20) (fun l hl => by
      rcases rents_mem hl with rfl | ⟨y, hy, rfl⟩
      · simp
      · exact (ht y hy).1)
    have h2 : t.rents.length = t.told.length := by unfold Sn.rents; simp
    unfold Sn.ents
    omega
  · obtain ⟨l, hl, hxl⟩ := List.mem_flatten.1 hx
    rcases rents_mem hl with rfl | ⟨y, hy, rfl⟩
    · cases hxl
    · exact valid_small (List.all_eq_true.1 (ht y hy).2 x hxl)
end Go.Proofs.YtnfolemblnnejaaGreat
