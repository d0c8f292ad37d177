/- Part 7 of the texts that the law's proof stands on, merged. -/
import Derived.Test.YtafeaeaildfohaaRf06
set_option linter.unusedVariables false
set_option linter.unusedSimpArgs false
/- The reference's Put. -/
namespace Go.Proofs.Ytafeaeaildfohaa
open Go.RowKit Go.Maps

theorem tFct_oneP : ∀ m cs x, tFct.rv m cs x → ∀ u ∈ cs, u.oneCell' = true := fun m cs x h u hu => by
  obtain ⟨rfl, _⟩ := h
  simp at hu
  rcases hu with rfl | rfl | rfl <;> rfl
theorem fctSize : (Try.prog.info? 33).map (·.size) = some tFct.sz := by kernel_rfl
set_option maxRecDepth 100000 in
set_option maxHeartbeats 8000000 in
theorem refPut_any (S : Nat → Prop) (l : List Fct) (f : Fct) (v : Value) (w : World) (hv : tFcts.rv ((mem w).on S) [v] l) (hf : okF f) (ha : Asc l) (hn : l.length ≤ 1000000000) :
    Calls Try.prog 51 #[v, f.v] w fun e w' => ∃ v', e = .returned v' ∧ tFcts.rv ((mem w').on (fun k => S k ∨ w.heap.size ≤ k)) [v'] (putS l f) ∧ Below w.heap.size w w' := by
  have HVS := Lib.hid (fun wr (hb : Below w.heap.size w wr) => tFcts.mono _ _ _ _ (below_onS hb S) hv)
  have hv := tFcts.mono _ _ _ _ (Mem.on_le _ _) hv
  have HIN := Lib.hid (fun w' (hb : Below w.heap.size w w') => refIn_any l f v w' (tFcts.mono _ _ _ _ (below_mem hb) hv))
  have HV := Lib.hid (fun wr (hb : Below w.heap.size w wr) => tFcts.mono _ _ _ _ (below_mem hb) hv)
  have HSP := Lib.hid (fun (hm : f ∉ l) k hk h1 h2 => putS_split (k := k) ha hm hk h1 h2)
  have HSAME := Lib.hid (show f ∈ l → putS l f = l from fun h => by unfold putS; rw [if_pos h])
  obtain ⟨a, cap, rfl, hlc, hm, hv⟩ := slice_form hv
  have hcap : cap ≤ 9223372036854775807 := by unfold maxLen at hm; exact hm
  obtain ⟨f1, f2, f3⟩ := f
  have hbx := heap_alloc_new w (.cells #[.string f1, .string f2, .string f3] 33)
  have HBX := Lib.hid hbx
  have HB0 := Lib.hid (boxB w)
  have HOK := Lib.hid hf
  clear hm hv hbx hf ha
  go_enter Try.func51, Try.ntmps51
  go_wp2_with fail
  refine (HIN.out _ (HB0.out _)).mono ?_
  rintro e w1 ⟨rfl, hb1⟩
  have HB1 := Lib.hid (pure_trans (HB0.out _) hb1)
  have HX1 := Lib.hid ((hb1.block _ (by simp)).trans HBX.out)
  clear hb1 HBX HIN HB0
  by_cases hmem : (⟨f1, f2, f3⟩ : Fct) ∈ l
  · rw [decide_eq_true hmem]
    have HS := Lib.hid (HSAME.out hmem)
    have HVE := Lib.hid (HVS.out _ HB1.out)
    clear HSP hmem HV HVS
    go_wp2
    go_ret
    exact ⟨_, rfl, by rw [HS.out]; exact HVE.out, HB1.out⟩
  · rw [decide_eq_false hmem]
    have HS := Lib.hid (HSP.out hmem)
    clear HSP HSAME hmem HVS
    go_wp2_with fail
    go_loopw [5] (fun i wr => ∃ k : Nat, k ≤ l.length ∧ i = .int .i64 k ∧ Hid (∀ i, (h : i < l.length) → k ≤ i → 0 < fctC l[i] ⟨f1, f2, f3⟩) ∧ Hid (Below w1.heap.size w1 wr)) (fun i _ => (intOf i).toNat)
    case atStart => exact ⟨l.length, Nat.le_refl _, rfl, Lib.hid (fun i h h' => absurd h (by omega)), Lib.hid (Below.refl _ _)⟩
    case round =>
      obtain ⟨k, hk, rfl, HT, HB⟩ := hrel
      have HBW := Lib.hid (pure_trans HB1.out HB.out)
      have HXR := Lib.hid ((HB.out.block _ (Array.getElem?_eq_some_iff.1 HX1.out).1).trans HX1.out)
      have d0 : wr.cell? ⟨w.heap.size, 0, none⟩ = some (.string f1) := mem_cells HXR.out 0
      have d1 : wr.cell? ⟨w.heap.size, 1, none⟩ = some (.string f2) := mem_cells HXR.out 1
      have d2 : wr.cell? ⟨w.heap.size, 2, none⟩ = some (.string f3) := mem_cells HXR.out 2
      have m0 : wr.drew.cell? ⟨w.heap.size, 0, none⟩ = some (.string f1) := d0
      have m1 : wr.drew.cell? ⟨w.heap.size, 1, none⟩ = some (.string f2) := d1
      have m2 : wr.drew.cell? ⟨w.heap.size, 2, none⟩ = some (.string f3) := d2
      have HEND := Lib.hid (show ∀ (w' : World), Below wr.heap.size wr w' → (0 < k → ∀ h : k - 1 < l.length, fctC l[k - 1] ⟨f1, f2, f3⟩ ≤ 0) → putS l ⟨f1, f2, f3⟩ = l.take k ++ ⟨f1, f2, f3⟩ :: l.drop k from fun w' hb h => HS.out k hk HT.out h)
      cases k with
      | zero =>
        go_wp2_with fail
        go_quiet (fail)
        obtain ⟨wz, hwz⟩ : ∃ wz, wz = wr.drewN nq := ⟨_, rfl⟩
        have HZ := Lib.hid hwz
        have hzb : Below wr.heap.size wr wz := by rw [hwz]; exact ⟨rfl, rfl, rfl, Nat.le_refl _, fun _ _ => rfl⟩
        have HBZ := Lib.hid (pure_trans HBW.out hzb)
        have hK : 0 ≤ l.length := Nat.zero_le _
        have HPS := Lib.hid (HEND.out wz hzb (fun h => absurd h (by omega)))
        rw [← hwz]
        replace d0 : wz.cell? ⟨w.heap.size, 0, none⟩ = some (.string f1) := below_mem hzb _ _ _ d0
        replace d1 : wz.cell? ⟨w.heap.size, 1, none⟩ = some (.string f2) := below_mem hzb _ _ _ d1
        replace d2 : wz.cell? ⟨w.heap.size, 2, none⟩ = some (.string f3) := below_mem hzb _ _ _ d2
        clear hwz hzb m0 m1 m2 HT HB HXR HEND HS HBW
        obtain ⟨a1, c1, hlo, hlo2⟩ := cut_lo (HV.out wz HBZ.out) hK (T := 23) Try.underlying23 fctSize
        obtain ⟨a2, c2, hhi, hhi2⟩ := cut_hi (HV.out wz HBZ.out) hK (T := 23) Try.underlying23 fctSize
        have HLO := Lib.hid (fun (w' : World) (hb : Below wz.heap.size wz w') => tFcts.mono _ _ _ _ (below_mem hb) hlo2)
        have HHI := Lib.hid (fun (w' : World) (hb : Below wz.heap.size wz w') => tFcts.mono _ _ _ _ (below_mem hb) hhi2)
        have HHR := Lib.hid hhi
        have HK := Lib.hid hK
        have HTL := Lib.hid (show (l.take (0)).length = 0 from by rw [List.length_take]; omega)
        have HDL := Lib.hid (show (l.drop (0)).length = l.length - (0) from List.length_drop ..)
        have HDC := Lib.hid (show ∀ (w' : World), Below wz.heap.size wz w' → w'.cell? ⟨w.heap.size, 0, none⟩ = some (.string f1) ∧ w'.cell? ⟨w.heap.size, 1, none⟩ = some (.string f2) ∧ w'.cell? ⟨w.heap.size, 2, none⟩ = some (.string f3) from fun w' hb => ⟨below_mem hb _ _ _ d0, below_mem hb _ _ _ d1, below_mem hb _ _ _ d2⟩)
        clear hlo2 hhi2 hhi HV d0 d1 d2
        have hlo0 : ∀ w2, (Instr.slice 23 (.slice a l.length cap) none (some (.int .i64 0)) none).run Try.prog w2 = .ok (.slice a1 0 c1) w2 := hlo
        clear hlo
        have hlo := hlo0
        clear hlo0
        go_wp2_with (at_builtin; refine wpList_append_flat rfl _ _ 23 rfl tFct_flat tFct_oneP Try.underlying23 infoFct rfl (by decide) wz.heap.size _ [] (l.take (0)) rfl (own_lit0 tFct wz 33) _ _ _ rfl HTL.out.symm (HLO.out _ (boxB wz _)) ?a1 ?a2 (by simp) ?_)
        case a1 => have := HTL.out; unfold maxLen; first | omega | simp
        case a2 => have := HTL.out; first | omega | simp
        intro v6 w6 own6 hgrow6
        have HB6 := Lib.hid (show Below wz.heap.size wz w6 from (boxB wz _).grown hgrow6 (by simp) (fun k hk => by simp [Value.ownBlock] at hk; omega))
        have HO6 := Lib.hid (show Owns tFct w6 wz.heap.size 33 v6 (l.take (0)) from own6)
        replace own6 := HO6.out
        have HS6 := Lib.hid HB6.out.size
        obtain ⟨a6, c6, rfl, -⟩ := own6.len
        rw [HTL.out] at HO6
        try rw [HTL.out]
        obtain ⟨e0, e1, e2⟩ := HDC.out w6 HB6.out
        clear own6 hgrow6 hlo
        go_wp2_with (at_builtin; refine wpList_append_one rfl _ _ 23 rfl tFct Try.underlying23 infoFct rfl (by decide) wz.heap.size _ (l.take (0)) rfl (HO6.out.alloc _) _ _ ⟨f1, f2, f3⟩ rfl [.string f1, .string f2, .string f3] ?b1 ⟨rfl, HOK.out⟩ ?b2 ?b3 ?b4 ?b5 ?_)
        case b1 => exact fun j u hj => by match j, hj with | 0, hj => simp at hj; subst hj; simp [mem] | 1, hj => simp at hj; subst hj; simp [mem] | 2, hj => simp at hj; subst hj; simp [mem]
        case b2 => intro x hx; simp at hx; rcases hx with rfl | rfl | rfl <;> rfl
        case b3 => have := HTL.out; unfold maxLen; omega
        case b4 => have := HTL.out; omega
        case b5 => have := HS6.out; simp; omega
        intro v7 w7 own7 hgrow7 _
        have HB7 := Lib.hid (show Below wz.heap.size wz w7 from (HB6.out.alloc HB6.out.size _).grown hgrow7 (by have := HS6.out; simp; omega) (fun k hk => ((HO6.out).lt k hk).1))
        obtain ⟨ql, hq⟩ : ∃ ql, l.take (0) ++ [(⟨f1, f2, f3⟩ : Fct)] = ql := ⟨_, rfl⟩
        have HQ := Lib.hid hq
        have HQL := Lib.hid (show ql.length = 0 + 1 from by rw [← hq, List.length_append, HTL.out]; rfl)
        replace own7 : Owns tFct w7 wz.heap.size 33 v7 ql := by rw [← hq]; exact own7
        have HO7 := Lib.hid own7
        have HS7 := Lib.hid HB7.out.size
        obtain ⟨a7, c7, rfl, -⟩ := own7.len
        have hhi := HHR.out
        have hhi0 : ∀ w2, (Instr.slice 23 (.slice a l.length cap) (some (.int .i64 0)) none none).run Try.prog w2 = .ok (.slice a2 (l.length - 0) c2) w2 := hhi
        clear hhi
        clear own7 hgrow7 hq HO6 HHR e0 e1 e2
        go_wp2_with (at_builtin; refine wpList_append_flat rfl _ _ 23 rfl tFct_flat tFct_oneP Try.underlying23 infoFct rfl (by decide) wz.heap.size _ ql (l.drop (0)) rfl HO7.out _ _ _ rfl HDL.out.symm (HHI.out _ HB7.out) ?g1 ?g2 ?g3 ?_)
        case g1 => have := HDL.out; have := HQL.out; unfold maxLen; omega
        case g2 => have := HDL.out; have := HQL.out; omega
        case g3 => exact HS7.out
        intro v8 w8 own8 hgrow8
        have HB8 := Lib.hid (show Below wz.heap.size wz w8 from HB7.out.grown hgrow8 HS7.out (fun k hk => ((HO7.out).lt k hk).1))
        have HR8 := Lib.hid (show tFcts.rv ((mem w8).on (fun k => S k ∨ w.heap.size ≤ k)) [v8] (putS l ⟨f1, f2, f3⟩) from by
          have := own8.rv (S := fun k => S k ∨ w.heap.size ≤ k) (fun b hb => .inr (Nat.le_trans HBZ.out.size hb)) (fun _ cs _ h => tFct_flat _ _ _ _ h)
          rw [← HQ.out, List.append_assoc, List.singleton_append] at this
          rw [HPS.out]
          exact this)
        have HBE := Lib.hid (pure_trans HBZ.out HB8.out)
        obtain ⟨a8, c8, rfl, -⟩ := own8.len
        clear own8 hgrow8 HO7
        go_wp2
        go_ret
        exact ⟨_, rfl, HR8.out, HBE.out⟩
      | succ j =>
        have hj : j < l.length := by omega
        obtain ⟨b, o, rfl, ⟨q0, q1, q2⟩, hok⟩ := fcts_at (HV.out _ HBW.out) hj
        have c0 : wr.cell? ⟨b, o + j * 3, none⟩ = some (.string l[j].n) := q0
        have c1 : wr.cell? ⟨b, o + j * 3 + 1, none⟩ = some (.string l[j].a) := q1
        have c2 : wr.cell? ⟨b, o + j * 3 + 2, none⟩ = some (.string l[j].b) := q2
        have n0 : wr.drew.cell? ⟨b, o + j * 3, none⟩ = some (.string l[j].n) := q0
        have n1 : wr.drew.cell? ⟨b, o + j * 3 + 1, none⟩ = some (.string l[j].a) := q1
        have n2 : wr.drew.cell? ⟨b, o + j * 3 + 2, none⟩ = some (.string l[j].b) := q2
        have HNX := Lib.hid (show 0 < fctC l[j] ⟨f1, f2, f3⟩ → ∀ i, (h : i < l.length) → j ≤ i → 0 < fctC l[i] ⟨f1, f2, f3⟩ from fun h0 i h h' => by
          by_cases e : i = j
          · subst e; exact h0
          · exact HT.out i h (by omega))
        have HLE := Lib.hid (show fctC l[j] ⟨f1, f2, f3⟩ ≤ 0 → (0 < j + 1 → ∀ h : j + 1 - 1 < l.length, fctC l[j + 1 - 1] ⟨f1, f2, f3⟩ ≤ 0) from fun h0 _ h => by simpa using h0)
        have hj0 : (0 : Int) ≤ (j : Int) := by omega
        have hjl : (j : Int) < (l.length : Int) := by omega
        have hw1 : IntKind.i64.wrap (j : Int) = (j : Int) := by simp (disch := omega) only [IntWalk.i64_in]
        have hw2 : IntKind.i64.wrap ((j : Int) + 1 - 1) = (j : Int) := by rw [Int.add_sub_cancel]; exact hw1
        rw [Int.natCast_succ]
        clear q0 q1 q2 hok HT
        generalize l[j] = y at *
        have HCM := Lib.hid (fun w' => refCompare_any y ⟨f1, f2, f3⟩ w')
        generalize fctC y ⟨f1, f2, f3⟩ = c at *
        obtain ⟨y1, y2, y3⟩ := y
        simp only at c0 c1 c2 n0 n1 n2
        go_wp2_with fail
        have hb0 : Below wr.heap.size wr wr.drew := (Below.refl _ _).drew
        have HKP := Lib.hid (fun (w' : World) (hb : Below wr.heap.size wr w') => (show (w'.cell? ⟨b, o + j * 3, none⟩ = some (.string y1) ∧ w'.cell? ⟨b, o + j * 3 + 1, none⟩ = some (.string y2) ∧ w'.cell? ⟨b, o + j * 3 + 2, none⟩ = some (.string y3)) ∧ w'.cell? ⟨w.heap.size, 0, none⟩ = some (.string f1) ∧ w'.cell? ⟨w.heap.size, 1, none⟩ = some (.string f2) ∧ w'.cell? ⟨w.heap.size, 2, none⟩ = some (.string f3) from ⟨⟨below_mem hb _ _ _ c0, below_mem hb _ _ _ c1, below_mem hb _ _ _ c2⟩, below_mem hb _ _ _ d0, below_mem hb _ _ _ d1, below_mem hb _ _ _ d2⟩))
        go_region_held3 (fun w' => (w'.cell? ⟨b, o + j * 3, none⟩ = some (.string y1) ∧ w'.cell? ⟨b, o + j * 3 + 1, none⟩ = some (.string y2) ∧ w'.cell? ⟨b, o + j * 3 + 2, none⟩ = some (.string y3)) ∧ w'.cell? ⟨w.heap.size, 0, none⟩ = some (.string f1) ∧ w'.cell? ⟨w.heap.size, 1, none⟩ = some (.string f2) ∧ w'.cell? ⟨w.heap.size, 2, none⟩ = some (.string f3))
          (first | with_reducible exact HKP.out _ hb0 | with_reducible exact HKP.out _ hb4)
          ((go_at_call 71; refine (HCM.out _).mono ?_; rintro e w4 ⟨rfl, hb⟩; have hb4 := pure_trans hb0 hb; clear hb))
        by_cases hc : 0 < c
        · have HT2 := Lib.hid (HNX.out hc)
          have HB2 := Lib.hid (HB.out.trans (hb4.mono HB.out.size))
          clear HNX HLE HEND HCM hb4 hb0 HKP HV
          go_wp2
          go_roundw
          case rel => exact ⟨j, by omega, by go_num, HT2, HB2⟩
          case measure => simp [intOf]
        · have HPS := Lib.hid (HEND.out w4 hb4 (HLE.out (by omega)))
          have HBZ0 := Lib.hid (pure_trans HBW.out hb4)
          obtain ⟨wz, hwz⟩ : ∃ wz, wz = w4 := ⟨_, rfl⟩
          subst hwz
          have HBZ := HBZ0
          clear HBZ0
          replace d0 : wz.cell? ⟨w.heap.size, 0, none⟩ = some (.string f1) := below_mem hb4 _ _ _ d0
          replace d1 : wz.cell? ⟨w.heap.size, 1, none⟩ = some (.string f2) := below_mem hb4 _ _ _ d1
          replace d2 : wz.cell? ⟨w.heap.size, 2, none⟩ = some (.string f3) := below_mem hb4 _ _ _ d2
          have hK : j + 1 ≤ l.length := hk
          clear m0 m1 m2 HB HXR HEND HS HBW HNX HLE HKP HCM c0 c1 c2 n0 n1 n2 hb0 hb4
          obtain ⟨a1, c1, hlo, hlo2⟩ := cut_lo (HV.out wz HBZ.out) hK (T := 23) Try.underlying23 fctSize
          obtain ⟨a2, c2, hhi, hhi2⟩ := cut_hi (HV.out wz HBZ.out) hK (T := 23) Try.underlying23 fctSize
          have HLO := Lib.hid (fun (w' : World) (hb : Below wz.heap.size wz w') => tFcts.mono _ _ _ _ (below_mem hb) hlo2)
          have HHI := Lib.hid (fun (w' : World) (hb : Below wz.heap.size wz w') => tFcts.mono _ _ _ _ (below_mem hb) hhi2)
          have HHR := Lib.hid hhi
          have HK := Lib.hid hK
          have HTL := Lib.hid (show (l.take (j + 1)).length = j + 1 from by rw [List.length_take]; omega)
          have HDL := Lib.hid (show (l.drop (j + 1)).length = l.length - (j + 1) from List.length_drop ..)
          have HDC := Lib.hid (show ∀ (w' : World), Below wz.heap.size wz w' → w'.cell? ⟨w.heap.size, 0, none⟩ = some (.string f1) ∧ w'.cell? ⟨w.heap.size, 1, none⟩ = some (.string f2) ∧ w'.cell? ⟨w.heap.size, 2, none⟩ = some (.string f3) from fun w' hb => ⟨below_mem hb _ _ _ d0, below_mem hb _ _ _ d1, below_mem hb _ _ _ d2⟩)
          clear hlo2 hhi2 hhi HV d0 d1 d2
          rw [Int.natCast_succ] at hlo
          go_wp2_with (at_builtin; refine wpList_append_flat rfl _ _ 23 rfl tFct_flat tFct_oneP Try.underlying23 infoFct rfl (by decide) wz.heap.size _ [] (l.take (j + 1)) rfl (own_lit0 tFct wz 33) _ _ _ rfl HTL.out.symm (HLO.out _ (boxB wz _)) ?a1 ?a2 (by simp) ?_)
          case a1 => have := HTL.out; unfold maxLen; first | omega | simp
          case a2 => have := HTL.out; first | omega | simp
          intro v6 w6 own6 hgrow6
          have HB6 := Lib.hid (show Below wz.heap.size wz w6 from (boxB wz _).grown hgrow6 (by simp) (fun k hk => by simp [Value.ownBlock] at hk; omega))
          have HO6 := Lib.hid (show Owns tFct w6 wz.heap.size 33 v6 (l.take (j + 1)) from own6)
          replace own6 := HO6.out
          have HS6 := Lib.hid HB6.out.size
          obtain ⟨a6, c6, rfl, -⟩ := own6.len
          rw [HTL.out] at HO6
          try rw [HTL.out]
          obtain ⟨e0, e1, e2⟩ := HDC.out w6 HB6.out
          clear own6 hgrow6 hlo
          go_wp2_with (at_builtin; refine wpList_append_one rfl _ _ 23 rfl tFct Try.underlying23 infoFct rfl (by decide) wz.heap.size _ (l.take (j + 1)) rfl (HO6.out.alloc _) _ _ ⟨f1, f2, f3⟩ rfl [.string f1, .string f2, .string f3] ?b1 ⟨rfl, HOK.out⟩ ?b2 ?b3 ?b4 ?b5 ?_)
          case b1 => exact fun j u hj => by match j, hj with | 0, hj => simp at hj; subst hj; simp [mem] | 1, hj => simp at hj; subst hj; simp [mem] | 2, hj => simp at hj; subst hj; simp [mem]
          case b2 => intro x hx; simp at hx; rcases hx with rfl | rfl | rfl <;> rfl
          case b3 => have := HTL.out; unfold maxLen; omega
          case b4 => have := HTL.out; omega
          case b5 => have := HS6.out; simp; omega
          intro v7 w7 own7 hgrow7 _
          have HB7 := Lib.hid (show Below wz.heap.size wz w7 from (HB6.out.alloc HB6.out.size _).grown hgrow7 (by have := HS6.out; simp; omega) (fun k hk => ((HO6.out).lt k hk).1))
          obtain ⟨ql, hq⟩ : ∃ ql, l.take (j + 1) ++ [(⟨f1, f2, f3⟩ : Fct)] = ql := ⟨_, rfl⟩
          have HQ := Lib.hid hq
          have HQL := Lib.hid (show ql.length = j + 1 + 1 from by rw [← hq, List.length_append, HTL.out]; rfl)
          replace own7 : Owns tFct w7 wz.heap.size 33 v7 ql := by rw [← hq]; exact own7
          have HO7 := Lib.hid own7
          have HS7 := Lib.hid HB7.out.size
          obtain ⟨a7, c7, rfl, -⟩ := own7.len
          have hhi := HHR.out
          rw [Int.natCast_succ] at hhi
          clear own7 hgrow7 hq HO6 HHR e0 e1 e2
          go_wp2_with (at_builtin; refine wpList_append_flat rfl _ _ 23 rfl tFct_flat tFct_oneP Try.underlying23 infoFct rfl (by decide) wz.heap.size _ ql (l.drop (j + 1)) rfl HO7.out _ _ _ rfl HDL.out.symm (HHI.out _ HB7.out) ?g1 ?g2 ?g3 ?_)
          case g1 => have := HDL.out; have := HQL.out; unfold maxLen; omega
          case g2 => have := HDL.out; have := HQL.out; omega
          case g3 => exact HS7.out
          intro v8 w8 own8 hgrow8
          have HB8 := Lib.hid (show Below wz.heap.size wz w8 from HB7.out.grown hgrow8 HS7.out (fun k hk => ((HO7.out).lt k hk).1))
          have HR8 := Lib.hid (show tFcts.rv ((mem w8).on (fun k => S k ∨ w.heap.size ≤ k)) [v8] (putS l ⟨f1, f2, f3⟩) from by
            have := own8.rv (S := fun k => S k ∨ w.heap.size ≤ k) (fun b hb => .inr (Nat.le_trans HBZ.out.size hb)) (fun _ cs _ h => tFct_flat _ _ _ _ h)
            rw [← HQ.out, List.append_assoc, List.singleton_append] at this
            rw [HPS.out]
            exact this)
          have HBE := Lib.hid (pure_trans HBZ.out HB8.out)
          obtain ⟨a8, c8, rfl, -⟩ := own8.len
          clear own8 hgrow8 HO7
          go_wp2
          go_ret
          exact ⟨_, rfl, HR8.out, HBE.out⟩
end Go.Proofs.Ytafeaeaildfohaa
/- The reference's rounds: plain. -/
namespace Go.Proofs.Ytafeaeaildfohaa

theorem runR_bigP {rules : List Rul} {M : Rnds} {n : Nat} {k : Int} (h : 400 < (roundR rules k M).length) : runR rules (n + 1) k M = none := by unfold runR; rw [if_pos h]
theorem runR_smallP {rules : List Rul} {M : Rnds} {n : Nat} {k : Int} (h : (roundR rules k M).length ≤ 400) : runR rules (n + 1) k M = if (roundR rules k M).length = M.length then some M else runR rules n (k + 1) (roundR rules k M) := by
  conv => lhs; unfold runR
  rw [if_neg (by omega)]
/-- The round of a fact. -/
def rnd (M : Rnds) (x : Fct) : Int := match lkR M x with | some i => i | none => -1
def lastL (out : List (List Fct)) : List Fct := out.getLast?.getD []
theorem lastL_snoc (out : List (List Fct)) (l : List Fct) : lastL (out ++ [l]) = l := by simp [lastL]
theorem lastL_at {out : List (List Fct)} (h : out.length - 1 < out.length) : out[out.length - 1] = lastL out := by
  unfold lastL
  rw [List.getLast?_eq_getElem?, List.getElem?_eq_getElem h]
  rfl
/-- What the rules give that is not there, rule by rule. -/
def newOf (L : List Fct) (r : Rul) : List Fct := (srt (heads r L)).filter fun x => !decide (x ∈ L)
def newAll (rules : List Rul) (L : List Fct) : List Fct := rules.flatMap (newOf L)
theorem newAll_take {rules : List Rul} {L : List Fct} {i : Nat} (hi : i < rules.length) : newAll (rules.take (i + 1)) L = newAll (rules.take i) L ++ newOf L rules[i] := by
  rw [List.take_succ_eq_append_getElem hi]
  unfold newAll
  rw [List.flatMap_append]
  simp
theorem srt_snoc (l : List Fct) (x : Fct) : srt (l ++ [x]) = putS (srt l) x := by unfold srt; rw [List.foldl_append]; rfl
theorem newAll_fresh (rules : List Rul) (M : Rnds) : srt (newAll rules (srt (keysR M))) = freshR rules M := by
  refine (srt_asc _).unique (srt_asc _) (fun x => ?_)
  rw [fresh_mem, srt_mem]
  unfold newAll headsAll newOf
  simp only [List.mem_flatMap, List.mem_filter, srt_mem, Bool.not_eq_true', decide_eq_false_iff_not]
  constructor
  · rintro ⟨r, hr, h1, h2⟩; exact ⟨⟨r, hr, h1⟩, h2⟩
  · rintro ⟨⟨r, hr, h1⟩, h2⟩; exact ⟨r, hr, h1, h2⟩
theorem filt_take_yes {P : Fct → Bool} {l : List Fct} {k : Nat} (h : k < l.length) (e : P l[k] = true) : (l.take (k + 1)).filter P = (l.take k).filter P ++ [l[k]] := by
  rw [List.take_succ_eq_append_getElem h, List.filter_append]; simp [e]
theorem filt_take_no {P : Fct → Bool} {l : List Fct} {k : Nat} (h : k < l.length) (e : P l[k] = false) : (l.take (k + 1)).filter P = (l.take k).filter P := by
  rw [List.take_succ_eq_append_getElem h, List.filter_append]; simp [e]
theorem foldl_take_succ (l : List Fct) (m : List Fct) {k : Nat} (h : k < l.length) : (l.take (k + 1)).foldl putS m = putS ((l.take k).foldl putS m) l[k] := by
  rw [List.take_succ_eq_append_getElem h, List.foldl_append]; rfl
theorem foldl_putS_len (l : List Fct) : ∀ m : List Fct, (l.foldl putS m).length ≤ m.length + l.length := by
  induction l with
  | nil => intro m; simp
  | cons y l ih =>
    intro m
    have := ih (putS m y)
    have h2 : (putS m y).length ≤ m.length + 1 := by unfold putS; split; omega; rw [insS_length]; omega
    rw [List.foldl_cons, List.length_cons]
    omega
theorem heads_nil {r : Rul} (h : 1 ≤ r.bd.length) : heads r [] = [] := by
  unfold heads
  match hb : r.bd, h with
  | x :: bd, _ => simp [ways]
theorem run_nil {rules : List Rul} (h : ∀ r ∈ rules, 1 ≤ r.bd.length) : followR rules [] = some [] := by
  have h1 : headsAll rules [] = [] := by
    unfold headsAll
    rw [List.flatMap_eq_nil_iff]
    exact fun r hr => heads_nil (h r hr)
  have h2 : roundR rules 1 [] = [] := by
    unfold roundR
    rw [show srt (keysR []) = [] from rfl, h1]
    rfl
  unfold followR
  rw [show startR [] = [] from rfl]
  unfold runR
  rw [h2]
  simp
/-- Between two rounds of the reference. -/
structure RSt (rules : List Rul) (l : List Fct) (j : Nat) (M : Rnds) (out : List (List Fct)) : Prop where
  run : Run rules l j M
  outs : Outs j M out
  eq : followR rules l = if 400 < M.length then none else if lastL out = [] then some M else runR rules (501 - j) j M
  grow : lastL out ≠ [] → j ≤ M.length
  one : 1 ≤ j
theorem RSt.start {rules : List Rul} {l : List Fct} (h : ∀ r ∈ rules, 1 ≤ r.bd.length) (hl : l.length ≤ 400) : RSt rules l 1 (startR l) [srt l] := by
  have h1 := start_len l
  refine ⟨Run.start rules l, Outs.start l, ?_, fun hne => ?_, Nat.le_refl _⟩
  · rw [if_neg (by omega)]
    show _ = if srt l = [] then _ else _
    split
    · next e =>
      have : l = [] := by
        match l, e with
        | [], _ => rfl
        | x :: l, e => exact absurd ((srt_mem (x :: l) x).2 List.mem_cons_self) (by rw [e]; simp)
      subst this
      exact run_nil h
    · rfl
  · have hne : srt l ≠ [] := hne
    match hs : srt l, hne with
    | x :: t, _ =>
      have hx : x ∈ keysR (startR l) := (keys_start l x).2 ((srt_mem l x).1 (by rw [hs]; simp))
      have := List.length_pos_of_mem hx
      rw [keys_len] at this
      exact this
theorem RSt.step {rules : List Rul} {l : List Fct} {j : Nat} {M : Rnds} {out : List (List Fct)} (h : RSt rules l j M out) (h1 : lastL out ≠ []) (h2 : M.length ≤ 400) : RSt rules l (j + 1) (roundR rules j M) (out ++ [freshR rules M]) := by
  have hj := h.grow h1
  have hf := fresh_len (rules := rules) (k := (j : Int)) h.run.nd
  refine ⟨by have := h.run.step (Int.natCast_nonneg j); exact_mod_cast this, by have := h.outs.step h.run; exact_mod_cast this, ?_, fun hne => ?_, by omega⟩
  · rw [h.eq, if_neg (by omega), if_neg h1, lastL_snoc, show 501 - j = (500 - j) + 1 by omega]
    by_cases hb : 400 < (roundR rules j M).length
    · rw [runR_bigP hb, if_pos hb]
    · rw [runR_smallP (by omega), if_neg hb]
      by_cases hn : freshR rules M = []
      · rw [if_pos hn, if_pos (by rw [hf, hn]; simp)]
        have := addsR_same (k := (j : Int)) (headsAll rules (srt (keysR M))) (M := M) (show (roundR rules j M).length = M.length by rw [hf, hn]; simp)
        rw [show roundR rules j M = M from this]
      · have hp : 0 < (freshR rules M).length := List.length_pos_iff.2 hn
        rw [if_neg hn, if_neg (by omega), show 501 - (j + 1) = 500 - j by omega]
        simp
  · rw [lastL_snoc] at hne
    have hp : 0 < (freshR rules M).length := List.length_pos_iff.2 hne
    omega
theorem RSt.done {rules : List Rul} {l : List Fct} {j : Nat} {M : Rnds} {out : List (List Fct)} (h : RSt rules l j M out) (h1 : lastL out = [] ∨ 400 < M.length) : followR rules l = if M.length ≤ 400 then some M else none := by
  rw [h.eq]
  by_cases hb : 400 < M.length
  · rw [if_pos hb, if_neg (by omega)]
  · rw [if_neg hb, if_pos (by omega : M.length ≤ 400)]
    rcases h1 with h1 | h1
    · rw [if_pos h1]
    · exact absurd h1 hb
theorem RSt.rnd {rules : List Rul} {l : List Fct} {j : Nat} {M : Rnds} {out : List (List Fct)} (h : RSt rules l j M out) (x : Fct) : roundOf out x 0 = rnd M x := h.outs.round h.run.lt x
theorem RSt.all {rules : List Rul} {l : List Fct} {j : Nat} {M : Rnds} {out : List (List Fct)} (h : RSt rules l j M out) : (srt (keysR M)).length = M.length := by rw [srt_len h.run.nd, keys_len]
theorem RSt.outlen {rules : List Rul} {l : List Fct} {j : Nat} {M : Rnds} {out : List (List Fct)} (h : RSt rules l j M out) : out.length = j := by have := h.outs.len; omega
end Go.Proofs.Ytafeaeaildfohaa
/- The reference's gives. -/
namespace Go.Proofs.Ytafeaeaildfohaa
open Go.RowKit Go.Maps

theorem fcts_okAll {m : Mem} {v : Value} {xs : List Fct} (h : tFcts.rv m [v] xs) : ∀ x ∈ xs, okF x := fun x hx => by
  obtain ⟨a, cap, rfl, -, -, h⟩ := slice_form h
  obtain ⟨k, hk, rfl⟩ := List.getElem_of_mem hx
  obtain ⟨b, o, -, -, hok⟩ := fcts_at h hk
  exact hok
theorem srt_len_take {l : List Fct} {k : Nat} (hk : k ≤ l.length) : (srt (l.take k)).length ≤ k := by
  have := srt_len_le (l.take k)
  rw [List.length_take, Nat.min_eq_left hk] at this
  exact this
set_option maxRecDepth 100000 in
set_option maxHeartbeats 8000000 in
theorem refGives_any (r : Rul) (L : List Fct) (bv lv : Value) (w : World) (hok : okF r.hd) (hbd : tFcts.rv (mem w) [bv] r.bd) (hl : tFcts.rv (mem w) [lv] L) (hb3 : r.bd.length ≤ 3) (hL : L.length ≤ 400) :
    Calls Try.prog 52 #[r.v bv, lv] w fun e w' => ∃ v, e = .returned v ∧ tFcts.rv ((mem w').on (w.heap.size ≤ ·)) [v] (srt (heads r L)) ∧ Below w.heap.size w w' := by
  obtain ⟨X, hX⟩ : ∃ X, X = w.alloc (.cells #[.string r.hd.n, .string r.hd.a, .string r.hd.b, bv] 31) := ⟨_, rfl⟩
  have HX := Lib.hid hX
  have hbX : Below w.heap.size w X := by rw [hX]; exact boxW w _
  have hx0 : X.heap[w.heap.size]? = some (.cells #[.string r.hd.n, .string r.hd.a, .string r.hd.b, bv] 31 (0, 0)) := by rw [hX]; exact heap_alloc_new w _
  have HBX := Lib.hid hx0
  have HB := Lib.hid hbX
  have hLok := fcts_okAll hl
  have HW := Lib.hid (refWays_any L hL r.bd (· < X.heap.size) [] [] bv lv (.slice none 0 0) (.slice none 0 0) (.slice none 0 0) X hb3 (by simp; omega) (by simpa using hb3) (fun q h => h) (tFcts.mono _ _ _ _ (Mem.le_trans (below_mem hbX) (mem_on_lt X)) hbd) (tFcts.mono _ _ _ _ (Mem.le_trans (below_mem hbX) (mem_on_lt X)) hl) (slice_nil _ _) (slice_nil _ _) (slice_nil _ _))
  have HWL := Lib.hid (show (ways r.bd L [] []).length ≤ 64000000 from by
    refine Nat.le_trans (ways_len L r.bd [] []) ?_
    refine Nat.le_trans (Nat.pow_le_pow_left hL _) ?_
    exact Nat.le_trans (Nat.pow_le_pow_right (by omega) hb3) (by decide))
  have HOKW := Lib.hid (fun x (hx : x ∈ ways r.bd L [] []) => headF_ok hok hLok hx)
  have HHD := Lib.hid (show heads r L = (ways r.bd L [] []).map fun x => headF r x.1 from rfl)
  have HHEAD := Lib.hid (fun (x : Way) (a b c : Value) w' h1 h2 => refHead_any r x bv a b c w' h1 h2)
  obtain ⟨ws, hws⟩ : ∃ ws, ws = ways r.bd L [] [] := ⟨_, rfl⟩
  have HWS := Lib.hid hws
  rw [← hws] at HWL HOKW HHD
  clear hws
  generalize heads r L = hs at *
  obtain ⟨ab, cb, rfl, -, -, -⟩ := slice_form hbd
  obtain ⟨al, cl, rfl, -, -, -⟩ := slice_form hl
  have c0 : X.cell? ⟨w.heap.size, 0, none⟩ = some (.string r.hd.n) := mem_cells hx0 0
  have c1 : X.cell? ⟨w.heap.size, 1, none⟩ = some (.string r.hd.a) := mem_cells hx0 1
  have c2 : X.cell? ⟨w.heap.size, 2, none⟩ = some (.string r.hd.b) := mem_cells hx0 2
  have c3 : X.cell? ⟨w.heap.size, 3, none⟩ = some (.slice ab r.bd.length cb) := mem_cells hx0 3
  clear hX hbX hx0 hLok hbd hl hok hb3
  go_enter Try.func52, Try.ntmps52
  go_wp2_with fail
  rw [← HX.out]
  refine HW.out.mono ?_
  rintro e w1 ⟨v1, rfl, hv1, hb1⟩
  rw [← HWS.out] at hv1
  have hv1 := tWays.mono _ _ _ _ (Mem.on_le _ _) hv1
  have HV1 := Lib.hid hv1
  have HB1 := Lib.hid (pure_trans HB.out hb1)
  have HBX1 := Lib.hid ((hb1.block w.heap.size (Array.getElem?_eq_some_iff.1 HBX.out).1).trans HBX.out)
  obtain ⟨aw, cw, rfl, hlw, hmw, -⟩ := slice_form hv1
  have hcw : cw ≤ 9223372036854775807 := by unfold maxLen at hmw; exact hmw
  clear hv1 hb1 HW HBX HB c0 c1 c2 c3 hmw
  go_wp2_with fail
  go_loopw [5, 7] (fun ov i wr => ∃ k : Nat, k ≤ ws.length ∧ i = .int .i64 k ∧ Hid (tFcts.rv ((mem wr).on (w.heap.size ≤ ·)) [ov] (srt ((ws.take k).map fun x => headF r x.1))) ∧ Hid (Below w1.heap.size w1 wr)) (fun _ i _ => ws.length - (intOf i).toNat)
  case atStart => exact ⟨0, by omega, rfl, Lib.hid (slice_nil _ _), Lib.hid (Below.refl _ _)⟩
  case round =>
    obtain ⟨k, hk, rfl, HO, HBR⟩ := hrel
    by_cases hlt : k < ws.length
    · have HBW := Lib.hid (pure_trans HB1.out HBR.out)
      obtain ⟨b, o, x0, x1, x2, rfl, ⟨q0, q1, q2⟩, s0, s1, s2⟩ := ways_at (tWays.mono _ _ _ _ (below_mem HBR.out) HV1.out) hlt
      have d0 : wr.cell? ⟨b, o + k * 3, none⟩ = some x0 := q0
      have d1 : wr.cell? ⟨b, o + k * 3 + 1, none⟩ = some x1 := q1
      have d2 : wr.cell? ⟨b, o + k * 3 + 2, none⟩ = some x2 := q2
      have hbx := (HBR.out.block w.heap.size (Array.getElem?_eq_some_iff.1 HBX1.out).1).trans HBX1.out
      have c0 : wr.cell? ⟨w.heap.size, 0, none⟩ = some (.string r.hd.n) := mem_cells hbx 0
      have c1 : wr.cell? ⟨w.heap.size, 1, none⟩ = some (.string r.hd.a) := mem_cells hbx 1
      have c2 : wr.cell? ⟨w.heap.size, 2, none⟩ = some (.string r.hd.b) := mem_cells hbx 2
      have c3 : wr.cell? ⟨w.heap.size, 3, none⟩ = some (.slice ab r.bd.length cb) := mem_cells hbx 3
      have HT := Lib.hid (show (ws.take (k + 1)).map (fun x => headF r x.1) = (ws.take k).map (fun x => headF r x.1) ++ [headF r ws[k].1] from by rw [List.take_succ_eq_append_getElem hlt, List.map_append]; rfl)
      have HS := Lib.hid (srt_snoc ((ws.take k).map fun x => headF r x.1) (headF r ws[k].1))
      have HA := Lib.hid (srt_asc ((ws.take k).map fun x => headF r x.1))
      have HLN := Lib.hid (show (srt ((ws.take k).map fun x => headF r x.1)).length ≤ 1000000000 from by
        have := srt_len_le ((ws.take k).map fun x => headF r x.1)
        rw [List.length_map, List.length_take] at this
        have := HWL.out
        omega)
      have HOK := Lib.hid (HOKW.out ws[k] (List.getElem_mem hlt))
      have HCH := Lib.hid (fun (w' : World) (hb : Below wr.heap.size wr w') => HHEAD.out ws[k] x0 x1 x2 w' (tStrs.mono _ _ _ _ (below_mem hb) s0) (tStrs.mono _ _ _ _ (below_mem hb) s1))
      obtain ⟨a0, e0, rfl, -⟩ := slice_form s0
      obtain ⟨a1, e1, rfl, -⟩ := slice_form s1
      obtain ⟨a2, e2, rfl, -⟩ := slice_form s2
      clear q0 q1 q2 s0 s1 s2 hbx
      generalize (ws[k].1.map Prod.fst).length = n0 at *
      generalize (ws[k].1.map Prod.snd).length = n1 at *
      generalize ws[k].2.length = n2 at *
      generalize headF r ws[k].1 = f at *
      have HTT := Lib.hid (HS.out.symm.trans (congrArg srt HT.out.symm))
      generalize srt ((ws.take k).map fun x => headF r x.1) = l at *
      obtain ⟨ao, co, rfl, hlo, hmo, -⟩ := slice_form HO.out
      have HPUT := Lib.hid (fun (w' : World) (hb : Below wr.heap.size wr w') => refPut_any (w.heap.size ≤ ·) l f (.slice ao l.length co) w' (tFcts.mono _ _ _ _ (below_onSS hb _) HO.out) HOK.out HA.out HLN.out)
      clear HS HT hlo hmo
      have hb0 : Below wr.heap.size wr wr.drew := (Below.refl _ _).drew
      have HKP := Lib.hid (fun (w' : World) (hb : Below wr.heap.size wr w') => (show (w'.cell? ⟨b, o + k * 3, none⟩ = some (.slice a0 n0 e0) ∧ w'.cell? ⟨b, o + k * 3 + 1, none⟩ = some (.slice a1 n1 e1) ∧ w'.cell? ⟨b, o + k * 3 + 2, none⟩ = some (.slice a2 n2 e2)) ∧ w'.cell? ⟨w.heap.size, 0, none⟩ = some (.string r.hd.n) ∧ w'.cell? ⟨w.heap.size, 1, none⟩ = some (.string r.hd.a) ∧ w'.cell? ⟨w.heap.size, 2, none⟩ = some (.string r.hd.b) ∧ w'.cell? ⟨w.heap.size, 3, none⟩ = some (.slice ab r.bd.length cb) from ⟨⟨below_mem hb _ _ _ d0, below_mem hb _ _ _ d1, below_mem hb _ _ _ d2⟩, below_mem hb _ _ _ c0, below_mem hb _ _ _ c1, below_mem hb _ _ _ c2, below_mem hb _ _ _ c3⟩))
      go_wp2_with fail
      go_region_held3 (fun w' => (w'.cell? ⟨b, o + k * 3, none⟩ = some (.slice a0 n0 e0) ∧ w'.cell? ⟨b, o + k * 3 + 1, none⟩ = some (.slice a1 n1 e1) ∧ w'.cell? ⟨b, o + k * 3 + 2, none⟩ = some (.slice a2 n2 e2)) ∧ w'.cell? ⟨w.heap.size, 0, none⟩ = some (.string r.hd.n) ∧ w'.cell? ⟨w.heap.size, 1, none⟩ = some (.string r.hd.a) ∧ w'.cell? ⟨w.heap.size, 2, none⟩ = some (.string r.hd.b) ∧ w'.cell? ⟨w.heap.size, 3, none⟩ = some (.slice ab r.bd.length cb))
        ((refine HKP.out _ ?_; with_reducible assumption))
        ((first
          | (go_at_call 56; refine (HCH.out _ hb0).mono ?_; rintro e w3 ⟨rfl, hb3⟩; have hb4 := pure_trans hb0 hb3; clear hb3)
          | (go_at_call 51; refine (HPUT.out _ hb4).mono ?_; rintro e w5 ⟨v5, rfl, hv5, hb5⟩; have hb6 := pure_trans hb4 hb5)))
      have HV5 := Lib.hid (tFcts.mono _ _ _ _ (Mem.on_mono _ (fun q (h : w.heap.size ≤ q ∨ w3.heap.size ≤ q) => by
        have h1 := HBW.out.size
        have h2 := hb4.size
        rcases h with h | h
        · exact h
        · show w.heap.size ≤ q
          omega)) hv5)
      have HBE := Lib.hid (pure_trans HBR.out hb6)
      obtain ⟨a5, c5, rfl, -⟩ := slice_form hv5
      clear hv5 hb5 hb6 hb4 hb0 HKP HPUT HCH
      go_wp2
      go_roundw
      case rel => exact ⟨k + 1, by omega, by go_num, by rw [← HTT.out]; exact HV5, HBE⟩
      case measure => simp [intOf]; omega
    · obtain rfl : k = ws.length := by omega
      have HR := Lib.hid (show tFcts.rv ((mem wr).on (w.heap.size ≤ ·)) [u5] (srt hs) from by rw [HHD.out]; have := HO.out; rwa [List.take_length] at this)
      have HBE := Lib.hid (pure_trans HB1.out HBR.out)
      clear HO
      obtain ⟨ao, co, rfl, -⟩ := slice_form HR.out
      go_wp2
      go_ret
      exact ⟨_, rfl, HR.out, HBE.out⟩
end Go.Proofs.Ytafeaeaildfohaa
/- The reference's rounds. -/
namespace Go.Proofs.Ytafeaeaildfohaa
open Go.RowKit Go.Maps

abbrev tFctss : Ty (List (List Fct)) := tSlice tFcts
theorem tFcts_one : ∀ m cs x, tFcts.rv m cs x → ∀ u ∈ cs, u.oneCell' = true := fun m cs x h u hu => by
  obtain ⟨a, c, rfl, -⟩ := h
  simp at hu
  subst hu; rfl
theorem infoFcts : (Try.prog.info? 23).map (fun i => (i.zero, i.size, i.bytes)) = some (some (.slice none 0 0), tFcts.sz, 24) := by kernel_rfl
def sliceLen : Value → Nat
  | .slice _ n _ => n
  | _ => 0
theorem OwnsD.lit1 {α : Type} {t : Ty α} {S : Nat → Prop} {w : World} {B g : Nat} {T : TypeId} {v : Value} {x : α} (hg : w.heap[g]? = some (.cells #[v] T (0, 0))) (hB : B ≤ g) (hr : t.rv ((mem w).on (fun b => S b ∧ b ≠ g)) [v] x) (h1 : t.sz = 1) :
    OwnsD t S w B T (.slice (some ⟨g, 0, none⟩) 1 1) [x] :=
  ⟨(mem w).on (fun b => S b ∧ b ≠ g), Mem.on_mono _ (fun b h => ⟨h.1, fun e => by simp [Value.ownBlock] at e; exact h.2 e⟩), ⟨[[v]], rfl, fun k hk hk' => by
    have : k = 0 := by simp at hk; omega
    subst this
    exact hr, .inr ⟨g, 0, 1, #[v], rfl, hg, by simp, by unfold maxLen; decide, by show 0 + 1 * t.sz ≤ _; rw [h1]; simp, by show List.take (1 * t.sz) _ = _; rw [h1]; simp⟩⟩, fun k e => by simp [Value.ownBlock] at e; omega⟩
theorem newOf_len {L : List Fct} {r : Rul} (hL : L.length ≤ 400) (hb : r.bd.length ≤ 3) : (newOf L r).length ≤ 64000000 := by
  unfold newOf
  refine Nat.le_trans (List.length_filter_le _ _) ?_
  refine Nat.le_trans (srt_len_le _) ?_
  unfold heads
  rw [List.length_map]
  refine Nat.le_trans (ways_len L r.bd [] []) ?_
  refine Nat.le_trans (Nat.pow_le_pow_left hL _) ?_
  exact Nat.le_trans (Nat.pow_le_pow_right (by omega) hb) (by decide)
theorem newAll_len {L : List Fct} {rules : List Rul} (hL : L.length ≤ 400) (hr : rules.length ≤ 12) (hb : ∀ r ∈ rules, r.bd.length ≤ 3) (i : Nat) : (newAll (rules.take i) L).length ≤ 768000000 := by
  have := flatMap_len_le (newOf L) 64000000 (rules.take i) (fun r h => newOf_len hL (hb r (List.mem_of_mem_take h)))
  unfold newAll
  have h2 : (rules.take i).length ≤ 12 := by rw [List.length_take]; omega
  omega
theorem fss_at {m : Mem} {xs : List (List Fct)} {a : Option Addr} {n cap : Nat} (h : tFctss.rv m [.slice a n cap] xs) {k : Nat} (hk : k < xs.length) : ∃ b o a' c', a = some ⟨b, o, none⟩ ∧ m b (o + k) = some (.slice a' xs[k].length c') ∧ tFcts.rv m [.slice a' xs[k].length c'] xs[k] := by
  obtain ⟨b, o, rfl, cs, hat, hr⟩ := slice_at h hk
  obtain ⟨a', c', rfl, h1, h2, h3⟩ := hr
  refine ⟨b, o, a', c', rfl, ?_, a', c', rfl, h1, h2, h3⟩
  have := hat 0 _ rfl
  rw [show o + k * (tSlice tFct).sz + 0 = o + k from by show o + k * 1 + 0 = _; omega] at this
  exact this
/-- What the reference's rounds leave. -/
def RoundsOut (rules : List Rul) (l : List Fct) (w : World) (e : Ending) (w' : World) : Prop :=
  ∃ j M out ov av, RSt rules l j M out ∧ (lastL out = [] ∨ 400 < M.length) ∧ e = .returned (.tuple #[ov, av, .bool (decide ((M.length : Int) ≤ 400))]) ∧ tFctss.rv (mem w') [ov] out ∧ tFcts.rv (mem w') [av] (srt (keysR M)) ∧ Below w.heap.size w w'
/-- Between the rounds. -/
structure RW (rules : List Rul) (l : List Fct) (w : World) (av ov : Value) (j : Nat) (M : Rnds) (out : List (List Fct)) (wr : World) : Prop where
  st : RSt rules l j M out
  ow : OwnsD tFcts (w.heap.size ≤ ·) wr w.heap.size 23 ov out
  al : tFcts.rv ((mem wr).on (fun q => w.heap.size ≤ q ∧ some q ≠ ov.ownBlock)) [av] (srt (keysR M))
  bl : Below w.heap.size w wr
theorem filt_snoc_yes {L G : List Fct} {k : Nat} (h : k < G.length) (e : decide (G[k] ∈ L) = false) : (G.take (k + 1)).filter (fun x => !decide (x ∈ L)) = (G.take k).filter (fun x => !decide (x ∈ L)) ++ [G[k]] := filt_take_yes h (by rw [e]; rfl)
theorem filt_snoc_no {L G : List Fct} {k : Nat} (h : k < G.length) (e : decide (G[k] ∈ L) = true) : (G.take (k + 1)).filter (fun x => !decide (x ∈ L)) = (G.take k).filter (fun x => !decide (x ∈ L)) := filt_take_no h (by rw [e]; rfl)
set_option maxRecDepth 100000 in
set_option maxHeartbeats 8000000 in
theorem refRounds_any (rules : List Rul) (l : List Fct) (rv lv : Value) (w : World) (hr : tRuls.rv (mem w) [rv] rules) (hl : tFcts.rv (mem w) [lv] l) (hb : ∀ r ∈ rules, 1 ≤ r.bd.length ∧ r.bd.length ≤ 3) (h12 : rules.length ≤ 12) (hn : l.length ≤ 400) :
    Calls Try.prog 43 #[rv, lv] w (RoundsOut rules l w) := by
  have HST := Lib.hid (RSt.start (rules := rules) (l := l) (fun r h => (hb r h).1) hn)
  have HB3 := Lib.hid (fun r (h : r ∈ rules) => (hb r h).2)
  obtain ⟨ar, cr, rfl, hlr, hmr, hr⟩ := slice_form hr
  obtain ⟨al, cl, rfl, hll, hml, hl⟩ := slice_form hl
  have hcr : cr ≤ 9223372036854775807 := by unfold maxLen at hmr; exact hmr
  have hcl : cl ≤ 9223372036854775807 := by unfold maxLen at hml; exact hml
  have HR := Lib.hid (fun wr (hb : Below w.heap.size w wr) => tRuls.mono _ _ _ _ (below_mem hb) hr)
  have HL := Lib.hid (fun wr (hb : Below w.heap.size w wr) => tFcts.mono _ _ _ _ (below_mem hb) hl)
  clear hr hl hb hmr hml
  go_enter Try.func43, Try.ntmps43
  go_wp2_with fail
  go_loopw [7, 8] (fun av i wr => ∃ k : Nat, k ≤ l.length ∧ i = .int .i64 k ∧ Hid (tFcts.rv ((mem wr).on (w.heap.size ≤ ·)) [av] (srt (l.take k))) ∧ Hid (Below w.heap.size w wr)) (fun _ i _ => l.length - (intOf i).toNat)
  case atStart => exact ⟨0, by omega, rfl, Lib.hid (slice_nil _ _), Lib.hid (Below.refl _ _)⟩
  case round =>
    obtain ⟨k, hk, rfl, HO, HBR⟩ := hrel
    by_cases hlt : k < l.length
    · obtain ⟨b, o, rfl, ⟨q0, q1, q2⟩, hok⟩ := fcts_at (HL.out _ HBR.out) hlt
      have c0 : wr.cell? ⟨b, o + k * 3, none⟩ = some (.string l[k].n) := q0
      have c1 : wr.cell? ⟨b, o + k * 3 + 1, none⟩ = some (.string l[k].a) := q1
      have c2 : wr.cell? ⟨b, o + k * 3 + 2, none⟩ = some (.string l[k].b) := q2
      have HTT := Lib.hid (show putS (srt (l.take k)) l[k] = srt (l.take (k + 1)) from by rw [List.take_succ_eq_append_getElem hlt, srt_snoc])
      have HA := Lib.hid (srt_asc (l.take k))
      have HLN := Lib.hid (srt_len_take (l := l) hk)
      have HOK := Lib.hid hok
      clear q0 q1 q2 hok
      generalize l[k] = y at *
      generalize srt (l.take k) = s at *
      obtain ⟨a0, e0, rfl, -⟩ := slice_form HO.out
      have HPUT := Lib.hid (refPut_any (w.heap.size ≤ ·) s y _ wr HO.out HOK.out HA.out (by have := HLN.out; omega))
      obtain ⟨y1, y2, y3⟩ := y
      simp only at c0 c1 c2
      go_wp2_with fail
      refine HPUT.out.mono ?_
      rintro e w1 ⟨v1, rfl, hv1, hb1⟩
      have HV1 := Lib.hid (tFcts.mono _ _ _ _ (Mem.on_mono _ (fun q (h : w.heap.size ≤ q ∨ wr.heap.size ≤ q) => by
        have h1 := HBR.out.size
        rcases h with h | h
        · exact h
        · show w.heap.size ≤ q
          omega)) hv1)
      have HB1 := Lib.hid (pure_trans HBR.out hb1)
      obtain ⟨a1, e1, rfl, -⟩ := slice_form hv1
      clear hv1 hb1 HPUT HO HBR
      go_wp2
      go_roundw
      case rel => exact ⟨k + 1, by omega, by go_num, by rw [← HTT.out]; exact HV1, HB1⟩
      case measure => simp [intOf]; omega
    · obtain rfl : k = l.length := by omega
      rw [List.take_length] at HO
      obtain ⟨W1, hW1⟩ : ∃ W1, W1 = wr := ⟨_, rfl⟩
      subst hW1
      obtain ⟨a0, e0, rfl, -⟩ := slice_form HO.out
      have HRW := Lib.hid (show RW rules l w (.slice a0 (srt l).length e0) (.slice (some ⟨W1.heap.size, 0, none⟩) 1 1) 1 (startR l) [srt l] (W1.alloc (.cells #[.slice a0 (srt l).length e0] 23)) from
        ⟨HST.out, OwnsD.lit1 (heap_alloc_new W1 _) HBR.out.size (tFcts.mono _ _ _ _ (fun b o u e => by
          obtain ⟨hs, e⟩ := Mem.of_on e
          exact Mem.on_some (below_mem (boxW W1 _) _ _ _ e) ⟨hs, by have := mem_lt e; omega⟩) HO.out) rfl,
        by rw [srt_start]; exact tFcts.mono _ _ _ _ (fun b o u e => by
          obtain ⟨hs, e⟩ := Mem.of_on e
          exact Mem.on_some (below_mem (boxW W1 _) _ _ _ e) ⟨hs, fun h => by simp [Value.ownBlock] at h; have := mem_lt e; omega⟩) HO.out,
        pure_trans HBR.out (boxW W1 _)⟩)
      clear HO HST hk hlt
      generalize (srt l).length = ns at *
      go_wp2_with fail
      go_loopw [7, 9] (fun av ov wr => ∃ j M out, Hid (RW rules l w av ov j M out wr) ∧ sliceLen ov = j) (fun _ ov _ => 403 - sliceLen ov)
      case atStart => exact ⟨_, _, _, HRW, rfl⟩
      case round =>
        clear HRW
        obtain ⟨j, M, out, HW, hsl⟩ := hrel
        obtain ⟨w2, hw2⟩ : ∃ w2, w2 = wr := ⟨_, rfl⟩
        subst hw2
        have hjo : out.length = j := HW.out.st.outlen
        have hj1 := HW.out.st.one
        obtain ⟨ao, co, rfl, hmo⟩ := HW.out.ow.len
        obtain ⟨aa, ca, rfl, -⟩ := slice_form HW.out.al
        have HAL := Lib.hid HW.out.st.all
        have HOV := Lib.hid (tFctss.mono _ _ _ _ (Mem.on_le _ (fun _ => True)) (HW.out.ow.rv (S' := fun _ => True) (fun _ _ => trivial) (fun _ _ => trivial)))
        have HAV := Lib.hid (tFcts.mono _ _ _ _ (Mem.on_le _ _) HW.out.al)
        obtain ⟨b, o, a9, c9, rfl, hlast, -⟩ := fss_at HOV.out (k := out.length - 1) (by omega)
        rw [lastL_at (by omega)] at hlast
        obtain ⟨j', hj'⟩ : ∃ j', out.length = j' + 1 := ⟨out.length - 1, by omega⟩
        have hcl0 : w2.cell? ⟨b, o + j', none⟩ = some (.slice a9 (lastL out).length c9) := by rw [hj'] at hlast; exact hlast
        have HJ' := Lib.hid hj'
        have HJO := Lib.hid hjo
        have HEX := Lib.hid (show ∀ w', w' = w2 → (lastL out = [] ∨ 400 < M.length) → RoundsOut rules l w (.returned (.tuple #[.slice (some ⟨b, o, none⟩) (j' + 1) co, .slice aa (srt (keysR M)).length ca, .bool (decide ((M.length : Int) ≤ 400))])) w2 from fun w' e h => ⟨j, M, out, _, _, HW.out.st, h, rfl, by have := HOV.out; rwa [hj'] at this, HAV.out, HW.out.bl⟩)
        rw [hj'] at hmo
        rw [hj']
        clear hlast hjo hsl
        clear hj'
        have hjm : (j' : Int) + 1 ≤ 9223372036854775807 := by unfold maxLen at hmo; omega
        by_cases h1 : lastL out = []
        · have h0 : (lastL out).length = 0 := by rw [h1]; rfl
          have HE := Lib.hid (HEX.out w2 rfl (.inl h1))
          rw [h0] at hcl0
          rw [HAL.out] at HE ⊢
          clear h0 HEX HOV HAV HW h1
          go_wp2
          go_ret3
          exact HE.out
        · have h0 : 0 < (lastL out).length := List.length_pos_iff.2 h1
          by_cases h4 : 400 < M.length
          · have HE := Lib.hid (HEX.out w2 rfl (.inr h4))
            rw [HAL.out] at HE ⊢
            have hd1 : decide ((M.length : Int) ≤ 400) = false := decide_eq_false (by omega)
            rw [hd1] at HE
            clear HEX HOV HAV HW h1 h4
            generalize (lastL out).length = nl at *
            go_wp2_with fail
            go_ret3
            exact HE.out
          · rw [HAL.out]
            have hml4 : (M.length : Int) ≤ 400 := by omega
            have HNE := Lib.hid h1
            clear HEX h1
            generalize (lastL out).length = nl at *
            go_wp2_with fail
            obtain ⟨K, hK⟩ : ∃ K, K = srt (keysR M) := ⟨_, rfl⟩
            have HK := Lib.hid hK
            have HKL := Lib.hid (show K.length = M.length from by rw [hK]; exact HAL.out)
            have hA0 := HW.out.al
            rw [← hK] at HAV hA0
            have HA0 := Lib.hid hA0
            clear hK hA0 HAL
            have HSL := Lib.hid (show ∀ q, w2.heap.size ≤ q → w.heap.size ≤ q ∧ some q ≠ (Value.slice (some ⟨b, o, none⟩) out.length co).ownBlock from fun q h => ⟨Nat.le_trans HW.out.bl.size h, fun e => by have := (HW.out.ow.lt q e.symm).2; omega⟩)
            have HKOK := Lib.hid (fcts_okAll HAV.out)
            have HL4 := Lib.hid (show K.length ≤ 400 from by rw [HKL.out]; omega)
            rw [← HKL.out]
            have HAV2 := Lib.hid (fun (wr : World) (hb : Below w2.heap.size w2 wr) => tFcts.mono _ _ _ _ (below_mem hb) HAV.out)
            have HRW2 := Lib.hid (fun (wr : World) (hb : Below w2.heap.size w2 wr) => HR.out wr (pure_trans HW.out.bl hb))
            clear HAV hml4 h4
            go_loopw [10, 11] (fun fv i wr => ∃ k : Nat, k ≤ rules.length ∧ i = .int .i64 k ∧ Hid (tFcts.rv ((mem wr).on (w2.heap.size ≤ ·)) [fv] (srt (newAll (rules.take k) K))) ∧ Hid (Below w2.heap.size w2 wr)) (fun _ i _ => rules.length - (intOf i).toNat)
            case atStart => exact ⟨0, by omega, rfl, Lib.hid (slice_nil _ _), Lib.hid (Below.refl _ _)⟩
            case round =>
              obtain ⟨k, hk, rfl, HF, HB⟩ := hrel
              by_cases hlt : k < rules.length
              · obtain ⟨bb, bo, bv, rfl, ⟨q0, q1, q2, q3⟩, hok, hbd⟩ := ruls_at (HRW2.out _ HB.out) hlt
                have c0 : wr.cell? ⟨bb, bo + k * 4, none⟩ = some (.string rules[k].hd.n) := q0
                have c1 : wr.cell? ⟨bb, bo + k * 4 + 1, none⟩ = some (.string rules[k].hd.a) := q1
                have c2 : wr.cell? ⟨bb, bo + k * 4 + 2, none⟩ = some (.string rules[k].hd.b) := q2
                have c3 : wr.cell? ⟨bb, bo + k * 4 + 3, none⟩ = some bv := q3
                have HG := Lib.hid (refGives_any rules[k] K bv (.slice aa K.length ca) wr hok hbd (HAV2.out wr HB.out) (HB3.out _ (List.getElem_mem hlt)) HL4.out)
                have HTK := Lib.hid (newAll_take (L := K) hlt)
                have HNL := Lib.hid (newAll_len (L := K) HL4.out h12 HB3.out k)
                have HNL2 := Lib.hid (newOf_len (L := K) (r := rules[k]) HL4.out (HB3.out _ (List.getElem_mem hlt)))
                have HBD3 := Lib.hid (HB3.out _ (List.getElem_mem hlt))
                have HNO := Lib.hid (show newOf K rules[k] = (srt (heads rules[k] K)).filter (fun x => !decide (x ∈ K)) from rfl)
                obtain ⟨ab, cb, rfl, -, -, -⟩ := slice_form hbd
                clear q0 q1 q2 q3 hok hbd
                generalize rules[k] = r at *
                generalize newAll (rules.take k) K = na at *
                obtain ⟨⟨r1, r2, r3⟩, bd⟩ := r
                simp only at c0 c1 c2 c3
                go_wp2_with fail
                refine HG.out.mono ?_
                rintro e w3 ⟨v3, rfl, hv3, hb3⟩
                have HV3 := Lib.hid (fun (wr : World) (hb : Below w3.heap.size w3 wr) => tFcts.mono _ _ _ _ (Mem.le_trans (Mem.on_le _ _) (below_mem hb)) hv3)
                have HGK := Lib.hid (fcts_okAll hv3)
                have HB3' := Lib.hid (pure_trans HB.out hb3)
                have HF3 := Lib.hid (tFcts.mono _ _ _ _ (below_onSS hb3 _) HF.out)
                obtain ⟨G, hG⟩ : ∃ G, G = srt (heads ⟨⟨r1, r2, r3⟩, bd⟩ K) := ⟨_, rfl⟩
                rw [← hG] at hv3 HV3 HGK HNO
                have HGL := Lib.hid (show G.length ≤ 64000000 from by
                  have hh : G.length ≤ 64000000 := by
                    rw [hG]
                    refine Nat.le_trans (srt_len_le _) ?_
                    unfold heads
                    rw [List.length_map]
                    refine Nat.le_trans (ways_len K bd [] []) ?_
                    refine Nat.le_trans (Nat.pow_le_pow_left HL4.out _) ?_
                    exact Nat.le_trans (Nat.pow_le_pow_right (by omega) (HBD3.out)) (by decide)
                  omega)
                obtain ⟨ag, cg, rfl, hlg, hmg, -⟩ := slice_form hv3
                have hcg : cg ≤ 9223372036854775807 := by unfold maxLen at hmg; exact hmg
                clear hG hv3 hb3 hmg HG c0 c1 c2 c3 HF HB
                obtain ⟨w0, hw0⟩ : ∃ w0, w0 = wr := ⟨_, rfl⟩
                subst hw0
                go_wp2_with fail
                go_loopw [10, 13] (fun fv i wr => ∃ k : Nat, k ≤ G.length ∧ i = .int .i64 k ∧ Hid (tFcts.rv ((mem wr).on (w2.heap.size ≤ ·)) [fv] (srt (na ++ (G.take k).filter (fun x => !decide (x ∈ K))))) ∧ Hid (Below w3.heap.size w3 wr)) (fun _ i _ => G.length - (intOf i).toNat)
                case atStart => exact ⟨0, by omega, rfl, by simpa using HF3, Lib.hid (Below.refl _ _)⟩
                case round =>
                  clear HF3
                  obtain ⟨m, hm, rfl, HF, HB⟩ := hrel
                  by_cases hlt2 : m < G.length
                  · obtain ⟨gb, go, rfl, ⟨q0, q1, q2⟩, -⟩ := fcts_at (HV3.out wr HB.out) hlt2
                    have c0 : wr.cell? ⟨gb, go + m * 3, none⟩ = some (.string G[m].n) := q0
                    have c1 : wr.cell? ⟨gb, go + m * 3 + 1, none⟩ = some (.string G[m].a) := q1
                    have c2 : wr.cell? ⟨gb, go + m * 3 + 2, none⟩ = some (.string G[m].b) := q2
                    have HOK := Lib.hid (HGK.out _ (List.getElem_mem hlt2))
                    have HYES := Lib.hid (fun e => filt_snoc_yes (L := K) hlt2 e)
                    have HNOT := Lib.hid (fun e => filt_snoc_no (L := K) hlt2 e)
                    have HFL := Lib.hid (show ((G.take m).filter (fun x => !decide (x ∈ K))).length ≤ 64000000 from by
                      refine Nat.le_trans (List.length_filter_le _ _) ?_
                      rw [List.length_take]
                      have := HGL.out
                      omega)
                    have HBW := Lib.hid (pure_trans HB3'.out HB.out)
                    have HIN := Lib.hid (fun x => refIn_any K x (.slice aa K.length ca) wr (HAV2.out wr (pure_trans HB3'.out HB.out)))
                    clear q0 q1 q2
                    generalize G[m] = y at *
                    generalize (G.take m).filter (fun x => !decide (x ∈ K)) = gf at *
                    obtain ⟨y1, y2, y3⟩ := y
                    simp only at c0 c1 c2
                    have HINY := Lib.hid (HIN.out ⟨y1, y2, y3⟩)
                    clear HIN
                    go_wp2_with fail
                    refine HINY.out.mono ?_
                    rintro e w4 ⟨rfl, hb4⟩
                    have HF4 := Lib.hid (tFcts.mono _ _ _ _ (below_onSS hb4 _) HF.out)
                    have HB4 := Lib.hid (pure_trans HB.out hb4)
                    have HBW4 := Lib.hid (pure_trans HBW.out hb4)
                    replace c0 := below_mem hb4 _ _ _ c0
                    replace c1 := below_mem hb4 _ _ _ c1
                    replace c2 := below_mem hb4 _ _ _ c2
                    clear hb4 HINY HF HB HBW
                    generalize hin : decide ((⟨y1, y2, y3⟩ : Fct) ∈ K) = t at *
                    clear hin
                    cases t with
                    | true =>
                      have HX := Lib.hid (HNOT.out rfl)
                      clear HYES HNOT
                      go_wp2
                      go_roundw
                      case rel => exact ⟨m + 1, by omega, by go_num, by rw [HX.out]; exact HF4, HB4⟩
                      case measure => simp [intOf]; omega
                    | false =>
                      have HX := Lib.hid (HYES.out rfl)
                      have HSN := Lib.hid (srt_snoc (na ++ gf) ⟨y1, y2, y3⟩)
                      have HSA := Lib.hid (srt_asc (na ++ gf))
                      have HSL2 := Lib.hid (show (srt (na ++ gf)).length ≤ 1000000000 from by
                        have := srt_len_le (na ++ gf)
                        rw [List.length_append] at this
                        have := HNL.out
                        have := HFL.out
                        omega)
                      have HXA := Lib.hid (show srt (na ++ (gf ++ [(⟨y1, y2, y3⟩ : Fct)])) = putS (srt (na ++ gf)) ⟨y1, y2, y3⟩ from by rw [← List.append_assoc]; exact HSN.out)
                      clear HYES HNOT HSN
                      generalize srt (na ++ gf) = fs at *
                      obtain ⟨af, cf, rfl, -⟩ := slice_form HF4.out
                      have HPUT := Lib.hid (refPut_any (w2.heap.size ≤ ·) fs ⟨y1, y2, y3⟩ _ w4 HF4.out HOK.out HSA.out HSL2.out)
                      have d0 : w4.cell? ⟨gb, go + m * 3, none⟩ = some (.string y1) := c0
                      have d1 : w4.cell? ⟨gb, go + m * 3 + 1, none⟩ = some (.string y2) := c1
                      have d2 : w4.cell? ⟨gb, go + m * 3 + 2, none⟩ = some (.string y3) := c2
                      clear c0 c1 c2
                      go_wp2_with fail
                      refine HPUT.out.mono ?_
                      rintro e w5 ⟨v5, rfl, hv5, hb5⟩
                      have HV5 := Lib.hid (tFcts.mono _ _ _ _ (Mem.on_mono _ (fun q (h : w2.heap.size ≤ q ∨ w4.heap.size ≤ q) => by
                        have h1 := HBW4.out.size
                        rcases h with h | h
                        · exact h
                        · show w2.heap.size ≤ q
                          omega)) hv5)
                      have HB5 := Lib.hid (pure_trans HB4.out hb5)
                      obtain ⟨a5, c5, rfl, -⟩ := slice_form hv5
                      clear hv5 hb5 HPUT HF4 HB4 HBW4
                      go_wp2
                      go_roundw
                      case rel => exact ⟨m + 1, by omega, by go_num, by rw [HX.out, HXA.out]; exact HV5, HB5⟩
                      case measure => simp [intOf]; omega
                  · obtain rfl : m = G.length := by omega
                    have HF6 := Lib.hid (show tFcts.rv ((mem wr).on (w2.heap.size ≤ ·)) [u10] (srt (newAll (rules.take (k + 1)) K)) from by
                      rw [HTK.out, HNO.out]
                      have := HF.out
                      rwa [List.take_length] at this)
                    have HB6 := Lib.hid (pure_trans HB3'.out HB.out)
                    clear HF HB HB3'
                    go_wp2
                    go_roundw
                    case rel => exact ⟨k + 1, by omega, by go_num, HF6, HB6⟩
                    case measure => simp [intOf]; omega
              · obtain rfl : k = rules.length := by omega
                rw [List.take_length] at HF
                obtain ⟨w6, hw6⟩ : ∃ w6, w6 = wr := ⟨_, rfl⟩
                subst hw6
                obtain ⟨F, hF⟩ : ∃ F, F = freshR rules M := ⟨_, rfl⟩
                have hFN : srt (newAll rules K) = F := by rw [HK.out, newAll_fresh, hF]
                rw [hFN] at HF
                have HFR := Lib.hid hF
                have HFL := Lib.hid (show F.length ≤ 768000000 from by
                  rw [← hFN]
                  have h1 := newAll_len (L := K) HL4.out h12 HB3.out rules.length
                  rw [List.take_length] at h1
                  exact Nat.le_trans (srt_len_le _) h1)
                have HFV := Lib.hid (fun (wr : World) (hb : Below w6.heap.size w6 wr) => tFcts.mono _ _ _ _ (below_onSS hb _) HF.out)
                have HFOK := Lib.hid (fcts_okAll HF.out)
                have HA6 := Lib.hid (tFcts.mono _ _ _ _ (below_onSS HB.out _) HA0.out)
                obtain ⟨af, cf, rfl, hlf, hmf, -⟩ := slice_form HF.out
                have hcf : cf ≤ 9223372036854775807 := by unfold maxLen at hmf; exact hmf
                clear hFN hF HF hmf hk hlt HAV2 HRW2
                go_wp2_with fail
                go_loopw [7, 14] (fun av i wr => ∃ k : Nat, k ≤ F.length ∧ i = .int .i64 k ∧ Hid (tFcts.rv ((mem wr).on (fun q => w.heap.size ≤ q ∧ some q ≠ (Value.slice (some ⟨b, o, none⟩) out.length co).ownBlock)) [av] ((F.take k).foldl putS K)) ∧ Hid (Below w6.heap.size w6 wr)) (fun _ i _ => F.length - (intOf i).toNat)
                case atStart => exact ⟨0, by omega, rfl, HA6, Lib.hid (Below.refl _ _)⟩
                case round =>
                  clear HA6
                  obtain ⟨k, hk, rfl, HA, HB7⟩ := hrel
                  by_cases hlt : k < F.length
                  · obtain ⟨gb, go, rfl, ⟨q0, q1, q2⟩, -⟩ := fcts_at (tFcts.mono _ _ _ _ (Mem.on_le _ _) (HFV.out wr HB7.out)) hlt
                    have c0 : wr.cell? ⟨gb, go + k * 3, none⟩ = some (.string F[k].n) := q0
                    have c1 : wr.cell? ⟨gb, go + k * 3 + 1, none⟩ = some (.string F[k].a) := q1
                    have c2 : wr.cell? ⟨gb, go + k * 3 + 2, none⟩ = some (.string F[k].b) := q2
                    have HOK := Lib.hid (HFOK.out _ (List.getElem_mem hlt))
                    have HSN := Lib.hid (foldl_take_succ F K hlt)
                    have HSA := Lib.hid (show Asc ((F.take k).foldl putS K) from foldl_putS_asc _ _ (by rw [HK.out]; exact srt_asc _))
                    have HSL2 := Lib.hid (show ((F.take k).foldl putS K).length ≤ 1000000000 from by
                      have := foldl_putS_len (F.take k) K
                      rw [List.length_take] at this
                      have := HFL.out
                      have := HL4.out
                      omega)
                    clear q0 q1 q2
                    generalize F[k] = y at *
                    generalize (F.take k).foldl putS K = fs at *
                    obtain ⟨a8, e8, rfl, -⟩ := slice_form HA.out
                    have HPUT := Lib.hid (refPut_any _ fs y _ wr HA.out HOK.out HSA.out HSL2.out)
                    obtain ⟨y1, y2, y3⟩ := y
                    simp only at c0 c1 c2
                    go_wp2_with fail
                    refine HPUT.out.mono ?_
                    rintro e w8 ⟨v8, rfl, hv8, hb8⟩
                    have HV8 := Lib.hid (show tFcts.rv ((mem w8).on (fun q => w.heap.size ≤ q ∧ some q ≠ (Value.slice (some ⟨b, o, none⟩) out.length co).ownBlock)) [v8] ((F.take (k + 1)).foldl putS K) from by
                      rw [HSN.out]
                      refine tFcts.mono _ _ _ _ (Mem.on_mono _ (fun q h => ?_)) hv8
                      rcases h with h | h
                      · exact h
                      · exact HSL.out q (by have := HB.out.size; have := HB7.out.size; omega))
                    have HB8 := Lib.hid (pure_trans HB7.out hb8)
                    obtain ⟨a9, e9, rfl, -⟩ := slice_form hv8
                    clear hv8 hb8 HPUT HA HB7
                    go_wp2
                    go_roundw
                    case rel => exact ⟨k + 1, by omega, by go_num, HV8, HB8⟩
                    case measure => simp [intOf]; omega
                  · obtain rfl : k = F.length := by omega
                    rw [List.take_length] at HA
                    obtain ⟨w7, hw7⟩ : ∃ w7, w7 = wr := ⟨_, rfl⟩
                    subst hw7
                    have HALL := Lib.hid (show F.foldl putS K = srt (keysR (roundR rules j M)) from by rw [HFR.out, HK.out]; exact fresh_srt rules j M)
                    rw [HALL.out] at HA
                    have HB26 := Lib.hid (pure_trans HB.out HB7.out)
                    have HOW := Lib.hid (HW.out.ow.keeps HB26.out)
                    have HBW := Lib.hid (pure_trans HW.out.bl HB26.out)
                    have HFW := Lib.hid (HFV.out w7 HB7.out)
                    have HRST := Lib.hid (HW.out.st.step HNE.out (by have := HL4.out; rw [HKL.out] at this; exact this))
                    have HLO := Lib.hid (fun k e => (HW.out.ow.lt k e).2)
                    have HJJ := HJ'.out
                    obtain ⟨a8, e8, rfl, -⟩ := slice_form HA.out
                    have HJ2 := Lib.hid HJJ
                    have HJN := Lib.hid (show out.length ≤ 402 from by
                      have h1 := HW.out.st.grow HNE.out
                      have h2 := HL4.out
                      rw [HKL.out] at h2
                      have := HJO.out
                      omega)
                    have hal := heap_alloc_new w7 (.cells #[.slice af F.length cf] 23)
                    have HFX := Lib.hid (show tFctss.rv ((mem (w7.alloc (.cells #[.slice af F.length cf] 23))).on (fun q => w.heap.size ≤ q ∧ some q ≠ (Value.slice (some ⟨b, o, none⟩) out.length co).ownBlock)) [.slice (some ⟨w7.heap.size, 0, none⟩) 1 1] [F] from
                      slice_one (cs := [.slice af F.length cf]) (fun j u hj => Mem.on_some (by
                        have := mem_cells hal (0 + j)
                        rw [this]
                        match j, hj with | 0, hj => simpa using hj) (HSL.out _ HB26.out.size))
                        (tFcts.mono _ _ _ _ (fun b o u e => by
                          obtain ⟨hs, e⟩ := Mem.of_on e
                          exact Mem.on_some (below_mem (boxW w7 _) _ _ _ e) (HSL.out _ hs)) HFW.out))
                    clear hal HW HB7 HB HFV HFW HNE HJJ
                    rw [← HJ2.out]
                    go_wp2_with (at_builtin; refine wpList_append_d rfl _ _ 62 rfl tFcts tFcts_one Try.underlying62 infoFcts rfl (by decide) (w.heap.size ≤ ·) w.heap.size _ out [F] rfl (HOW.out.keeps (boxW _ _)) _ _ _ rfl rfl HFX.out ?c1 ?c2 ?c3 ?_)
                    case c1 => have := HJN.out; simp; unfold maxLen; omega
                    case c2 => have := HJN.out; simp; omega
                    case c3 => have := HBW.out.size; simp; omega
                    intro v9 w9 own9 hgr9 hbk9
                    have HRW9 := Lib.hid (show RW rules l w (.slice a8 (srt (keysR (roundR rules j M))).length e8) v9 (j + 1) (roundR rules j M) (out ++ [F]) w9 from
                      ⟨by rw [HFR.out]; exact HRST.out, own9, tFcts.mono _ _ _ _ (fun bb oo u e => by
                        obtain ⟨hs, e⟩ := Mem.of_on e
                        have hlt := mem_lt e
                        refine Mem.on_some ((mem_of_block ((hgr9.block bb (by simp; omega) hs.2).trans ((boxW w7 _).block bb hlt)) oo).trans e) ⟨hs.1, fun h => ?_⟩
                        rcases hbk9 with g | g
                        · exact hs.2 (g ▸ h)
                        · have := g bb h.symm
                          try rw [World.size_alloc] at this
                          omega) HA.out, (HBW.out.alloc HBW.out.size _).grown hgr9 (by have := HBW.out.size; simp; omega) (fun k e => (HOW.out.lt k e).1)⟩)
                    obtain ⟨a10, e10, rfl, -⟩ := own9.len
                    have HSLN := Lib.hid (show sliceLen (.slice a10 (out ++ [F]).length e10) = j + 1 from by show (out ++ [F]).length = _; rw [List.length_append, HJO.out]; rfl)
                    have HJM := Lib.hid (show j ≤ 402 from by rw [← HJO.out]; exact HJN.out)
                    have HSLO := Lib.hid (show sliceLen (.slice (some ⟨b, o, none⟩) out.length co) = j from HJO.out)
                    clear own9 hgr9 hbk9 HFX HOW HA HALL HRST
                    go_wp2
                    go_roundw
                    case rel => exact ⟨j + 1, _, _, HRW9, HSLN.out⟩
                    case measure => have h2 := HJM.out; have h3 : out.length = j := HSLO.out; have h4 := HJ2.out; simp [sliceLen]; omega
end Go.Proofs.Ytafeaeaildfohaa
/- The reference's round, All, Follows, Rounds. -/
namespace Go.Proofs.Ytafeaeaildfohaa
open Go.RowKit Go.Maps

theorem validR_bd {r : Rul} (h : validR r = true) : 1 ≤ r.bd.length ∧ r.bd.length ≤ 3 := by
  unfold validR at h
  rw [Bool.and_eq_true] at h
  exact of_decide_eq_true h.1
theorem validP_bd {l : List Rul} (h : validP l = true) : ∀ r ∈ l, 1 ≤ r.bd.length ∧ r.bd.length ≤ 3 := fun r hr => validR_bd (validP_mem h r hr)
theorem validP_len {l : List Rul} (h : validP l = true) : l.length ≤ 12 := by
  unfold validP at h
  rw [Bool.and_eq_true] at h
  exact of_decide_eq_true h.1
theorem roundOf_range : ∀ (out : List (List Fct)) (x : Fct) (i : Int), 0 ≤ i → -1 ≤ roundOf out x i ∧ roundOf out x i ≤ i + out.length
  | [], _, _, _ => by unfold roundOf; simp; omega
  | l :: out, x, i, hi => by
    unfold roundOf
    split
    · rw [List.length_cons]; omega
    · have := roundOf_range out x (i + 1) (by omega)
      rw [List.length_cons]; omega
theorem roundOf_drop {out : List (List Fct)} {k : Nat} (h : k < out.length) (x : Fct) : roundOf (out.drop k) x k = if x ∈ out[k] then (k : Int) else roundOf (out.drop (k + 1)) x (k + 1 : Nat) := by
  rw [List.drop_eq_getElem_cons h]
  rfl
set_option maxRecDepth 100000 in
set_option maxHeartbeats 4000000 in
theorem refRound_any (out : List (List Fct)) (f : Fct) (v : Value) (w : World) (hv : tFctss.rv (mem w) [v] out) :
    Calls Try.prog 44 #[v, f.v] w fun e w' => e = .returned (.int .i64 (roundOf out f 0)) ∧ Below w.heap.size w w' := by
  obtain ⟨a, cap, rfl, hlc, hm, hv⟩ := slice_form hv
  have hcap : cap ≤ 9223372036854775807 := by unfold maxLen at hm; exact hm
  have HV := Lib.hid (fun wr (hb : Below w.heap.size w wr) => tFctss.mono _ _ _ _ (below_mem hb) hv)
  obtain ⟨f1, f2, f3⟩ := f
  have HBX := Lib.hid (heap_alloc_new w (.cells #[.string f1, .string f2, .string f3] 33))
  have HB0 := Lib.hid (boxW w)
  clear hm hv
  go_enter Try.func44, Try.ntmps44
  go_wp2_with fail
  go_loopw [5] (fun i wr => ∃ k : Nat, k ≤ out.length ∧ i = .int .i64 k ∧ Hid (roundOf out ⟨f1, f2, f3⟩ 0 = roundOf (out.drop k) ⟨f1, f2, f3⟩ k) ∧ Hid (Below w.heap.size w wr) ∧ Hid (wr.heap[w.heap.size]? = some (.cells #[.string f1, .string f2, .string f3] 33 (0, 0)))) (fun i _ => out.length - (intOf i).toNat)
  case atStart => exact ⟨0, by omega, rfl, Lib.hid rfl, Lib.hid (HB0.out _), HBX⟩
  case round =>
    clear HBX HB0
    obtain ⟨k, hk, rfl, HT, HB, HC⟩ := hrel
    by_cases hlt : k < out.length
    · obtain ⟨b, o, a2, c2, rfl, hcell, hrv⟩ := fss_at (HV.out wr HB.out) hlt
      have c0 : wr.cell? ⟨b, o + k, none⟩ = some (.slice a2 out[k].length c2) := hcell
      have d0 : wr.cell? ⟨w.heap.size, 0, none⟩ = some (.string f1) := mem_cells HC.out 0
      have d1 : wr.cell? ⟨w.heap.size, 1, none⟩ = some (.string f2) := mem_cells HC.out 1
      have d2 : wr.cell? ⟨w.heap.size, 2, none⟩ = some (.string f3) := mem_cells HC.out 2
      have HIN := Lib.hid (fun (w' : World) (hb : Below wr.heap.size wr w') => refIn_any out[k] ⟨f1, f2, f3⟩ (.slice a2 out[k].length c2) w' (tFcts.mono _ _ _ _ (below_mem hb) hrv))
      have HD := Lib.hid (HT.out.trans (roundOf_drop hlt ⟨f1, f2, f3⟩))
      have HKP := Lib.hid (fun (w' : World) (hb : Below wr.heap.size wr w') => (show w'.cell? ⟨b, o + k, none⟩ = some (.slice a2 out[k].length c2) ∧ w'.cell? ⟨w.heap.size, 0, none⟩ = some (.string f1) ∧ w'.cell? ⟨w.heap.size, 1, none⟩ = some (.string f2) ∧ w'.cell? ⟨w.heap.size, 2, none⟩ = some (.string f3) from ⟨below_mem hb _ _ _ c0, below_mem hb _ _ _ d0, below_mem hb _ _ _ d1, below_mem hb _ _ _ d2⟩))
      have HC2 := Lib.hid (fun (w' : World) (hb : Below wr.heap.size wr w') => (hb.block w.heap.size (Array.getElem?_eq_some_iff.1 HC.out).1).trans HC.out)
      have hb0 : Below wr.heap.size wr wr.drew := (Below.refl _ _).drew
      clear hcell hrv HT
      generalize out[k] = g at *
      generalize hin : decide ((⟨f1, f2, f3⟩ : Fct) ∈ g) = t at HIN
      have HINQ := Lib.hid hin
      clear hin
      go_wp2_with fail
      go_region_held3 (fun w' => w'.cell? ⟨b, o + k, none⟩ = some (.slice a2 g.length c2) ∧ w'.cell? ⟨w.heap.size, 0, none⟩ = some (.string f1) ∧ w'.cell? ⟨w.heap.size, 1, none⟩ = some (.string f2) ∧ w'.cell? ⟨w.heap.size, 2, none⟩ = some (.string f3))
        ((refine HKP.out _ ?_; with_reducible assumption))
        ((go_at_call 18; refine (HIN.out _ hb0).mono ?_; rintro e w4 ⟨rfl, hb⟩; have hb4 := pure_trans hb0 hb; clear hb))
      have HB4 := Lib.hid (pure_trans HB.out hb4)
      have HC4 := Lib.hid (HC2.out _ hb4)
      clear hb0 hb4 HKP HIN HC2 HC HB c0 d0 d1 d2
      cases t with
      | true =>
        have HE := Lib.hid (HD.out.trans (if_pos (of_decide_eq_true HINQ.out)))
        go_wp2
        go_ret
        exact ⟨by rw [HE.out] <;> rfl, HB4.out⟩
      | false =>
        have HE := Lib.hid (HD.out.trans (if_neg (of_decide_eq_false HINQ.out)))
        go_wp2
        go_roundw
        case rel => exact ⟨k + 1, by omega, by go_num, HE, HB4, HC4⟩
        case measure => simp [intOf]; omega
    · obtain rfl : k = out.length := by omega
      have HE := Lib.hid (show roundOf out ⟨f1, f2, f3⟩ 0 = -1 from by rw [HT.out, List.drop_length]; rfl)
      go_wp2
      go_ret
      exact ⟨by rw [HE.out] <;> rfl, HB.out⟩
/-- What the reference's All answers. -/
def AllOut (rules : List Rul) (l : List Fct) (w : World) (e : Ending) (w' : World) : Prop :=
  ∃ M v, followR rules l = (if M.length ≤ 400 then some M else none) ∧ e = .returned (.tuple #[v, .bool (decide ((M.length : Int) ≤ 400))]) ∧ tFcts.rv (mem w') [v] (srt (keysR M)) ∧ Below w.heap.size w w'
set_option maxRecDepth 100000 in
set_option maxHeartbeats 2000000 in
theorem refAll_any (rules : List Rul) (l : List Fct) (rv lv : Value) (w : World) (hr : tRuls.rv (mem w) [rv] rules) (hl : tFcts.rv (mem w) [lv] l) (hb : ∀ r ∈ rules, 1 ≤ r.bd.length ∧ r.bd.length ≤ 3) (h12 : rules.length ≤ 12) (hn : l.length ≤ 400) :
    Calls Try.prog 42 #[rv, lv] w (AllOut rules l w) := by
  have HC := Lib.hid (refRounds_any rules l rv lv w hr hl hb h12 hn)
  obtain ⟨ar, cr, rfl, -⟩ := slice_form hr
  obtain ⟨al, cl, rfl, -⟩ := slice_form hl
  clear hr hl hb h12 hn
  go_enter Try.func42, Try.ntmps42
  go_wp2_with fail
  refine HC.out.mono ?_
  rintro e w1 ⟨j, M, out, ov, av, h1, h2, rfl, h3, h4, h5⟩
  have HE := Lib.hid (show AllOut rules l w (.returned (.tuple #[av, .bool (decide ((M.length : Int) ≤ 400))])) w1 from ⟨M, av, h1.done h2, rfl, h4, h5⟩)
  obtain ⟨a1, c1, rfl, -⟩ := slice_form h4
  obtain ⟨a2, c2, rfl, -⟩ := slice_form h3
  clear h1 h2 h3 h4 h5 HC
  generalize decide ((M.length : Int) ≤ 400) = q at *
  go_wp2_with fail
  go_ret2
  exact HE.out
/-- What the reference's Follows answers. -/
def FollowsAnsR (rules : List Rul) (l : List Fct) (W w' : World) (e : Ending) : Prop :=
  Below W.heap.size W w' ∧ (((validP rules && validG l) = false ∧ e = .returned (.tuple #[.slice none 0 0, .int .i64 1])) ∨
    ((validP rules && validG l) = true ∧ followR rules l = none ∧ e = .returned (.tuple #[.slice none 0 0, .int .i64 4])) ∨
    ∃ M v, (validP rules && validG l) = true ∧ followR rules l = some M ∧ e = .returned (.tuple #[v, .int .i64 0]) ∧ tFcts.rv (mem w') [v] (srt (keysR M)))
set_option maxRecDepth 100000 in
set_option maxHeartbeats 2000000 in
theorem refFollows_any (rules : List Rul) (l : List Fct) (rv fv : Value) (w : World) (hr : tRuls.rv (mem w) [rv] rules) (hf : tFcts.rv (mem w) [fv] l) :
    Calls Try.prog 14 #[rv, fv] w fun e w' => FollowsAnsR rules l w w' e := by
  have HP := Lib.hid (fun w' (hb : Below w.heap.size w w') => refProgram_any rules rv w' (tRuls.mono _ _ _ _ (below_mem hb) hr))
  have HG := Lib.hid (fun w' (hb : Below w.heap.size w w') => refFacts_any l fv w' (tFcts.mono _ _ _ _ (below_mem hb) hf))
  have HF := Lib.hid (fun w' (hb : Below w.heap.size w w') (h1 : validP rules = true) (h2 : validG l = true) => refAll_any rules l rv fv w' (tRuls.mono _ _ _ _ (below_mem hb) hr) (tFcts.mono _ _ _ _ (below_mem hb) hf) (validP_bd h1) (validP_len h1) (by have := validG_len h2; omega))
  obtain ⟨ar, cr, rfl, -⟩ := slice_form hr
  obtain ⟨af, cf, rfl, -⟩ := slice_form hf
  clear hr hf
  go_enter Try.func14, Try.ntmps14
  go_wp2_with fail
  refine (HP.out w (Below.refl _ _)).mono ?_
  rintro e w1 ⟨rfl, hb1⟩
  cases hp : validP rules with
  | false =>
    clear HP HG HF
    go_wp2
    go_ret2
    exact ⟨hb1, .inl ⟨by rw [hp]; rfl, rfl⟩⟩
  | true =>
  go_wp2_with fail
  refine (HG.out w1 hb1).mono ?_
  rintro e w2 ⟨rfl, hb2⟩
  have hb2 := pure_trans hb1 hb2
  cases hg : validG l with
  | false =>
    clear HP HG HF
    go_wp2
    go_ret2
    exact ⟨hb2, .inl ⟨by rw [hp, hg]; rfl, rfl⟩⟩
  | true =>
  go_wp2_with fail
  refine (HF.out w2 hb2 hp hg).mono ?_
  rintro e w3 ⟨M, v, h1, rfl, h3, hb3⟩
  have HB3 := Lib.hid (pure_trans hb2 hb3)
  have HVV := Lib.hid (show (validP rules && validG l) = true by rw [hp, hg]; rfl)
  have HF3 := Lib.hid h1
  have HR3 := Lib.hid h3
  obtain ⟨a3, c3, rfl, -⟩ := slice_form h3
  clear hb1 HP HG HF hp hg hb2 hb3 h1 h3
  by_cases hM : M.length ≤ 400
  · have HF4 := Lib.hid (HF3.out.trans (if_pos hM))
    rw [decide_eq_true (show (M.length : Int) ≤ 400 by omega)]
    clear hM
    go_wp2
    go_ret2
    exact ⟨HB3.out, .inr (.inr ⟨M, _, HVV.out, HF4.out, rfl, HR3.out⟩)⟩
  · have HF4 := Lib.hid (HF3.out.trans (if_neg hM))
    rw [decide_eq_false (show ¬ ((M.length : Int) ≤ 400) by omega)]
    clear hM
    go_wp2
    go_ret2
    exact ⟨HB3.out, .inr (.inl ⟨HVV.out, HF4.out, rfl⟩)⟩
end Go.Proofs.Ytafeaeaildfohaa
/- The rounds of what follows: the program's, the reference's. -/
namespace Go.Proofs.Ytafeaeaildfohaa
open Go.RowKit Go.Maps

theorem runR_lt {rules : List Rul} {l : List Fct} : ∀ (n : Nat) (k : Int) (M R : Rnds), Run rules l k M → 0 ≤ k → runR rules n k M = some R → ∀ x i, lkR R x = some i → 0 ≤ i ∧ i < k + n
  | 0, _, _, _, _, _, h => by cases h
  | n + 1, k, M, R, hM, hk, h => by
    unfold runR at h
    split at h
    · cases h
    · split at h
      · cases h
        intro x i hi
        have := hM.lt x i hi
        omega
      · intro x i hi
        have := runR_lt n (k + 1) _ R (hM.step hk) (by omega) h x i hi
        omega
theorem follow_lt {rules : List Rul} {l : List Fct} {M : Rnds} (h : followR rules l = some M) : ∀ x i, lkR M x = some i → 0 ≤ i ∧ i < 501 := fun x i hi => by
  have := runR_lt 500 1 _ M (Run.start rules l) (by omega) h x i hi
  omega
theorem rnd_mem {M : Rnds} {x : Fct} (h : x ∈ keysR M) : intOr (lkR M x) = rnd M x := by
  have := lkR_some.2 h
  unfold rnd
  cases hl : lkR M x with
  | none => rw [hl] at this; cases this
  | some i => rfl
theorem rnd_in {rules : List Rul} {l : List Fct} {M : Rnds} (h : followR rules l = some M) (x : Fct) : inI64 (rnd M x) ∧ -1 ≤ rnd M x := by
  unfold rnd inI64
  cases hl : lkR M x with
  | none => exact ⟨⟨by decide, by decide⟩, by decide⟩
  | some i => have := follow_lt h x i hl; exact ⟨⟨by show _ ≤ i; omega, by show i ≤ _; omega⟩, by show -1 ≤ i; omega⟩
abbrev tInts : Ty (List Int) := tSlice tInt
theorem infoInt : (Try.prog.info? 3).map (fun i => (i.zero, i.size, i.bytes)) = some (some (.int .i64 0), 1, 8) := by kernel_rfl
def rndsOf (M : Rnds) : List Int := (srt (keysR M)).map (rnd M)
/-- What Rounds answers. -/
def RoundsAns (rules : List Rul) (l : List Fct) (W w' : World) (e : Ending) : Prop :=
  Below W.heap.size W w' ∧ (((validP rules && validG l) = false ∧ e = .returned (.tuple #[.slice none 0 0, .int .i64 1])) ∨
    ((validP rules && validG l) = true ∧ followR rules l = none ∧ e = .returned (.tuple #[.slice none 0 0, .int .i64 4])) ∨
    ∃ M v, (validP rules && validG l) = true ∧ followR rules l = some M ∧ e = .returned (.tuple #[v, .int .i64 0]) ∧ tInts.rv (mem w') [v] (rndsOf M))
theorem map_take_succ {α β : Type} (g : α → β) {l : List α} {k : Nat} (h : k < l.length) : (l.take (k + 1)).map g = (l.take k).map g ++ [g l[k]] := by
  rw [List.take_succ_eq_append_getElem h, List.map_append]; rfl
set_option maxRecDepth 100000 in
set_option maxHeartbeats 4000000 in
theorem refRoundsF_any (rules : List Rul) (l : List Fct) (rv fv : Value) (w : World) (hr : tRuls.rv (mem w) [rv] rules) (hf : tFcts.rv (mem w) [fv] l) :
    Calls Try.prog 17 #[rv, fv] w fun e w' => RoundsAns rules l w w' e := by
  have HP := Lib.hid (fun w' (hb : Below w.heap.size w w') => refProgram_any rules rv w' (tRuls.mono _ _ _ _ (below_mem hb) hr))
  have HG := Lib.hid (fun w' (hb : Below w.heap.size w w') => refFacts_any l fv w' (tFcts.mono _ _ _ _ (below_mem hb) hf))
  have HF := Lib.hid (fun w' (hb : Below w.heap.size w w') (h1 : validP rules = true) (h2 : validG l = true) => refRounds_any rules l rv fv w' (tRuls.mono _ _ _ _ (below_mem hb) hr) (tFcts.mono _ _ _ _ (below_mem hb) hf) (validP_bd h1) (validP_len h1) (by have := validG_len h2; omega))
  obtain ⟨ar, cr, rfl, -⟩ := slice_form hr
  obtain ⟨af, cf, rfl, -⟩ := slice_form hf
  clear hr hf
  go_enter Try.func17, Try.ntmps17
  go_wp2_with fail
  refine (HP.out w (Below.refl _ _)).mono ?_
  rintro e w1 ⟨rfl, hb1⟩
  cases hp : validP rules with
  | false =>
    clear HP HG HF
    go_wp2
    go_ret2
    exact ⟨hb1, .inl ⟨by rw [hp]; rfl, rfl⟩⟩
  | true =>
  go_wp2_with fail
  refine (HG.out w1 hb1).mono ?_
  rintro e w2 ⟨rfl, hb2⟩
  have hb2 := pure_trans hb1 hb2
  cases hg : validG l with
  | false =>
    clear HP HG HF
    go_wp2
    go_ret2
    exact ⟨hb2, .inl ⟨by rw [hp, hg]; rfl, rfl⟩⟩
  | true =>
  go_wp2_with fail
  refine (HF.out w2 hb2 hp hg).mono ?_
  rintro e w3 ⟨j, M, out, ov, av, hst, hlast, rfl, hov, hav, hb3⟩
  have HB3 := Lib.hid (pure_trans hb2 hb3)
  have HVV := Lib.hid (show (validP rules && validG l) = true by rw [hp, hg]; rfl)
  have HF3 := Lib.hid (hst.done hlast)
  have HRN := Lib.hid hst.rnd
  have HKL := Lib.hid hst.all
  have HOV := Lib.hid (fun (w' : World) (hb : Below w3.heap.size w3 w') => tFctss.mono _ _ _ _ (below_mem hb) hov)
  have HAV := Lib.hid (fun (w' : World) (hb : Below w3.heap.size w3 w') => tFcts.mono _ _ _ _ (below_mem hb) hav)
  obtain ⟨ao, co, rfl, -⟩ := slice_form hov
  obtain ⟨K, hK⟩ : ∃ K, K = srt (keysR M) := ⟨_, rfl⟩
  have HK := Lib.hid hK
  rw [← hK] at hav HAV HKL
  clear hK
  obtain ⟨aa, ca, rfl, hla, hma, -⟩ := slice_form hav
  have hca : ca ≤ 9223372036854775807 := by unfold maxLen at hma; exact hma
  clear hb1 HP HG HF hp hg hb2 hb3 hst hlast hov hav hma
  by_cases hM : M.length ≤ 400
  · have HF4 := Lib.hid (HF3.out.trans (if_pos hM))
    have HM4 := Lib.hid (show K.length ≤ 400 from by rw [HKL.out]; exact hM)
    rw [decide_eq_true (show (M.length : Int) ≤ 400 by omega)]
    have HRI := Lib.hid (fun x => rnd_in HF4.out x)
    clear hM HF3
    go_wp2_with fail
    go_loopw [9, 10] (fun gv i wr => ∃ k : Nat, k ≤ K.length ∧ i = .int .i64 k ∧ Hid (Owns tInt wr w3.heap.size 3 gv ((K.take k).map (rnd M))) ∧ Hid (Below w3.heap.size w3 wr)) (fun _ i _ => K.length - (intOf i).toNat)
    case atStart => exact ⟨0, by omega, rfl, Lib.hid (Owns.nil _ _ _ _), Lib.hid (Below.refl _ _)⟩
    case round =>
      obtain ⟨k, hk, rfl, HO, HB⟩ := hrel
      by_cases hlt : k < K.length
      · obtain ⟨b, o, rfl, ⟨q0, q1, q2⟩, hok⟩ := fcts_at (HAV.out _ HB.out) hlt
        have c0 : wr.cell? ⟨b, o + k * 3, none⟩ = some (.string K[k].n) := q0
        have c1 : wr.cell? ⟨b, o + k * 3 + 1, none⟩ = some (.string K[k].a) := q1
        have c2 : wr.cell? ⟨b, o + k * 3 + 2, none⟩ = some (.string K[k].b) := q2
        have HCALL := Lib.hid (refRound_any out K[k] _ wr (HOV.out _ HB.out))
        have HRQ := Lib.hid (HRN.out K[k])
        have HRK := Lib.hid (HRI.out K[k]).1
        have HTK := Lib.hid (map_take_succ (rnd M) hlt)
        have HKN := Lib.hid (show ((K.take k).map (rnd M)).length ≤ 400 from by rw [List.length_map, List.length_take]; have := HM4.out; omega)
        clear q0 q1 q2 hok
        generalize K[k] = y at *
        obtain ⟨y1, y2, y3⟩ := y
        simp only at c0 c1 c2
        generalize (K.take k).map (rnd M) = acc at *
        generalize rnd M ⟨y1, y2, y3⟩ = q at *
        go_wp2_with fail
        refine HCALL.out.mono ?_
        rintro e w4 ⟨rfl, hb4⟩
        rw [HRQ.out]
        have HB4 := Lib.hid (pure_trans HB.out hb4)
        have HO4 := Lib.hid (HO.out.keeps hb4)
        clear hb4 HCALL HO HB c0 c1 c2 HRQ
        go_wp2_with (at_builtin; refine wpList_append_int rfl _ _ 38 rfl Try.underlying38 infoInt w3.heap.size _ acc rfl (HO4.out.alloc _) _ _ q rfl ?c1 HRK.out ?c2 ?c3 ?_)
        case c1 => exact mem_cells_new w4 _ _ _ 0
        case c2 => have := HKN.out; omega
        case c3 => have := HB4.out.size; simp; omega
        · intro v' w6 own6 hgrow _
          have HB6 := Lib.hid (show Below w3.heap.size w3 w6 from (HB4.out.alloc HB4.out.size _).grown hgrow (by have := HB4.out.size; simp; omega) (fun k hk => ((HO4.out).lt k hk).1))
          obtain ⟨a6, cap6, rfl, _⟩ := own6.len
          have HO6 := Lib.hid (show Owns tInt w6 w3.heap.size 3 (.slice a6 (acc ++ [q]).length cap6) ((K.take (k + 1)).map (rnd M)) from by rw [HTK.out]; exact own6)
          clear own6 hgrow HO4
          go_wp2
          go_roundw
          case rel => exact ⟨k + 1, by omega, by go_num, HO6, HB6⟩
          case measure => simp [intOf]; omega
      · obtain rfl : k = K.length := by omega
        have HR := Lib.hid (show tInts.rv (mem wr) [u9] (rndsOf M) from by unfold rndsOf; rw [← HK.out]; have := HO.out.rv'; rwa [List.take_length] at this)
        have HBE := Lib.hid (pure_trans HB3.out HB.out)
        obtain ⟨ag, cg, rfl, -⟩ := slice_form HR.out
        clear HO
        go_wp2
        go_ret2
        exact ⟨HBE.out, .inr (.inr ⟨M, _, HVV.out, HF4.out, rfl, HR.out⟩)⟩
  · have HF4 := Lib.hid (HF3.out.trans (if_neg hM))
    rw [decide_eq_false (show ¬ ((M.length : Int) ≤ 400) by omega)]
    clear hM
    go_wp2_with fail
    go_ret2
    exact ⟨HB3.out, .inr (.inl ⟨HVV.out, HF4.out, rfl⟩)⟩
set_option maxRecDepth 100000 in
set_option maxHeartbeats 4000000 in
theorem ringRounds_any (rules : List Rul) (l : List Fct) (rv fv : Value) (w : World) (hr : tRuls.rv (mem w) [rv] rules) (hf : tFcts.rv (mem w) [fv] l) :
    Calls Try.prog 16 #[rv, fv] w fun e w' => RoundsAns rules l w w' e := by
  have HP := Lib.hid (fun w' (hb : Below w.heap.size w w') => ringProgram_any rules rv w' (tRuls.mono _ _ _ _ (below_mem hb) hr))
  have HG := Lib.hid (fun w' (hb : Below w.heap.size w w') => ringGiven_any l fv w' (tFcts.mono _ _ _ _ (below_mem hb) hf))
  have HF := Lib.hid (fun w' (hb : Below w.heap.size w w') (h1 : validP rules = true) (h2 : validG l = true) => follow_any rules l rv fv w' (tRuls.mono _ _ _ _ (below_mem hb) hr) (tFcts.mono _ _ _ _ (below_mem hb) hf) (by have := validG_len h2; omega) (validP_body h1))
  obtain ⟨ar, cr, rfl, -⟩ := slice_form hr
  obtain ⟨af, cf, rfl, -⟩ := slice_form hf
  clear hr hf
  go_enter Try.func16, Try.ntmps16
  go_wp2_with fail
  refine (HP.out w (Below.refl _ _)).mono ?_
  rintro e w1 ⟨rfl, hb1⟩
  cases hp : validP rules with
  | false =>
    clear HP HG HF
    go_wp2
    go_ret2
    exact ⟨hb1, .inl ⟨by rw [hp]; rfl, rfl⟩⟩
  | true =>
  go_wp2_with fail
  refine (HG.out w1 hb1).mono ?_
  rintro e w2 ⟨rfl, hb2⟩
  have hb2 := pure_trans hb1 hb2
  cases hg : validG l with
  | false =>
    clear HP HG HF
    go_wp2
    go_ret2
    exact ⟨hb2, .inl ⟨by rw [hp, hg]; rfl, rfl⟩⟩
  | true =>
  go_wp2_with fail
  refine (HF.out w2 hb2 hp hg).mono ?_
  rintro e w3 ⟨hb3, h⟩
  have HB3 := Lib.hid (pure_trans hb2 hb3)
  have HVV := Lib.hid (show (validP rules && validG l) = true by rw [hp, hg]; rfl)
  clear hb1 HP HG HF
  rcases h with ⟨h0, rfl⟩ | ⟨M, mb, h0, rfl, h1, h2, h3, h4⟩
  · have H0 := Lib.hid h0
    clear h0 hp hg hb2 hb3
    go_wp2
    go_ret2
    exact ⟨HB3.out, .inr (.inl ⟨HVV.out, H0.out, rfl⟩)⟩
  · have H0 := Lib.hid h0
    have HS := Lib.hid (ringSorted_any mb M.length (lkR M) w3 h2 (by have := (follow_fin h0).le; omega))
    have HFM := Lib.hid h2
    have HLE := Lib.hid (follow_fin h0).le
    have HND := Lib.hid h3
    have HRI := Lib.hid (fun x => rnd_in h0 x)
    clear h0 h1 h2 h3 h4 hp hg hb2 hb3
    go_wp2_with fail
    refine HS.out.mono ?_
    rintro e w4 ⟨v, ss, rfl, k1, -, -, k4, k5⟩
    obtain rfl : srt (keysR M) = ss := srt_eq k1.up (fun x => (k1.mem x).trans lkR_some)
    have K4 := Lib.hid (fun (w' : World) (hb : Below w4.heap.size w4 w') => tFcts.mono _ _ _ _ (Mem.le_trans (Mem.on_le _ _) (below_mem hb)) k4)
    have K5 := Lib.hid (pure_trans HB3.out k5)
    have HFM4 := Lib.hid (fun (w' : World) (hb : Below w4.heap.size w4 w') => FM.at HFM.out ((hb.block mb (Nat.lt_of_lt_of_le (MapOf.lt HFM.out) k5.size)).trans (k5.block mb (MapOf.lt HFM.out))))
    have HMEM := Lib.hid (fun x => srt_mem (keysR M) x)
    have HKL := Lib.hid (show (srt (keysR M)).length ≤ 400 from by rw [srt_len HND.out, keys_len]; exact HLE.out)
    obtain ⟨K, hK⟩ : ∃ K, K = srt (keysR M) := ⟨_, rfl⟩
    have HK := Lib.hid hK
    rw [← hK] at K4 HMEM HKL k4
    clear hK
    obtain ⟨aa, ca, rfl, hla, hma, -⟩ := slice_form k4
    have hca : ca ≤ 9223372036854775807 := by unfold maxLen at hma; exact hma
    clear k1 k4 k5 HS hma HFM
    go_wp2_with fail
    go_loopw [8, 31] (fun gv i wr => ∃ k : Nat, k ≤ K.length ∧ i = .int .i64 k ∧ Hid (Owns tInt wr w4.heap.size 3 gv ((K.take k).map (rnd M))) ∧ Hid (Below w4.heap.size w4 wr)) (fun _ i _ => K.length - (intOf i).toNat)
    case atStart => exact ⟨0, by omega, rfl, Lib.hid (Owns.nil _ _ _ _), Lib.hid (Below.refl _ _)⟩
    case round =>
      obtain ⟨k, hk, rfl, HO, HB⟩ := hrel
      by_cases hlt : k < K.length
      · obtain ⟨b, o, rfl, ⟨q0, q1, q2⟩, hok⟩ := fcts_at (K4.out _ HB.out) hlt
        have c0 : wr.cell? ⟨b, o + k * 3, none⟩ = some (.string K[k].n) := q0
        have c1 : wr.cell? ⟨b, o + k * 3 + 1, none⟩ = some (.string K[k].a) := q1
        have c2 : wr.cell? ⟨b, o + k * 3 + 2, none⟩ = some (.string K[k].b) := q2
        have HRQ := Lib.hid (rnd_mem ((HMEM.out K[k]).1 (List.getElem_mem hlt)))
        have HRK := Lib.hid (HRI.out K[k]).1
        have HTK := Lib.hid (map_take_succ (rnd M) hlt)
        have HOK := Lib.hid hok
        have HKN := Lib.hid (show ((K.take k).map (rnd M)).length ≤ 400 from by rw [List.length_map, List.length_take]; have := HKL.out; omega)
        clear q0 q1 q2 hok
        generalize K[k] = y at *
        have hlk : ∀ o, (Instr.lookup 56 (.map (some mb)) y.v false).run Try.prog (wr.alloc o) = .ok (.int .i64 (rnd M y)) (wr.alloc o) := fun o => by
          have := FM.look (HFM4.out (wr.alloc o) (pure_trans HB.out (boxW wr o))) HOK.out
          rw [HRQ.out] at this
          exact this
        obtain ⟨y1, y2, y3⟩ := y
        simp only at c0 c1 c2 hlk
        generalize (K.take k).map (rnd M) = acc at *
        generalize rnd M ⟨y1, y2, y3⟩ = q at *
        have HB4 := Lib.hid (fun o1 => pure_trans HB.out (boxW wr o1))
        have HO4 := Lib.hid (fun o1 => HO.out.keeps (boxW wr o1))
        go_wp2_with (at_builtin; refine wpList_append_int rfl _ _ 38 rfl Try.underlying38 infoInt w4.heap.size _ acc rfl ((HO4.out _).alloc _) _ _ q rfl ?d1 HRK.out ?d2 ?d3 ?_)
        case d1 => exact cell_new 0 (by simp)
        case d2 => have := HKN.out; omega
        case d3 => have := HB.out.size; simp; omega
        · intro v' w6 own6 hgrow _
          have HB6 := Lib.hid (show Below w4.heap.size w4 w6 from ((HB4.out _).alloc (HB4.out _).size _).grown hgrow (by have := HB.out.size; simp; omega) (fun k hk => ((HO.out).lt k hk).1))
          obtain ⟨a6, cap6, rfl, _⟩ := own6.len
          have HO6 := Lib.hid (show Owns tInt w6 w4.heap.size 3 (.slice a6 (acc ++ [q]).length cap6) ((K.take (k + 1)).map (rnd M)) from by rw [HTK.out]; exact own6)
          clear own6 hgrow HO4 HO HB hlk
          go_wp2
          go_roundw
          case rel => exact ⟨k + 1, by omega, by go_num, HO6, HB6⟩
          case measure => simp [intOf]; omega
      · obtain rfl : k = K.length := by omega
        have HR := Lib.hid (show tInts.rv (mem wr) [u8] (rndsOf M) from by unfold rndsOf; rw [← HK.out]; have := HO.out.rv'; rwa [List.take_length] at this)
        have HBE := Lib.hid (pure_trans K5.out HB.out)
        obtain ⟨ag, cg, rfl, -⟩ := slice_form HR.out
        clear HO
        go_wp2
        go_ret2
        exact ⟨HBE.out, .inr (.inr ⟨M, _, HVV.out, H0.out, rfl, HR.out⟩)⟩
end Go.Proofs.Ytafeaeaildfohaa
/- As RangeM; a round that stops the iterator may keep what lies in blocks of its own (the iterator changes maps alone behind it). -/
namespace Go.Proofs.Ytafeaeaildfohaa
open Go.RowKit

/-- What the iterator may change behind a round that has stopped it. -/
def StopK (N : Nat) (A B : World) : Prop := N ≤ A.heap.size ∧ Keeps (fun q => N ≤ q ∧ ∃ es c, A.heap[q]? = some (.map es c)) A B
/-- The iterator hands the elements xs in turn, each as values of which Enc tells; it reads the blocks S and changes only blocks of its own; a round may stop it. -/
def GivesM2 {α : Type} (P : Program) (gf : Nat) (lb : Array Value) (Enc : α → Array Value → Nat → World → Prop) (S : Nat → Prop) (xs : List α) (w : World) : Prop :=
  ∀ (l : Nat) (J : List α → World → Prop) (Stop : List α → α → World → Prop) (W : World), Below w.heap.size w W →
    (∀ s A B, J s A → Below W.heap.size A B → J s B) → (∀ s x A B, Stop s x A → StopK W.heap.size A B → Stop s x B) →
    (∀ pre x post W1 vs, xs = pre ++ x :: post → J pre W1 → W.heap.size ≤ W1.heap.size → Enc x vs W.heap.size W1 →
      YieldAt Fence.wide 0 P l vs W1 fun e W' => Keeps (roundF W.heap.size S W1) W1 W' ∧ ((e = .returned (.bool true) ∧ J (pre ++ [x]) W') ∨ (e = .returned (.bool false) ∧ Stop pre x W'))) →
    J [] W → CallsIn Fence.wide 0 P gf (#[.func (.yield l) #[] #[]] ++ lb) W fun e W' => (∃ v, e = .returned v) ∧ (J xs W' ∨ ∃ pre x post, xs = pre ++ x :: post ∧ Stop pre x W')
theorem wp_rangeM2 {α : Type} {P : Program} {g : Operand} {ps : Array Tmp} {assign body : Code} {Q : Exit → Act → World → Prop} {a : Act} {w : World} {gf : Nat} {lb : Array Value}
    (hg : a.eval g = .func (.func gf) #[] lb) (eg : ∀ args w, (callFunc gf args).run P w = .ok (.enter gf args) w)
    {Enc : α → Array Value → Nat → World → Prop} {S : Nat → Prop} {xs : List α} {w0 : World} (hseq : GivesM2 P gf lb Enc S xs w0) (hb0 : Below w0.heap.size w0 w)
    (hS : ∀ k, S k → k < w.heap.size) (hps : ∀ x vs n W, Enc x vs n W → vs.size = ps.size)
    (I : List α → World → Prop) (L : List α → α → World → Prop) (hI : ∀ s A B, I s A → Below w.heap.size A B → I s B) (hL : ∀ s x A B, L s x A → w.heap.size + 2 ≤ A.heap.size → Keeps (fun q => q = w.heap.size + 1 ∨ (w.heap.size ≤ q ∧ ∃ es c, A.heap[q]? = some (.map es c))) A B → L s x B) (h0 : I [] w)
    (hround : ∀ (l : Nat) (pre : List α) (x : α) (post : List α) (W1 : World) (vs : Array Value), l = w.heap.size + 1 → xs = pre ++ x :: post → I pre W1 → Enc x vs (w.heap.size + 2) W1 → w.heap.size + 2 ≤ W1.heap.size →
      assign.wpIn (Fence.wide.inRound l) 0 P (Exit.then (fun a₂ W2 => Keeps (fun k => W1.heap.size ≤ k) W1 W2 ∧ ∀ W3, Keeps (fun k => k = l) W2 W3 → W3.heap.size = W2.heap.size → body.wpIn (Fence.wide.inRound l) 0 P (roundEndM (fun k => (k < w.heap.size ∧ ¬ S k) ∨ W1.heap.size ≤ k) I L pre x W3) a₂ W3) (fun _ _ _ => False))
        { tmps := (ps.zip vs).foldl (fun t (p, v) => t.setIfInBounds p v) a.tmps, defers := [] } W1)
    (hdone : ∀ (D : Nat) (W : World), D = w.heap.size → w.heap.size + 2 ≤ W.heap.size → I xs W → W.heap[D]? = some (.deferred (some [])) → Q .normal { a with defers := { target := .collected D, args := #[] } :: a.defers } W)
    (hleft : ∀ (D : Nat) (W : World) (pre : List α) (x : α) (post : List α), D = w.heap.size → w.heap.size + 2 ≤ W.heap.size → xs = pre ++ x :: post → L pre x W → W.heap[D]? = some (.deferred (some [])) → Q .ret { a with defers := { target := .collected D, args := #[] } :: a.defers } W) :
    (Code.rangeFunc g ps assign body).wp P Q a w := by
  refine (wpIn_wide (n := 0)).1 (wpIn_rangeFunc (F := Fence.wide) ?_)
  intro fn hfn
  generalize hrec : (fun (st : LoopState) (pe : Option Code) => ({ state := st, pending := pe, fn := fn, tmps := a.tmps, params := ps, assign := assign, body := body, defers := w.heap.size } : Loop)) = rec
  have hr : ∀ st pe, rec st pe = { state := st, pending := pe, fn := fn, tmps := a.tmps, params := ps, assign := assign, body := body, defers := w.heap.size } := fun st pe => by rw [← hrec]
  have hst : ∀ st pe st' pe', ({ rec st pe with state := st', pending := pe' } : Loop) = rec st' pe' := fun st pe st' pe' => by rw [hr, hr]
  have hbusy : ∀ st pe st', ({ rec st pe with state := st' } : Loop) = rec st' pe := fun st pe st' => by rw [hr, hr]
  generalize hW1 : (w.alloc (.deferred (some []))).alloc (.loop (rec .ready none)) = W1
  have hs1 : W1.heap.size = w.heap.size + 2 := by rw [← hW1]; simp
  have hD1 : W1.heap[w.heap.size]? = some (.deferred (some [])) := by
    rw [← hW1]; exact (Below.heap_alloc _ _ _ (by simp)).trans (World.alloc_heap_new w _)
  have hL1 : W1.heap[w.heap.size + 1]? = some (.loop (rec .ready none)) := by
    rw [← hW1]; have := World.alloc_heap_new (w.alloc (.deferred (some []))) (.loop (rec .ready none)); rwa [World.size_alloc] at this
  have hk1 : Keeps (fun _ => False) w W1 := by rw [← hW1]; exact ((Keeps.refl _ w).alloc _).alloc _
  have hb1 : Below w0.heap.size w0 W1 := hb0.trans (hk1.below hb0.size (fun _ h => h.elim))
  refine ⟨w.heap.size + 1, [{ target := .collected w.heap.size, args := #[] }], W1, { target := .fn (.func gf) lb, args := #[.func (.yield (w.heap.size + 1)) #[] #[]] }, W1, gf,
    #[.func (.yield (w.heap.size + 1)) #[] #[]] ++ lb, W1, ?_, ?_, fun _ _ => trivial, ?_, fun h => (by cases h), ?_⟩
  · rw [← hW1, hr]; exact run_enterLoop_outer _ _ _ _ _
  · simp only [resolve, hg]
    simp [go_sem]
  · simp [invoke, go_sem, eg]
  · refine (hseq (w.heap.size + 1) (fun pre W => I pre W ∧ w.heap.size + 2 ≤ W.heap.size ∧ W.heap[w.heap.size + 1]? = some (.loop (rec .ready none)) ∧ W.heap[w.heap.size]? = some (.deferred (some [])))
      (fun pre x W => L pre x W ∧ w.heap.size + 2 ≤ W.heap.size ∧ W.heap[w.heap.size + 1]? = some (.loop (rec .done (some .ret))) ∧ W.heap[w.heap.size]? = some (.deferred (some []))) W1 hb1 ?_ ?_ ?_
      ⟨hI _ _ _ h0 (hk1.below (Nat.le_refl _) (fun _ h => h.elim)), by omega, hL1, hD1⟩).mono ?_
    · rintro s A B ⟨hi, hz, hl, hd⟩ hk
      exact ⟨hI _ _ _ hi (hk.mono (by omega)), Nat.le_trans hz hk.size, (hk.block _ (by omega)).trans hl, (hk.block _ (by omega)).trans hd⟩
    · rintro s x A B ⟨hi, hz, hl, hd⟩ ⟨hn, hk⟩
      exact ⟨hL _ _ _ _ hi hz (hk.wide (fun q _ h => .inr ⟨by have := h.1; omega, h.2⟩)), Nat.le_trans hz hk.size, (hk.block _ (by omega) (fun h => by have := h.1; omega)).trans hl, (hk.block _ (by omega) (fun h => by have := h.1; omega)).trans hd⟩
    · rintro pre x post W vs hx ⟨hi, hz, hl, hd⟩ hsz hE
      rw [hs1] at hE
      have hlt : w.heap.size + 1 < W.heap.size := by omega
      have hy := run_yield (P := P) (args := vs) hl (by rw [hr]; exact hps x vs _ _ hE)
      rw [hr] at hy
      refine ⟨fn, _, assign, body, hy, roundIn_of_wpIn hfn (wpIn_mono (hround _ pre x post W vs rfl hx hi hE (by omega)) ?_)⟩
      rintro e a1 Wa hp
      cases e with
      | ret => exact hp.elim
      | exit id => exact hp.elim
      | goto t => exact hp.elim
      | panic ch => exact hp.elim
      | outgrown => exact hp.elim
      | normal =>
      obtain ⟨hka, hpb⟩ := hp
      have hla : Wa.heap[w.heap.size + 1]? = some (.loop (rec .ready none)) := (hka.block _ hlt (by omega)).trans hl
      have hda : Wa.heap[w.heap.size]? = some (.deferred (some [])) := (hka.block _ (by omega) (by omega)).trans hd
      have hlta := (Array.getElem?_eq_some_iff.1 hla).1
      refine ⟨_, run_beginRound hla (by rw [hr]), ?_⟩
      rw [hbusy]
      generalize hW2 : Wa.putObj (w.heap.size + 1) (.loop (rec .busy none)) = W2
      have hz2 : W2.heap.size = Wa.heap.size := by rw [← hW2]; simp
      have hF1 : roundF W1.heap.size S W (w.heap.size + 1) := .inl ⟨by omega, fun h => by have := hS _ h; omega⟩
      have hp2 : Keeps (roundF W1.heap.size S W) W W2 := by
        rw [← hW2]; exact (hka.wide (fun _ _ h => .inr h)).trans (keeps_putM hF1)
      have hl2 : W2.heap[w.heap.size + 1]? = some (.loop (rec .busy none)) := by rw [← hW2]; exact World.putObj_heap_same hlta
      have hd2 : W2.heap[w.heap.size]? = some (.deferred (some [])) := by rw [← hW2]; exact (World.putObj_heap_other (by omega)).trans hda
      refine wpIn_mono (hpb W2 (by rw [← hW2]; exact keeps_putM rfl) hz2) ?_
      have hnF : ∀ k, w.heap.size ≤ k → k < w.heap.size + 2 → ¬ ((k < w.heap.size ∧ ¬ S k) ∨ W.heap.size ≤ k) := by intro k h1 h2 h; omega
      rintro e a3 W3 hp
      cases e with
      | normal =>
        obtain ⟨hk3, hi3⟩ := hp
        have hl3 : W3.heap[w.heap.size + 1]? = some (.loop (rec .busy none)) := (hk3.block _ (by omega) (hnF _ (by omega) (by omega))).trans hl2
        have hd3 : W3.heap[w.heap.size]? = some (.deferred (some [])) := (hk3.block _ (by omega) (hnF _ (by omega) (by omega))).trans hd2
        have hlt3 := (Array.getElem?_eq_some_iff.1 hl3).1
        refine ⟨_, _, run_endRound none hl3, (hp2.trans (hk3.wide (fun k _ h => ?_))).trans (keeps_putM hF1), .inl ⟨rfl, hI _ _ _ hi3 ((keeps_putM (F := fun k => k = w.heap.size + 1) rfl).below (by omega) (fun k h => by omega)), ?_, ?_, ?_⟩⟩
        · rcases h with ⟨h1, h2⟩ | h
          · exact .inl ⟨by omega, h2⟩
          · exact .inr h
        · rw [World.putObj_size]; omega
        · rw [hst]; exact World.putObj_heap_same hlt3
        · exact (World.putObj_heap_other (by omega)).trans hd3
      | ret =>
        obtain ⟨hk3, hi3⟩ := hp
        have hl3 : W3.heap[w.heap.size + 1]? = some (.loop (rec .busy none)) := (hk3.block _ (by omega) (hnF _ (by omega) (by omega))).trans hl2
        have hd3 : W3.heap[w.heap.size]? = some (.deferred (some [])) := (hk3.block _ (by omega) (hnF _ (by omega) (by omega))).trans hd2
        have hlt3 := (Array.getElem?_eq_some_iff.1 hl3).1
        refine ⟨_, _, run_endRound (some .ret) hl3, (hp2.trans (hk3.wide (fun k _ h => ?_))).trans (keeps_putM hF1), .inr ⟨rfl, hL _ _ _ _ hi3 (by omega) (keeps_putM (.inl rfl)), ?_, ?_, ?_⟩⟩
        · rcases h with ⟨h1, h2⟩ | h
          · exact .inl ⟨by omega, h2⟩
          · exact .inr h
        · rw [World.putObj_size]; omega
        · rw [hst]; exact World.putObj_heap_same hlt3
        · exact (World.putObj_heap_other (by omega)).trans hd3
      | exit id => exact hp.elim
      | goto t => exact hp.elim
      | panic ch => exact hp.elim
      | outgrown => exact hp.elim
    · rintro e W2 ⟨⟨v, rfl⟩, ⟨hi, hz, hl, hd⟩ | ⟨pre, x, post, hx, hi, hz, hl, hd⟩⟩
      · have he := run_endLoop (P := P) hl (by rw [hr]; simp)
        rw [hr] at he
        exact ⟨none, _, he, hdone _ _ rfl (by rw [World.putObj_size]; omega) (hI _ _ _ hi ((keeps_putM (F := fun k => k = w.heap.size + 1) rfl).below (by omega) (fun k h => by omega))) ((World.putObj_heap_other (by omega)).trans hd)⟩
      · have he := run_endLoop (P := P) hl (by rw [hr]; simp)
        rw [hr] at he
        exact ⟨some .ret, _, he, wpIn_ret (hleft _ _ pre x post rfl (by rw [World.putObj_size]; omega) hx (hL _ _ _ _ hi hz (keeps_putM (.inl rfl))) ((World.putObj_heap_other (by omega)).trans hd))⟩
end Go.Proofs.Ytafeaeaildfohaa
