/- Part 5 of the texts that the law's proof stands on, merged. -/
import Derived.Deep.RegionHeld3
import Derived.BigRegion
import Derived.Deep.RegionLaw
import Derived.Test.YtnfolemblnnejaaGreatVr04
set_option linter.unusedVariables false
set_option linter.unusedSimpArgs false
/- The reference of a vault: Trigger (printed by gen_vrtrig.py). -/
namespace Go.Proofs.YtnfolemblnnejaaGreat
open Go.RowKit Go.Maps

set_option maxRecDepth 100000 in
set_option maxHeartbeats 16000000 in
theorem refTrigger_any (s : VS) (a : Value) (M : Mem) (W : World) (hM : M.le (mem W)) (h : RV M s a) (hl : s.all.length ≤ 1000) (hla' : s.last < 1000000) (nm : ByteArray) (hnm : nm.size ≤ maxLen) :
    Calls Tryz.prog 16 #[rvV s a, .string nm] W fun e W' => ∃ a', Below W.heap.size W W' ∧ e = .returned (.tuple #[rvV (s.trigged nm) a', .int .i64 (trigAns s nm).1, .int .i64 (trigAns s nm).2]) ∧ RV (joinM M W W') (s.trigged nm) a' := by
  have HM := Lib.hid hM
  have HRS := Lib.hid h
  obtain ⟨aa, ca, rfl, hla, hma, hra⟩ := slice_form h.ha
  have hca : ca ≤ 9223372036854775807 := by unfold maxLen at hma; exact hma
  have HAL := Lib.hid (show s.all.length ≤ 1000000 from by have := all_len h.ok; have := h.ok.l; omega)
  have HF0 := Lib.hid (Fr.start W (.int .i64 s.tasks) (.int .i64 s.most) (.int .i64 s.keep) (.int .i64 ((s.last : Int) + 1)) (.slice aa s.all.length ca))
  have HA := Lib.hid (fun w' (hb : Below W.heap.size W w') => tRSns.mono _ _ _ _ (Mem.le_trans hM (below_mem hb)) hra)
  have HRW := Lib.hid (fun w' (hb : Below W.heap.size W w') => (h.mono (Mem.le_trans hM (below_mem hb)) : RV (mem w') s (.slice aa s.all.length ca)))
  have HQ := Lib.hid hra
  have HNU := Lib.hid (fun (w : World) (hb : Below W.heap.size W w) => refNumbers_any s _ w (h.mono (Mem.le_trans hM (below_mem hb))) false)
  rw [pend_eq] at HNU
  have hcl := those_len h.ok (fun t => !t.done)
  change s.pend.length ≤ 1000000 at hcl
  have HOK := Lib.hid h.ok
  have HNM := Lib.hid (fun w => refName_any nm w hnm)
  have HFG := Lib.hid (show s.trigged nm = if (trigAns s nm).2 = 0 then s.trig nm else s from rfl)
  have HAN := Lib.hid (show trigAns s nm = if (!(nm.toList == []) && !isName nm) = true then (0, 1) else if ((s.pend.length : Int) == s.most) = true then (0, 10)
    else if (!(nm.toList == []) && decide (0 < (s.those (fun t => t.name.toList == nm.toList)).length)) = true then (0, 6) else if s.last = 1000000 then (0, 4) else ((s.last : Int) + 1, 0) from rfl)
  clear hma hra h hM
  cases hq : (nm.toList == []) with
  | true =>
    go_enter Tryz.func16, Tryz.ntmps16
    go_wp2_with fail
    generalize ((W.alloc (.cells #[.int .i64 s.tasks, .int .i64 s.most, .int .i64 s.keep, .int .i64 ((s.last : Int) + 1), .slice aa s.all.length ca] 31)).alloc (.cells #[.int .i64 0, .int .i64 0, .int .i64 0, .int .i64 0, .slice none 0 0] 31)) = w0 at *
    have c0 : w0.cell? ⟨W.heap.size, 0, none⟩ = some (.int .i64 s.tasks) := HF0.out.cells.1
    have c1 : w0.cell? ⟨W.heap.size, 1, none⟩ = some (.int .i64 s.most) := HF0.out.cells.2.1
    have c2 : w0.cell? ⟨W.heap.size, 2, none⟩ = some (.int .i64 s.keep) := HF0.out.cells.2.2.1
    have c3 : w0.cell? ⟨W.heap.size, 3, none⟩ = some (.int .i64 ((s.last : Int) + 1)) := HF0.out.cells.2.2.2.1
    have c4 : w0.cell? ⟨W.heap.size, 4, none⟩ = some (.slice aa s.all.length ca) := HF0.out.cells.2.2.2.2
    have cz : ∀ o, w0.frozen? ⟨W.heap.size, o, none⟩ = false := HF0.out.thaw
    have d0 : w0.cell? ⟨W.heap.size + 1, 0, none⟩ = some (.int .i64 0) := HF0.out.res.1
    have d1 : w0.cell? ⟨W.heap.size + 1, 1, none⟩ = some (.int .i64 0) := HF0.out.res.2.1
    have d2 : w0.cell? ⟨W.heap.size + 1, 2, none⟩ = some (.int .i64 0) := HF0.out.res.2.2.1
    have d3 : w0.cell? ⟨W.heap.size + 1, 3, none⟩ = some (.int .i64 0) := HF0.out.res.2.2.2.1
    have d4 : w0.cell? ⟨W.heap.size + 1, 4, none⟩ = some (.slice none 0 0) := HF0.out.res.2.2.2.2.1
    have dz : ∀ o, w0.frozen? ⟨W.heap.size + 1, o, none⟩ = false := HF0.out.res.2.2.2.2.2
    try simp only [Exit.then]
    have HXD := Lib.hid (show Below w0.heap.size w0 w0.drew from (Below.refl _ _).drew)
    have HPD := Lib.hid (HNU.out _ (HF0.out.bl.drew))
    have HCX := Lib.hid (fun (w' : World) (hb : Below w0.heap.size w0 w') => (HF0.out.pure hb).cells)
    have hcd := HCX.out _ HXD.out
    go_wp2_with fail
    go_region_held3 (fun w' => w'.cell? ⟨W.heap.size, 0, none⟩ = some (.int .i64 s.tasks) ∧ w'.cell? ⟨W.heap.size, 1, none⟩ = some (.int .i64 s.most) ∧ w'.cell? ⟨W.heap.size, 2, none⟩ = some (.int .i64 s.keep) ∧ w'.cell? ⟨W.heap.size, 3, none⟩ = some (.int .i64 ((s.last : Int) + 1)) ∧ w'.cell? ⟨W.heap.size, 4, none⟩ = some (.slice aa s.all.length ca))
      (first | assumption | go_keep)
      ((first | (go_at_call 36; refine HPD.out.mono ?_; rintro e w1 ⟨a1, k1, rfl, ho1, hb1⟩; have HB1 := Lib.hid (pure_trans HXD.out hb1); have e1 := HCX.out _ HB1.out)))
    rename_i hHeld
    clear hHeld e1 hcd hb1 ho1 HPD HXD HCX
    try simp only [Exit.then]
    go_at_K
    have HF1 := Lib.hid (HF0.out.pure HB1.out)
    clear HB1 HF0 c0 c1 c2 c3 c4 cz d0 d1 d2 d3 d4 dz HNU
    have c0 : w1.cell? ⟨W.heap.size, 0, none⟩ = some (.int .i64 s.tasks) := HF1.out.cells.1
    have c1 : w1.cell? ⟨W.heap.size, 1, none⟩ = some (.int .i64 s.most) := HF1.out.cells.2.1
    have c2 : w1.cell? ⟨W.heap.size, 2, none⟩ = some (.int .i64 s.keep) := HF1.out.cells.2.2.1
    have c3 : w1.cell? ⟨W.heap.size, 3, none⟩ = some (.int .i64 ((s.last : Int) + 1)) := HF1.out.cells.2.2.2.1
    have c4 : w1.cell? ⟨W.heap.size, 4, none⟩ = some (.slice aa s.all.length ca) := HF1.out.cells.2.2.2.2
    have cz : ∀ o, w1.frozen? ⟨W.heap.size, o, none⟩ = false := HF1.out.thaw
    have d0 : w1.cell? ⟨W.heap.size + 1, 0, none⟩ = some (.int .i64 0) := HF1.out.res.1
    have d1 : w1.cell? ⟨W.heap.size + 1, 1, none⟩ = some (.int .i64 0) := HF1.out.res.2.1
    have d2 : w1.cell? ⟨W.heap.size + 1, 2, none⟩ = some (.int .i64 0) := HF1.out.res.2.2.1
    have d3 : w1.cell? ⟨W.heap.size + 1, 3, none⟩ = some (.int .i64 0) := HF1.out.res.2.2.2.1
    have d4 : w1.cell? ⟨W.heap.size + 1, 4, none⟩ = some (.slice none 0 0) := HF1.out.res.2.2.2.2.1
    have dz : ∀ o, w1.frozen? ⟨W.heap.size + 1, o, none⟩ = false := HF1.out.res.2.2.2.2.2
    cases hp : ((s.pend.length : Int) == s.most) with
    | true =>
      have HAE := Lib.hid (show trigAns s nm = (0, 10) from by rw [HAN.out]; simp [*])
      have HS := Lib.hid (show s.trigged nm = s from HFG.out.trans (if_neg (by rw [HAE.out]; decide)))
      clear HAN
      go_wp2
      have r1 := store5_block HF1.out.rs (.int .i64 s.tasks) (.int .i64 s.most) (.int .i64 s.keep) (.int .i64 ((s.last : Int) + 1)) (.slice aa s.all.length ca)
      have hBz := store5_below HF1.out.bl (Nat.le_succ _) (.int .i64 s.tasks) (.int .i64 s.most) (.int .i64 s.keep) (.int .i64 ((s.last : Int) + 1)) (.slice aa s.all.length ca)
      have hnz : (nw W w1).le (nw W (store5 w1 (W.heap.size + 1) (.int .i64 s.tasks) (.int .i64 s.most) (.int .i64 s.keep) (.int .i64 ((s.last : Int) + 1)) (.slice aa s.all.length ca))) := nw_store5 (.int .i64 s.tasks) (.int .i64 s.most) (.int .i64 s.keep) (.int .i64 ((s.last : Int) + 1)) (.slice aa s.all.length ca)
      show bodyPost _ _ _ _ _ (store5 w1 (W.heap.size + 1) (.int .i64 s.tasks) (.int .i64 s.most) (.int .i64 s.keep) (.int .i64 ((s.last : Int) + 1)) (.slice aa s.all.length ca))
      generalize store5 w1 (W.heap.size + 1) (.int .i64 s.tasks) (.int .i64 s.most) (.int .i64 s.keep) (.int .i64 ((s.last : Int) + 1)) (.slice aa s.all.length ca) = wz at r1 hBz hnz ⊢
      have g0 : wz.cell? ⟨W.heap.size + 1, 0, none⟩ = some (.int .i64 s.tasks) := mem_cells r1 0
      have g1 : wz.cell? ⟨W.heap.size + 1, 1, none⟩ = some (.int .i64 s.most) := mem_cells r1 1
      have g2 : wz.cell? ⟨W.heap.size + 1, 2, none⟩ = some (.int .i64 s.keep) := mem_cells r1 2
      have g3 : wz.cell? ⟨W.heap.size + 1, 3, none⟩ = some (.int .i64 ((s.last : Int) + 1)) := mem_cells r1 3
      have g4 : wz.cell? ⟨W.heap.size + 1, 4, none⟩ = some (.slice aa s.all.length ca) := mem_cells r1 4
      exact bodyPost_ret (v := .tuple #[.agg #[.int .i64 s.tasks, .int .i64 s.most, .int .i64 s.keep, .int .i64 ((s.last : Int) + 1), .slice aa s.all.length ca], .int .i64 0, .int .i64 10]) (by simp [results, Tryz.results16, go_sem, g0, g1, g2, g3, g4]) rfl ⟨.slice aa s.all.length ca, hBz, by rw [HS.out, HAE.out], by rw [HS.out]; exact HRS.out.mono (joinM_le HM.out)⟩
    | false =>
      have HNO := Lib.hid (show (!(nm.toList == []) && decide (0 < (s.those (fun t => t.name.toList == nm.toList)).length)) = false from by rw [hq]; rfl)
      go_wp2_with fail
      go_loopw [7] (fun iv wr => ∃ j : Nat, j ≤ s.all.length ∧ iv = .int .i64 j ∧ wr = w1) (fun iv _ => s.all.length - (intOf iv).toNat)
      case atStart => exact ⟨0, by omega, rfl, rfl⟩
      case round =>
        obtain ⟨j, hj, rfl, rfl⟩ := hrel
        by_cases hlt : j < s.all.length
        · go_wp2
          go_roundw
          case rel => exact ⟨j + 1, by omega, by go_num, by first | rfl | trivial⟩
          case measure => simp [intOf]; omega
        · obtain rfl : j = s.all.length := by omega
          have HAX := Lib.hid (show trigAns s nm = ((s.last : Int) + 1, 0) from by
            rw [HAN.out, hp, HNO.out]
            simp only [Bool.false_eq_true, if_false]
            rw [if_neg (by simp [*]), if_neg (by have := hla'; omega)])
          clear HAN HNO HNM
          go_wp2_with fail
          have hT40 : s.tasks ≤ 1000 := by have := HOK.out.t40; omega
          have hSb : (Sn.new s.tasks nm).bits = List.replicate s.tasks false := by simp [Sn.new, Sn.bits]
          have hSt : (Sn.new s.tasks nm).texts = List.replicate s.tasks .empty := by simp [Sn.new, Sn.texts]
          have hXd : .bool false = Value.bool (newX s nm).2.done := by
            have h1 := HOK.out.t1
            simp only [newX, Sn.new, Sn.done, List.all_replicate]
            simp [show s.tasks ≠ 0 by omega]
          have hXi : inI64 (newX s nm).1 ∧ (newX s nm).2.name.size ≤ maxLen := ⟨by unfold inI64; simp only [newX]; have := hla'; omega, hnm⟩
          have hSe : (Sn.new s.tasks nm).rents = List.replicate s.tasks [] := by simp [Sn.new, Sn.rents]
          refine wp_region_inv (by kernel_rfl) (by kernel_rfl) (by kernel_rfl) (TJ W M s nm aa ca) ?start (AllAt.all ?steps) ?ends
          case start =>
            exact ⟨⟨_, HF1.out.pure (Below.refl _ _).drew, fun _ => rfl, fun e => (by cases e)⟩, fun k e => (by cases e), fun e => (by cases e), fun e => (by cases e), fun e => (by cases e), fun k e => by cases e⟩
          case steps =>
            clear HF1 c0 c1 c2 c3 c4 cz d0 d1 d2 d3 d4 dz HA HRW HRS HFG HAX hp
            refine AllAt.cons 1 ?s0 (AllAt.cons 2 ?s1 (AllAt.cons 3 ?s2 (AllAt.cons 4 ?s3 (AllAt.cons 5 ?s4 (AllAt.cons 6 ?s5 (AllAt.cons 7 ?s6 (AllAt.cons 8 ?s7 (AllAt.cons 9 ?s8 (AllAt.cons 10 ?s9 (AllAt.cons 11 ?s10 (AllAt.cons 12 ?s11 (AllAt.cons 13 ?s12 (AllAt.cons 14 ?s13 (AllAt.cons 15 ?s14 (AllAt.cons 16 ?s15 (AllAt.cons 17 ?s16 (AllAt.cons 18 ?s17 (AllAt.cons 19 ?s18 (AllAt.cons 20 ?s19 (AllAt.nil) rfl) rfl) rfl) rfl) rfl) rfl) rfl) rfl) rfl) rfl) rfl) rfl) rfl) rfl) rfl) rfl) rfl) rfl) rfl) rfl
            case s0 =>
              intro L f a wz hJ hLi hdep hv h0 K hK
              have hsz := hJ.size
              refine step_val rfl (v := .slice (some ⟨wz.heap.size, 0, none⟩) 0 0) (w' := wz.alloc (.cells #[] 102)) ?_ (hK _ _ (hJ.add (by decide) (by decide) (by decide) (box_below wz _) (fun _ => ⟨wz.heap.size, rfl, heap_alloc_new wz _, hsz⟩)))
              clear hJ hdep hv h0 hK
              simp [go_sem, execOp]
            case s1 =>
              intro L f a wz hJ hLi hdep hv h0 K hK
              have e2 : a.eval (.tmp 2) = .pointer (some ⟨W.heap.size, 0, none⟩) := (h0 2 (noDst_spec (by kernel_rfl))).trans rfl
              refine step_val rfl (v := .pointer (some ⟨W.heap.size, 4, none⟩)) (w' := wz) ?_ (hK _ _ (hJ.add (by decide) (by decide) (by decide) (Below.refl _ _) (show _ = _ from rfl)))
              clear hJ hdep hv h0 hK
              generalize a.eval = ρ at *
              simp [go_sem, execOp, *]
            case s2 =>
              intro L f a wz hJ hLi hdep hv h0 K hK
              have hL1 := hdep 1 (List.mem_of_elem_eq_true (by kernel_rfl))
              have e47 := (hv 1 47 rfl hL1).trans (hJ.vs 1 hL1)
              have c4 := hJ.cell4 hLi
              refine step_val rfl (v := .slice aa s.all.length ca) (w' := wz) ?_ (hK _ _ (hJ.add (by decide) (by decide) (by decide) (Below.refl _ _) (show _ = _ from rfl)))
              clear hJ hdep hv h0 hK
              generalize a.eval = ρ at *
              simp [go_sem, execOp, *]
            case s3 =>
              intro L f a wz hJ hLi hdep hv h0 K hK
              have hL0 := hdep 0 (List.mem_of_elem_eq_true (by kernel_rfl))
              have hL2 := hdep 2 (List.mem_of_elem_eq_true (by kernel_rfl))
              have hL17 : L 17 = false := by
                cases e : L 17 with
                | false => rfl
                | true => rw [hJ.c17 e] at hLi; cases hLi
              obtain ⟨b0, hb0, hb1, hb2⟩ := hJ.vs 0 hL0 hLi
              have e46 := (hv 0 46 rfl hL0).trans hb0
              have e48 := (hv 2 48 rfl hL2).trans (hJ.vs 2 hL2)
              obtain ⟨u, hF, -, -⟩ := hJ.st
              refine step_append_os rfl (.tmp 46) (.tmp 48) 29 rfl (tIn M tRSn) (tIn_flat M tRSn) (tRSn_one M) Tryz.underlying29 infoRSn rfl (Nat.succ_pos 5) _ [] s.all e46 (lit0_of _ hb1) _ _ _ e48 rfl (slice_to HQ.out (Mem.le_trans HM.out (below_mem hF.bl))) (by have := HAL.out; simp; unfold maxLen; omega) (by have := HAL.out; simp; omega) ?_
              intro v5 w5 own5 happ
              rw [List.nil_append] at own5
              exact hK _ _ (hJ.add3 hLi hL0 hL2 own5 (by rw [hb0]; exact happ))
            case s4 =>
              intro L f a wz hJ hLi hdep hv h0 K hK
              have e8 : a.eval (.tmp 8) = .int .i64 ((s.last : Int) + 1) := (h0 8 (noDst_spec (by kernel_rfl))).trans rfl
              refine step_val rfl (v := .int .i64 ((s.last : Int) + 1)) (w' := wz) ?_ (hK _ _ (hJ.add (by decide) (by decide) (by decide) (Below.refl _ _) (show _ = _ from rfl)))
              clear hJ hdep hv h0 hK
              generalize a.eval = ρ at *
              simp [go_sem, execOp, *]
            case s5 =>
              intro L f a wz hJ hLi hdep hv h0 K hK
              have e1 : a.eval (.tmp 1) = .string nm := (h0 1 (noDst_spec (by kernel_rfl))).trans rfl
              refine step_val rfl (v := .string nm) (w' := wz) ?_ (hK _ _ (hJ.add (by decide) (by decide) (by decide) (Below.refl _ _) (show _ = _ from rfl)))
              clear hJ hdep hv h0 hK
              generalize a.eval = ρ at *
              simp [go_sem, execOp, *]
            case s6 =>
              intro L f a wz hJ hLi hdep hv h0 K hK
              have e2 : a.eval (.tmp 2) = .pointer (some ⟨W.heap.size, 0, none⟩) := (h0 2 (noDst_spec (by kernel_rfl))).trans rfl
              refine step_val rfl (v := .pointer (some ⟨W.heap.size, 0, none⟩)) (w' := wz) ?_ (hK _ _ (hJ.add (by decide) (by decide) (by decide) (Below.refl _ _) (show _ = _ from rfl)))
              clear hJ hdep hv h0 hK
              generalize a.eval = ρ at *
              simp [go_sem, execOp, *]
            case s7 =>
              intro L f a wz hJ hLi hdep hv h0 K hK
              have hL6 := hdep 6 (List.mem_of_elem_eq_true (by kernel_rfl))
              have e52 := (hv 6 52 rfl hL6).trans (hJ.vs 6 hL6)
              have c0 := hJ.cell0
              refine step_val rfl (v := .int .i64 s.tasks) (w' := wz) ?_ (hK _ _ (hJ.add (by decide) (by decide) (by decide) (Below.refl _ _) (show _ = _ from rfl)))
              clear hJ hdep hv h0 hK
              generalize a.eval = ρ at *
              simp [go_sem, execOp, *]
            case s8 =>
              intro L f a wz hJ hLi hdep hv h0 K hK
              have hL7 := hdep 7 (List.mem_of_elem_eq_true (by kernel_rfl))
              have e53 := (hv 7 53 rfl hL7).trans (hJ.vs 7 hL7)
              have hmk := make_any (T := 100) (e := 4) rfl infoBool1 rfl (by decide) s.tasks hT40 wz
              refine step_val rfl (v := .slice (some ⟨wz.heap.size, 0, none⟩) s.tasks s.tasks) (w' := wz.alloc (.cells (madeCells #[.bool false] s.tasks) 4)) ?_ (hK _ _ (hJ.add (by decide) (by decide) (by decide) (box_below wz _) ⟨_, rfl, hSb ▸ hJ.made (by rfl) (t := tBool) (fun _ => rfl) hT40⟩))
              clear hJ hdep hv h0 hK
              generalize a.eval = ρ at *
              simp [go_sem, execOp, e53, hmk]
            case s9 =>
              intro L f a wz hJ hLi hdep hv h0 K hK
              have e2 : a.eval (.tmp 2) = .pointer (some ⟨W.heap.size, 0, none⟩) := (h0 2 (noDst_spec (by kernel_rfl))).trans rfl
              refine step_val rfl (v := .pointer (some ⟨W.heap.size, 0, none⟩)) (w' := wz) ?_ (hK _ _ (hJ.add (by decide) (by decide) (by decide) (Below.refl _ _) (show _ = _ from rfl)))
              clear hJ hdep hv h0 hK
              generalize a.eval = ρ at *
              simp [go_sem, execOp, *]
            case s10 =>
              intro L f a wz hJ hLi hdep hv h0 K hK
              have hL9 := hdep 9 (List.mem_of_elem_eq_true (by kernel_rfl))
              have e55 := (hv 9 55 rfl hL9).trans (hJ.vs 9 hL9)
              have c0 := hJ.cell0
              refine step_val rfl (v := .int .i64 s.tasks) (w' := wz) ?_ (hK _ _ (hJ.add (by decide) (by decide) (by decide) (Below.refl _ _) (show _ = _ from rfl)))
              clear hJ hdep hv h0 hK
              generalize a.eval = ρ at *
              simp [go_sem, execOp, *]
            case s11 =>
              intro L f a wz hJ hLi hdep hv h0 K hK
              have hL10 := hdep 10 (List.mem_of_elem_eq_true (by kernel_rfl))
              have e56 := (hv 10 56 rfl hL10).trans (hJ.vs 10 hL10)
              have hmk := make_any (T := 71) (e := 9) rfl infoStr1 rfl (by decide) s.tasks hT40 wz
              refine step_val rfl (v := .slice (some ⟨wz.heap.size, 0, none⟩) s.tasks s.tasks) (w' := wz.alloc (.cells (madeCells #[.string .empty] s.tasks) 9)) ?_ (hK _ _ (hJ.add (by decide) (by decide) (by decide) (box_below wz _) ⟨_, rfl, hSt ▸ hJ.made (by rfl) (t := tStr) (fun _ => ⟨rfl, Nat.zero_le _⟩) hT40⟩))
              clear hJ hdep hv h0 hK
              generalize a.eval = ρ at *
              simp [go_sem, execOp, e56, hmk]
            case s12 =>
              intro L f a wz hJ hLi hdep hv h0 K hK
              have e2 : a.eval (.tmp 2) = .pointer (some ⟨W.heap.size, 0, none⟩) := (h0 2 (noDst_spec (by kernel_rfl))).trans rfl
              refine step_val rfl (v := .pointer (some ⟨W.heap.size, 0, none⟩)) (w' := wz) ?_ (hK _ _ (hJ.add (by decide) (by decide) (by decide) (Below.refl _ _) (show _ = _ from rfl)))
              clear hJ hdep hv h0 hK
              generalize a.eval = ρ at *
              simp [go_sem, execOp, *]
            case s13 =>
              intro L f a wz hJ hLi hdep hv h0 K hK
              have hL12 := hdep 12 (List.mem_of_elem_eq_true (by kernel_rfl))
              have e58 := (hv 12 58 rfl hL12).trans (hJ.vs 12 hL12)
              have c0 := hJ.cell0
              refine step_val rfl (v := .int .i64 s.tasks) (w' := wz) ?_ (hK _ _ (hJ.add (by decide) (by decide) (by decide) (Below.refl _ _) (show _ = _ from rfl)))
              clear hJ hdep hv h0 hK
              generalize a.eval = ρ at *
              simp [go_sem, execOp, *]
            case s14 =>
              intro L f a wz hJ hLi hdep hv h0 K hK
              have hL13 := hdep 13 (List.mem_of_elem_eq_true (by kernel_rfl))
              have e59 := (hv 13 59 rfl hL13).trans (hJ.vs 13 hL13)
              have hmk := make_any (T := 66) (e := 34) rfl infoEs1 rfl (by decide) s.tasks hT40 wz
              refine step_val rfl (v := .slice (some ⟨wz.heap.size, 0, none⟩) s.tasks s.tasks) (w' := wz.alloc (.cells (madeCells #[.slice none 0 0] s.tasks) 34)) ?_ (hK _ _ (hJ.add (by decide) (by decide) (by decide) (box_below wz _) ⟨_, rfl, hSe ▸ hJ.made (by rfl) (t := tEnts) (fun m => slice_nil _ _) hT40⟩))
              clear hJ hdep hv h0 hK
              generalize a.eval = ρ at *
              simp [go_sem, execOp, e59, hmk]
            case s15 =>
              intro L f a wz hJ hLi hdep hv h0 K hK
              have hL4 := hdep 4 (List.mem_of_elem_eq_true (by kernel_rfl))
              have hL5 := hdep 5 (List.mem_of_elem_eq_true (by kernel_rfl))
              have hL8 := hdep 8 (List.mem_of_elem_eq_true (by kernel_rfl))
              have hL11 := hdep 11 (List.mem_of_elem_eq_true (by kernel_rfl))
              have hL14 := hdep 14 (List.mem_of_elem_eq_true (by kernel_rfl))
              have e50 := (hv 4 50 rfl hL4).trans (hJ.vs 4 hL4)
              have e51 := (hv 5 51 rfl hL5).trans (hJ.vs 5 hL5)
              obtain ⟨a8, e8, r8⟩ := hJ.vs 8 hL8
              obtain ⟨a11, e11, r11⟩ := hJ.vs 11 hL11
              obtain ⟨a14, e14, r14⟩ := hJ.vs 14 hL14
              have e54 := (hv 8 54 rfl hL8).trans e8
              have e57 := (hv 11 57 rfl hL11).trans e11
              have e60 := (hv 14 60 rfl hL14).trans e14
              rw [e8] at r8
              rw [e11] at r11
              rw [e14] at r14
              refine step_val rfl (v := .agg #[.int .i64 ((s.last : Int) + 1), .string nm, .bool false, .slice a8 s.tasks s.tasks, .slice a11 s.tasks s.tasks, .slice a14 s.tasks s.tasks]) (w' := wz) ?_ (hK _ _ (hJ.add (by decide) (by decide) (by decide) (Below.refl _ _) ⟨a8, a11, a14, rfl, ⟨_, _, _, by rw [← hXd]; rfl, hXi, r8, r11, r14⟩⟩))
              clear hJ hdep hv h0 hK
              generalize a.eval = ρ at *
              simp [go_sem, execOp, e50, e51, e54, e57, e60]
            case s16 =>
              intro L f a wz hJ hLi hdep hv h0 K hK
              have hL15 := hdep 15 (List.mem_of_elem_eq_true (by kernel_rfl))
              obtain ⟨a1, a2, a3, e15, r15⟩ := hJ.vs 15 hL15
              have e61 := (hv 15 61 rfl hL15).trans e15
              have hsz := hJ.size
              have how := hJ.ow
              refine step_val rfl (v := .slice (some ⟨wz.heap.size, 0, none⟩) 1 1) (w' := wz.alloc (.cells #[.int .i64 ((s.last : Int) + 1), .string nm, .bool false, .slice a1 s.tasks s.tasks, .slice a2 s.tasks s.tasks, .slice a3 s.tasks s.tasks] 102)) ?_ (hK _ _ (hJ.add (by decide) (by decide) (by decide) (box_below wz _) ⟨_, 1, rfl, new_row hsz how r15⟩))
              clear hJ hdep hv h0 hK
              generalize a.eval = ρ at *
              simp [go_sem, execOp, e61]
            case s17 =>
              intro L f a wz hJ hLi hdep hv h0 K hK
              have hL3 := hdep 3 (List.mem_of_elem_eq_true (by kernel_rfl))
              have hL16 := hdep 16 (List.mem_of_elem_eq_true (by kernel_rfl))
              obtain ⟨a, cp, e16, r16⟩ := hJ.vs 16 hL16
              obtain ⟨o3, -⟩ := hJ.vs 3 hL3 hLi
              have e49 := hv 3 49 rfl hL3
              have e62 := (hv 16 62 rfl hL16).trans e16
              rw [e16] at r16
              refine step_append_os rfl (.tmp 49) (.tmp 62) 29 rfl (tIn (joinN M W (NM W (cx L f) wz)) tRSn) (tIn_flat _ tRSn) (tRSn_one _) Tryz.underlying29 infoRSn rfl (Nat.succ_pos 5) _ s.all [newX s nm] e49 (o3.re (joinN_of _ HM.out)) _ _ _ e62 rfl (slice_to2 r16 NM_le NM_join) (by have := HAL.out; simp; unfold maxLen; omega) (by have := HAL.out; simp; omega) ?_
              intro v5 w5 own5 happ
              exact hK _ _ (hJ.add17 hLi hL3 own5 happ)
            case s18 =>
              intro L f a wz hJ hLi hdep hv h0 K hK
              have e2 : a.eval (.tmp 2) = .pointer (some ⟨W.heap.size, 0, none⟩) := (h0 2 (noDst_spec (by kernel_rfl))).trans rfl
              refine step_val rfl (v := .pointer (some ⟨W.heap.size, 4, none⟩)) (w' := wz) ?_ (hK _ _ (hJ.add (by decide) (by decide) (by decide) (Below.refl _ _) (show _ = _ from rfl)))
              clear hJ hdep hv h0 hK
              generalize a.eval = ρ at *
              simp [go_sem, execOp, *]
            case s19 =>
              intro L f a wz hJ hLi hdep hv h0 K hK
              have hL17 := hdep 17 (List.mem_of_elem_eq_true (by kernel_rfl))
              have hL18 := hdep 18 (List.mem_of_elem_eq_true (by kernel_rfl))
              obtain ⟨⟨u, c4⟩, z4⟩ := hJ.some4
              obtain ⟨a17, cp17, e17, -⟩ := hJ.vs 17 hL17
              have e63 := (hv 17 63 rfl hL17).trans e17
              have e64 := (hv 18 64 rfl hL18).trans (hJ.vs 18 hL18)
              have hk := hK undef _ (hJ.add19 hL17 undef)
              rw [e17] at hk
              refine step_skip rfl ?_ hk
              clear hJ hdep hv h0 hK hk
              generalize a.eval = ρ at *
              simp [go_sem, execOp, e63, e64, c4, z4]
          case ends =>
            intro L f w5 hJ hall
            obtain ⟨u, hF5, -, hu⟩ := hJ.st
            obtain ⟨a5, c5, rfl, hr5⟩ := hu (hall 19 (by decide))
            have HF5 := Lib.hid hF5
            have HR5 := Lib.hid hr5
            clear hF5 hr5 hu hJ hall c0 c1 c2 c3 c4 cz d0 d1 d2 d3 d4 dz HF1 hSb hSt hSe hXd hXi
            have c0 : w5.cell? ⟨W.heap.size, 0, none⟩ = some (.int .i64 s.tasks) := HF5.out.cells.1
            have c1 : w5.cell? ⟨W.heap.size, 1, none⟩ = some (.int .i64 s.most) := HF5.out.cells.2.1
            have c2 : w5.cell? ⟨W.heap.size, 2, none⟩ = some (.int .i64 s.keep) := HF5.out.cells.2.2.1
            have c3 : w5.cell? ⟨W.heap.size, 3, none⟩ = some (.int .i64 ((s.last : Int) + 1)) := HF5.out.cells.2.2.2.1
            have c4 : w5.cell? ⟨W.heap.size, 4, none⟩ = some (.slice a5 (s.all.length + 1) c5) := HF5.out.cells.2.2.2.2
            have cz : ∀ o, w5.frozen? ⟨W.heap.size, o, none⟩ = false := HF5.out.thaw
            have d0 : w5.cell? ⟨W.heap.size + 1, 0, none⟩ = some (.int .i64 0) := HF5.out.res.1
            have d1 : w5.cell? ⟨W.heap.size + 1, 1, none⟩ = some (.int .i64 0) := HF5.out.res.2.1
            have d2 : w5.cell? ⟨W.heap.size + 1, 2, none⟩ = some (.int .i64 0) := HF5.out.res.2.2.1
            have d3 : w5.cell? ⟨W.heap.size + 1, 3, none⟩ = some (.int .i64 0) := HF5.out.res.2.2.2.1
            have d4 : w5.cell? ⟨W.heap.size + 1, 4, none⟩ = some (.slice none 0 0) := HF5.out.res.2.2.2.2.1
            have dz : ∀ o, w5.frozen? ⟨W.heap.size + 1, o, none⟩ = false := HF5.out.res.2.2.2.2.2
            simp only [putAll, Exit.then]
            go_at_K
            have HS := Lib.hid (show s.trigged nm = s.trig nm from HFG.out.trans (if_pos (by rw [HAX.out])))
            have HF9 := Lib.hid (HF5.out.set3 (.int .i64 ((s.last : Int) + 1 + 1)))
            have HN9 := Lib.hid (jn_set (M := M) (W := W) (w := w5) (b := W.heap.size) (o := 3) (u := .int .i64 ((s.last : Int) + 1 + 1)) (by omega))
            have HV9 := Lib.hid (show rvV (s.trig nm) (.slice a5 (s.all.length + 1) c5) = .agg #[.int .i64 s.tasks, .int .i64 s.most, .int .i64 s.keep, .int .i64 ((s.last : Int) + 1 + 1), .slice a5 (s.all.length + 1) c5] from by
              show Value.agg #[.int .i64 s.tasks, .int .i64 s.most, .int .i64 s.keep, .int .i64 (((s.last + 1 : Nat) : Int) + 1), .slice a5 (s.all.length + 1) c5] = _
              rw [Int.natCast_add]; rfl)
            have HO9 := Lib.hid (show RV (jn M W (w5.setCell ⟨W.heap.size, 3, none⟩ (.int .i64 ((s.last : Int) + 1 + 1)))) (s.trig nm) (.slice a5 (s.all.length + 1) c5) from ⟨(tSlice tRSn).mono _ _ _ _ HN9.out HR5.out, HOK.out.trig hla' hnm⟩)
            go_wp2
            have r1 := store5_block HF9.out.rs (.int .i64 s.tasks) (.int .i64 s.most) (.int .i64 s.keep) (.int .i64 ((s.last : Int) + 1 + 1)) (.slice a5 (s.all.length + 1) c5)
            have hBz := store5_below HF9.out.bl (Nat.le_succ _) (.int .i64 s.tasks) (.int .i64 s.most) (.int .i64 s.keep) (.int .i64 ((s.last : Int) + 1 + 1)) (.slice a5 (s.all.length + 1) c5)
            have hnz : (nw W (w5.setCell ⟨W.heap.size, 3, none⟩ (.int .i64 ((s.last : Int) + 1 + 1)))).le (nw W (store5 (w5.setCell ⟨W.heap.size, 3, none⟩ (.int .i64 ((s.last : Int) + 1 + 1))) (W.heap.size + 1) (.int .i64 s.tasks) (.int .i64 s.most) (.int .i64 s.keep) (.int .i64 ((s.last : Int) + 1 + 1)) (.slice a5 (s.all.length + 1) c5))) := nw_store5 (.int .i64 s.tasks) (.int .i64 s.most) (.int .i64 s.keep) (.int .i64 ((s.last : Int) + 1 + 1)) (.slice a5 (s.all.length + 1) c5)
            show bodyPost _ _ _ _ _ (store5 (w5.setCell ⟨W.heap.size, 3, none⟩ (.int .i64 ((s.last : Int) + 1 + 1))) (W.heap.size + 1) (.int .i64 s.tasks) (.int .i64 s.most) (.int .i64 s.keep) (.int .i64 ((s.last : Int) + 1 + 1)) (.slice a5 (s.all.length + 1) c5))
            generalize store5 (w5.setCell ⟨W.heap.size, 3, none⟩ (.int .i64 ((s.last : Int) + 1 + 1))) (W.heap.size + 1) (.int .i64 s.tasks) (.int .i64 s.most) (.int .i64 s.keep) (.int .i64 ((s.last : Int) + 1 + 1)) (.slice a5 (s.all.length + 1) c5) = wz at r1 hBz hnz ⊢
            have g0 : wz.cell? ⟨W.heap.size + 1, 0, none⟩ = some (.int .i64 s.tasks) := mem_cells r1 0
            have g1 : wz.cell? ⟨W.heap.size + 1, 1, none⟩ = some (.int .i64 s.most) := mem_cells r1 1
            have g2 : wz.cell? ⟨W.heap.size + 1, 2, none⟩ = some (.int .i64 s.keep) := mem_cells r1 2
            have g3 : wz.cell? ⟨W.heap.size + 1, 3, none⟩ = some (.int .i64 ((s.last : Int) + 1 + 1)) := mem_cells r1 3
            have g4 : wz.cell? ⟨W.heap.size + 1, 4, none⟩ = some (.slice a5 (s.all.length + 1) c5) := mem_cells r1 4
            exact bodyPost_ret (v := .tuple #[.agg #[.int .i64 s.tasks, .int .i64 s.most, .int .i64 s.keep, .int .i64 ((s.last : Int) + 1 + 1), .slice a5 (s.all.length + 1) c5], .int .i64 ((s.last : Int) + 1), .int .i64 0]) (by simp [results, Tryz.results16, go_sem, g0, g1, g2, g3, g4]) rfl ⟨.slice a5 (s.all.length + 1) c5, hBz, by rw [HS.out, HAX.out, HV9.out], by rw [HS.out]; exact HO9.out.mono (jn_join HM.out hnz)⟩
  | false =>
    cases hn0 : isName nm with
    | false =>
      rw [hn0] at HNM
      go_enter Tryz.func16, Tryz.ntmps16
      go_wp2_with fail
      refine (HNM.out _).mono ?_
      rintro e w0 ⟨rfl, rfl⟩
      generalize ((W.alloc (.cells #[.int .i64 s.tasks, .int .i64 s.most, .int .i64 s.keep, .int .i64 ((s.last : Int) + 1), .slice aa s.all.length ca] 31)).alloc (.cells #[.int .i64 0, .int .i64 0, .int .i64 0, .int .i64 0, .slice none 0 0] 31)) = w0 at *
      have HAE := Lib.hid (show trigAns s nm = (0, 1) from by rw [HAN.out]; simp [*])
      have HS := Lib.hid (show s.trigged nm = s from HFG.out.trans (if_neg (by rw [HAE.out]; decide)))
      clear HAN
      have c0 : w0.cell? ⟨W.heap.size, 0, none⟩ = some (.int .i64 s.tasks) := HF0.out.cells.1
      have c1 : w0.cell? ⟨W.heap.size, 1, none⟩ = some (.int .i64 s.most) := HF0.out.cells.2.1
      have c2 : w0.cell? ⟨W.heap.size, 2, none⟩ = some (.int .i64 s.keep) := HF0.out.cells.2.2.1
      have c3 : w0.cell? ⟨W.heap.size, 3, none⟩ = some (.int .i64 ((s.last : Int) + 1)) := HF0.out.cells.2.2.2.1
      have c4 : w0.cell? ⟨W.heap.size, 4, none⟩ = some (.slice aa s.all.length ca) := HF0.out.cells.2.2.2.2
      have cz : ∀ o, w0.frozen? ⟨W.heap.size, o, none⟩ = false := HF0.out.thaw
      have d0 : w0.cell? ⟨W.heap.size + 1, 0, none⟩ = some (.int .i64 0) := HF0.out.res.1
      have d1 : w0.cell? ⟨W.heap.size + 1, 1, none⟩ = some (.int .i64 0) := HF0.out.res.2.1
      have d2 : w0.cell? ⟨W.heap.size + 1, 2, none⟩ = some (.int .i64 0) := HF0.out.res.2.2.1
      have d3 : w0.cell? ⟨W.heap.size + 1, 3, none⟩ = some (.int .i64 0) := HF0.out.res.2.2.2.1
      have d4 : w0.cell? ⟨W.heap.size + 1, 4, none⟩ = some (.slice none 0 0) := HF0.out.res.2.2.2.2.1
      have dz : ∀ o, w0.frozen? ⟨W.heap.size + 1, o, none⟩ = false := HF0.out.res.2.2.2.2.2
      go_wp2
      have r1 := store5_block HF0.out.rs (.int .i64 s.tasks) (.int .i64 s.most) (.int .i64 s.keep) (.int .i64 ((s.last : Int) + 1)) (.slice aa s.all.length ca)
      have hBz := store5_below HF0.out.bl (Nat.le_succ _) (.int .i64 s.tasks) (.int .i64 s.most) (.int .i64 s.keep) (.int .i64 ((s.last : Int) + 1)) (.slice aa s.all.length ca)
      have hnz : (nw W w0).le (nw W (store5 w0 (W.heap.size + 1) (.int .i64 s.tasks) (.int .i64 s.most) (.int .i64 s.keep) (.int .i64 ((s.last : Int) + 1)) (.slice aa s.all.length ca))) := nw_store5 (.int .i64 s.tasks) (.int .i64 s.most) (.int .i64 s.keep) (.int .i64 ((s.last : Int) + 1)) (.slice aa s.all.length ca)
      show bodyPost _ _ _ _ _ (store5 w0 (W.heap.size + 1) (.int .i64 s.tasks) (.int .i64 s.most) (.int .i64 s.keep) (.int .i64 ((s.last : Int) + 1)) (.slice aa s.all.length ca))
      generalize store5 w0 (W.heap.size + 1) (.int .i64 s.tasks) (.int .i64 s.most) (.int .i64 s.keep) (.int .i64 ((s.last : Int) + 1)) (.slice aa s.all.length ca) = wz at r1 hBz hnz ⊢
      have g0 : wz.cell? ⟨W.heap.size + 1, 0, none⟩ = some (.int .i64 s.tasks) := mem_cells r1 0
      have g1 : wz.cell? ⟨W.heap.size + 1, 1, none⟩ = some (.int .i64 s.most) := mem_cells r1 1
      have g2 : wz.cell? ⟨W.heap.size + 1, 2, none⟩ = some (.int .i64 s.keep) := mem_cells r1 2
      have g3 : wz.cell? ⟨W.heap.size + 1, 3, none⟩ = some (.int .i64 ((s.last : Int) + 1)) := mem_cells r1 3
      have g4 : wz.cell? ⟨W.heap.size + 1, 4, none⟩ = some (.slice aa s.all.length ca) := mem_cells r1 4
      exact bodyPost_ret (v := .tuple #[.agg #[.int .i64 s.tasks, .int .i64 s.most, .int .i64 s.keep, .int .i64 ((s.last : Int) + 1), .slice aa s.all.length ca], .int .i64 0, .int .i64 1]) (by simp [results, Tryz.results16, go_sem, g0, g1, g2, g3, g4]) rfl ⟨.slice aa s.all.length ca, hBz, by rw [HS.out, HAE.out], by rw [HS.out]; exact HRS.out.mono (joinM_le HM.out)⟩
    | true =>
      rw [hn0] at HNM
      go_enter Tryz.func16, Tryz.ntmps16
      go_wp2_with fail
      refine (HNM.out _).mono ?_
      rintro e w0 ⟨rfl, rfl⟩
      generalize ((W.alloc (.cells #[.int .i64 s.tasks, .int .i64 s.most, .int .i64 s.keep, .int .i64 ((s.last : Int) + 1), .slice aa s.all.length ca] 31)).alloc (.cells #[.int .i64 0, .int .i64 0, .int .i64 0, .int .i64 0, .slice none 0 0] 31)) = w0 at *
      have c0 : w0.cell? ⟨W.heap.size, 0, none⟩ = some (.int .i64 s.tasks) := HF0.out.cells.1
      have c1 : w0.cell? ⟨W.heap.size, 1, none⟩ = some (.int .i64 s.most) := HF0.out.cells.2.1
      have c2 : w0.cell? ⟨W.heap.size, 2, none⟩ = some (.int .i64 s.keep) := HF0.out.cells.2.2.1
      have c3 : w0.cell? ⟨W.heap.size, 3, none⟩ = some (.int .i64 ((s.last : Int) + 1)) := HF0.out.cells.2.2.2.1
      have c4 : w0.cell? ⟨W.heap.size, 4, none⟩ = some (.slice aa s.all.length ca) := HF0.out.cells.2.2.2.2
      have cz : ∀ o, w0.frozen? ⟨W.heap.size, o, none⟩ = false := HF0.out.thaw
      have d0 : w0.cell? ⟨W.heap.size + 1, 0, none⟩ = some (.int .i64 0) := HF0.out.res.1
      have d1 : w0.cell? ⟨W.heap.size + 1, 1, none⟩ = some (.int .i64 0) := HF0.out.res.2.1
      have d2 : w0.cell? ⟨W.heap.size + 1, 2, none⟩ = some (.int .i64 0) := HF0.out.res.2.2.1
      have d3 : w0.cell? ⟨W.heap.size + 1, 3, none⟩ = some (.int .i64 0) := HF0.out.res.2.2.2.1
      have d4 : w0.cell? ⟨W.heap.size + 1, 4, none⟩ = some (.slice none 0 0) := HF0.out.res.2.2.2.2.1
      have dz : ∀ o, w0.frozen? ⟨W.heap.size + 1, o, none⟩ = false := HF0.out.res.2.2.2.2.2
      try simp only [Exit.then]
      have HXD := Lib.hid (show Below w0.heap.size w0 w0.drew from (Below.refl _ _).drew)
      have HPD := Lib.hid (HNU.out _ (HF0.out.bl.drew))
      have HCX := Lib.hid (fun (w' : World) (hb : Below w0.heap.size w0 w') => (HF0.out.pure hb).cells)
      have hcd := HCX.out _ HXD.out
      go_wp2_with fail
      go_region_held3 (fun w' => w'.cell? ⟨W.heap.size, 0, none⟩ = some (.int .i64 s.tasks) ∧ w'.cell? ⟨W.heap.size, 1, none⟩ = some (.int .i64 s.most) ∧ w'.cell? ⟨W.heap.size, 2, none⟩ = some (.int .i64 s.keep) ∧ w'.cell? ⟨W.heap.size, 3, none⟩ = some (.int .i64 ((s.last : Int) + 1)) ∧ w'.cell? ⟨W.heap.size, 4, none⟩ = some (.slice aa s.all.length ca))
        (first | assumption | go_keep)
        ((first | (go_at_call 36; refine HPD.out.mono ?_; rintro e w1 ⟨a1, k1, rfl, ho1, hb1⟩; have HB1 := Lib.hid (pure_trans HXD.out hb1); have e1 := HCX.out _ HB1.out)))
      rename_i hHeld
      clear hHeld e1 hcd hb1 ho1 HPD HXD HCX
      try simp only [Exit.then]
      go_at_K
      have HF1 := Lib.hid (HF0.out.pure HB1.out)
      clear HB1 HF0 c0 c1 c2 c3 c4 cz d0 d1 d2 d3 d4 dz HNU
      have c0 : w1.cell? ⟨W.heap.size, 0, none⟩ = some (.int .i64 s.tasks) := HF1.out.cells.1
      have c1 : w1.cell? ⟨W.heap.size, 1, none⟩ = some (.int .i64 s.most) := HF1.out.cells.2.1
      have c2 : w1.cell? ⟨W.heap.size, 2, none⟩ = some (.int .i64 s.keep) := HF1.out.cells.2.2.1
      have c3 : w1.cell? ⟨W.heap.size, 3, none⟩ = some (.int .i64 ((s.last : Int) + 1)) := HF1.out.cells.2.2.2.1
      have c4 : w1.cell? ⟨W.heap.size, 4, none⟩ = some (.slice aa s.all.length ca) := HF1.out.cells.2.2.2.2
      have cz : ∀ o, w1.frozen? ⟨W.heap.size, o, none⟩ = false := HF1.out.thaw
      have d0 : w1.cell? ⟨W.heap.size + 1, 0, none⟩ = some (.int .i64 0) := HF1.out.res.1
      have d1 : w1.cell? ⟨W.heap.size + 1, 1, none⟩ = some (.int .i64 0) := HF1.out.res.2.1
      have d2 : w1.cell? ⟨W.heap.size + 1, 2, none⟩ = some (.int .i64 0) := HF1.out.res.2.2.1
      have d3 : w1.cell? ⟨W.heap.size + 1, 3, none⟩ = some (.int .i64 0) := HF1.out.res.2.2.2.1
      have d4 : w1.cell? ⟨W.heap.size + 1, 4, none⟩ = some (.slice none 0 0) := HF1.out.res.2.2.2.2.1
      have dz : ∀ o, w1.frozen? ⟨W.heap.size + 1, o, none⟩ = false := HF1.out.res.2.2.2.2.2
      cases hp : ((s.pend.length : Int) == s.most) with
      | true =>
        have HAE := Lib.hid (show trigAns s nm = (0, 10) from by rw [HAN.out]; simp [*])
        have HS := Lib.hid (show s.trigged nm = s from HFG.out.trans (if_neg (by rw [HAE.out]; decide)))
        clear HAN
        go_wp2
        have r1 := store5_block HF1.out.rs (.int .i64 s.tasks) (.int .i64 s.most) (.int .i64 s.keep) (.int .i64 ((s.last : Int) + 1)) (.slice aa s.all.length ca)
        have hBz := store5_below HF1.out.bl (Nat.le_succ _) (.int .i64 s.tasks) (.int .i64 s.most) (.int .i64 s.keep) (.int .i64 ((s.last : Int) + 1)) (.slice aa s.all.length ca)
        have hnz : (nw W w1).le (nw W (store5 w1 (W.heap.size + 1) (.int .i64 s.tasks) (.int .i64 s.most) (.int .i64 s.keep) (.int .i64 ((s.last : Int) + 1)) (.slice aa s.all.length ca))) := nw_store5 (.int .i64 s.tasks) (.int .i64 s.most) (.int .i64 s.keep) (.int .i64 ((s.last : Int) + 1)) (.slice aa s.all.length ca)
        show bodyPost _ _ _ _ _ (store5 w1 (W.heap.size + 1) (.int .i64 s.tasks) (.int .i64 s.most) (.int .i64 s.keep) (.int .i64 ((s.last : Int) + 1)) (.slice aa s.all.length ca))
        generalize store5 w1 (W.heap.size + 1) (.int .i64 s.tasks) (.int .i64 s.most) (.int .i64 s.keep) (.int .i64 ((s.last : Int) + 1)) (.slice aa s.all.length ca) = wz at r1 hBz hnz ⊢
        have g0 : wz.cell? ⟨W.heap.size + 1, 0, none⟩ = some (.int .i64 s.tasks) := mem_cells r1 0
        have g1 : wz.cell? ⟨W.heap.size + 1, 1, none⟩ = some (.int .i64 s.most) := mem_cells r1 1
        have g2 : wz.cell? ⟨W.heap.size + 1, 2, none⟩ = some (.int .i64 s.keep) := mem_cells r1 2
        have g3 : wz.cell? ⟨W.heap.size + 1, 3, none⟩ = some (.int .i64 ((s.last : Int) + 1)) := mem_cells r1 3
        have g4 : wz.cell? ⟨W.heap.size + 1, 4, none⟩ = some (.slice aa s.all.length ca) := mem_cells r1 4
        exact bodyPost_ret (v := .tuple #[.agg #[.int .i64 s.tasks, .int .i64 s.most, .int .i64 s.keep, .int .i64 ((s.last : Int) + 1), .slice aa s.all.length ca], .int .i64 0, .int .i64 10]) (by simp [results, Tryz.results16, go_sem, g0, g1, g2, g3, g4]) rfl ⟨.slice aa s.all.length ca, hBz, by rw [HS.out, HAE.out], by rw [HS.out]; exact HRS.out.mono (joinM_le HM.out)⟩
      | false =>
        go_wp2_with fail
        go_loopw [7] (fun iv wr => ∃ j : Nat, j ≤ s.all.length ∧ iv = .int .i64 j ∧ wr = w1 ∧ Hid (∀ x ∈ s.all.take j, (x.2.name.toList == nm.toList) = false)) (fun iv _ => s.all.length - (intOf iv).toNat)
        case atStart => exact ⟨0, by omega, rfl, rfl, Lib.hid (by simp)⟩
        case round =>
          obtain ⟨j, hj, rfl, rfl, HT⟩ := hrel
          by_cases hlt : j < s.all.length
          · obtain ⟨b, o, s1, s2, s3, e, ⟨-, g1, -⟩, -⟩ := rsn_at (HA.out _ HF1.out.bl) hlt
            subst e
            have e1 : wr.cell? ⟨b, o + j * 6 + 1, none⟩ = some (.string s.all[j].2.name) := g1
            have HN := Lib.hid (fun (e : (s.all[j].2.name.toList == nm.toList) = false) => (show ∀ x ∈ s.all.take (j + 1), (x.2.name.toList == nm.toList) = false from fun x hx => by
              rw [List.take_succ_eq_append_getElem hlt] at hx
              rcases List.mem_append.1 hx with hx | hx
              · exact HT.out x hx
              · simp at hx; subst hx; exact e))
            have HM2 := Lib.hid (fun (e : (s.all[j].2.name.toList == nm.toList) = true) => (show 0 < (s.those (fun t => t.name.toList == nm.toList)).length from by
              unfold VS.those
              rw [List.length_map]
              exact List.length_pos_iff.2 (List.ne_nil_of_mem (List.mem_filter.2 ⟨List.getElem_mem hlt, e⟩))))
            clear g1
            generalize s.all[j].2.name = yn at *
            cases he : (yn.toList == nm.toList) with
            | true =>
              have HM3 := Lib.hid (decide_eq_true (HM2.out he))
              have HAE := Lib.hid (show trigAns s nm = (0, 6) from by rw [HAN.out, hp, HM3.out]; simp [*])
              have HS := Lib.hid (show s.trigged nm = s from HFG.out.trans (if_neg (by rw [HAE.out]; decide)))
              clear HAN HN HM2 HM3
              go_wp2
              have r1 := store5_block HF1.out.rs (.int .i64 s.tasks) (.int .i64 s.most) (.int .i64 s.keep) (.int .i64 ((s.last : Int) + 1)) (.slice (some ⟨b, o, none⟩) s.all.length ca)
              have hBz := store5_below HF1.out.bl (Nat.le_succ _) (.int .i64 s.tasks) (.int .i64 s.most) (.int .i64 s.keep) (.int .i64 ((s.last : Int) + 1)) (.slice (some ⟨b, o, none⟩) s.all.length ca)
              have hnz : (nw W wr).le (nw W (store5 wr (W.heap.size + 1) (.int .i64 s.tasks) (.int .i64 s.most) (.int .i64 s.keep) (.int .i64 ((s.last : Int) + 1)) (.slice (some ⟨b, o, none⟩) s.all.length ca))) := nw_store5 (.int .i64 s.tasks) (.int .i64 s.most) (.int .i64 s.keep) (.int .i64 ((s.last : Int) + 1)) (.slice (some ⟨b, o, none⟩) s.all.length ca)
              show bodyPost _ _ _ _ _ (store5 wr (W.heap.size + 1) (.int .i64 s.tasks) (.int .i64 s.most) (.int .i64 s.keep) (.int .i64 ((s.last : Int) + 1)) (.slice (some ⟨b, o, none⟩) s.all.length ca))
              generalize store5 wr (W.heap.size + 1) (.int .i64 s.tasks) (.int .i64 s.most) (.int .i64 s.keep) (.int .i64 ((s.last : Int) + 1)) (.slice (some ⟨b, o, none⟩) s.all.length ca) = wz at r1 hBz hnz ⊢
              have g0 : wz.cell? ⟨W.heap.size + 1, 0, none⟩ = some (.int .i64 s.tasks) := mem_cells r1 0
              have g1 : wz.cell? ⟨W.heap.size + 1, 1, none⟩ = some (.int .i64 s.most) := mem_cells r1 1
              have g2 : wz.cell? ⟨W.heap.size + 1, 2, none⟩ = some (.int .i64 s.keep) := mem_cells r1 2
              have g3 : wz.cell? ⟨W.heap.size + 1, 3, none⟩ = some (.int .i64 ((s.last : Int) + 1)) := mem_cells r1 3
              have g4 : wz.cell? ⟨W.heap.size + 1, 4, none⟩ = some (.slice (some ⟨b, o, none⟩) s.all.length ca) := mem_cells r1 4
              exact bodyPost_ret (v := .tuple #[.agg #[.int .i64 s.tasks, .int .i64 s.most, .int .i64 s.keep, .int .i64 ((s.last : Int) + 1), .slice (some ⟨b, o, none⟩) s.all.length ca], .int .i64 0, .int .i64 6]) (by simp [results, Tryz.results16, go_sem, g0, g1, g2, g3, g4]) rfl ⟨.slice (some ⟨b, o, none⟩) s.all.length ca, hBz, by rw [HS.out, HAE.out], by rw [HS.out]; exact HRS.out.mono (joinM_le HM.out)⟩
            | false =>
              have HNX := Lib.hid (HN.out he)
              clear HN HM2
              go_wp2
              go_roundw
              case rel => exact ⟨j + 1, by omega, by go_num, by first | rfl | trivial, HNX⟩
              case measure => simp [intOf]; omega
          · obtain rfl : j = s.all.length := by omega
            rw [List.take_length] at HT
            have HNO := Lib.hid (show (!(nm.toList == []) && decide (0 < (s.those (fun t => t.name.toList == nm.toList)).length)) = false from by
              have h0 : s.those (fun t => t.name.toList == nm.toList) = [] := by
                unfold VS.those
                rw [List.filter_eq_nil_iff.2 (fun x hx => by have := HT.out x hx; simpa using this)]
                rfl
              rw [h0]; simp)
            have HAX := Lib.hid (show trigAns s nm = ((s.last : Int) + 1, 0) from by
              rw [HAN.out, hp, HNO.out]
              simp only [Bool.false_eq_true, if_false]
              rw [if_neg (by simp [*]), if_neg (by have := hla'; omega)])
            clear HAN HNO HNM
            go_wp2_with fail
            have hT40 : s.tasks ≤ 1000 := by have := HOK.out.t40; omega
            have hSb : (Sn.new s.tasks nm).bits = List.replicate s.tasks false := by simp [Sn.new, Sn.bits]
            have hSt : (Sn.new s.tasks nm).texts = List.replicate s.tasks .empty := by simp [Sn.new, Sn.texts]
            have hXd : .bool false = Value.bool (newX s nm).2.done := by
              have h1 := HOK.out.t1
              simp only [newX, Sn.new, Sn.done, List.all_replicate]
              simp [show s.tasks ≠ 0 by omega]
            have hXi : inI64 (newX s nm).1 ∧ (newX s nm).2.name.size ≤ maxLen := ⟨by unfold inI64; simp only [newX]; have := hla'; omega, hnm⟩
            have hSe : (Sn.new s.tasks nm).rents = List.replicate s.tasks [] := by simp [Sn.new, Sn.rents]
            refine wp_region_inv (by kernel_rfl) (by kernel_rfl) (by kernel_rfl) (TJ W M s nm aa ca) ?start (AllAt.all ?steps) ?ends
            case start =>
              exact ⟨⟨_, HF1.out.pure (Below.refl _ _).drew, fun _ => rfl, fun e => (by cases e)⟩, fun k e => (by cases e), fun e => (by cases e), fun e => (by cases e), fun e => (by cases e), fun k e => by cases e⟩
            case steps =>
              clear HF1 c0 c1 c2 c3 c4 cz d0 d1 d2 d3 d4 dz HA HRW HRS HFG HAX hp
              refine AllAt.cons 1 ?s0 (AllAt.cons 2 ?s1 (AllAt.cons 3 ?s2 (AllAt.cons 4 ?s3 (AllAt.cons 5 ?s4 (AllAt.cons 6 ?s5 (AllAt.cons 7 ?s6 (AllAt.cons 8 ?s7 (AllAt.cons 9 ?s8 (AllAt.cons 10 ?s9 (AllAt.cons 11 ?s10 (AllAt.cons 12 ?s11 (AllAt.cons 13 ?s12 (AllAt.cons 14 ?s13 (AllAt.cons 15 ?s14 (AllAt.cons 16 ?s15 (AllAt.cons 17 ?s16 (AllAt.cons 18 ?s17 (AllAt.cons 19 ?s18 (AllAt.cons 20 ?s19 (AllAt.nil) rfl) rfl) rfl) rfl) rfl) rfl) rfl) rfl) rfl) rfl) rfl) rfl) rfl) rfl) rfl) rfl) rfl) rfl) rfl) rfl
              case s0 =>
                intro L f a wz hJ hLi hdep hv h0 K hK
                have hsz := hJ.size
                refine step_val rfl (v := .slice (some ⟨wz.heap.size, 0, none⟩) 0 0) (w' := wz.alloc (.cells #[] 102)) ?_ (hK _ _ (hJ.add (by decide) (by decide) (by decide) (box_below wz _) (fun _ => ⟨wz.heap.size, rfl, heap_alloc_new wz _, hsz⟩)))
                clear hJ hdep hv h0 hK
                simp [go_sem, execOp]
              case s1 =>
                intro L f a wz hJ hLi hdep hv h0 K hK
                have e2 : a.eval (.tmp 2) = .pointer (some ⟨W.heap.size, 0, none⟩) := (h0 2 (noDst_spec (by kernel_rfl))).trans rfl
                refine step_val rfl (v := .pointer (some ⟨W.heap.size, 4, none⟩)) (w' := wz) ?_ (hK _ _ (hJ.add (by decide) (by decide) (by decide) (Below.refl _ _) (show _ = _ from rfl)))
                clear hJ hdep hv h0 hK
                generalize a.eval = ρ at *
                simp [go_sem, execOp, *]
              case s2 =>
                intro L f a wz hJ hLi hdep hv h0 K hK
                have hL1 := hdep 1 (List.mem_of_elem_eq_true (by kernel_rfl))
                have e47 := (hv 1 47 rfl hL1).trans (hJ.vs 1 hL1)
                have c4 := hJ.cell4 hLi
                refine step_val rfl (v := .slice aa s.all.length ca) (w' := wz) ?_ (hK _ _ (hJ.add (by decide) (by decide) (by decide) (Below.refl _ _) (show _ = _ from rfl)))
                clear hJ hdep hv h0 hK
                generalize a.eval = ρ at *
                simp [go_sem, execOp, *]
              case s3 =>
                intro L f a wz hJ hLi hdep hv h0 K hK
                have hL0 := hdep 0 (List.mem_of_elem_eq_true (by kernel_rfl))
                have hL2 := hdep 2 (List.mem_of_elem_eq_true (by kernel_rfl))
                have hL17 : L 17 = false := by
                  cases e : L 17 with
                  | false => rfl
                  | true => rw [hJ.c17 e] at hLi; cases hLi
                obtain ⟨b0, hb0, hb1, hb2⟩ := hJ.vs 0 hL0 hLi
                have e46 := (hv 0 46 rfl hL0).trans hb0
                have e48 := (hv 2 48 rfl hL2).trans (hJ.vs 2 hL2)
                obtain ⟨u, hF, -, -⟩ := hJ.st
                refine step_append_os rfl (.tmp 46) (.tmp 48) 29 rfl (tIn M tRSn) (tIn_flat M tRSn) (tRSn_one M) Tryz.underlying29 infoRSn rfl (Nat.succ_pos 5) _ [] s.all e46 (lit0_of _ hb1) _ _ _ e48 rfl (slice_to HQ.out (Mem.le_trans HM.out (below_mem hF.bl))) (by have := HAL.out; simp; unfold maxLen; omega) (by have := HAL.out; simp; omega) ?_
                intro v5 w5 own5 happ
                rw [List.nil_append] at own5
                exact hK _ _ (hJ.add3 hLi hL0 hL2 own5 (by rw [hb0]; exact happ))
              case s4 =>
                intro L f a wz hJ hLi hdep hv h0 K hK
                have e8 : a.eval (.tmp 8) = .int .i64 ((s.last : Int) + 1) := (h0 8 (noDst_spec (by kernel_rfl))).trans rfl
                refine step_val rfl (v := .int .i64 ((s.last : Int) + 1)) (w' := wz) ?_ (hK _ _ (hJ.add (by decide) (by decide) (by decide) (Below.refl _ _) (show _ = _ from rfl)))
                clear hJ hdep hv h0 hK
                generalize a.eval = ρ at *
                simp [go_sem, execOp, *]
              case s5 =>
                intro L f a wz hJ hLi hdep hv h0 K hK
                have e1 : a.eval (.tmp 1) = .string nm := (h0 1 (noDst_spec (by kernel_rfl))).trans rfl
                refine step_val rfl (v := .string nm) (w' := wz) ?_ (hK _ _ (hJ.add (by decide) (by decide) (by decide) (Below.refl _ _) (show _ = _ from rfl)))
                clear hJ hdep hv h0 hK
                generalize a.eval = ρ at *
                simp [go_sem, execOp, *]
              case s6 =>
                intro L f a wz hJ hLi hdep hv h0 K hK
                have e2 : a.eval (.tmp 2) = .pointer (some ⟨W.heap.size, 0, none⟩) := (h0 2 (noDst_spec (by kernel_rfl))).trans rfl
                refine step_val rfl (v := .pointer (some ⟨W.heap.size, 0, none⟩)) (w' := wz) ?_ (hK _ _ (hJ.add (by decide) (by decide) (by decide) (Below.refl _ _) (show _ = _ from rfl)))
                clear hJ hdep hv h0 hK
                generalize a.eval = ρ at *
                simp [go_sem, execOp, *]
              case s7 =>
                intro L f a wz hJ hLi hdep hv h0 K hK
                have hL6 := hdep 6 (List.mem_of_elem_eq_true (by kernel_rfl))
                have e52 := (hv 6 52 rfl hL6).trans (hJ.vs 6 hL6)
                have c0 := hJ.cell0
                refine step_val rfl (v := .int .i64 s.tasks) (w' := wz) ?_ (hK _ _ (hJ.add (by decide) (by decide) (by decide) (Below.refl _ _) (show _ = _ from rfl)))
                clear hJ hdep hv h0 hK
                generalize a.eval = ρ at *
                simp [go_sem, execOp, *]
              case s8 =>
                intro L f a wz hJ hLi hdep hv h0 K hK
                have hL7 := hdep 7 (List.mem_of_elem_eq_true (by kernel_rfl))
                have e53 := (hv 7 53 rfl hL7).trans (hJ.vs 7 hL7)
                have hmk := make_any (T := 100) (e := 4) rfl infoBool1 rfl (by decide) s.tasks hT40 wz
                refine step_val rfl (v := .slice (some ⟨wz.heap.size, 0, none⟩) s.tasks s.tasks) (w' := wz.alloc (.cells (madeCells #[.bool false] s.tasks) 4)) ?_ (hK _ _ (hJ.add (by decide) (by decide) (by decide) (box_below wz _) ⟨_, rfl, hSb ▸ hJ.made (by rfl) (t := tBool) (fun _ => rfl) hT40⟩))
                clear hJ hdep hv h0 hK
                generalize a.eval = ρ at *
                simp [go_sem, execOp, e53, hmk]
              case s9 =>
                intro L f a wz hJ hLi hdep hv h0 K hK
                have e2 : a.eval (.tmp 2) = .pointer (some ⟨W.heap.size, 0, none⟩) := (h0 2 (noDst_spec (by kernel_rfl))).trans rfl
                refine step_val rfl (v := .pointer (some ⟨W.heap.size, 0, none⟩)) (w' := wz) ?_ (hK _ _ (hJ.add (by decide) (by decide) (by decide) (Below.refl _ _) (show _ = _ from rfl)))
                clear hJ hdep hv h0 hK
                generalize a.eval = ρ at *
                simp [go_sem, execOp, *]
              case s10 =>
                intro L f a wz hJ hLi hdep hv h0 K hK
                have hL9 := hdep 9 (List.mem_of_elem_eq_true (by kernel_rfl))
                have e55 := (hv 9 55 rfl hL9).trans (hJ.vs 9 hL9)
                have c0 := hJ.cell0
                refine step_val rfl (v := .int .i64 s.tasks) (w' := wz) ?_ (hK _ _ (hJ.add (by decide) (by decide) (by decide) (Below.refl _ _) (show _ = _ from rfl)))
                clear hJ hdep hv h0 hK
                generalize a.eval = ρ at *
                simp [go_sem, execOp, *]
              case s11 =>
                intro L f a wz hJ hLi hdep hv h0 K hK
                have hL10 := hdep 10 (List.mem_of_elem_eq_true (by kernel_rfl))
                have e56 := (hv 10 56 rfl hL10).trans (hJ.vs 10 hL10)
                have hmk := make_any (T := 71) (e := 9) rfl infoStr1 rfl (by decide) s.tasks hT40 wz
                refine step_val rfl (v := .slice (some ⟨wz.heap.size, 0, none⟩) s.tasks s.tasks) (w' := wz.alloc (.cells (madeCells #[.string .empty] s.tasks) 9)) ?_ (hK _ _ (hJ.add (by decide) (by decide) (by decide) (box_below wz _) ⟨_, rfl, hSt ▸ hJ.made (by rfl) (t := tStr) (fun _ => ⟨rfl, Nat.zero_le _⟩) hT40⟩))
                clear hJ hdep hv h0 hK
                generalize a.eval = ρ at *
                simp [go_sem, execOp, e56, hmk]
              case s12 =>
                intro L f a wz hJ hLi hdep hv h0 K hK
                have e2 : a.eval (.tmp 2) = .pointer (some ⟨W.heap.size, 0, none⟩) := (h0 2 (noDst_spec (by kernel_rfl))).trans rfl
                refine step_val rfl (v := .pointer (some ⟨W.heap.size, 0, none⟩)) (w' := wz) ?_ (hK _ _ (hJ.add (by decide) (by decide) (by decide) (Below.refl _ _) (show _ = _ from rfl)))
                clear hJ hdep hv h0 hK
                generalize a.eval = ρ at *
                simp [go_sem, execOp, *]
              case s13 =>
                intro L f a wz hJ hLi hdep hv h0 K hK
                have hL12 := hdep 12 (List.mem_of_elem_eq_true (by kernel_rfl))
                have e58 := (hv 12 58 rfl hL12).trans (hJ.vs 12 hL12)
                have c0 := hJ.cell0
                refine step_val rfl (v := .int .i64 s.tasks) (w' := wz) ?_ (hK _ _ (hJ.add (by decide) (by decide) (by decide) (Below.refl _ _) (show _ = _ from rfl)))
                clear hJ hdep hv h0 hK
                generalize a.eval = ρ at *
                simp [go_sem, execOp, *]
              case s14 =>
                intro L f a wz hJ hLi hdep hv h0 K hK
                have hL13 := hdep 13 (List.mem_of_elem_eq_true (by kernel_rfl))
                have e59 := (hv 13 59 rfl hL13).trans (hJ.vs 13 hL13)
                have hmk := make_any (T := 66) (e := 34) rfl infoEs1 rfl (by decide) s.tasks hT40 wz
                refine step_val rfl (v := .slice (some ⟨wz.heap.size, 0, none⟩) s.tasks s.tasks) (w' := wz.alloc (.cells (madeCells #[.slice none 0 0] s.tasks) 34)) ?_ (hK _ _ (hJ.add (by decide) (by decide) (by decide) (box_below wz _) ⟨_, rfl, hSe ▸ hJ.made (by rfl) (t := tEnts) (fun m => slice_nil _ _) hT40⟩))
                clear hJ hdep hv h0 hK
                generalize a.eval = ρ at *
                simp [go_sem, execOp, e59, hmk]
              case s15 =>
                intro L f a wz hJ hLi hdep hv h0 K hK
                have hL4 := hdep 4 (List.mem_of_elem_eq_true (by kernel_rfl))
                have hL5 := hdep 5 (List.mem_of_elem_eq_true (by kernel_rfl))
                have hL8 := hdep 8 (List.mem_of_elem_eq_true (by kernel_rfl))
                have hL11 := hdep 11 (List.mem_of_elem_eq_true (by kernel_rfl))
                have hL14 := hdep 14 (List.mem_of_elem_eq_true (by kernel_rfl))
                have e50 := (hv 4 50 rfl hL4).trans (hJ.vs 4 hL4)
                have e51 := (hv 5 51 rfl hL5).trans (hJ.vs 5 hL5)
                obtain ⟨a8, e8, r8⟩ := hJ.vs 8 hL8
                obtain ⟨a11, e11, r11⟩ := hJ.vs 11 hL11
                obtain ⟨a14, e14, r14⟩ := hJ.vs 14 hL14
                have e54 := (hv 8 54 rfl hL8).trans e8
                have e57 := (hv 11 57 rfl hL11).trans e11
                have e60 := (hv 14 60 rfl hL14).trans e14
                rw [e8] at r8
                rw [e11] at r11
                rw [e14] at r14
                refine step_val rfl (v := .agg #[.int .i64 ((s.last : Int) + 1), .string nm, .bool false, .slice a8 s.tasks s.tasks, .slice a11 s.tasks s.tasks, .slice a14 s.tasks s.tasks]) (w' := wz) ?_ (hK _ _ (hJ.add (by decide) (by decide) (by decide) (Below.refl _ _) ⟨a8, a11, a14, rfl, ⟨_, _, _, by rw [← hXd]; rfl, hXi, r8, r11, r14⟩⟩))
                clear hJ hdep hv h0 hK
                generalize a.eval = ρ at *
                simp [go_sem, execOp, e50, e51, e54, e57, e60]
              case s16 =>
                intro L f a wz hJ hLi hdep hv h0 K hK
                have hL15 := hdep 15 (List.mem_of_elem_eq_true (by kernel_rfl))
                obtain ⟨a1, a2, a3, e15, r15⟩ := hJ.vs 15 hL15
                have e61 := (hv 15 61 rfl hL15).trans e15
                have hsz := hJ.size
                have how := hJ.ow
                refine step_val rfl (v := .slice (some ⟨wz.heap.size, 0, none⟩) 1 1) (w' := wz.alloc (.cells #[.int .i64 ((s.last : Int) + 1), .string nm, .bool false, .slice a1 s.tasks s.tasks, .slice a2 s.tasks s.tasks, .slice a3 s.tasks s.tasks] 102)) ?_ (hK _ _ (hJ.add (by decide) (by decide) (by decide) (box_below wz _) ⟨_, 1, rfl, new_row hsz how r15⟩))
                clear hJ hdep hv h0 hK
                generalize a.eval = ρ at *
                simp [go_sem, execOp, e61]
              case s17 =>
                intro L f a wz hJ hLi hdep hv h0 K hK
                have hL3 := hdep 3 (List.mem_of_elem_eq_true (by kernel_rfl))
                have hL16 := hdep 16 (List.mem_of_elem_eq_true (by kernel_rfl))
                obtain ⟨a, cp, e16, r16⟩ := hJ.vs 16 hL16
                obtain ⟨o3, -⟩ := hJ.vs 3 hL3 hLi
                have e49 := hv 3 49 rfl hL3
                have e62 := (hv 16 62 rfl hL16).trans e16
                rw [e16] at r16
                refine step_append_os rfl (.tmp 49) (.tmp 62) 29 rfl (tIn (joinN M W (NM W (cx L f) wz)) tRSn) (tIn_flat _ tRSn) (tRSn_one _) Tryz.underlying29 infoRSn rfl (Nat.succ_pos 5) _ s.all [newX s nm] e49 (o3.re (joinN_of _ HM.out)) _ _ _ e62 rfl (slice_to2 r16 NM_le NM_join) (by have := HAL.out; simp; unfold maxLen; omega) (by have := HAL.out; simp; omega) ?_
                intro v5 w5 own5 happ
                exact hK _ _ (hJ.add17 hLi hL3 own5 happ)
              case s18 =>
                intro L f a wz hJ hLi hdep hv h0 K hK
                have e2 : a.eval (.tmp 2) = .pointer (some ⟨W.heap.size, 0, none⟩) := (h0 2 (noDst_spec (by kernel_rfl))).trans rfl
                refine step_val rfl (v := .pointer (some ⟨W.heap.size, 4, none⟩)) (w' := wz) ?_ (hK _ _ (hJ.add (by decide) (by decide) (by decide) (Below.refl _ _) (show _ = _ from rfl)))
                clear hJ hdep hv h0 hK
                generalize a.eval = ρ at *
                simp [go_sem, execOp, *]
              case s19 =>
                intro L f a wz hJ hLi hdep hv h0 K hK
                have hL17 := hdep 17 (List.mem_of_elem_eq_true (by kernel_rfl))
                have hL18 := hdep 18 (List.mem_of_elem_eq_true (by kernel_rfl))
                obtain ⟨⟨u, c4⟩, z4⟩ := hJ.some4
                obtain ⟨a17, cp17, e17, -⟩ := hJ.vs 17 hL17
                have e63 := (hv 17 63 rfl hL17).trans e17
                have e64 := (hv 18 64 rfl hL18).trans (hJ.vs 18 hL18)
                have hk := hK undef _ (hJ.add19 hL17 undef)
                rw [e17] at hk
                refine step_skip rfl ?_ hk
                clear hJ hdep hv h0 hK hk
                generalize a.eval = ρ at *
                simp [go_sem, execOp, e63, e64, c4, z4]
            case ends =>
              intro L f w5 hJ hall
              obtain ⟨u, hF5, -, hu⟩ := hJ.st
              obtain ⟨a5, c5, rfl, hr5⟩ := hu (hall 19 (by decide))
              have HF5 := Lib.hid hF5
              have HR5 := Lib.hid hr5
              clear hF5 hr5 hu hJ hall c0 c1 c2 c3 c4 cz d0 d1 d2 d3 d4 dz HF1 hSb hSt hSe hXd hXi
              have c0 : w5.cell? ⟨W.heap.size, 0, none⟩ = some (.int .i64 s.tasks) := HF5.out.cells.1
              have c1 : w5.cell? ⟨W.heap.size, 1, none⟩ = some (.int .i64 s.most) := HF5.out.cells.2.1
              have c2 : w5.cell? ⟨W.heap.size, 2, none⟩ = some (.int .i64 s.keep) := HF5.out.cells.2.2.1
              have c3 : w5.cell? ⟨W.heap.size, 3, none⟩ = some (.int .i64 ((s.last : Int) + 1)) := HF5.out.cells.2.2.2.1
              have c4 : w5.cell? ⟨W.heap.size, 4, none⟩ = some (.slice a5 (s.all.length + 1) c5) := HF5.out.cells.2.2.2.2
              have cz : ∀ o, w5.frozen? ⟨W.heap.size, o, none⟩ = false := HF5.out.thaw
              have d0 : w5.cell? ⟨W.heap.size + 1, 0, none⟩ = some (.int .i64 0) := HF5.out.res.1
              have d1 : w5.cell? ⟨W.heap.size + 1, 1, none⟩ = some (.int .i64 0) := HF5.out.res.2.1
              have d2 : w5.cell? ⟨W.heap.size + 1, 2, none⟩ = some (.int .i64 0) := HF5.out.res.2.2.1
              have d3 : w5.cell? ⟨W.heap.size + 1, 3, none⟩ = some (.int .i64 0) := HF5.out.res.2.2.2.1
              have d4 : w5.cell? ⟨W.heap.size + 1, 4, none⟩ = some (.slice none 0 0) := HF5.out.res.2.2.2.2.1
              have dz : ∀ o, w5.frozen? ⟨W.heap.size + 1, o, none⟩ = false := HF5.out.res.2.2.2.2.2
              simp only [putAll, Exit.then]
              go_at_K
              have HS := Lib.hid (show s.trigged nm = s.trig nm from HFG.out.trans (if_pos (by rw [HAX.out])))
              have HF9 := Lib.hid (HF5.out.set3 (.int .i64 ((s.last : Int) + 1 + 1)))
              have HN9 := Lib.hid (jn_set (M := M) (W := W) (w := w5) (b := W.heap.size) (o := 3) (u := .int .i64 ((s.last : Int) + 1 + 1)) (by omega))
              have HV9 := Lib.hid (show rvV (s.trig nm) (.slice a5 (s.all.length + 1) c5) = .agg #[.int .i64 s.tasks, .int .i64 s.most, .int .i64 s.keep, .int .i64 ((s.last : Int) + 1 + 1), .slice a5 (s.all.length + 1) c5] from by
                show Value.agg #[.int .i64 s.tasks, .int .i64 s.most, .int .i64 s.keep, .int .i64 (((s.last + 1 : Nat) : Int) + 1), .slice a5 (s.all.length + 1) c5] = _
                rw [Int.natCast_add]; rfl)
              have HO9 := Lib.hid (show RV (jn M W (w5.setCell ⟨W.heap.size, 3, none⟩ (.int .i64 ((s.last : Int) + 1 + 1)))) (s.trig nm) (.slice a5 (s.all.length + 1) c5) from ⟨(tSlice tRSn).mono _ _ _ _ HN9.out HR5.out, HOK.out.trig hla' hnm⟩)
              go_wp2
              have r1 := store5_block HF9.out.rs (.int .i64 s.tasks) (.int .i64 s.most) (.int .i64 s.keep) (.int .i64 ((s.last : Int) + 1 + 1)) (.slice a5 (s.all.length + 1) c5)
              have hBz := store5_below HF9.out.bl (Nat.le_succ _) (.int .i64 s.tasks) (.int .i64 s.most) (.int .i64 s.keep) (.int .i64 ((s.last : Int) + 1 + 1)) (.slice a5 (s.all.length + 1) c5)
              have hnz : (nw W (w5.setCell ⟨W.heap.size, 3, none⟩ (.int .i64 ((s.last : Int) + 1 + 1)))).le (nw W (store5 (w5.setCell ⟨W.heap.size, 3, none⟩ (.int .i64 ((s.last : Int) + 1 + 1))) (W.heap.size + 1) (.int .i64 s.tasks) (.int .i64 s.most) (.int .i64 s.keep) (.int .i64 ((s.last : Int) + 1 + 1)) (.slice a5 (s.all.length + 1) c5))) := nw_store5 (.int .i64 s.tasks) (.int .i64 s.most) (.int .i64 s.keep) (.int .i64 ((s.last : Int) + 1 + 1)) (.slice a5 (s.all.length + 1) c5)
              show bodyPost _ _ _ _ _ (store5 (w5.setCell ⟨W.heap.size, 3, none⟩ (.int .i64 ((s.last : Int) + 1 + 1))) (W.heap.size + 1) (.int .i64 s.tasks) (.int .i64 s.most) (.int .i64 s.keep) (.int .i64 ((s.last : Int) + 1 + 1)) (.slice a5 (s.all.length + 1) c5))
              generalize store5 (w5.setCell ⟨W.heap.size, 3, none⟩ (.int .i64 ((s.last : Int) + 1 + 1))) (W.heap.size + 1) (.int .i64 s.tasks) (.int .i64 s.most) (.int .i64 s.keep) (.int .i64 ((s.last : Int) + 1 + 1)) (.slice a5 (s.all.length + 1) c5) = wz at r1 hBz hnz ⊢
              have g0 : wz.cell? ⟨W.heap.size + 1, 0, none⟩ = some (.int .i64 s.tasks) := mem_cells r1 0
              have g1 : wz.cell? ⟨W.heap.size + 1, 1, none⟩ = some (.int .i64 s.most) := mem_cells r1 1
              have g2 : wz.cell? ⟨W.heap.size + 1, 2, none⟩ = some (.int .i64 s.keep) := mem_cells r1 2
              have g3 : wz.cell? ⟨W.heap.size + 1, 3, none⟩ = some (.int .i64 ((s.last : Int) + 1 + 1)) := mem_cells r1 3
              have g4 : wz.cell? ⟨W.heap.size + 1, 4, none⟩ = some (.slice a5 (s.all.length + 1) c5) := mem_cells r1 4
              exact bodyPost_ret (v := .tuple #[.agg #[.int .i64 s.tasks, .int .i64 s.most, .int .i64 s.keep, .int .i64 ((s.last : Int) + 1 + 1), .slice a5 (s.all.length + 1) c5], .int .i64 ((s.last : Int) + 1), .int .i64 0]) (by simp [results, Tryz.results16, go_sem, g0, g1, g2, g3, g4]) rfl ⟨.slice a5 (s.all.length + 1) c5, hBz, by rw [HS.out, HAX.out, HV9.out], by rw [HS.out]; exact HO9.out.mono (jn_join HM.out hnz)⟩
end Go.Proofs.YtnfolemblnnejaaGreat
/- The reference of a vault: R12.ValidEntry, SameInts, SameTexts. -/
namespace Go.Proofs.YtnfolemblnnejaaGreat
open Go.RowKit Go.Maps

set_option maxHeartbeats 4000000 in
theorem refValid_any (x : Ent) (w : World) (hok : x.okE) :
    Calls Tryz.prog 54 #[x.v] w fun e w' => e = .returned (.bool (validE x)) ∧ Below w.heap.size w w' := by
  obtain ⟨g, nm, key, val⟩ := x
  obtain ⟨s0, s1, s2, s3⟩ := hok
  have HB0 := Lib.hid (fun o => (show Below w.heap.size w (w.alloc o) from (Below.refl _ _).alloc (Nat.le_refl _) o))
  have HV := Lib.hid (show validE ⟨g, nm, key, val⟩ = (decide (0 ≤ g ∧ g < 128) && (isName nm && (!big key && !big val))) from rfl)
  have HN := Lib.hid (fun w => refName_any nm w s1)
  have hk1 : (key.size : Int) ≤ 9223372036854775807 := by have s2' : key.size ≤ maxLen := s2; unfold maxLen at s2'; omega
  have hv1 : (val.size : Int) ≤ 9223372036854775807 := by have s3' : val.size ≤ maxLen := s3; unfold maxLen at s3'; omega
  have HK := Lib.hid (show big key = decide (65536 < key.size) from rfl)
  have HL := Lib.hid (show big val = decide (65536 < val.size) from rfl)
  generalize validE ⟨g, nm, key, val⟩ = r at *
  clear s1 s2 s3
  by_cases h0 : 0 ≤ g
  case neg =>
    have HR := Lib.hid (show r = false by rw [HV.out, decide_eq_false (by omega)]; rfl)
    clear HK HL HV
    go_enter Tryz.func54, Tryz.ntmps54
    go_wp2
    go_ret
    exact ⟨by rw [HR.out] <;> rfl, HB0.out _⟩
  by_cases h1 : g < 128
  case neg =>
    have HR := Lib.hid (show r = false by rw [HV.out, decide_eq_false (by omega)]; rfl)
    clear HK HL HV
    go_enter Tryz.func54, Tryz.ntmps54
    go_wp2
    go_ret
    exact ⟨by rw [HR.out] <;> rfl, HB0.out _⟩
  have HV2 := Lib.hid (show r = (isName nm && (!big key && !big val)) by rw [HV.out, decide_eq_true ⟨h0, h1⟩]; rfl)
  clear HV
  generalize isName nm = b1 at *
  go_enter Tryz.func54, Tryz.ntmps54
  go_wp2_with fail
  refine (HN.out _).mono ?_
  rintro e w1 ⟨rfl, rfl⟩
  cases b1 with
  | false =>
    have HR := Lib.hid (show r = false by rw [HV2.out]; rfl)
    clear HK HL HV2
    go_wp2
    go_ret
    exact ⟨by rw [HR.out] <;> rfl, HB0.out _⟩
  | true =>
  by_cases h2 : (key.size : Int) ≤ 65536
  case neg =>
    have HR := Lib.hid (show r = false by rw [HV2.out, HK.out, decide_eq_true (by omega)]; rfl)
    clear HK HL HV2
    go_wp2
    go_ret
    exact ⟨by rw [HR.out] <;> rfl, HB0.out _⟩
  by_cases h3 : (val.size : Int) ≤ 65536
  case neg =>
    have HR := Lib.hid (show r = false by rw [HV2.out, HK.out, decide_eq_false (by omega), HL.out, decide_eq_true (by omega)]; rfl)
    clear HK HL HV2
    go_wp2
    go_ret
    exact ⟨by rw [HR.out] <;> simp [show ¬ (val.size : Int) ≤ 65536 by omega] <;> omega, HB0.out _⟩
  have HR := Lib.hid (show r = true by rw [HV2.out, HK.out, decide_eq_false (by omega), HL.out, decide_eq_false (by omega)]; rfl)
  clear HK HL HV2
  go_wp2
  go_ret
  exact ⟨by rw [HR.out] <;> rfl, HB0.out _⟩
theorem tl_inj {p q : ByteArray} (h : p.toList = q.toList) : p = q := bl_inj (by simpa [bl, ByteArray.toList_eq] using h)
theorem below_drewN {B : Nat} {w wr : World} (h : Below B w wr) (n : Nat) : Below B w { wr with drawn := n } := ⟨h.os, h.tape, h.output, h.size, h.block⟩
set_option maxHeartbeats 1000000 in
theorem sameInts_any (xs ys : List Int) (u v : Value) (w : World) (hu : (tSlice tInt).rv (mem w) [u] xs) (hv : (tSlice tInt).rv (mem w) [v] ys) :
    Calls Tryz.prog 12 #[u, v] w fun e w' => e = .returned (.bool (decide (xs = ys))) ∧ Below w.heap.size w w' := by
  obtain ⟨a, cap, rfl, hl, hm, hu⟩ := slice_form hu
  obtain ⟨b, cap', rfl, hl', hm', hv⟩ := slice_form hv
  have hcap : cap ≤ 9223372036854775807 := by unfold maxLen at hm; exact hm
  have hcap' : cap' ≤ 9223372036854775807 := by unfold maxLen at hm'; exact hm'
  clear hm hm'
  by_cases hn : xs.length = ys.length
  · have hne : ((xs.length : Int) != (ys.length : Int)) = false := by simp [hn]
    have HN := Lib.hid hn
    have hle : ys.length ≤ xs.length := by omega
    have hle' : xs.length ≤ ys.length := by omega
    clear hn
    go_enter Tryz.func12, Tryz.ntmps12
    go_wp2
    go_loopw [5] (fun i wr => ∃ k : Nat, k ≤ xs.length ∧ i = .int .i64 k ∧ Hid (xs.take k = ys.take k) ∧ Below w.heap.size w wr) (fun i _ => xs.length - (intOf i).toNat)
    case atStart => exact ⟨0, by omega, rfl, Lib.hid rfl, Below.refl _ _⟩
    case round =>
      obtain ⟨k, hk, rfl, HT, hB⟩ := hrel
      by_cases hlt : k < xs.length
      · obtain ⟨b1, o1, rfl, hat⟩ := slice_at (t := tInt) hu hlt
        obtain ⟨b2, o2, rfl, hat2⟩ := slice_at (t := tInt) hv (show k < ys.length by omega)
        obtain ⟨hc, hin⟩ := int_at hat
        obtain ⟨hc2, hin2⟩ := int_at hat2
        have hc' : wr.cell? ⟨b1, o1 + k, none⟩ = some (.int .i64 xs[k]) := by
          have := (mem_of_block (hB.block b1 (mem_lt hc)) _).trans hc
          simpa [tInt, mem] using this
        have hc2' : wr.cell? ⟨b2, o2 + k, none⟩ = some (.int .i64 (ys[k]'(by omega))) := by
          have := (mem_of_block (hB.block b2 (mem_lt hc2)) _).trans hc2
          simpa [tInt, mem] using this
        have hlty : k < ys.length := by omega
        have HTx := Lib.hid (List.take_succ_eq_append_getElem hlt)
        have HTy := Lib.hid (List.take_succ_eq_append_getElem hlty)
        have HX := Lib.hid (show xs[k]? = some xs[k] from List.getElem?_eq_getElem hlt)
        have HY := Lib.hid (show ys[k]? = some ys[k] from List.getElem?_eq_getElem hlty)
        clear hc hc2 hat hat2 hu hv hin hin2
        generalize xs[k] = p at hc' HTx HX
        generalize ys[k]'hlty = q at hc2' HTy HY
        by_cases hpq : p = q
        · have hb : (p != q) = false := by simp [hpq]
          have HP := Lib.hid hpq
          clear hpq
          go_wp2
          go_region
          go_wp2
          go_roundw
          case rel => exact ⟨k + 1, by omega, by go_num, Lib.hid (by rw [HTx.out, HTy.out, HT.out, HP.out]), below_drewN hB _⟩
          case measure => simp [intOf]; omega
        · have hb : (p != q) = true := by simp [hpq]
          have HD := Lib.hid (show decide (xs = ys) = false by
            simp only [decide_eq_false_iff_not]
            intro e
            have h1 := HX.out; have h2 := HY.out
            rw [e, h2] at h1
            exact hpq (Option.some.inj h1).symm)
          clear hpq
          go_wp2
          go_region
          go_wp2
          go_ret
          exact ⟨by rw [HD.out]; rfl, below_drewN hB _⟩
      · obtain rfl : k = xs.length := by omega
        have HD := Lib.hid (show decide (xs = ys) = true by
          have := HT.out
          rw [List.take_length, List.take_of_length_le (by omega)] at this
          simpa using this)
        go_wp2
        go_ret
        exact ⟨by rw [HD.out]; rfl, hB⟩
  · have hne : ((xs.length : Int) != (ys.length : Int)) = true := by simp; omega
    have HD := Lib.hid (show decide (xs = ys) = false by simp only [decide_eq_false_iff_not]; intro e; exact hn (by rw [e]))
    clear hn
    go_enter Tryz.func12, Tryz.ntmps12
    go_wp2
    go_ret
    exact ⟨by rw [HD.out]; rfl, Below.refl _ _⟩
set_option maxHeartbeats 1000000 in
theorem sameTexts_any (xs ys : List ByteArray) (u v : Value) (w : World) (hu : (tSlice tStr).rv (mem w) [u] xs) (hv : (tSlice tStr).rv (mem w) [v] ys) :
    Calls Tryz.prog 38 #[u, v] w fun e w' => e = .returned (.bool (decide (xs = ys))) ∧ Below w.heap.size w w' := by
  obtain ⟨a, cap, rfl, hl, hm, hu⟩ := slice_form hu
  obtain ⟨b, cap', rfl, hl', hm', hv⟩ := slice_form hv
  have hcap : cap ≤ 9223372036854775807 := by unfold maxLen at hm; exact hm
  have hcap' : cap' ≤ 9223372036854775807 := by unfold maxLen at hm'; exact hm'
  clear hm hm'
  by_cases hn : xs.length = ys.length
  · have hne : ((xs.length : Int) != (ys.length : Int)) = false := by simp [hn]
    have HN := Lib.hid hn
    have hle : ys.length ≤ xs.length := by omega
    have hle' : xs.length ≤ ys.length := by omega
    clear hn
    go_enter Tryz.func38, Tryz.ntmps38
    go_wp2
    go_loopw [5] (fun i wr => ∃ k : Nat, k ≤ xs.length ∧ i = .int .i64 k ∧ Hid (xs.take k = ys.take k) ∧ Below w.heap.size w wr) (fun i _ => xs.length - (intOf i).toNat)
    case atStart => exact ⟨0, by omega, rfl, Lib.hid rfl, Below.refl _ _⟩
    case round =>
      obtain ⟨k, hk, rfl, HT, hB⟩ := hrel
      by_cases hlt : k < xs.length
      · obtain ⟨b1, o1, rfl, hc, -⟩ := str_cell hu hlt
        obtain ⟨b2, o2, rfl, hc2, -⟩ := str_cell hv (show k < ys.length by omega)
        have hc' : wr.cell? ⟨b1, o1 + k, none⟩ = some (.string xs[k]) := (mem_of_block (hB.block b1 (mem_lt hc)) _).trans hc
        have hc2' : wr.cell? ⟨b2, o2 + k, none⟩ = some (.string (ys[k]'(by omega))) := (mem_of_block (hB.block b2 (mem_lt hc2)) _).trans hc2
        have hlty : k < ys.length := by omega
        have HTx := Lib.hid (List.take_succ_eq_append_getElem hlt)
        have HTy := Lib.hid (List.take_succ_eq_append_getElem hlty)
        have HX := Lib.hid (show xs[k]? = some xs[k] from List.getElem?_eq_getElem hlt)
        have HY := Lib.hid (show ys[k]? = some ys[k] from List.getElem?_eq_getElem hlty)
        clear hc hc2 hu hv
        generalize xs[k] = p at hc' HTx HX
        generalize ys[k]'hlty = q at hc2' HTy HY
        by_cases hpq : p = q
        · have hb : (p.toList == q.toList) = true := by simp [hpq]
          have HP := Lib.hid hpq
          clear hpq
          go_wp2
          go_region
          go_wp2
          go_roundw
          case rel => exact ⟨k + 1, by omega, by go_num, Lib.hid (by rw [HTx.out, HTy.out, HT.out, HP.out]), below_drewN hB _⟩
          case measure => simp [intOf]; omega
        · have hb : (p.toList == q.toList) = false := by simp; exact fun e => hpq (tl_inj e)
          have HD := Lib.hid (show decide (xs = ys) = false by
            simp only [decide_eq_false_iff_not]
            intro e
            have h1 := HX.out; have h2 := HY.out
            rw [e, h2] at h1
            exact hpq (Option.some.inj h1).symm)
          clear hpq
          go_wp2
          go_region
          go_wp2
          go_ret
          exact ⟨by rw [HD.out]; rfl, below_drewN hB _⟩
      · obtain rfl : k = xs.length := by omega
        have HD := Lib.hid (show decide (xs = ys) = true by
          have := HT.out
          rw [List.take_length, List.take_of_length_le (by omega)] at this
          simpa using this)
        go_wp2
        go_ret
        exact ⟨by rw [HD.out]; rfl, hB⟩
  · have hne : ((xs.length : Int) != (ys.length : Int)) = true := by simp; omega
    have HD := Lib.hid (show decide (xs = ys) = false by simp only [decide_eq_false_iff_not]; intro e; exact hn (by rw [e]))
    clear hn
    go_enter Tryz.func38, Tryz.ntmps38
    go_wp2
    go_ret
    exact ⟨by rw [HD.out]; rfl, Below.refl _ _⟩
end Go.Proofs.YtnfolemblnnejaaGreat
/- Chapter 24's example. -/
namespace Go.Proofs.YtnfolemblnnejaaGreat
open Go.RowKit Go.Maps

abbrev xS : ByteArray := ⟨#[120]⟩
abbrev yS : ByteArray := ⟨#[121]⟩
def awStep (s : VS) (k : Int) : VS := ((s.trigged ⟨#[]⟩).told k 0 (xS, [])).told k 1 (yS, [])
def awS : Nat → VS
  | 0 => VS.fresh 2 2 1
  | 1 => VS.fresh 2 2 1
  | 2 => awStep (VS.fresh 2 2 1) 1
  | _ => awStep (awStep (VS.fresh 2 2 1) 1) 2
theorem aw_facts (j : Nat) (h1 : 1 ≤ j) (h2 : j ≤ 2) : trigAns (awS j) ⟨#[]⟩ = ((j : Int), 0) ∧ tellAns ((awS j).trigged ⟨#[]⟩) j 0 (xS, []) = (false, 0) ∧ tellAns (((awS j).trigged ⟨#[]⟩).told j 0 (xS, [])) j 1 (yS, []) = (true, 0) ∧ awS (j + 1) = awStep (awS j) j := by
  have : j = 1 ∨ j = 2 := by omega
  rcases this with rfl | rfl
  · exact ⟨by kernel_rfl, by kernel_rfl, by kernel_rfl, rfl⟩
  · exact ⟨by kernel_rfl, by kernel_rfl, by kernel_rfl, rfl⟩
theorem aw_comp : (awS 3).comp = [2] := by kernel_rfl
set_option maxRecDepth 100000 in
set_option maxHeartbeats 8000000 in
theorem awake_any (w : World) :
    Calls Tryz.prog 4 #[] w fun e w' => e = .returned (.bool true) ∧ Below w.heap.size w w' := by
  have HN := Lib.hid (vNew_any 2 2 1 w (by decide) (by decide))
  go_enter Tryz.func4, Tryz.ntmps4
  go_wp2_with fail
  refine HN.out.mono ?_
  rintro e w1 ⟨p, r1, rfl, hi1, hv1, hb1, -⟩
  have HI1 := Lib.hid hi1
  have HV1 := Lib.hid hv1
  have HB1 := Lib.hid hb1
  clear hi1 hv1 hb1 HN
  go_wp2_with fail
  go_loopw [3] (fun kv wr => ∃ (j : Nat) (r : HV), 1 ≤ j ∧ j ≤ 3 ∧ kv = .int .i64 j ∧ Hid (VStep w1 w.heap.size p r1 wr r) ∧ Hid (r.vs = awS j)) (fun kv _ => 3 - (intOf kv).toNat)
  case atStart => exact ⟨1, r1, by omega, by omega, rfl, Lib.hid (VStep.pure HI1.out (Below.refl _ _)), HV1⟩
  case round =>
    obtain ⟨j, r, hj1, hj3, rfl, HS, HV⟩ := hrel
    by_cases hlt : j ≤ 2
    · obtain ⟨f1, f2, f3, f4⟩ := aw_facts j hj1 hlt
      have HT := Lib.hid (vTrigger_any (⟨#[]⟩ : ByteArray) wr HS.out.inv (Nat.zero_le _))
      rw [HV.out, f1] at HT
      have hjj : ((j : Int) != j) = false := by simp
      have F2 := Lib.hid f2
      have F3 := Lib.hid f3
      have F4 := Lib.hid f4
      clear f1 f2 f3 f4
      go_wp2_with fail
      refine HT.out.mono ?_
      rintro e w2 ⟨rfl, r2, st2, hv2⟩
      have HS2 := Lib.hid (HS.out.trans st2)
      have HT2 := Lib.hid (vTell_any (j : Int) 0 (xS, []) (.slice none 0 0) w2 st2.inv (by unfold inI64; omega) (by unfold inI64; omega) (by decide) (slice_nil _ _) (by simp))
      have HV2 := Lib.hid hv2
      rw [hv2, F2.out] at HT2
      clear hv2 st2 HT HS F2
      go_wp2_with fail
      refine HT2.out.mono ?_
      rintro e w3 ⟨rfl, r3, st3, hv3⟩
      have HS3 := Lib.hid (HS2.out.trans st3)
      have HT3 := Lib.hid (vTell_any (j : Int) 1 (yS, []) (.slice none 0 0) w3 st3.inv (by unfold inI64; omega) (by unfold inI64; omega) (by decide) (slice_nil _ _) (by simp))
      have HV3 := Lib.hid hv3
      rw [hv3, F3.out] at HT3
      clear hv3 st3 HT2 HS2 F3
      go_wp2_with fail
      refine HT3.out.mono ?_
      rintro e w4 ⟨rfl, r4, st4, hv4⟩
      have HS4 := Lib.hid (HS3.out.trans st4)
      have HV4 := Lib.hid (show r4.vs = awS (j + 1) from by rw [hv4, F4.out]; rfl)
      clear hv4 st4 HT3 HS3 F4 HV2 HV3 HV
      go_wp2
      go_roundw
      case rel => exact ⟨j + 1, r4, by omega, by omega, by go_num, HS4, HV4⟩
      case measure => simp [intOf]; omega
    · obtain rfl : j = 3 := by omega
      have HC := Lib.hid (vComplete_any wr HS.out.inv)
      rw [HV.out, aw_comp] at HC
      go_wp2_with fail
      refine HC.out.mono ?_
      rintro e w5 ⟨a, cap, rfl, ho, hb⟩
      have HB5 := Lib.hid (HB1.out.trans ((HS.out.below HI1.out).trans (hb.mono HS.out.inv.bw)))
      have HBL := Lib.hid (box_below w5 (.cells #[.int .i64 2] 3))
      have HSI := Lib.hid (sameInts_any [2] [2] _ (.slice (some ⟨w5.heap.size, 0, none⟩) 1 1) (w5.alloc (.cells #[.int .i64 2] 3)) ((tSlice tInt).mono _ _ _ _ (below_mem HBL.out) ho.rv') ⟨_, 1, rfl, Nat.le_refl _, by unfold maxLen; decide, fun _ => ⟨_, 0, rfl, fun k hk => by
        have hk : k = 0 := by simpa using hk
        subst hk
        refine ⟨[.int .i64 2], fun i v hv => ?_, rfl, by unfold inI64; simp⟩
        rw [mem_cells (heap_alloc_new w5 _)]
        simpa using hv⟩⟩)
      have HB6 := Lib.hid (HB5.out.trans (HBL.out.mono HB5.out.size))
      clear ho hb HC
      go_wp2_with fail
      refine HSI.out.mono ?_
      rintro e w6 ⟨rfl, hb6⟩
      have HB7 := Lib.hid (HB6.out.trans (hb6.mono HB6.out.size))
      clear hb6
      go_wp2
      go_ret
      exact ⟨by simp, HB7.out⟩
end Go.Proofs.YtnfolemblnnejaaGreat
/- Acts of chapter 24's laws; many. -/
namespace Go.Proofs.YtnfolemblnnejaaGreat
open Go.RowKit Go.Maps

structure VAct where
  k : Int
  n : Int
  t : Int
  nm : ByteArray
  tx : ByteArray
  es : List Ent
deriving Inhabited
def VAct.okA (x : VAct) : Prop := (0 ≤ x.k ∧ x.k ≤ 255) ∧ inI64 x.n ∧ inI64 x.t ∧ x.nm.size ≤ maxLen ∧ x.tx.size ≤ maxLen
def tVAct : Ty VAct := ⟨6, fun m cs x => ∃ v, cs = [.int .u8 x.k, .int .i64 x.n, .int .i64 x.t, .string x.nm, .string x.tx, v] ∧ x.okA ∧ tEnts.rv m [v] x.es,
  fun _ _ _ h => by obtain ⟨v, rfl, _⟩ := h; rfl,
  fun m m' cs x hm h => by obtain ⟨v, e, i, r⟩ := h; exact ⟨v, e, i, tEnts.mono _ _ _ _ hm r⟩⟩
abbrev tVActs : Ty (List VAct) := tSlice tVAct
/-- An act that is looked at. -/
def VAct.small (x : VAct) : Prop := x.nm.size ≤ 100 ∧ x.tx.size ≤ 300 ∧ x.es.length ≤ 20
theorem vacts_at {m : Mem} {xs : List VAct} {a : Option Addr} {n cap : Nat} (h : tVActs.rv m [.slice a n cap] xs) {k : Nat} (hk : k < xs.length) :
    ∃ b o v, a = some ⟨b, o, none⟩ ∧ (m b (o + k * 6) = some (.int .u8 xs[k].k) ∧ m b (o + k * 6 + 1) = some (.int .i64 xs[k].n) ∧ m b (o + k * 6 + 2) = some (.int .i64 xs[k].t) ∧ m b (o + k * 6 + 3) = some (.string xs[k].nm) ∧ m b (o + k * 6 + 4) = some (.string xs[k].tx) ∧ m b (o + k * 6 + 5) = some v) ∧ xs[k].okA ∧ tEnts.rv m [v] xs[k].es := by
  obtain ⟨b, o, rfl, cs, hat, v, rfl, hok, hr⟩ := slice_at h hk
  exact ⟨b, o, v, rfl, ⟨hat 0 _ rfl, hat 1 _ rfl, hat 2 _ rfl, hat 3 _ rfl, hat 4 _ rfl, hat 5 _ rfl⟩, hok, hr⟩
def ManyOut (w : World) (l : List VAct) (e : Ending) (w' : World) : Prop := ∃ b, e = .returned (.bool b) ∧ Below w.heap.size w w' ∧ (b = false → l.length ≤ 80 ∧ ∀ x ∈ l, x.small)
set_option maxRecDepth 100000 in
set_option maxHeartbeats 4000000 in
theorem many_any (l : List VAct) (v : Value) (w : World) (hv : tVActs.rv (mem w) [v] l) :
    Calls Tryz.prog 5 #[v] w (ManyOut w l) := by
  obtain ⟨a, cap, rfl, hlc, hm, hv⟩ := slice_form hv
  have hcap : cap ≤ 9223372036854775807 := by unfold maxLen at hm; exact hm
  have HV := Lib.hid (fun wr (hb : Below w.heap.size w wr) => tVActs.mono _ _ _ _ (below_mem hb) hv)
  clear hm hv
  go_enter Tryz.func5, Tryz.ntmps5
  go_wp2
  go_loopw [3] (fun i wr => ∃ k : Nat, k ≤ l.length ∧ i = .int .i64 k ∧ Hid (Below w.heap.size w wr) ∧ Hid (∀ x ∈ l.take k, x.small)) (fun i _ => l.length - (intOf i).toNat)
  case atStart => exact ⟨0, by omega, rfl, Lib.hid (Below.refl _ _), Lib.hid (by simp)⟩
  case round =>
    obtain ⟨k, hk, rfl, HB, HT⟩ := hrel
    by_cases hlt : k < l.length
    · obtain ⟨b, o, v, rfl, ⟨-, -, -, q3, q4, q5⟩, ⟨-, -, -, s3, s4⟩, hve⟩ := vacts_at (HV.out _ HB.out) hlt
      have c3 : wr.cell? ⟨b, o + k * 6 + 3, none⟩ = some (.string l[k].nm) := q3
      have c4 : wr.cell? ⟨b, o + k * 6 + 4, none⟩ = some (.string l[k].tx) := q4
      have c5 : wr.cell? ⟨b, o + k * 6 + 5, none⟩ = some v := q5
      have HN := Lib.hid (fun (h : l[k].small) => (show ∀ x ∈ l.take (k + 1), x.small from fun x hx => by
        rw [List.take_succ_eq_append_getElem hlt] at hx
        rcases List.mem_append.1 hx with hx | hx
        · exact HT.out x hx
        · simp at hx; subst hx; exact h))
      have HH := Lib.hid (heavy_any l[k].es v wr hve)
      unfold maxLen at s3 s4
      obtain ⟨av, cv, rfl, -⟩ := slice_form hve
      clear q3 q4 q5 HT hve
      generalize l[k] = x at *
      by_cases h1 : (100 : Int) < x.nm.size
      · clear HN HH
        go_wp2
        go_ret
        exact ⟨true, rfl, HB.out, fun h => by cases h⟩
      · by_cases h2 : (300 : Int) < x.tx.size
        · clear HN HH
          go_wp2
          go_ret
          exact ⟨true, rfl, HB.out, fun h => by cases h⟩
        · go_wp2_with fail
          refine HH.out.mono ?_
          rintro e w1 ⟨bb, rfl, hb, h20⟩
          have HB1 := Lib.hid (pure_trans HB.out hb)
          have H20 := Lib.hid h20
          clear hb h20 HH HB c3 c4 c5
          cases bb with
          | true =>
            go_wp2
            go_ret
            exact ⟨true, rfl, HB1.out, fun h => by cases h⟩
          | false =>
            have HM := Lib.hid (HN.out ⟨by omega, by omega, H20.out rfl⟩)
            clear HN H20
            go_wp2
            go_roundw
            case rel => exact ⟨k + 1, by omega, by go_num, HB1, HM⟩
            case measure => simp [intOf]; omega
    · obtain rfl : k = l.length := by omega
      rw [List.take_length] at HT
      by_cases h6 : (80 : Int) < l.length
      · go_wp2
        go_ret
        exact ⟨true, by simp [h6], HB.out, fun h => by cases h⟩
      · go_wp2
        go_ret
        exact ⟨false, by simp [h6], HB.out, fun _ => ⟨by omega, HT.out⟩⟩
def tU8 : Ty Int := ⟨1, fun _ cs x => cs = [.int .u8 x] ∧ 0 ≤ x ∧ x ≤ 255, fun _ _ _ h => by rw [h.1]; rfl, fun _ _ _ _ _ h => h⟩
theorem reads_u8 {P : Program} {T : TypeId} (ht : P.underlying T = some (.int .u8)) : Reads P T tU8 := fun _ _ _ _ _ _ h => by
  obtain ⟨n, h1, _, h3⟩ := DataW.trod_int ht h
  refine ⟨n, h1, ?_⟩
  have : 0 ≤ n ∧ n ≤ 255 := by simpa [Lit.wf, IntKind.min, IntKind.max, IntKind.signed, IntKind.bits] using h3
  exact this
set_option maxRecDepth 100000 in
theorem reads_vact : Reads Tryz.prog 36 tVAct := fun H enc w n cs d h => by
  obtain ⟨xs, n', _, _, hl, hx, hg⟩ := DataW.trod_struct Tryz.underlying36 h
  rw [show Tryz.prog.cellsOf 36 = 6 from by kernel_rfl] at hl
  have g0 := hg 0 _ rfl
  obtain ⟨x0, r0⟩ := field_read (reads_u8 Tryz.underlying5) 0 1 rfl rfl (by kernel_rfl) g0 (by rw [hx]; decide)
  have g1 := hg 1 _ rfl
  obtain ⟨x1, r1⟩ := field_read (reads_int Tryz.underlying3) 1 1 rfl rfl (by kernel_rfl) g1 (by rw [hx]; decide)
  have g2 := hg 2 _ rfl
  obtain ⟨x2, r2⟩ := field_read (reads_int Tryz.underlying3) 2 1 rfl rfl (by kernel_rfl) g2 (by rw [hx]; decide)
  have g3 := hg 3 _ rfl
  obtain ⟨x3, r3⟩ := field_read (reads_str Tryz.underlying9) 3 1 rfl rfl (by kernel_rfl) g3 (by rw [hx]; decide)
  have g4 := hg 4 _ rfl
  obtain ⟨x4, r4⟩ := field_read (reads_str Tryz.underlying9) 4 1 rfl rfl (by kernel_rfl) g4 (by rw [hx]; decide)
  have g5 := hg 5 _ rfl
  obtain ⟨x5, r5⟩ := field_read reads_ents 5 1 rfl rfl (by kernel_rfl) g5 (by rw [hx]; decide)
  match cs, hl with
  | [c0, c1, c2, c3, c4, c5], _ =>
    obtain ⟨e0, i0⟩ := r0
    obtain ⟨e1, i1⟩ := r1
    obtain ⟨e2, i2⟩ := r2
    obtain ⟨e3, i3⟩ := r3
    obtain ⟨e4, i4⟩ := r4
    simp at e0 e1 e2 e3 e4
    exact ⟨⟨x0, x1, x2, x3, x4, x5⟩, c5, by rw [e0, e1, e2, e3, e4], ⟨i0, i1, i2, i3, i4⟩, r5⟩
theorem reads_vacts : Reads Tryz.prog 22 tVActs := reads_slice Tryz.underlying22 (by kernel_rfl) (by decide) reads_vact
end Go.Proofs.YtnfolemblnnejaaGreat
/- The vault of the program and the reference's side by side, between acts, within one, and in a law. -/
namespace Go.Proofs.YtnfolemblnnejaaGreat
open Go.RowKit Go.Maps

theorem ents_apart {m : Mem} {R : Nat} {u : Value} {l : List Ent} (hR : ∀ o s, m R o ≠ some (.string s)) (h : tEnts.rv m [u] l) : tEnts.rv (m.on (· ≠ R)) [u] l := by
  obtain ⟨a, cap, e, h1, h2, h3⟩ := h
  refine ⟨a, cap, e, h1, h2, fun hp => ?_⟩
  obtain ⟨b, o, ea, hat⟩ := h3 hp
  have hb : b ≠ R := fun e => by
    obtain ⟨cs, hc, hr⟩ := hat 0 hp
    obtain ⟨rfl, -⟩ := hr
    exact hR _ _ (e ▸ hc 1 _ rfl)
  refine ⟨b, o, ea, fun k hk => ?_⟩
  obtain ⟨cs, hc, hr⟩ := hat k hk
  exact ⟨cs, fun j v hj => Mem.on_some (hc j v hj) hb, hr⟩
theorem part_apart {m : Mem} {R : Nat} {v : Value} (hR : ∀ o s, m R o ≠ some (.string s)) : ∀ {o : Option Part}, partAt m v o → partAt (m.on (· ≠ R)) v o
  | none, h => h
  | some x, ⟨a, ev, h1, h2, h3, h4, h5⟩ => by
    have hb : a ≠ R := fun e => hR _ _ (e ▸ h2)
    exact ⟨a, ev, h1, Mem.on_some h2 hb, Mem.on_some h3 hb, ents_apart hR h4, h5⟩
/-- A block that is not the vault's, and holds no text, is written. -/
theorem VInv.other {base p R : Nat} {W W2 : World} {r : HV} (hi : VInv W base p r) (hk : Keeps (· = R) W W2) (nR : ¬ mutV p r R) (hz : ∀ o s, W.cell? ⟨R, o, none⟩ ≠ some (.string s)) : VInv W2 base p r ∧ ((safeV W p r).on (· ≠ R)).le (safeV W2 p r) := by
  have hmk := hi.kind
  have hat : ∀ k, mutV p r k → W2.heap[k]? = W.heap[k]? := fun k hm => hk.block k (hmk k hm) (fun e => nR (e ▸ hm))
  have hsafe : ((safeV W p r).on (· ≠ R)).le (safeV W2 p r) := fun b o v e => by
    obtain ⟨hne, e⟩ := Mem.of_on e
    obtain ⟨hm, e⟩ := Mem.of_on e
    exact Mem.on_some ((mem_of_block (hk.block b (mem_lt e) hne) o).trans e) hm
  have hz' : ∀ o s, (safeV W p r) R o ≠ some (.string s) := fun o s e => hz o s (Mem.of_on e).2
  refine ⟨⟨(hat p (.inl rfl)).trans hi.hb, hi.mp.at (hat _ (.inr (.inl rfl))), fun x hx => ?_, hi.inj, hi.inp, hi.ok, hi.ge, Nat.le_trans hi.bw hk.size, fun b hb => ⟨Nat.lt_of_lt_of_le (hi.ofs b hb).1 hk.size, (hi.ofs b hb).2⟩⟩, hsafe⟩
  obtain ⟨h1, arr, h2, h3, h4⟩ := hi.sb x hx
  refine ⟨(hat _ (.inr (.inr ⟨_, mem_nums hx, .inl rfl⟩))).trans h1, arr, (hat _ (.inr (.inr ⟨_, mem_nums hx, .inr rfl⟩))).trans h2, h3, fun i hi => ?_⟩
  obtain ⟨v, e, hp⟩ := h4 i hi
  exact ⟨v, e, (part_apart hz' hp).mono hsafe⟩
structure VRun (base p N : Nat) (M : Mem) (W : World) (r : HV) (a : Value) : Prop where
  inv : VInv W base p r
  mem : M.le (safeV W p r)
  rat : RV M r.vs a
  last : r.vs.last ≤ N
/-- What stays from a world and a state on. -/
structure Kept (base p : Nat) (o : World × HV) (W : World) (r : HV) : Prop where
  bs : base ≤ o.1.heap.size
  bl : Below base o.1 W
  kp : Keeps (mutV p o.2) o.1 W
  mb : ∀ k, mutV p r k → mutV p o.2 k ∨ o.1.heap.size ≤ k
structure KeptM (base p : Nat) (o : World × HV × Mem) (M : Mem) (W : World) (r : HV) : Prop where
  kt : Kept base p (o.1, o.2.1) W r
  nw : ∀ b x v, b < o.1.heap.size → M b x = some v → o.2.2 b x = some v
@[reducible] def rvZ : Obj := .cells #[.int .i64 0, .int .i64 0, .int .i64 0, .int .i64 0, .slice none 0 0] 31
/-- Within an act: the result's cell is apart. -/
structure VMid (base p N : Nat) (M : Mem) (R : Nat) (o : World × HV × Mem) (W : World) (r : HV) : Prop where
  inv : VInv W base p r
  mem : M.le ((safeV W p r).on (· ≠ R))
  last : r.vs.last ≤ N
  hR : W.heap[R]? = some (.cells #[.int .i64 0, .int .i64 0, .int .i64 0, .int .i64 0, .slice none 0 0] 31 (0, 0))
  nR : ¬ mutV p r R
  kt : KeptM base p o M W r
theorem Kept.pure {base p : Nat} {o : World × HV} {W W' : World} {r : HV} (c : Kept base p o W r) (hb : Below W.heap.size W W') : Kept base p o W' r :=
  ⟨c.bs, c.bl.trans (hb.mono (Nat.le_trans c.bs c.kp.size)), c.kp.trans ((below_keeps hb).wide (fun k h1 h2 => by omega)), c.mb⟩
theorem Kept.step {base p : Nat} {o : World × HV} {W W' : World} {r r' : HV} (c : Kept base p o W r) (i : VInv W base p r) (s : VStep W base p r W' r') : Kept base p o W' r' := by
  have hsz := c.kp.size
  refine ⟨c.bs, c.bl.trans (s.below i), ⟨s.kp.os.trans c.kp.os, s.kp.tape.trans c.kp.tape, s.kp.output.trans c.kp.output, Nat.le_trans hsz s.kp.size, fun k hk hn => ?_⟩, fun k hk => ?_⟩
  · refine (s.kp.block k (by omega) fun hm => ?_).trans (c.kp.block k hk hn)
    rcases c.mb k hm with e | e
    · exact hn e
    · omega
  · rcases s.mb k hk with e | e
    · exact c.mb k e
    · exact .inr (by omega)
section
variable {base p N R : Nat} {M M' : Mem} {w0 W W' W2 : World} {o : World × HV × Mem} {r r' : HV} {a : Value}
theorem VMid.le (c : VMid base p N M R o W r) : M.le (Go.Proofs.YtnfolemblnnejaaGreat.mem W) := Mem.le_trans c.mem (Mem.le_trans (Mem.on_le _ _) (Mem.on_le _ _))
theorem VRun.le (c : VRun base p N M W r a) : M.le (Go.Proofs.YtnfolemblnnejaaGreat.mem W) := Mem.le_trans c.mem (Mem.on_le _ _)
theorem VRun.len (c : VRun base p N M W r a) : r.vs.all.length ≤ N := Nat.le_trans (all_len c.inv.ok) c.last
theorem VMid.len (c : VMid base p N M R o W r) : r.vs.all.length ≤ N := Nat.le_trans (all_len c.inv.ok) c.last
/-- The beginning of an act: boxes are made, the last of them is the result's. -/
theorem VRun.start (c : VRun base p N M W r a) (hb : Below W.heap.size W W') (hR : W'.heap[R]? = some (.cells #[.int .i64 0, .int .i64 0, .int .i64 0, .int .i64 0, .slice none 0 0] 31 (0, 0))) (hl : W.heap.size ≤ R) :
    ∃ M1, VMid base p N M1 R (W, r, M) W' r ∧ M.le M1 ∧ ((Go.Proofs.YtnfolemblnnejaaGreat.mem W').on (fun b => W.heap.size ≤ b ∧ b ≠ R)).le M1 ∧ RV M1 r.vs a := by
  have hk := c.inv.kind
  refine ⟨(joinM M W W').on (· ≠ R), ⟨c.inv.pure hb, fun b o v e => ?_, c.last, hR, fun hm => by have := hk R hm; omega, ⟨⟨c.inv.bw, hb.mono c.inv.bw, (below_keeps hb).wide (fun k h1 h2 => by omega), fun k e => .inl e⟩, fun b x v hlt e => ?_⟩⟩, fun b o v e => ?_, fun b o v e => ?_, ?_⟩
  · obtain ⟨hne, e⟩ := Mem.of_on e
    refine Mem.on_some ?_ hne
    unfold joinM at e
    split at e
    · exact Mem.on_some e ⟨fun hm => by have := hk b hm; omega, fun ho => by have := (c.inv.ofs b ho).1; omega⟩
    · exact safeV_le ((below_keeps hb).wide (fun k h1 h2 => by omega)) (fun k hm => .inl hm) rfl _ _ _ (c.mem _ _ _ e)
  · obtain ⟨_, e⟩ := Mem.of_on e
    have hlt : b < W.heap.size := hlt
    unfold joinM at e
    rw [if_neg (by omega)] at e
    exact e
  · have hlt := mem_lt (c.le _ _ _ e)
    exact Mem.on_some (joinM_le c.le _ _ _ e) (by omega)
  · obtain ⟨⟨h1, h2⟩, e⟩ := Mem.of_on e
    exact Mem.on_some (joinM_new _ _ _ (Mem.on_some e h1)) h2
  · refine c.rat.mono (fun b o v e => ?_)
    have hlt := mem_lt (c.le _ _ _ e)
    exact Mem.on_some (joinM_le c.le _ _ _ e) (by omega)
theorem VMid.pure0 (c : VMid base p N M R o W r) (hb : Below W.heap.size W W') : VMid base p N M R o W' r := by
  have hk := c.inv.kind
  have hRl := (Array.getElem?_eq_some_iff.1 c.hR).1
  refine ⟨c.inv.pure hb, fun b o v e => ?_, c.last, (hb.block _ hRl).trans c.hR, c.nR, ⟨c.kt.kt.pure hb, c.kt.nw⟩⟩
  obtain ⟨hne, e⟩ := Mem.of_on (c.mem _ _ _ e)
  exact Mem.on_some (safeV_le ((below_keeps hb).wide (fun k h1 h2 => by omega)) (fun k hm => .inl hm) rfl _ _ _ e) hne
/-- A pure call: what it makes may be kept. -/
theorem VMid.grow (c : VMid base p N M R o W r) (hb : Below W.heap.size W W') : VMid base p N (joinM M W W') R o W' r := by
  have hk := c.inv.kind
  have hRl := (Array.getElem?_eq_some_iff.1 c.hR).1
  have c' := c.pure0 hb
  refine ⟨c'.inv, fun b o v e => ?_, c.last, c'.hR, c.nR, ⟨c'.kt.kt, fun b x v hlt e => ?_⟩⟩
  unfold joinM at e
  split at e
  · exact Mem.on_some (Mem.on_some e ⟨fun hm => by have := hk b hm; omega, fun ho => by have := (c.inv.ofs b ho).1; omega⟩) (by omega)
  · exact c'.mem _ _ _ e
  · have := c.kt.kt.kp.size
    have hlt : b < o.1.heap.size := hlt
    have this : o.1.heap.size ≤ W.heap.size := this
    unfold joinM at e
    rw [if_neg (by omega)] at e
    exact c.kt.nw b x v hlt e
/-- A step of the vault. -/
theorem VMid.step {N' : Nat} (c : VMid base p N M R o W r) (s : VStep W base p r W' r') (hl : r'.vs.last ≤ N') : VMid base p N' M R o W' r' := by
  have hRl := (Array.getElem?_eq_some_iff.1 c.hR).1
  refine ⟨s.inv, fun b o v e => ?_, hl, (s.kp.block R hRl c.nR).trans c.hR, fun hm => ?_, ⟨c.kt.kt.step c.inv s, c.kt.nw⟩⟩
  · obtain ⟨hne, e⟩ := Mem.of_on (c.mem _ _ _ e)
    exact Mem.on_some (safeV_le s.kp s.mb s.of _ _ _ e) hne
  · rcases s.mb R hm with e | e
    · exact c.nR e
    · omega
theorem VMid.res (c : VMid base p N M R o W r) : W.cell? ⟨R, 0, none⟩ = some (.int .i64 0) ∧ W.cell? ⟨R, 1, none⟩ = some (.int .i64 0) ∧ W.cell? ⟨R, 2, none⟩ = some (.int .i64 0) ∧ W.cell? ⟨R, 3, none⟩ = some (.int .i64 0) ∧ W.cell? ⟨R, 4, none⟩ = some (.slice none 0 0) ∧ ∀ o, W.frozen? ⟨R, o, none⟩ = false :=
  ⟨mem_cells c.hR 0, mem_cells c.hR 1, mem_cells c.hR 2, mem_cells c.hR 3, mem_cells c.hR 4, frozen_cells c.hR⟩
theorem store5_keeps (w : World) (b : Nat) (v0 v1 v2 v3 v4 : Value) : Keeps (· = b) w (store5 w b v0 v1 v2 v3 v4) := by
  unfold store5
  exact (((((Keeps.refl (· = b) w).setCell (p := ⟨b, 0, none⟩) (fun _ => rfl) _).setCell (p := ⟨b, 1, none⟩) (fun _ => rfl) _).setCell (p := ⟨b, 2, none⟩) (fun _ => rfl) _).setCell (p := ⟨b, 3, none⟩) (fun _ => rfl) _).setCell (p := ⟨b, 4, none⟩) (fun _ => rfl) _
theorem rvz_notext {b : Nat} {x0 x1 x2 x3 : Int} {a : Option Addr} {n c : Nat} (h : W.heap[b]? = some (.cells #[.int .i64 x0, .int .i64 x1, .int .i64 x2, .int .i64 x3, .slice a n c] 31 (0, 0))) : ∀ o s, W.cell? ⟨b, o, none⟩ ≠ some (.string s) := fun o s e => by
  have e := (mem_cells h o).symm.trans e
  match o, e with
  | 0, e => simp at e
  | 1, e => simp at e
  | 2, e => simp at e
  | 3, e => simp at e
  | 4, e => simp at e
  | o + 5, e => simp at e
/-- The end of an act: the result's cell is written. -/
theorem VMid.finish (c : VMid base p N M R o W r) (hk : Keeps (· = R) W W2) (hb : o.1.heap.size ≤ R) (hr : RV M r.vs a) : VRun base p N M W2 r a ∧ KeptM base p o M W2 r := by
  obtain ⟨hi2, hsafe⟩ := c.inv.other hk c.nR (rvz_notext c.hR)
  refine ⟨⟨hi2, Mem.le_trans c.mem hsafe, hr, c.last⟩, ?_⟩
  have kt := c.kt.kt
  have hks : o.1.heap.size ≤ W.heap.size := kt.kp.size
  refine ⟨⟨kt.bs, kt.bl.trans (hk.below c.inv.bw (fun k e => e ▸ Nat.le_trans kt.bs hb)), ⟨hk.os.trans kt.kp.os, hk.tape.trans kt.kp.tape, hk.output.trans kt.kp.output, Nat.le_trans kt.kp.size hk.size, fun k h1 h2 => ?_⟩, kt.mb⟩, c.kt.nw⟩
  have h1 : k < o.1.heap.size := h1
  exact (hk.block k (by omega) (fun e => by omega)).trans (kt.kp.block k h1 h2)
end
/-- What an act makes of a vault, told plainly. -/
def actVS (s : VS) (x : VAct) : VS :=
  if x.k % 10 = 0 then s.trigged x.nm else if x.k % 10 = 6 then s.declined x.n else if x.k % 10 = 7 then s.dels s.pend
  else if x.k % 10 = 8 then s.forget x.nm else if x.k % 10 = 9 then s.retasked x.t else s.told x.n x.t (x.tx, x.es)
def DoesOut (base p N : Nat) (M : Mem) (W : World) (r : HV) (x : VAct) (e : Ending) (W' : World) : Prop :=
  ∃ r' a' M', e = .returned (.tuple #[rvV r'.vs a', .bool true]) ∧ VRun base p (N + 1) M' W' r' a' ∧ M.le M' ∧ KeptM base p (W, r, M) M' W' r' ∧ r'.vs = actVS r.vs x
/-- In a law: the reference's vault stands in a variable of the law's own. -/
structure VLaw (base p N : Nat) (M : Mem) (R : Nat) (o W : World) (r : HV) (a : Value) (arr : Array Value) : Prop where
  inv : VInv W base p r
  mem : M.le ((safeV W p r).on (· ≠ R))
  last : r.vs.last ≤ N
  rat : RV M r.vs a
  hR : W.heap[R]? = some (.cells arr 31 (0, 0))
  hz : ∀ (j : Nat) s, arr[j]? ≠ some (.string s)
  nR : ¬ mutV p r R
  bl : Below o.heap.size o W
  ob : o.heap.size ≤ base
  oR : o.heap.size ≤ R
theorem rv_notext {x0 x1 x2 x3 : Int} {a : Option Addr} {n c : Nat} : ∀ (j : Nat) s, (#[.int .i64 x0, .int .i64 x1, .int .i64 x2, .int .i64 x3, .slice a n c] : Array Value)[j]? ≠ some (.string s) := fun j s e => by
  match j, e with
  | 0, e => simp at e
  | 1, e => simp at e
  | 2, e => simp at e
  | 3, e => simp at e
  | 4, e => simp at e
  | j + 5, e => simp at e
section
variable {base p N R : Nat} {M M' : Mem} {o W W' W2 : World} {r r' : HV} {a a' : Value} {arr arr' : Array Value}
theorem VLaw.le (c : VLaw base p N M R o W r a arr) : M.le (Go.Proofs.YtnfolemblnnejaaGreat.mem W) := Mem.le_trans c.mem (Mem.le_trans (Mem.on_le _ _) (Mem.on_le _ _))
theorem VLaw.len (c : VLaw base p N M R o W r a arr) : r.vs.all.length ≤ N := Nat.le_trans (all_len c.inv.ok) c.last
theorem VLaw.run (c : VLaw base p N M R o W r a arr) : VRun base p N M W r a := ⟨c.inv, Mem.le_trans c.mem (Mem.on_le _ _), c.rat, c.last⟩
theorem VLaw.pure0 (c : VLaw base p N M R o W r a arr) (hb : Below W.heap.size W W') : VLaw base p N M R o W' r a arr := by
  have hRl := (Array.getElem?_eq_some_iff.1 c.hR).1
  refine ⟨c.inv.pure hb, fun b x v e => ?_, c.last, c.rat, (hb.block _ hRl).trans c.hR, c.hz, c.nR, c.bl.trans (hb.mono c.bl.size), c.ob, c.oR⟩
  obtain ⟨hne, e⟩ := Mem.of_on (c.mem _ _ _ e)
  exact Mem.on_some (safeV_le ((below_keeps hb).wide (fun k h1 h2 => by omega)) (fun k hm => .inl hm) rfl _ _ _ e) hne
theorem VLaw.grow (c : VLaw base p N M R o W r a arr) (hb : Below W.heap.size W W') : VLaw base p N (joinM M W W') R o W' r a arr := by
  have hk := c.inv.kind
  have c' := c.pure0 hb
  have hRl := (Array.getElem?_eq_some_iff.1 c.hR).1
  refine ⟨c'.inv, fun b x v e => ?_, c.last, c.rat.mono (joinM_le c.le), c'.hR, c.hz, c.nR, c'.bl, c.ob, c.oR⟩
  unfold joinM at e
  split at e
  · exact Mem.on_some (Mem.on_some e ⟨fun hm => by have := hk b hm; omega, fun ho => by have := (c.inv.ofs b ho).1; omega⟩) (by omega)
  · exact c'.mem _ _ _ e
theorem VLaw.store (c : VLaw base p N M R o W r a arr) (hk : Keeps (· = R) W W2) (hR : W2.heap[R]? = some (.cells arr' 31 (0, 0))) (hz : ∀ (j : Nat) s, arr'[j]? ≠ some (.string s)) : VLaw base p N M R o W2 r a arr' := by
  obtain ⟨hi, hs⟩ := c.inv.other hk c.nR (fun j s e => c.hz j s ((mem_cells c.hR j).symm.trans e))
  refine ⟨hi, fun b x v e => ?_, c.last, c.rat, hR, hz, c.nR, c.bl.trans (hk.below c.bl.size (fun k e => e ▸ c.oR)), c.ob, c.oR⟩
  have e := c.mem _ _ _ e
  exact Mem.on_some (hs _ _ _ e) (Mem.of_on e).1
/-- Behind an act. -/
theorem VLaw.after {x : VAct} {e : Ending} (c : VLaw base p N M R o W r a arr) (d : DoesOut base p N M W r x e W') :
    ∃ r' a' M', e = .returned (.tuple #[rvV r'.vs a', .bool true]) ∧ VLaw base p (N + 1) M' R o W' r' a' arr ∧ M.le M' ∧ r'.vs = actVS r.vs x := by
  obtain ⟨r', a', M', rfl, hr, hm, kt, hv⟩ := d
  have hRl := (Array.getElem?_eq_some_iff.1 c.hR).1
  refine ⟨r', a', M', rfl, ⟨hr.inv, fun b x v e => Mem.on_some (hr.mem _ _ _ e) (fun hb => ?_), hr.last, hr.rat, (kt.kt.kp.block R hRl c.nR).trans c.hR, c.hz, fun hm => ?_, c.bl.trans (kt.kt.bl.mono c.ob), c.ob, c.oR⟩, hm, hv⟩
  · subst hb
    have e2 := kt.nw b x v hRl e
    exact (Mem.of_on (c.mem _ _ _ e2)).1 rfl
  · rcases kt.kt.mb R hm with e | e
    · exact c.nR e
    · have e : W.heap.size ≤ R := e
      omega
end
/-- The number of the last one. -/
theorem last_trigged (s : VS) (nm : ByteArray) : (s.trigged nm).last ≤ s.last + 1 := by unfold VS.trigged; split <;> simp [VS.trig]
theorem last_declined (s : VS) (k : Int) : (s.declined k).last = s.last := by unfold VS.declined; split <;> rfl
theorem last_forget (s : VS) (nm : ByteArray) : (s.forget nm).last = s.last := by unfold VS.forget; split <;> rfl
theorem last_retasked (s : VS) (n : Int) : (s.retasked n).last = s.last := by unfold VS.retasked; split <;> rfl
theorem last_told (s : VS) (k task : Int) (x : Part) : (s.told k task x).last = s.last := by unfold VS.told; split; rfl; split <;> rfl
theorem joinM_mono {M : Mem} {W w w' : World} (hb : Below w.heap.size w w') : (joinM M W w).le (joinM M W w') := fun b o v e => by
  unfold joinM at e ⊢
  split at e
  · rename_i hs; rw [if_pos hs]; exact below_mem hb _ _ _ e
  · rename_i hs; rw [if_neg hs]; exact e
theorem VMid.stored {base p N R : Nat} {M : Mem} {o : World × HV × Mem} {W W2 : World} {r : HV} (c : VMid base p N M R o W r) (hk : Keeps (· = R) W W2) : M.le (Go.Proofs.YtnfolemblnnejaaGreat.mem W2) := fun b o v e => by
  obtain ⟨hne, e⟩ := Mem.of_on (c.mem _ _ _ e)
  obtain ⟨_, e⟩ := Mem.of_on e
  exact (mem_of_block (hk.block b (mem_lt e) hne) o).trans e
end Go.Proofs.YtnfolemblnnejaaGreat
/- does, Trigger (printed by gen_vdoes.py). -/
namespace Go.Proofs.YtnfolemblnnejaaGreat
open Go.RowKit Go.Maps
set_option maxRecDepth 100000 in
set_option maxHeartbeats 16000000 in
theorem does_trigger (base p N : Nat) (M : Mem) (W : World) (r : HV) (a : Value) (xk xn xt : Int) (nm tx : ByteArray) (es : List Ent) (ve : Value) (c : VRun base p N M W r a) (hx : (⟨xk, xn, xt, nm, tx, es⟩ : VAct).okA) (hsm : (⟨xk, xn, xt, nm, tx, es⟩ : VAct).small) (hve : tEnts.rv M [ve] es) (hN : N ≤ 900) (h40 : xk % 10 = 9 → xt ≤ 40 ∨ 400 < xt) (hkd : xk % 10 = 0) :
    Calls Tryz.prog 8 #[ptrTo p, rvV r.vs a, .agg #[.int .u8 xk, .int .i64 xn, .int .i64 xt, .string nm, .string tx, ve]] W (DoesOut base p N M W r ⟨xk, xn, xt, nm, tx, es⟩) := by
  obtain ⟨⟨hk0, hk2⟩, hxn, hxt, hnm, htx⟩ := hx
  obtain ⟨hs1, hs2, hs3⟩ := hsm
  simp only at hk0 hk2 hxn hxt hnm htx hs1 hs2 hs3
  have HAV := Lib.hid (show actVS r.vs ⟨xk, xn, xt, nm, tx, es⟩ = r.vs.trigged nm from by unfold actVS; simp only; rw [if_pos hkd])
  have hkt : xk.tmod 10 = 0 := by rw [Int.tmod_eq_emod_of_nonneg hk0]; exact hkd
  clear hk0 hk2 h40
  have HVE := Lib.hid hve
  obtain ⟨aa, ca, rfl, hla, hma, hra⟩ := slice_form c.rat.ha
  obtain ⟨ae, ke, rfl, hle, hme, -⟩ := slice_form hve
  have hca : ca ≤ 9223372036854775807 := by unfold maxLen at hma; exact hma
  have hke : ke ≤ 9223372036854775807 := by unfold maxLen at hme; exact hme
  have HB := Lib.hid (show Below W.heap.size W (((W.alloc (.cells #[.int .i64 r.vs.tasks, .int .i64 r.vs.most, .int .i64 r.vs.keep, .int .i64 ((r.vs.last : Int) + 1), .slice aa r.vs.all.length ca] 31)).alloc (.cells #[.int .u8 xk, .int .i64 xn, .int .i64 xt, .string nm, .string tx, .slice ae es.length ke] 36)).alloc (.cells #[.int .i64 0, .int .i64 0, .int .i64 0, .int .i64 0, .slice none 0 0] 31)) from (((Below.refl W.heap.size W).alloc (Nat.le_refl _) _).alloc (by simp) _).alloc (by simp; omega) _)
  have hY : ∀ (b : Nat) (o o' : Obj) (w : World), w.heap[b]? = some o → (w.alloc o').heap[b]? = some o := fun b o o' w e => (Below.heap_alloc _ _ _ (Array.getElem?_eq_some_iff.1 e).1).trans e
  have y4 : (((W.alloc (.cells #[.int .i64 r.vs.tasks, .int .i64 r.vs.most, .int .i64 r.vs.keep, .int .i64 ((r.vs.last : Int) + 1), .slice aa r.vs.all.length ca] 31)).alloc (.cells #[.int .u8 xk, .int .i64 xn, .int .i64 xt, .string nm, .string tx, .slice ae es.length ke] 36)).alloc (.cells #[.int .i64 0, .int .i64 0, .int .i64 0, .int .i64 0, .slice none 0 0] 31)).heap[W.heap.size]? = some (.cells #[.int .i64 r.vs.tasks, .int .i64 r.vs.most, .int .i64 r.vs.keep, .int .i64 ((r.vs.last : Int) + 1), .slice aa r.vs.all.length ca] 31 (0, 0)) := hY _ _ _ _ (hY _ _ _ _ (heap_alloc_new W _))
  have y5 : (((W.alloc (.cells #[.int .i64 r.vs.tasks, .int .i64 r.vs.most, .int .i64 r.vs.keep, .int .i64 ((r.vs.last : Int) + 1), .slice aa r.vs.all.length ca] 31)).alloc (.cells #[.int .u8 xk, .int .i64 xn, .int .i64 xt, .string nm, .string tx, .slice ae es.length ke] 36)).alloc (.cells #[.int .i64 0, .int .i64 0, .int .i64 0, .int .i64 0, .slice none 0 0] 31)).heap[W.heap.size + 1]? = some (.cells #[.int .u8 xk, .int .i64 xn, .int .i64 xt, .string nm, .string tx, .slice ae es.length ke] 36 (0, 0)) := hY _ _ _ _ (by have h := heap_alloc_new (W.alloc (.cells #[.int .i64 r.vs.tasks, .int .i64 r.vs.most, .int .i64 r.vs.keep, .int .i64 ((r.vs.last : Int) + 1), .slice aa r.vs.all.length ca] 31)) (.cells #[.int .u8 xk, .int .i64 xn, .int .i64 xt, .string nm, .string tx, .slice ae es.length ke] 36); rw [World.size_alloc] at h; exact h)
  have yR : (((W.alloc (.cells #[.int .i64 r.vs.tasks, .int .i64 r.vs.most, .int .i64 r.vs.keep, .int .i64 ((r.vs.last : Int) + 1), .slice aa r.vs.all.length ca] 31)).alloc (.cells #[.int .u8 xk, .int .i64 xn, .int .i64 xt, .string nm, .string tx, .slice ae es.length ke] 36)).alloc (.cells #[.int .i64 0, .int .i64 0, .int .i64 0, .int .i64 0, .slice none 0 0] 31)).heap[W.heap.size + 1 + 1]? = some (.cells #[.int .i64 0, .int .i64 0, .int .i64 0, .int .i64 0, .slice none 0 0] 31 (0, 0)) := by have h := heap_alloc_new ((W.alloc (.cells #[.int .i64 r.vs.tasks, .int .i64 r.vs.most, .int .i64 r.vs.keep, .int .i64 ((r.vs.last : Int) + 1), .slice aa r.vs.all.length ca] 31)).alloc (.cells #[.int .u8 xk, .int .i64 xn, .int .i64 xt, .string nm, .string tx, .slice ae es.length ke] 36)) (.cells #[.int .i64 0, .int .i64 0, .int .i64 0, .int .i64 0, .slice none 0 0] 31); rw [World.size_alloc, World.size_alloc] at h; exact h
  obtain ⟨M1, hMid, hM1, hnew1, hrat⟩ := c.start HB.out (R := W.heap.size + 1 + 1) yR (by omega)
  have HRAT := Lib.hid hrat
  have HM1 := Lib.hid hM1
  have hbR : W.heap.size ≤ W.heap.size + 1 + 1 := by omega
  have hlast := c.last
  have HLN := Lib.hid c.len
  have HOK := Lib.hid c.inv.ok
  have HC4 := Lib.hid (fun (wq : World) (hq : M1.le (mem wq)) => (show wq.cell? ⟨W.heap.size, 0, none⟩ = some (.int .i64 r.vs.tasks) ∧ wq.cell? ⟨W.heap.size, 1, none⟩ = some (.int .i64 r.vs.most) ∧ wq.cell? ⟨W.heap.size, 2, none⟩ = some (.int .i64 r.vs.keep) ∧ wq.cell? ⟨W.heap.size, 3, none⟩ = some (.int .i64 ((r.vs.last : Int) + 1)) ∧ wq.cell? ⟨W.heap.size, 4, none⟩ = some (.slice aa r.vs.all.length ca) from ⟨hq _ _ _ (hnew1 _ _ _ (Mem.on_some (mem_cells y4 0) ⟨by omega, by omega⟩)), hq _ _ _ (hnew1 _ _ _ (Mem.on_some (mem_cells y4 1) ⟨by omega, by omega⟩)), hq _ _ _ (hnew1 _ _ _ (Mem.on_some (mem_cells y4 2) ⟨by omega, by omega⟩)), hq _ _ _ (hnew1 _ _ _ (Mem.on_some (mem_cells y4 3) ⟨by omega, by omega⟩)), hq _ _ _ (hnew1 _ _ _ (Mem.on_some (mem_cells y4 4) ⟨by omega, by omega⟩))⟩))
  have HC5 := Lib.hid (fun (wq : World) (hq : M1.le (mem wq)) => (show wq.cell? ⟨W.heap.size + 1, 0, none⟩ = some (.int .u8 xk) ∧ wq.cell? ⟨W.heap.size + 1, 1, none⟩ = some (.int .i64 xn) ∧ wq.cell? ⟨W.heap.size + 1, 2, none⟩ = some (.int .i64 xt) ∧ wq.cell? ⟨W.heap.size + 1, 3, none⟩ = some (.string nm) ∧ wq.cell? ⟨W.heap.size + 1, 4, none⟩ = some (.string tx) ∧ wq.cell? ⟨W.heap.size + 1, 5, none⟩ = some (.slice ae es.length ke) from ⟨hq _ _ _ (hnew1 _ _ _ (Mem.on_some (mem_cells y5 0) ⟨by omega, by omega⟩)), hq _ _ _ (hnew1 _ _ _ (Mem.on_some (mem_cells y5 1) ⟨by omega, by omega⟩)), hq _ _ _ (hnew1 _ _ _ (Mem.on_some (mem_cells y5 2) ⟨by omega, by omega⟩)), hq _ _ _ (hnew1 _ _ _ (Mem.on_some (mem_cells y5 3) ⟨by omega, by omega⟩)), hq _ _ _ (hnew1 _ _ _ (Mem.on_some (mem_cells y5 4) ⟨by omega, by omega⟩)), hq _ _ _ (hnew1 _ _ _ (Mem.on_some (mem_cells y5 5) ⟨by omega, by omega⟩))⟩))
  clear hY y4 y5 yR hnew1 hra hma hme hM1 hrat c hve
  go_enter Tryz.func8, Tryz.ntmps8
  go_upto_region 1 with fail
  generalize ((W.alloc (.cells #[.int .i64 r.vs.tasks, .int .i64 r.vs.most, .int .i64 r.vs.keep, .int .i64 ((r.vs.last : Int) + 1), .slice aa r.vs.all.length ca] 31)).alloc (.cells #[.int .u8 xk, .int .i64 xn, .int .i64 xt, .string nm, .string tx, .slice ae es.length ke] 36)).alloc (.cells #[.int .i64 0, .int .i64 0, .int .i64 0, .int .i64 0, .slice none 0 0] 31) = Y at HB hMid ⊢
  have HMI := Lib.hid hMid
  obtain ⟨c0, c1, c2, c3, c4⟩ := HC4.out Y hMid.le
  obtain ⟨d0, d1, d2, d3, d4, d5⟩ := HC5.out Y hMid.le
  clear hMid
  go_upto_region 2 with fail
  try rw [hkt]
  have HSL := Lib.hid (show (r.vs.trigged nm).last ≤ N + 1 from by have := last_trigged r.vs nm; omega)
  go_wp2_with fail
  refine (vTrigger_any nm Y HMI.out.inv hnm).mono ?_
  rintro e w0 ⟨rfl, r5, st, hv5⟩
  have HV5 := Lib.hid (show r5.vs = r.vs.trigged nm from hv5)
  have HMid1 := Lib.hid (show VMid base p (N + 1) M1 (W.heap.size + 1 + 1) (W, r, M) w0 r5 from HMI.out.step st (by rw [HV5.out]; exact HSL.out))
  clear st hv5 c0 c1 c2 c3 c4 d0 d1 d2 d3 d4 d5
  obtain ⟨c0, c1, c2, c3, c4⟩ := HC4.out w0 HMid1.out.le
  obtain ⟨d0, d1, d2, d3, d4, d5⟩ := HC5.out w0 HMid1.out.le
  go_wp2_with fail
  refine (refTrigger_any r.vs _ M1 w0 HMid1.out.le HRAT.out (by have := HLN.out; omega) (by omega) nm hnm).mono ?_
  rintro e w1 ⟨a', hb1, rfl, hr1⟩
  generalize r.vs.trigged nm = s2 at *
  generalize trigAns r.vs nm = ta at *
  obtain ⟨t1, t2⟩ := ta
  obtain ⟨a2, k2, rfl, hl2, hm2, -⟩ := slice_form hr1.ha
  have hk2 : k2 ≤ 9223372036854775807 := by unfold maxLen at hm2; exact hm2
  clear hm2
  have hc1 : (t1 == t1) = true := by simp
  have hc2 : (t2 == t2) = true := by simp
  have hbA := hb1.alloc hb1.size (.cells #[.int .i64 s2.tasks, .int .i64 s2.most, .int .i64 s2.keep, .int .i64 ((s2.last : Int) + 1), .slice a2 s2.all.length k2] 31)
  have HMid2 := Lib.hid (HMid1.out.grow hbA)
  have HMM := Lib.hid (joinM_le (W' := w1.alloc (.cells #[.int .i64 s2.tasks, .int .i64 s2.most, .int .i64 s2.keep, .int .i64 ((s2.last : Int) + 1), .slice a2 s2.all.length k2] 31)) HMid1.out.le)
  have HC8 := Lib.hid (fun (wq : World) (hq : (joinM M1 w0 (w1.alloc (.cells #[.int .i64 s2.tasks, .int .i64 s2.most, .int .i64 s2.keep, .int .i64 ((s2.last : Int) + 1), .slice a2 s2.all.length k2] 31))).le (mem wq)) => (show wq.cell? ⟨w1.heap.size, 0, none⟩ = some (.int .i64 s2.tasks) ∧ wq.cell? ⟨w1.heap.size, 1, none⟩ = some (.int .i64 s2.most) ∧ wq.cell? ⟨w1.heap.size, 2, none⟩ = some (.int .i64 s2.keep) ∧ wq.cell? ⟨w1.heap.size, 3, none⟩ = some (.int .i64 ((s2.last : Int) + 1)) ∧ wq.cell? ⟨w1.heap.size, 4, none⟩ = some (.slice a2 s2.all.length k2) from ⟨hq _ _ _ (joinM_new _ _ _ (Mem.on_some (cell_new 0 rfl) hb1.size)), hq _ _ _ (joinM_new _ _ _ (Mem.on_some (cell_new 1 rfl) hb1.size)), hq _ _ _ (joinM_new _ _ _ (Mem.on_some (cell_new 2 rfl) hb1.size)), hq _ _ _ (joinM_new _ _ _ (Mem.on_some (cell_new 3 rfl) hb1.size)), hq _ _ _ (joinM_new _ _ _ (Mem.on_some (cell_new 4 rfl) hb1.size))⟩))
  have HRF2 := Lib.hid (hr1.mono (show (joinM M1 w0 w1).le (joinM M1 w0 (w1.alloc (.cells #[.int .i64 s2.tasks, .int .i64 s2.most, .int .i64 s2.keep, .int .i64 ((s2.last : Int) + 1), .slice a2 s2.all.length k2] 31))) from joinM_mono ((Below.refl _ _).alloc (Nat.le_refl _) _)))
  clear hbA hb1 hr1 c0 c1 c2 c3 c4 d0 d1 d2 d3 d4 d5
  go_upto_region 5 with fail
  generalize w1.alloc (.cells #[.int .i64 s2.tasks, .int .i64 s2.most, .int .i64 s2.keep, .int .i64 ((s2.last : Int) + 1), .slice a2 s2.all.length k2] 31) = X at *
  generalize w1.heap.size = nb at *
  generalize joinM M1 w0 X = M2 at *
  obtain ⟨c0, c1, c2, c3, c4⟩ := HC4.out X (Mem.le_trans HMM.out HMid2.out.le)
  obtain ⟨d0, d1, d2, d3, d4, d5⟩ := HC5.out X (Mem.le_trans HMM.out HMid2.out.le)
  obtain ⟨n0, n1, n2, n3, n4⟩ := HC8.out X HMid2.out.le
  obtain ⟨z0, z1, z2, z3, z4, zz⟩ := HMid2.out.res; have zz0 := zz 0; have zz1 := zz 1; have zz2 := zz 2; have zz3 := zz 3; have zz4 := zz 4; clear zz
  go_wp2
  have r1 := store5_block (HMid2.out.hR) (.int .i64 s2.tasks) (.int .i64 s2.most) (.int .i64 s2.keep) (.int .i64 ((s2.last : Int) + 1)) (.slice a2 s2.all.length k2)
  have hk := store5_keeps (X) (W.heap.size + 1 + 1) (.int .i64 s2.tasks) (.int .i64 s2.most) (.int .i64 s2.keep) (.int .i64 ((s2.last : Int) + 1)) (.slice a2 s2.all.length k2)
  show bodyPost _ _ _ _ _ (store5 (X) (W.heap.size + 1 + 1) (.int .i64 s2.tasks) (.int .i64 s2.most) (.int .i64 s2.keep) (.int .i64 ((s2.last : Int) + 1)) (.slice a2 s2.all.length k2))
  generalize store5 (X) (W.heap.size + 1 + 1) (.int .i64 s2.tasks) (.int .i64 s2.most) (.int .i64 s2.keep) (.int .i64 ((s2.last : Int) + 1)) (.slice a2 s2.all.length k2) = wz at r1 hk ⊢
  have g0 : wz.cell? ⟨W.heap.size + 1 + 1, 0, none⟩ = some (.int .i64 s2.tasks) := mem_cells r1 0
  have g1 : wz.cell? ⟨W.heap.size + 1 + 1, 1, none⟩ = some (.int .i64 s2.most) := mem_cells r1 1
  have g2 : wz.cell? ⟨W.heap.size + 1 + 1, 2, none⟩ = some (.int .i64 s2.keep) := mem_cells r1 2
  have g3 : wz.cell? ⟨W.heap.size + 1 + 1, 3, none⟩ = some (.int .i64 ((s2.last : Int) + 1)) := mem_cells r1 3
  have g4 : wz.cell? ⟨W.heap.size + 1 + 1, 4, none⟩ = some (.slice a2 s2.all.length k2) := mem_cells r1 4
  refine bodyPost_ret (v := .tuple #[.agg #[.int .i64 s2.tasks, .int .i64 s2.most, .int .i64 s2.keep, .int .i64 ((s2.last : Int) + 1), .slice a2 s2.all.length k2], .bool true]) (by simp [results, Tryz.results8, go_sem, g0, g1, g2, g3, g4]) rfl ?_
  have hf := HMid2.out.finish hk hbR (by rw [HV5.out]; exact HRF2.out)
  exact ⟨_, _, M2, by rw [HV5.out] <;> rfl, hf.1, Mem.le_trans HM1.out HMM.out, hf.2, by rw [HV5.out, HAV.out]⟩
end Go.Proofs.YtnfolemblnnejaaGreat
