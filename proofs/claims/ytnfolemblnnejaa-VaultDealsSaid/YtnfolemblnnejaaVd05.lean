/- Part 5 of the texts that the law's proof stands on, merged. -/
import Derived.Deep.RegionHeld3
import Derived.BigRegion
import Derived.Shelf.SlSortCmp.WholeK
import Derived.Ground.SlsfProg
import Derived.Test.YtnfolemblnnejaaProg
import Derived.Test.YtnfolemblnnejaaVd04
set_option linter.unusedVariables false
set_option linter.unusedSimpArgs false
/- The reference of a vault: Trigger (printed by gen_vrtrig.py). -/
namespace Go.Proofs.Ytnfolemblnnejaa
open Go.RowKit Go.Maps

set_option maxRecDepth 100000 in
set_option maxHeartbeats 16000000 in
theorem refTrigger_any (s : VS) (a : Value) (M : Mem) (W : World) (hM : M.le (mem W)) (h : RV M s a) (hl : s.all.length ≤ 1000) (hla' : s.last < 1000000) (nm : ByteArray) (hnm : nm.size ≤ maxLen) :
    Calls Try.prog 25 #[rvV s a, .string nm] W fun e W' => ∃ a', Below W.heap.size W W' ∧ e = .returned (.tuple #[rvV (s.trigged nm) a', .int .i64 (trigAns s nm).1, .int .i64 (trigAns s nm).2]) ∧ RV (joinM M W W') (s.trigged nm) a' := by
  have HM := Lib.hid hM
  have HRS := Lib.hid h
  obtain ⟨aa, ca, rfl, hla, hma, hra⟩ := slice_form h.ha
  have hca : ca ≤ 9223372036854775807 := by unfold maxLen at hma; exact hma
  have HAL := Lib.hid (show s.all.length ≤ 1000000 from by have := all_len h.ok; have := h.ok.l; omega)
  have HF0 := Lib.hid (Fr.start W (.int .i64 s.tasks) (.int .i64 s.most) (.int .i64 s.keep) (.int .i64 ((s.last : Int) + 1)) (.slice aa s.all.length ca))
  have HA := Lib.hid (fun w' (hb : Below W.heap.size W w') => tRSns.mono _ _ _ _ (Mem.le_trans hM (below_mem hb)) hra)
  have HRW := Lib.hid (fun w' (hb : Below W.heap.size W w') => (h.mono (Mem.le_trans hM (below_mem hb)) : RV (mem w') s (.slice aa s.all.length ca)))
  have HQ := Lib.hid hra
  have HNU := Lib.hid (fun (w : World) (hb : Below W.heap.size W w) => refNumbers_any s _ w (h.mono (Mem.le_trans hM (below_mem hb))) false)
  rw [pend_eq] at HNU
  have hcl := those_len h.ok (fun t => !t.done)
  change s.pend.length ≤ 1000000 at hcl
  have HOK := Lib.hid h.ok
  have HNM := Lib.hid (fun w => refName_any nm w hnm)
  have HFG := Lib.hid (show s.trigged nm = if (trigAns s nm).2 = 0 then s.trig nm else s from rfl)
  have HAN := Lib.hid (show trigAns s nm = if (!(nm.toList == []) && !isName nm) = true then (0, 1) else if ((s.pend.length : Int) == s.most) = true then (0, 10)
    else if (!(nm.toList == []) && decide (0 < (s.those (fun t => t.name.toList == nm.toList)).length)) = true then (0, 6) else if s.last = 1000000 then (0, 4) else ((s.last : Int) + 1, 0) from rfl)
  clear hma hra h hM
  cases hq : (nm.toList == []) with
  | true =>
    go_enter Try.func25, Try.ntmps25
    go_wp2_with fail
    generalize ((W.alloc (.cells #[.int .i64 s.tasks, .int .i64 s.most, .int .i64 s.keep, .int .i64 ((s.last : Int) + 1), .slice aa s.all.length ca] 31)).alloc (.cells #[.int .i64 0, .int .i64 0, .int .i64 0, .int .i64 0, .slice none 0 0] 31)) = w0 at *
    have c0 : w0.cell? ⟨W.heap.size, 0, none⟩ = some (.int .i64 s.tasks) := HF0.out.cells.1
    have c1 : w0.cell? ⟨W.heap.size, 1, none⟩ = some (.int .i64 s.most) := HF0.out.cells.2.1
    have c2 : w0.cell? ⟨W.heap.size, 2, none⟩ = some (.int .i64 s.keep) := HF0.out.cells.2.2.1
    have c3 : w0.cell? ⟨W.heap.size, 3, none⟩ = some (.int .i64 ((s.last : Int) + 1)) := HF0.out.cells.2.2.2.1
    have c4 : w0.cell? ⟨W.heap.size, 4, none⟩ = some (.slice aa s.all.length ca) := HF0.out.cells.2.2.2.2
    have cz : ∀ o, w0.frozen? ⟨W.heap.size, o, none⟩ = false := HF0.out.thaw
    have d0 : w0.cell? ⟨W.heap.size + 1, 0, none⟩ = some (.int .i64 0) := HF0.out.res.1
    have d1 : w0.cell? ⟨W.heap.size + 1, 1, none⟩ = some (.int .i64 0) := HF0.out.res.2.1
    have d2 : w0.cell? ⟨W.heap.size + 1, 2, none⟩ = some (.int .i64 0) := HF0.out.res.2.2.1
    have d3 : w0.cell? ⟨W.heap.size + 1, 3, none⟩ = some (.int .i64 0) := HF0.out.res.2.2.2.1
    have d4 : w0.cell? ⟨W.heap.size + 1, 4, none⟩ = some (.slice none 0 0) := HF0.out.res.2.2.2.2.1
    have dz : ∀ o, w0.frozen? ⟨W.heap.size + 1, o, none⟩ = false := HF0.out.res.2.2.2.2.2
    try simp only [Exit.then]
    have HXD := Lib.hid (show Below w0.heap.size w0 w0.drew from (Below.refl _ _).drew)
    have HPD := Lib.hid (HNU.out _ (HF0.out.bl.drew))
    have HCX := Lib.hid (fun (w' : World) (hb : Below w0.heap.size w0 w') => (HF0.out.pure hb).cells)
    have hcd := HCX.out _ HXD.out
    go_wp2_with fail
    go_region_held3 (fun w' => w'.cell? ⟨W.heap.size, 0, none⟩ = some (.int .i64 s.tasks) ∧ w'.cell? ⟨W.heap.size, 1, none⟩ = some (.int .i64 s.most) ∧ w'.cell? ⟨W.heap.size, 2, none⟩ = some (.int .i64 s.keep) ∧ w'.cell? ⟨W.heap.size, 3, none⟩ = some (.int .i64 ((s.last : Int) + 1)) ∧ w'.cell? ⟨W.heap.size, 4, none⟩ = some (.slice aa s.all.length ca))
      (first | assumption | go_keep)
      ((first | (go_at_call 54; refine HPD.out.mono ?_; rintro e w1 ⟨a1, k1, rfl, ho1, hb1⟩; have HB1 := Lib.hid (pure_trans HXD.out hb1); have e1 := HCX.out _ HB1.out)))
    rename_i hHeld
    clear hHeld e1 hcd hb1 ho1 HPD HXD HCX
    try simp only [Exit.then]
    go_at_K
    have HF1 := Lib.hid (HF0.out.pure HB1.out)
    clear HB1 HF0 c0 c1 c2 c3 c4 cz d0 d1 d2 d3 d4 dz HNU
    have c0 : w1.cell? ⟨W.heap.size, 0, none⟩ = some (.int .i64 s.tasks) := HF1.out.cells.1
    have c1 : w1.cell? ⟨W.heap.size, 1, none⟩ = some (.int .i64 s.most) := HF1.out.cells.2.1
    have c2 : w1.cell? ⟨W.heap.size, 2, none⟩ = some (.int .i64 s.keep) := HF1.out.cells.2.2.1
    have c3 : w1.cell? ⟨W.heap.size, 3, none⟩ = some (.int .i64 ((s.last : Int) + 1)) := HF1.out.cells.2.2.2.1
    have c4 : w1.cell? ⟨W.heap.size, 4, none⟩ = some (.slice aa s.all.length ca) := HF1.out.cells.2.2.2.2
    have cz : ∀ o, w1.frozen? ⟨W.heap.size, o, none⟩ = false := HF1.out.thaw
    have d0 : w1.cell? ⟨W.heap.size + 1, 0, none⟩ = some (.int .i64 0) := HF1.out.res.1
    have d1 : w1.cell? ⟨W.heap.size + 1, 1, none⟩ = some (.int .i64 0) := HF1.out.res.2.1
    have d2 : w1.cell? ⟨W.heap.size + 1, 2, none⟩ = some (.int .i64 0) := HF1.out.res.2.2.1
    have d3 : w1.cell? ⟨W.heap.size + 1, 3, none⟩ = some (.int .i64 0) := HF1.out.res.2.2.2.1
    have d4 : w1.cell? ⟨W.heap.size + 1, 4, none⟩ = some (.slice none 0 0) := HF1.out.res.2.2.2.2.1
    have dz : ∀ o, w1.frozen? ⟨W.heap.size + 1, o, none⟩ = false := HF1.out.res.2.2.2.2.2
    cases hp : ((s.pend.length : Int) == s.most) with
    | true =>
      have HAE := Lib.hid (show trigAns s nm = (0, 10) from by rw [HAN.out]; simp [*])
      have HS := Lib.hid (show s.trigged nm = s from HFG.out.trans (if_neg (by rw [HAE.out]; decide)))
      clear HAN
      go_wp2
      have r1 := store5_block HF1.out.rs (.int .i64 s.tasks) (.int .i64 s.most) (.int .i64 s.keep) (.int .i64 ((s.last : Int) + 1)) (.slice aa s.all.length ca)
      have hBz := store5_below HF1.out.bl (Nat.le_succ _) (.int .i64 s.tasks) (.int .i64 s.most) (.int .i64 s.keep) (.int .i64 ((s.last : Int) + 1)) (.slice aa s.all.length ca)
      have hnz : (nw W w1).le (nw W (store5 w1 (W.heap.size + 1) (.int .i64 s.tasks) (.int .i64 s.most) (.int .i64 s.keep) (.int .i64 ((s.last : Int) + 1)) (.slice aa s.all.length ca))) := nw_store5 (.int .i64 s.tasks) (.int .i64 s.most) (.int .i64 s.keep) (.int .i64 ((s.last : Int) + 1)) (.slice aa s.all.length ca)
      show bodyPost _ _ _ _ _ (store5 w1 (W.heap.size + 1) (.int .i64 s.tasks) (.int .i64 s.most) (.int .i64 s.keep) (.int .i64 ((s.last : Int) + 1)) (.slice aa s.all.length ca))
      generalize store5 w1 (W.heap.size + 1) (.int .i64 s.tasks) (.int .i64 s.most) (.int .i64 s.keep) (.int .i64 ((s.last : Int) + 1)) (.slice aa s.all.length ca) = wz at r1 hBz hnz ⊢
      have g0 : wz.cell? ⟨W.heap.size + 1, 0, none⟩ = some (.int .i64 s.tasks) := mem_cells r1 0
      have g1 : wz.cell? ⟨W.heap.size + 1, 1, none⟩ = some (.int .i64 s.most) := mem_cells r1 1
      have g2 : wz.cell? ⟨W.heap.size + 1, 2, none⟩ = some (.int .i64 s.keep) := mem_cells r1 2
      have g3 : wz.cell? ⟨W.heap.size + 1, 3, none⟩ = some (.int .i64 ((s.last : Int) + 1)) := mem_cells r1 3
      have g4 : wz.cell? ⟨W.heap.size + 1, 4, none⟩ = some (.slice aa s.all.length ca) := mem_cells r1 4
      exact bodyPost_ret (v := .tuple #[.agg #[.int .i64 s.tasks, .int .i64 s.most, .int .i64 s.keep, .int .i64 ((s.last : Int) + 1), .slice aa s.all.length ca], .int .i64 0, .int .i64 10]) (by simp [results, Try.results25, go_sem, g0, g1, g2, g3, g4]) rfl ⟨.slice aa s.all.length ca, hBz, by rw [HS.out, HAE.out], by rw [HS.out]; exact HRS.out.mono (joinM_le HM.out)⟩
    | false =>
      have HNO := Lib.hid (show (!(nm.toList == []) && decide (0 < (s.those (fun t => t.name.toList == nm.toList)).length)) = false from by rw [hq]; rfl)
      go_wp2_with fail
      go_loopw [7] (fun iv wr => ∃ j : Nat, j ≤ s.all.length ∧ iv = .int .i64 j ∧ wr = w1) (fun iv _ => s.all.length - (intOf iv).toNat)
      case atStart => exact ⟨0, by omega, rfl, rfl⟩
      case round =>
        obtain ⟨j, hj, rfl, rfl⟩ := hrel
        by_cases hlt : j < s.all.length
        · go_wp2
          go_roundw
          case rel => exact ⟨j + 1, by omega, by go_num, by first | rfl | trivial⟩
          case measure => simp [intOf]; omega
        · obtain rfl : j = s.all.length := by omega
          have HAX := Lib.hid (show trigAns s nm = ((s.last : Int) + 1, 0) from by
            rw [HAN.out, hp, HNO.out]
            simp only [Bool.false_eq_true, if_false]
            rw [if_neg (by simp [*]), if_neg (by have := hla'; omega)])
          clear HAN HNO HNM
          go_wp2_with fail
          have hT40 : s.tasks ≤ 1000 := by have := HOK.out.t40; omega
          have hSb : (Sn.new s.tasks nm).bits = List.replicate s.tasks false := by simp [Sn.new, Sn.bits]
          have hSt : (Sn.new s.tasks nm).texts = List.replicate s.tasks .empty := by simp [Sn.new, Sn.texts]
          have hXd : .bool false = Value.bool (newX s nm).2.done := by
            have h1 := HOK.out.t1
            simp only [newX, Sn.new, Sn.done, List.all_replicate]
            simp [show s.tasks ≠ 0 by omega]
          have hXi : inI64 (newX s nm).1 ∧ (newX s nm).2.name.size ≤ maxLen := ⟨by unfold inI64; simp only [newX]; have := hla'; omega, hnm⟩
          have hSe : (Sn.new s.tasks nm).rents = List.replicate s.tasks [] := by simp [Sn.new, Sn.rents]
          refine wp_region_inv (by kernel_rfl) (by kernel_rfl) (by kernel_rfl) (TJ W M s nm aa ca) ?start (AllAt.all ?steps) ?ends
          case start =>
            exact ⟨⟨_, HF1.out.pure (Below.refl _ _).drew, fun _ => rfl, fun e => (by cases e)⟩, fun k e => (by cases e), fun e => (by cases e), fun e => (by cases e), fun e => (by cases e), fun k e => by cases e⟩
          case steps =>
            clear HF1 c0 c1 c2 c3 c4 cz d0 d1 d2 d3 d4 dz HA HRW HRS HFG HAX hp
            refine AllAt.cons 1 ?s0 (AllAt.cons 2 ?s1 (AllAt.cons 3 ?s2 (AllAt.cons 4 ?s3 (AllAt.cons 5 ?s4 (AllAt.cons 6 ?s5 (AllAt.cons 7 ?s6 (AllAt.cons 8 ?s7 (AllAt.cons 9 ?s8 (AllAt.cons 10 ?s9 (AllAt.cons 11 ?s10 (AllAt.cons 12 ?s11 (AllAt.cons 13 ?s12 (AllAt.cons 14 ?s13 (AllAt.cons 15 ?s14 (AllAt.cons 16 ?s15 (AllAt.cons 17 ?s16 (AllAt.cons 18 ?s17 (AllAt.cons 19 ?s18 (AllAt.cons 20 ?s19 (AllAt.nil) rfl) rfl) rfl) rfl) rfl) rfl) rfl) rfl) rfl) rfl) rfl) rfl) rfl) rfl) rfl) rfl) rfl) rfl) rfl) rfl
            case s0 =>
              intro L f a wz hJ hLi hdep hv h0 K hK
              have hsz := hJ.size
              refine step_val rfl (v := .slice (some ⟨wz.heap.size, 0, none⟩) 0 0) (w' := wz.alloc (.cells #[] 106)) ?_ (hK _ _ (hJ.add (by decide) (by decide) (by decide) (box_below wz _) (fun _ => ⟨wz.heap.size, rfl, heap_alloc_new wz _, hsz⟩)))
              clear hJ hdep hv h0 hK
              simp [go_sem, execOp]
            case s1 =>
              intro L f a wz hJ hLi hdep hv h0 K hK
              have e2 : a.eval (.tmp 2) = .pointer (some ⟨W.heap.size, 0, none⟩) := (h0 2 (noDst_spec (by kernel_rfl))).trans rfl
              refine step_val rfl (v := .pointer (some ⟨W.heap.size, 4, none⟩)) (w' := wz) ?_ (hK _ _ (hJ.add (by decide) (by decide) (by decide) (Below.refl _ _) (show _ = _ from rfl)))
              clear hJ hdep hv h0 hK
              generalize a.eval = ρ at *
              simp [go_sem, execOp, *]
            case s2 =>
              intro L f a wz hJ hLi hdep hv h0 K hK
              have hL1 := hdep 1 (List.mem_of_elem_eq_true (by kernel_rfl))
              have e47 := (hv 1 47 rfl hL1).trans (hJ.vs 1 hL1)
              have c4 := hJ.cell4 hLi
              refine step_val rfl (v := .slice aa s.all.length ca) (w' := wz) ?_ (hK _ _ (hJ.add (by decide) (by decide) (by decide) (Below.refl _ _) (show _ = _ from rfl)))
              clear hJ hdep hv h0 hK
              generalize a.eval = ρ at *
              simp [go_sem, execOp, *]
            case s3 =>
              intro L f a wz hJ hLi hdep hv h0 K hK
              have hL0 := hdep 0 (List.mem_of_elem_eq_true (by kernel_rfl))
              have hL2 := hdep 2 (List.mem_of_elem_eq_true (by kernel_rfl))
              have hL17 : L 17 = false := by
                cases e : L 17 with
                | false => rfl
                | true => rw [hJ.c17 e] at hLi; cases hLi
              obtain ⟨b0, hb0, hb1, hb2⟩ := hJ.vs 0 hL0 hLi
              have e46 := (hv 0 46 rfl hL0).trans hb0
              have e48 := (hv 2 48 rfl hL2).trans (hJ.vs 2 hL2)
              obtain ⟨u, hF, -, -⟩ := hJ.st
              refine step_append_os rfl (.tmp 46) (.tmp 48) 29 rfl (tIn M tRSn) (tIn_flat M tRSn) (tRSn_one M) Try.underlying29 infoRSn rfl (Nat.succ_pos 5) _ [] s.all e46 (lit0_of _ hb1) _ _ _ e48 rfl (slice_to HQ.out (Mem.le_trans HM.out (below_mem hF.bl))) (by have := HAL.out; simp; unfold maxLen; omega) (by have := HAL.out; simp; omega) ?_
              intro v5 w5 own5 happ
              rw [List.nil_append] at own5
              exact hK _ _ (hJ.add3 hLi hL0 hL2 own5 (by rw [hb0]; exact happ))
            case s4 =>
              intro L f a wz hJ hLi hdep hv h0 K hK
              have e8 : a.eval (.tmp 8) = .int .i64 ((s.last : Int) + 1) := (h0 8 (noDst_spec (by kernel_rfl))).trans rfl
              refine step_val rfl (v := .int .i64 ((s.last : Int) + 1)) (w' := wz) ?_ (hK _ _ (hJ.add (by decide) (by decide) (by decide) (Below.refl _ _) (show _ = _ from rfl)))
              clear hJ hdep hv h0 hK
              generalize a.eval = ρ at *
              simp [go_sem, execOp, *]
            case s5 =>
              intro L f a wz hJ hLi hdep hv h0 K hK
              have e1 : a.eval (.tmp 1) = .string nm := (h0 1 (noDst_spec (by kernel_rfl))).trans rfl
              refine step_val rfl (v := .string nm) (w' := wz) ?_ (hK _ _ (hJ.add (by decide) (by decide) (by decide) (Below.refl _ _) (show _ = _ from rfl)))
              clear hJ hdep hv h0 hK
              generalize a.eval = ρ at *
              simp [go_sem, execOp, *]
            case s6 =>
              intro L f a wz hJ hLi hdep hv h0 K hK
              have e2 : a.eval (.tmp 2) = .pointer (some ⟨W.heap.size, 0, none⟩) := (h0 2 (noDst_spec (by kernel_rfl))).trans rfl
              refine step_val rfl (v := .pointer (some ⟨W.heap.size, 0, none⟩)) (w' := wz) ?_ (hK _ _ (hJ.add (by decide) (by decide) (by decide) (Below.refl _ _) (show _ = _ from rfl)))
              clear hJ hdep hv h0 hK
              generalize a.eval = ρ at *
              simp [go_sem, execOp, *]
            case s7 =>
              intro L f a wz hJ hLi hdep hv h0 K hK
              have hL6 := hdep 6 (List.mem_of_elem_eq_true (by kernel_rfl))
              have e52 := (hv 6 52 rfl hL6).trans (hJ.vs 6 hL6)
              have c0 := hJ.cell0
              refine step_val rfl (v := .int .i64 s.tasks) (w' := wz) ?_ (hK _ _ (hJ.add (by decide) (by decide) (by decide) (Below.refl _ _) (show _ = _ from rfl)))
              clear hJ hdep hv h0 hK
              generalize a.eval = ρ at *
              simp [go_sem, execOp, *]
            case s8 =>
              intro L f a wz hJ hLi hdep hv h0 K hK
              have hL7 := hdep 7 (List.mem_of_elem_eq_true (by kernel_rfl))
              have e53 := (hv 7 53 rfl hL7).trans (hJ.vs 7 hL7)
              have hmk := make_any (T := 104) (e := 4) rfl infoBool1 rfl (by decide) s.tasks hT40 wz
              refine step_val rfl (v := .slice (some ⟨wz.heap.size, 0, none⟩) s.tasks s.tasks) (w' := wz.alloc (.cells (madeCells #[.bool false] s.tasks) 4)) ?_ (hK _ _ (hJ.add (by decide) (by decide) (by decide) (box_below wz _) ⟨_, rfl, hSb ▸ hJ.made (by rfl) (t := tBool) (fun _ => rfl) hT40⟩))
              clear hJ hdep hv h0 hK
              generalize a.eval = ρ at *
              simp [go_sem, execOp, e53, hmk]
            case s9 =>
              intro L f a wz hJ hLi hdep hv h0 K hK
              have e2 : a.eval (.tmp 2) = .pointer (some ⟨W.heap.size, 0, none⟩) := (h0 2 (noDst_spec (by kernel_rfl))).trans rfl
              refine step_val rfl (v := .pointer (some ⟨W.heap.size, 0, none⟩)) (w' := wz) ?_ (hK _ _ (hJ.add (by decide) (by decide) (by decide) (Below.refl _ _) (show _ = _ from rfl)))
              clear hJ hdep hv h0 hK
              generalize a.eval = ρ at *
              simp [go_sem, execOp, *]
            case s10 =>
              intro L f a wz hJ hLi hdep hv h0 K hK
              have hL9 := hdep 9 (List.mem_of_elem_eq_true (by kernel_rfl))
              have e55 := (hv 9 55 rfl hL9).trans (hJ.vs 9 hL9)
              have c0 := hJ.cell0
              refine step_val rfl (v := .int .i64 s.tasks) (w' := wz) ?_ (hK _ _ (hJ.add (by decide) (by decide) (by decide) (Below.refl _ _) (show _ = _ from rfl)))
              clear hJ hdep hv h0 hK
              generalize a.eval = ρ at *
              simp [go_sem, execOp, *]
            case s11 =>
              intro L f a wz hJ hLi hdep hv h0 K hK
              have hL10 := hdep 10 (List.mem_of_elem_eq_true (by kernel_rfl))
              have e56 := (hv 10 56 rfl hL10).trans (hJ.vs 10 hL10)
              have hmk := make_any (T := 34) (e := 9) rfl infoStr1 rfl (by decide) s.tasks hT40 wz
              refine step_val rfl (v := .slice (some ⟨wz.heap.size, 0, none⟩) s.tasks s.tasks) (w' := wz.alloc (.cells (madeCells #[.string .empty] s.tasks) 9)) ?_ (hK _ _ (hJ.add (by decide) (by decide) (by decide) (box_below wz _) ⟨_, rfl, hSt ▸ hJ.made (by rfl) (t := tStr) (fun _ => ⟨rfl, Nat.zero_le _⟩) hT40⟩))
              clear hJ hdep hv h0 hK
              generalize a.eval = ρ at *
              simp [go_sem, execOp, e56, hmk]
            case s12 =>
              intro L f a wz hJ hLi hdep hv h0 K hK
              have e2 : a.eval (.tmp 2) = .pointer (some ⟨W.heap.size, 0, none⟩) := (h0 2 (noDst_spec (by kernel_rfl))).trans rfl
              refine step_val rfl (v := .pointer (some ⟨W.heap.size, 0, none⟩)) (w' := wz) ?_ (hK _ _ (hJ.add (by decide) (by decide) (by decide) (Below.refl _ _) (show _ = _ from rfl)))
              clear hJ hdep hv h0 hK
              generalize a.eval = ρ at *
              simp [go_sem, execOp, *]
            case s13 =>
              intro L f a wz hJ hLi hdep hv h0 K hK
              have hL12 := hdep 12 (List.mem_of_elem_eq_true (by kernel_rfl))
              have e58 := (hv 12 58 rfl hL12).trans (hJ.vs 12 hL12)
              have c0 := hJ.cell0
              refine step_val rfl (v := .int .i64 s.tasks) (w' := wz) ?_ (hK _ _ (hJ.add (by decide) (by decide) (by decide) (Below.refl _ _) (show _ = _ from rfl)))
              clear hJ hdep hv h0 hK
              generalize a.eval = ρ at *
              simp [go_sem, execOp, *]
            case s14 =>
              intro L f a wz hJ hLi hdep hv h0 K hK
              have hL13 := hdep 13 (List.mem_of_elem_eq_true (by kernel_rfl))
              have e59 := (hv 13 59 rfl hL13).trans (hJ.vs 13 hL13)
              have hmk := make_any (T := 49) (e := 35) rfl infoEs1 rfl (by decide) s.tasks hT40 wz
              refine step_val rfl (v := .slice (some ⟨wz.heap.size, 0, none⟩) s.tasks s.tasks) (w' := wz.alloc (.cells (madeCells #[.slice none 0 0] s.tasks) 35)) ?_ (hK _ _ (hJ.add (by decide) (by decide) (by decide) (box_below wz _) ⟨_, rfl, hSe ▸ hJ.made (by rfl) (t := tEnts) (fun m => slice_nil _ _) hT40⟩))
              clear hJ hdep hv h0 hK
              generalize a.eval = ρ at *
              simp [go_sem, execOp, e59, hmk]
            case s15 =>
              intro L f a wz hJ hLi hdep hv h0 K hK
              have hL4 := hdep 4 (List.mem_of_elem_eq_true (by kernel_rfl))
              have hL5 := hdep 5 (List.mem_of_elem_eq_true (by kernel_rfl))
              have hL8 := hdep 8 (List.mem_of_elem_eq_true (by kernel_rfl))
              have hL11 := hdep 11 (List.mem_of_elem_eq_true (by kernel_rfl))
              have hL14 := hdep 14 (List.mem_of_elem_eq_true (by kernel_rfl))
              have e50 := (hv 4 50 rfl hL4).trans (hJ.vs 4 hL4)
              have e51 := (hv 5 51 rfl hL5).trans (hJ.vs 5 hL5)
              obtain ⟨a8, e8, r8⟩ := hJ.vs 8 hL8
              obtain ⟨a11, e11, r11⟩ := hJ.vs 11 hL11
              obtain ⟨a14, e14, r14⟩ := hJ.vs 14 hL14
              have e54 := (hv 8 54 rfl hL8).trans e8
              have e57 := (hv 11 57 rfl hL11).trans e11
              have e60 := (hv 14 60 rfl hL14).trans e14
              rw [e8] at r8
              rw [e11] at r11
              rw [e14] at r14
              refine step_val rfl (v := .agg #[.int .i64 ((s.last : Int) + 1), .string nm, .bool false, .slice a8 s.tasks s.tasks, .slice a11 s.tasks s.tasks, .slice a14 s.tasks s.tasks]) (w' := wz) ?_ (hK _ _ (hJ.add (by decide) (by decide) (by decide) (Below.refl _ _) ⟨a8, a11, a14, rfl, ⟨_, _, _, by rw [← hXd]; rfl, hXi, r8, r11, r14⟩⟩))
              clear hJ hdep hv h0 hK
              generalize a.eval = ρ at *
              simp [go_sem, execOp, e50, e51, e54, e57, e60]
            case s16 =>
              intro L f a wz hJ hLi hdep hv h0 K hK
              have hL15 := hdep 15 (List.mem_of_elem_eq_true (by kernel_rfl))
              obtain ⟨a1, a2, a3, e15, r15⟩ := hJ.vs 15 hL15
              have e61 := (hv 15 61 rfl hL15).trans e15
              have hsz := hJ.size
              have how := hJ.ow
              refine step_val rfl (v := .slice (some ⟨wz.heap.size, 0, none⟩) 1 1) (w' := wz.alloc (.cells #[.int .i64 ((s.last : Int) + 1), .string nm, .bool false, .slice a1 s.tasks s.tasks, .slice a2 s.tasks s.tasks, .slice a3 s.tasks s.tasks] 106)) ?_ (hK _ _ (hJ.add (by decide) (by decide) (by decide) (box_below wz _) ⟨_, 1, rfl, new_row hsz how r15⟩))
              clear hJ hdep hv h0 hK
              generalize a.eval = ρ at *
              simp [go_sem, execOp, e61]
            case s17 =>
              intro L f a wz hJ hLi hdep hv h0 K hK
              have hL3 := hdep 3 (List.mem_of_elem_eq_true (by kernel_rfl))
              have hL16 := hdep 16 (List.mem_of_elem_eq_true (by kernel_rfl))
              obtain ⟨a, cp, e16, r16⟩ := hJ.vs 16 hL16
              obtain ⟨o3, -⟩ := hJ.vs 3 hL3 hLi
              have e49 := hv 3 49 rfl hL3
              have e62 := (hv 16 62 rfl hL16).trans e16
              rw [e16] at r16
              refine step_append_os rfl (.tmp 49) (.tmp 62) 29 rfl (tIn (joinN M W (NM W (cx L f) wz)) tRSn) (tIn_flat _ tRSn) (tRSn_one _) Try.underlying29 infoRSn rfl (Nat.succ_pos 5) _ s.all [newX s nm] e49 (o3.re (joinN_of _ HM.out)) _ _ _ e62 rfl (slice_to2 r16 NM_le NM_join) (by have := HAL.out; simp; unfold maxLen; omega) (by have := HAL.out; simp; omega) ?_
              intro v5 w5 own5 happ
              exact hK _ _ (hJ.add17 hLi hL3 own5 happ)
            case s18 =>
              intro L f a wz hJ hLi hdep hv h0 K hK
              have e2 : a.eval (.tmp 2) = .pointer (some ⟨W.heap.size, 0, none⟩) := (h0 2 (noDst_spec (by kernel_rfl))).trans rfl
              refine step_val rfl (v := .pointer (some ⟨W.heap.size, 4, none⟩)) (w' := wz) ?_ (hK _ _ (hJ.add (by decide) (by decide) (by decide) (Below.refl _ _) (show _ = _ from rfl)))
              clear hJ hdep hv h0 hK
              generalize a.eval = ρ at *
              simp [go_sem, execOp, *]
            case s19 =>
              intro L f a wz hJ hLi hdep hv h0 K hK
              have hL17 := hdep 17 (List.mem_of_elem_eq_true (by kernel_rfl))
              have hL18 := hdep 18 (List.mem_of_elem_eq_true (by kernel_rfl))
              obtain ⟨⟨u, c4⟩, z4⟩ := hJ.some4
              obtain ⟨a17, cp17, e17, -⟩ := hJ.vs 17 hL17
              have e63 := (hv 17 63 rfl hL17).trans e17
              have e64 := (hv 18 64 rfl hL18).trans (hJ.vs 18 hL18)
              have hk := hK undef _ (hJ.add19 hL17 undef)
              rw [e17] at hk
              refine step_skip rfl ?_ hk
              clear hJ hdep hv h0 hK hk
              generalize a.eval = ρ at *
              simp [go_sem, execOp, e63, e64, c4, z4]
          case ends =>
            intro L f w5 hJ hall
            obtain ⟨u, hF5, -, hu⟩ := hJ.st
            obtain ⟨a5, c5, rfl, hr5⟩ := hu (hall 19 (by decide))
            have HF5 := Lib.hid hF5
            have HR5 := Lib.hid hr5
            clear hF5 hr5 hu hJ hall c0 c1 c2 c3 c4 cz d0 d1 d2 d3 d4 dz HF1 hSb hSt hSe hXd hXi
            have c0 : w5.cell? ⟨W.heap.size, 0, none⟩ = some (.int .i64 s.tasks) := HF5.out.cells.1
            have c1 : w5.cell? ⟨W.heap.size, 1, none⟩ = some (.int .i64 s.most) := HF5.out.cells.2.1
            have c2 : w5.cell? ⟨W.heap.size, 2, none⟩ = some (.int .i64 s.keep) := HF5.out.cells.2.2.1
            have c3 : w5.cell? ⟨W.heap.size, 3, none⟩ = some (.int .i64 ((s.last : Int) + 1)) := HF5.out.cells.2.2.2.1
            have c4 : w5.cell? ⟨W.heap.size, 4, none⟩ = some (.slice a5 (s.all.length + 1) c5) := HF5.out.cells.2.2.2.2
            have cz : ∀ o, w5.frozen? ⟨W.heap.size, o, none⟩ = false := HF5.out.thaw
            have d0 : w5.cell? ⟨W.heap.size + 1, 0, none⟩ = some (.int .i64 0) := HF5.out.res.1
            have d1 : w5.cell? ⟨W.heap.size + 1, 1, none⟩ = some (.int .i64 0) := HF5.out.res.2.1
            have d2 : w5.cell? ⟨W.heap.size + 1, 2, none⟩ = some (.int .i64 0) := HF5.out.res.2.2.1
            have d3 : w5.cell? ⟨W.heap.size + 1, 3, none⟩ = some (.int .i64 0) := HF5.out.res.2.2.2.1
            have d4 : w5.cell? ⟨W.heap.size + 1, 4, none⟩ = some (.slice none 0 0) := HF5.out.res.2.2.2.2.1
            have dz : ∀ o, w5.frozen? ⟨W.heap.size + 1, o, none⟩ = false := HF5.out.res.2.2.2.2.2
            simp only [putAll, Exit.then]
            go_at_K
            have HS := Lib.hid (show s.trigged nm = s.trig nm from HFG.out.trans (if_pos (by rw [HAX.out])))
            have HF9 := Lib.hid (HF5.out.set3 (.int .i64 ((s.last : Int) + 1 + 1)))
            have HN9 := Lib.hid (jn_set (M := M) (W := W) (w := w5) (b := W.heap.size) (o := 3) (u := .int .i64 ((s.last : Int) + 1 + 1)) (by omega))
            have HV9 := Lib.hid (show rvV (s.trig nm) (.slice a5 (s.all.length + 1) c5) = .agg #[.int .i64 s.tasks, .int .i64 s.most, .int .i64 s.keep, .int .i64 ((s.last : Int) + 1 + 1), .slice a5 (s.all.length + 1) c5] from by
              show Value.agg #[.int .i64 s.tasks, .int .i64 s.most, .int .i64 s.keep, .int .i64 (((s.last + 1 : Nat) : Int) + 1), .slice a5 (s.all.length + 1) c5] = _
              rw [Int.natCast_add]; rfl)
            have HO9 := Lib.hid (show RV (jn M W (w5.setCell ⟨W.heap.size, 3, none⟩ (.int .i64 ((s.last : Int) + 1 + 1)))) (s.trig nm) (.slice a5 (s.all.length + 1) c5) from ⟨(tSlice tRSn).mono _ _ _ _ HN9.out HR5.out, HOK.out.trig hla' hnm⟩)
            go_wp2
            have r1 := store5_block HF9.out.rs (.int .i64 s.tasks) (.int .i64 s.most) (.int .i64 s.keep) (.int .i64 ((s.last : Int) + 1 + 1)) (.slice a5 (s.all.length + 1) c5)
            have hBz := store5_below HF9.out.bl (Nat.le_succ _) (.int .i64 s.tasks) (.int .i64 s.most) (.int .i64 s.keep) (.int .i64 ((s.last : Int) + 1 + 1)) (.slice a5 (s.all.length + 1) c5)
            have hnz : (nw W (w5.setCell ⟨W.heap.size, 3, none⟩ (.int .i64 ((s.last : Int) + 1 + 1)))).le (nw W (store5 (w5.setCell ⟨W.heap.size, 3, none⟩ (.int .i64 ((s.last : Int) + 1 + 1))) (W.heap.size + 1) (.int .i64 s.tasks) (.int .i64 s.most) (.int .i64 s.keep) (.int .i64 ((s.last : Int) + 1 + 1)) (.slice a5 (s.all.length + 1) c5))) := nw_store5 (.int .i64 s.tasks) (.int .i64 s.most) (.int .i64 s.keep) (.int .i64 ((s.last : Int) + 1 + 1)) (.slice a5 (s.all.length + 1) c5)
            show bodyPost _ _ _ _ _ (store5 (w5.setCell ⟨W.heap.size, 3, none⟩ (.int .i64 ((s.last : Int) + 1 + 1))) (W.heap.size + 1) (.int .i64 s.tasks) (.int .i64 s.most) (.int .i64 s.keep) (.int .i64 ((s.last : Int) + 1 + 1)) (.slice a5 (s.all.length + 1) c5))
            generalize store5 (w5.setCell ⟨W.heap.size, 3, none⟩ (.int .i64 ((s.last : Int) + 1 + 1))) (W.heap.size + 1) (.int .i64 s.tasks) (.int .i64 s.most) (.int .i64 s.keep) (.int .i64 ((s.last : Int) + 1 + 1)) (.slice a5 (s.all.length + 1) c5) = wz at r1 hBz hnz ⊢
            have g0 : wz.cell? ⟨W.heap.size + 1, 0, none⟩ = some (.int .i64 s.tasks) := mem_cells r1 0
            have g1 : wz.cell? ⟨W.heap.size + 1, 1, none⟩ = some (.int .i64 s.most) := mem_cells r1 1
            have g2 : wz.cell? ⟨W.heap.size + 1, 2, none⟩ = some (.int .i64 s.keep) := mem_cells r1 2
            have g3 : wz.cell? ⟨W.heap.size + 1, 3, none⟩ = some (.int .i64 ((s.last : Int) + 1 + 1)) := mem_cells r1 3
            have g4 : wz.cell? ⟨W.heap.size + 1, 4, none⟩ = some (.slice a5 (s.all.length + 1) c5) := mem_cells r1 4
            exact bodyPost_ret (v := .tuple #[.agg #[.int .i64 s.tasks, .int .i64 s.most, .int .i64 s.keep, .int .i64 ((s.last : Int) + 1 + 1), .slice a5 (s.all.length + 1) c5], .int .i64 ((s.last : Int) + 1), .int .i64 0]) (by simp [results, Try.results25, go_sem, g0, g1, g2, g3, g4]) rfl ⟨.slice a5 (s.all.length + 1) c5, hBz, by rw [HS.out, HAX.out, HV9.out], by rw [HS.out]; exact HO9.out.mono (jn_join HM.out hnz)⟩
  | false =>
    cases hn0 : isName nm with
    | false =>
      rw [hn0] at HNM
      go_enter Try.func25, Try.ntmps25
      go_wp2_with fail
      refine (HNM.out _).mono ?_
      rintro e w0 ⟨rfl, rfl⟩
      generalize ((W.alloc (.cells #[.int .i64 s.tasks, .int .i64 s.most, .int .i64 s.keep, .int .i64 ((s.last : Int) + 1), .slice aa s.all.length ca] 31)).alloc (.cells #[.int .i64 0, .int .i64 0, .int .i64 0, .int .i64 0, .slice none 0 0] 31)) = w0 at *
      have HAE := Lib.hid (show trigAns s nm = (0, 1) from by rw [HAN.out]; simp [*])
      have HS := Lib.hid (show s.trigged nm = s from HFG.out.trans (if_neg (by rw [HAE.out]; decide)))
      clear HAN
      have c0 : w0.cell? ⟨W.heap.size, 0, none⟩ = some (.int .i64 s.tasks) := HF0.out.cells.1
      have c1 : w0.cell? ⟨W.heap.size, 1, none⟩ = some (.int .i64 s.most) := HF0.out.cells.2.1
      have c2 : w0.cell? ⟨W.heap.size, 2, none⟩ = some (.int .i64 s.keep) := HF0.out.cells.2.2.1
      have c3 : w0.cell? ⟨W.heap.size, 3, none⟩ = some (.int .i64 ((s.last : Int) + 1)) := HF0.out.cells.2.2.2.1
      have c4 : w0.cell? ⟨W.heap.size, 4, none⟩ = some (.slice aa s.all.length ca) := HF0.out.cells.2.2.2.2
      have cz : ∀ o, w0.frozen? ⟨W.heap.size, o, none⟩ = false := HF0.out.thaw
      have d0 : w0.cell? ⟨W.heap.size + 1, 0, none⟩ = some (.int .i64 0) := HF0.out.res.1
      have d1 : w0.cell? ⟨W.heap.size + 1, 1, none⟩ = some (.int .i64 0) := HF0.out.res.2.1
      have d2 : w0.cell? ⟨W.heap.size + 1, 2, none⟩ = some (.int .i64 0) := HF0.out.res.2.2.1
      have d3 : w0.cell? ⟨W.heap.size + 1, 3, none⟩ = some (.int .i64 0) := HF0.out.res.2.2.2.1
      have d4 : w0.cell? ⟨W.heap.size + 1, 4, none⟩ = some (.slice none 0 0) := HF0.out.res.2.2.2.2.1
      have dz : ∀ o, w0.frozen? ⟨W.heap.size + 1, o, none⟩ = false := HF0.out.res.2.2.2.2.2
      go_wp2
      have r1 := store5_block HF0.out.rs (.int .i64 s.tasks) (.int .i64 s.most) (.int .i64 s.keep) (.int .i64 ((s.last : Int) + 1)) (.slice aa s.all.length ca)
      have hBz := store5_below HF0.out.bl (Nat.le_succ _) (.int .i64 s.tasks) (.int .i64 s.most) (.int .i64 s.keep) (.int .i64 ((s.last : Int) + 1)) (.slice aa s.all.length ca)
      have hnz : (nw W w0).le (nw W (store5 w0 (W.heap.size + 1) (.int .i64 s.tasks) (.int .i64 s.most) (.int .i64 s.keep) (.int .i64 ((s.last : Int) + 1)) (.slice aa s.all.length ca))) := nw_store5 (.int .i64 s.tasks) (.int .i64 s.most) (.int .i64 s.keep) (.int .i64 ((s.last : Int) + 1)) (.slice aa s.all.length ca)
      show bodyPost _ _ _ _ _ (store5 w0 (W.heap.size + 1) (.int .i64 s.tasks) (.int .i64 s.most) (.int .i64 s.keep) (.int .i64 ((s.last : Int) + 1)) (.slice aa s.all.length ca))
      generalize store5 w0 (W.heap.size + 1) (.int .i64 s.tasks) (.int .i64 s.most) (.int .i64 s.keep) (.int .i64 ((s.last : Int) + 1)) (.slice aa s.all.length ca) = wz at r1 hBz hnz ⊢
      have g0 : wz.cell? ⟨W.heap.size + 1, 0, none⟩ = some (.int .i64 s.tasks) := mem_cells r1 0
      have g1 : wz.cell? ⟨W.heap.size + 1, 1, none⟩ = some (.int .i64 s.most) := mem_cells r1 1
      have g2 : wz.cell? ⟨W.heap.size + 1, 2, none⟩ = some (.int .i64 s.keep) := mem_cells r1 2
      have g3 : wz.cell? ⟨W.heap.size + 1, 3, none⟩ = some (.int .i64 ((s.last : Int) + 1)) := mem_cells r1 3
      have g4 : wz.cell? ⟨W.heap.size + 1, 4, none⟩ = some (.slice aa s.all.length ca) := mem_cells r1 4
      exact bodyPost_ret (v := .tuple #[.agg #[.int .i64 s.tasks, .int .i64 s.most, .int .i64 s.keep, .int .i64 ((s.last : Int) + 1), .slice aa s.all.length ca], .int .i64 0, .int .i64 1]) (by simp [results, Try.results25, go_sem, g0, g1, g2, g3, g4]) rfl ⟨.slice aa s.all.length ca, hBz, by rw [HS.out, HAE.out], by rw [HS.out]; exact HRS.out.mono (joinM_le HM.out)⟩
    | true =>
      rw [hn0] at HNM
      go_enter Try.func25, Try.ntmps25
      go_wp2_with fail
      refine (HNM.out _).mono ?_
      rintro e w0 ⟨rfl, rfl⟩
      generalize ((W.alloc (.cells #[.int .i64 s.tasks, .int .i64 s.most, .int .i64 s.keep, .int .i64 ((s.last : Int) + 1), .slice aa s.all.length ca] 31)).alloc (.cells #[.int .i64 0, .int .i64 0, .int .i64 0, .int .i64 0, .slice none 0 0] 31)) = w0 at *
      have c0 : w0.cell? ⟨W.heap.size, 0, none⟩ = some (.int .i64 s.tasks) := HF0.out.cells.1
      have c1 : w0.cell? ⟨W.heap.size, 1, none⟩ = some (.int .i64 s.most) := HF0.out.cells.2.1
      have c2 : w0.cell? ⟨W.heap.size, 2, none⟩ = some (.int .i64 s.keep) := HF0.out.cells.2.2.1
      have c3 : w0.cell? ⟨W.heap.size, 3, none⟩ = some (.int .i64 ((s.last : Int) + 1)) := HF0.out.cells.2.2.2.1
      have c4 : w0.cell? ⟨W.heap.size, 4, none⟩ = some (.slice aa s.all.length ca) := HF0.out.cells.2.2.2.2
      have cz : ∀ o, w0.frozen? ⟨W.heap.size, o, none⟩ = false := HF0.out.thaw
      have d0 : w0.cell? ⟨W.heap.size + 1, 0, none⟩ = some (.int .i64 0) := HF0.out.res.1
      have d1 : w0.cell? ⟨W.heap.size + 1, 1, none⟩ = some (.int .i64 0) := HF0.out.res.2.1
      have d2 : w0.cell? ⟨W.heap.size + 1, 2, none⟩ = some (.int .i64 0) := HF0.out.res.2.2.1
      have d3 : w0.cell? ⟨W.heap.size + 1, 3, none⟩ = some (.int .i64 0) := HF0.out.res.2.2.2.1
      have d4 : w0.cell? ⟨W.heap.size + 1, 4, none⟩ = some (.slice none 0 0) := HF0.out.res.2.2.2.2.1
      have dz : ∀ o, w0.frozen? ⟨W.heap.size + 1, o, none⟩ = false := HF0.out.res.2.2.2.2.2
      try simp only [Exit.then]
      have HXD := Lib.hid (show Below w0.heap.size w0 w0.drew from (Below.refl _ _).drew)
      have HPD := Lib.hid (HNU.out _ (HF0.out.bl.drew))
      have HCX := Lib.hid (fun (w' : World) (hb : Below w0.heap.size w0 w') => (HF0.out.pure hb).cells)
      have hcd := HCX.out _ HXD.out
      go_wp2_with fail
      go_region_held3 (fun w' => w'.cell? ⟨W.heap.size, 0, none⟩ = some (.int .i64 s.tasks) ∧ w'.cell? ⟨W.heap.size, 1, none⟩ = some (.int .i64 s.most) ∧ w'.cell? ⟨W.heap.size, 2, none⟩ = some (.int .i64 s.keep) ∧ w'.cell? ⟨W.heap.size, 3, none⟩ = some (.int .i64 ((s.last : Int) + 1)) ∧ w'.cell? ⟨W.heap.size, 4, none⟩ = some (.slice aa s.all.length ca))
        (first | assumption | go_keep)
        ((first | (go_at_call 54; refine HPD.out.mono ?_; rintro e w1 ⟨a1, k1, rfl, ho1, hb1⟩; have HB1 := Lib.hid (pure_trans HXD.out hb1); have e1 := HCX.out _ HB1.out)))
      rename_i hHeld
      clear hHeld e1 hcd hb1 ho1 HPD HXD HCX
      try simp only [Exit.then]
      go_at_K
      have HF1 := Lib.hid (HF0.out.pure HB1.out)
      clear HB1 HF0 c0 c1 c2 c3 c4 cz d0 d1 d2 d3 d4 dz HNU
      have c0 : w1.cell? ⟨W.heap.size, 0, none⟩ = some (.int .i64 s.tasks) := HF1.out.cells.1
      have c1 : w1.cell? ⟨W.heap.size, 1, none⟩ = some (.int .i64 s.most) := HF1.out.cells.2.1
      have c2 : w1.cell? ⟨W.heap.size, 2, none⟩ = some (.int .i64 s.keep) := HF1.out.cells.2.2.1
      have c3 : w1.cell? ⟨W.heap.size, 3, none⟩ = some (.int .i64 ((s.last : Int) + 1)) := HF1.out.cells.2.2.2.1
      have c4 : w1.cell? ⟨W.heap.size, 4, none⟩ = some (.slice aa s.all.length ca) := HF1.out.cells.2.2.2.2
      have cz : ∀ o, w1.frozen? ⟨W.heap.size, o, none⟩ = false := HF1.out.thaw
      have d0 : w1.cell? ⟨W.heap.size + 1, 0, none⟩ = some (.int .i64 0) := HF1.out.res.1
      have d1 : w1.cell? ⟨W.heap.size + 1, 1, none⟩ = some (.int .i64 0) := HF1.out.res.2.1
      have d2 : w1.cell? ⟨W.heap.size + 1, 2, none⟩ = some (.int .i64 0) := HF1.out.res.2.2.1
      have d3 : w1.cell? ⟨W.heap.size + 1, 3, none⟩ = some (.int .i64 0) := HF1.out.res.2.2.2.1
      have d4 : w1.cell? ⟨W.heap.size + 1, 4, none⟩ = some (.slice none 0 0) := HF1.out.res.2.2.2.2.1
      have dz : ∀ o, w1.frozen? ⟨W.heap.size + 1, o, none⟩ = false := HF1.out.res.2.2.2.2.2
      cases hp : ((s.pend.length : Int) == s.most) with
      | true =>
        have HAE := Lib.hid (show trigAns s nm = (0, 10) from by rw [HAN.out]; simp [*])
        have HS := Lib.hid (show s.trigged nm = s from HFG.out.trans (if_neg (by rw [HAE.out]; decide)))
        clear HAN
        go_wp2
        have r1 := store5_block HF1.out.rs (.int .i64 s.tasks) (.int .i64 s.most) (.int .i64 s.keep) (.int .i64 ((s.last : Int) + 1)) (.slice aa s.all.length ca)
        have hBz := store5_below HF1.out.bl (Nat.le_succ _) (.int .i64 s.tasks) (.int .i64 s.most) (.int .i64 s.keep) (.int .i64 ((s.last : Int) + 1)) (.slice aa s.all.length ca)
        have hnz : (nw W w1).le (nw W (store5 w1 (W.heap.size + 1) (.int .i64 s.tasks) (.int .i64 s.most) (.int .i64 s.keep) (.int .i64 ((s.last : Int) + 1)) (.slice aa s.all.length ca))) := nw_store5 (.int .i64 s.tasks) (.int .i64 s.most) (.int .i64 s.keep) (.int .i64 ((s.last : Int) + 1)) (.slice aa s.all.length ca)
        show bodyPost _ _ _ _ _ (store5 w1 (W.heap.size + 1) (.int .i64 s.tasks) (.int .i64 s.most) (.int .i64 s.keep) (.int .i64 ((s.last : Int) + 1)) (.slice aa s.all.length ca))
        generalize store5 w1 (W.heap.size + 1) (.int .i64 s.tasks) (.int .i64 s.most) (.int .i64 s.keep) (.int .i64 ((s.last : Int) + 1)) (.slice aa s.all.length ca) = wz at r1 hBz hnz ⊢
        have g0 : wz.cell? ⟨W.heap.size + 1, 0, none⟩ = some (.int .i64 s.tasks) := mem_cells r1 0
        have g1 : wz.cell? ⟨W.heap.size + 1, 1, none⟩ = some (.int .i64 s.most) := mem_cells r1 1
        have g2 : wz.cell? ⟨W.heap.size + 1, 2, none⟩ = some (.int .i64 s.keep) := mem_cells r1 2
        have g3 : wz.cell? ⟨W.heap.size + 1, 3, none⟩ = some (.int .i64 ((s.last : Int) + 1)) := mem_cells r1 3
        have g4 : wz.cell? ⟨W.heap.size + 1, 4, none⟩ = some (.slice aa s.all.length ca) := mem_cells r1 4
        exact bodyPost_ret (v := .tuple #[.agg #[.int .i64 s.tasks, .int .i64 s.most, .int .i64 s.keep, .int .i64 ((s.last : Int) + 1), .slice aa s.all.length ca], .int .i64 0, .int .i64 10]) (by simp [results, Try.results25, go_sem, g0, g1, g2, g3, g4]) rfl ⟨.slice aa s.all.length ca, hBz, by rw [HS.out, HAE.out], by rw [HS.out]; exact HRS.out.mono (joinM_le HM.out)⟩
      | false =>
        go_wp2_with fail
        go_loopw [7] (fun iv wr => ∃ j : Nat, j ≤ s.all.length ∧ iv = .int .i64 j ∧ wr = w1 ∧ Hid (∀ x ∈ s.all.take j, (x.2.name.toList == nm.toList) = false)) (fun iv _ => s.all.length - (intOf iv).toNat)
        case atStart => exact ⟨0, by omega, rfl, rfl, Lib.hid (by simp)⟩
        case round =>
          obtain ⟨j, hj, rfl, rfl, HT⟩ := hrel
          by_cases hlt : j < s.all.length
          · obtain ⟨b, o, s1, s2, s3, e, ⟨-, g1, -⟩, -⟩ := rsn_at (HA.out _ HF1.out.bl) hlt
            subst e
            have e1 : wr.cell? ⟨b, o + j * 6 + 1, none⟩ = some (.string s.all[j].2.name) := g1
            have HN := Lib.hid (fun (e : (s.all[j].2.name.toList == nm.toList) = false) => (show ∀ x ∈ s.all.take (j + 1), (x.2.name.toList == nm.toList) = false from fun x hx => by
              rw [List.take_succ_eq_append_getElem hlt] at hx
              rcases List.mem_append.1 hx with hx | hx
              · exact HT.out x hx
              · simp at hx; subst hx; exact e))
            have HM2 := Lib.hid (fun (e : (s.all[j].2.name.toList == nm.toList) = true) => (show 0 < (s.those (fun t => t.name.toList == nm.toList)).length from by
              unfold VS.those
              rw [List.length_map]
              exact List.length_pos_iff.2 (List.ne_nil_of_mem (List.mem_filter.2 ⟨List.getElem_mem hlt, e⟩))))
            clear g1
            generalize s.all[j].2.name = yn at *
            cases he : (yn.toList == nm.toList) with
            | true =>
              have HM3 := Lib.hid (decide_eq_true (HM2.out he))
              have HAE := Lib.hid (show trigAns s nm = (0, 6) from by rw [HAN.out, hp, HM3.out]; simp [*])
              have HS := Lib.hid (show s.trigged nm = s from HFG.out.trans (if_neg (by rw [HAE.out]; decide)))
              clear HAN HN HM2 HM3
              go_wp2
              have r1 := store5_block HF1.out.rs (.int .i64 s.tasks) (.int .i64 s.most) (.int .i64 s.keep) (.int .i64 ((s.last : Int) + 1)) (.slice (some ⟨b, o, none⟩) s.all.length ca)
              have hBz := store5_below HF1.out.bl (Nat.le_succ _) (.int .i64 s.tasks) (.int .i64 s.most) (.int .i64 s.keep) (.int .i64 ((s.last : Int) + 1)) (.slice (some ⟨b, o, none⟩) s.all.length ca)
              have hnz : (nw W wr).le (nw W (store5 wr (W.heap.size + 1) (.int .i64 s.tasks) (.int .i64 s.most) (.int .i64 s.keep) (.int .i64 ((s.last : Int) + 1)) (.slice (some ⟨b, o, none⟩) s.all.length ca))) := nw_store5 (.int .i64 s.tasks) (.int .i64 s.most) (.int .i64 s.keep) (.int .i64 ((s.last : Int) + 1)) (.slice (some ⟨b, o, none⟩) s.all.length ca)
              show bodyPost _ _ _ _ _ (store5 wr (W.heap.size + 1) (.int .i64 s.tasks) (.int .i64 s.most) (.int .i64 s.keep) (.int .i64 ((s.last : Int) + 1)) (.slice (some ⟨b, o, none⟩) s.all.length ca))
              generalize store5 wr (W.heap.size + 1) (.int .i64 s.tasks) (.int .i64 s.most) (.int .i64 s.keep) (.int .i64 ((s.last : Int) + 1)) (.slice (some ⟨b, o, none⟩) s.all.length ca) = wz at r1 hBz hnz ⊢
              have g0 : wz.cell? ⟨W.heap.size + 1, 0, none⟩ = some (.int .i64 s.tasks) := mem_cells r1 0
              have g1 : wz.cell? ⟨W.heap.size + 1, 1, none⟩ = some (.int .i64 s.most) := mem_cells r1 1
              have g2 : wz.cell? ⟨W.heap.size + 1, 2, none⟩ = some (.int .i64 s.keep) := mem_cells r1 2
              have g3 : wz.cell? ⟨W.heap.size + 1, 3, none⟩ = some (.int .i64 ((s.last : Int) + 1)) := mem_cells r1 3
              have g4 : wz.cell? ⟨W.heap.size + 1, 4, none⟩ = some (.slice (some ⟨b, o, none⟩) s.all.length ca) := mem_cells r1 4
              exact bodyPost_ret (v := .tuple #[.agg #[.int .i64 s.tasks, .int .i64 s.most, .int .i64 s.keep, .int .i64 ((s.last : Int) + 1), .slice (some ⟨b, o, none⟩) s.all.length ca], .int .i64 0, .int .i64 6]) (by simp [results, Try.results25, go_sem, g0, g1, g2, g3, g4]) rfl ⟨.slice (some ⟨b, o, none⟩) s.all.length ca, hBz, by rw [HS.out, HAE.out], by rw [HS.out]; exact HRS.out.mono (joinM_le HM.out)⟩
            | false =>
              have HNX := Lib.hid (HN.out he)
              clear HN HM2
              go_wp2
              go_roundw
              case rel => exact ⟨j + 1, by omega, by go_num, by first | rfl | trivial, HNX⟩
              case measure => simp [intOf]; omega
          · obtain rfl : j = s.all.length := by omega
            rw [List.take_length] at HT
            have HNO := Lib.hid (show (!(nm.toList == []) && decide (0 < (s.those (fun t => t.name.toList == nm.toList)).length)) = false from by
              have h0 : s.those (fun t => t.name.toList == nm.toList) = [] := by
                unfold VS.those
                rw [List.filter_eq_nil_iff.2 (fun x hx => by have := HT.out x hx; simpa using this)]
                rfl
              rw [h0]; simp)
            have HAX := Lib.hid (show trigAns s nm = ((s.last : Int) + 1, 0) from by
              rw [HAN.out, hp, HNO.out]
              simp only [Bool.false_eq_true, if_false]
              rw [if_neg (by simp [*]), if_neg (by have := hla'; omega)])
            clear HAN HNO HNM
            go_wp2_with fail
            have hT40 : s.tasks ≤ 1000 := by have := HOK.out.t40; omega
            have hSb : (Sn.new s.tasks nm).bits = List.replicate s.tasks false := by simp [Sn.new, Sn.bits]
            have hSt : (Sn.new s.tasks nm).texts = List.replicate s.tasks .empty := by simp [Sn.new, Sn.texts]
            have hXd : .bool false = Value.bool (newX s nm).2.done := by
              have h1 := HOK.out.t1
              simp only [newX, Sn.new, Sn.done, List.all_replicate]
              simp [show s.tasks ≠ 0 by omega]
            have hXi : inI64 (newX s nm).1 ∧ (newX s nm).2.name.size ≤ maxLen := ⟨by unfold inI64; simp only [newX]; have := hla'; omega, hnm⟩
            have hSe : (Sn.new s.tasks nm).rents = List.replicate s.tasks [] := by simp [Sn.new, Sn.rents]
            refine wp_region_inv (by kernel_rfl) (by kernel_rfl) (by kernel_rfl) (TJ W M s nm aa ca) ?start (AllAt.all ?steps) ?ends
            case start =>
              exact ⟨⟨_, HF1.out.pure (Below.refl _ _).drew, fun _ => rfl, fun e => (by cases e)⟩, fun k e => (by cases e), fun e => (by cases e), fun e => (by cases e), fun e => (by cases e), fun k e => by cases e⟩
            case steps =>
              clear HF1 c0 c1 c2 c3 c4 cz d0 d1 d2 d3 d4 dz HA HRW HRS HFG HAX hp
              refine AllAt.cons 1 ?s0 (AllAt.cons 2 ?s1 (AllAt.cons 3 ?s2 (AllAt.cons 4 ?s3 (AllAt.cons 5 ?s4 (AllAt.cons 6 ?s5 (AllAt.cons 7 ?s6 (AllAt.cons 8 ?s7 (AllAt.cons 9 ?s8 (AllAt.cons 10 ?s9 (AllAt.cons 11 ?s10 (AllAt.cons 12 ?s11 (AllAt.cons 13 ?s12 (AllAt.cons 14 ?s13 (AllAt.cons 15 ?s14 (AllAt.cons 16 ?s15 (AllAt.cons 17 ?s16 (AllAt.cons 18 ?s17 (AllAt.cons 19 ?s18 (AllAt.cons 20 ?s19 (AllAt.nil) rfl) rfl) rfl) rfl) rfl) rfl) rfl) rfl) rfl) rfl) rfl) rfl) rfl) rfl) rfl) rfl) rfl) rfl) rfl) rfl
              case s0 =>
                intro L f a wz hJ hLi hdep hv h0 K hK
                have hsz := hJ.size
                refine step_val rfl (v := .slice (some ⟨wz.heap.size, 0, none⟩) 0 0) (w' := wz.alloc (.cells #[] 106)) ?_ (hK _ _ (hJ.add (by decide) (by decide) (by decide) (box_below wz _) (fun _ => ⟨wz.heap.size, rfl, heap_alloc_new wz _, hsz⟩)))
                clear hJ hdep hv h0 hK
                simp [go_sem, execOp]
              case s1 =>
                intro L f a wz hJ hLi hdep hv h0 K hK
                have e2 : a.eval (.tmp 2) = .pointer (some ⟨W.heap.size, 0, none⟩) := (h0 2 (noDst_spec (by kernel_rfl))).trans rfl
                refine step_val rfl (v := .pointer (some ⟨W.heap.size, 4, none⟩)) (w' := wz) ?_ (hK _ _ (hJ.add (by decide) (by decide) (by decide) (Below.refl _ _) (show _ = _ from rfl)))
                clear hJ hdep hv h0 hK
                generalize a.eval = ρ at *
                simp [go_sem, execOp, *]
              case s2 =>
                intro L f a wz hJ hLi hdep hv h0 K hK
                have hL1 := hdep 1 (List.mem_of_elem_eq_true (by kernel_rfl))
                have e47 := (hv 1 47 rfl hL1).trans (hJ.vs 1 hL1)
                have c4 := hJ.cell4 hLi
                refine step_val rfl (v := .slice aa s.all.length ca) (w' := wz) ?_ (hK _ _ (hJ.add (by decide) (by decide) (by decide) (Below.refl _ _) (show _ = _ from rfl)))
                clear hJ hdep hv h0 hK
                generalize a.eval = ρ at *
                simp [go_sem, execOp, *]
              case s3 =>
                intro L f a wz hJ hLi hdep hv h0 K hK
                have hL0 := hdep 0 (List.mem_of_elem_eq_true (by kernel_rfl))
                have hL2 := hdep 2 (List.mem_of_elem_eq_true (by kernel_rfl))
                have hL17 : L 17 = false := by
                  cases e : L 17 with
                  | false => rfl
                  | true => rw [hJ.c17 e] at hLi; cases hLi
                obtain ⟨b0, hb0, hb1, hb2⟩ := hJ.vs 0 hL0 hLi
                have e46 := (hv 0 46 rfl hL0).trans hb0
                have e48 := (hv 2 48 rfl hL2).trans (hJ.vs 2 hL2)
                obtain ⟨u, hF, -, -⟩ := hJ.st
                refine step_append_os rfl (.tmp 46) (.tmp 48) 29 rfl (tIn M tRSn) (tIn_flat M tRSn) (tRSn_one M) Try.underlying29 infoRSn rfl (Nat.succ_pos 5) _ [] s.all e46 (lit0_of _ hb1) _ _ _ e48 rfl (slice_to HQ.out (Mem.le_trans HM.out (below_mem hF.bl))) (by have := HAL.out; simp; unfold maxLen; omega) (by have := HAL.out; simp; omega) ?_
                intro v5 w5 own5 happ
                rw [List.nil_append] at own5
                exact hK _ _ (hJ.add3 hLi hL0 hL2 own5 (by rw [hb0]; exact happ))
              case s4 =>
                intro L f a wz hJ hLi hdep hv h0 K hK
                have e8 : a.eval (.tmp 8) = .int .i64 ((s.last : Int) + 1) := (h0 8 (noDst_spec (by kernel_rfl))).trans rfl
                refine step_val rfl (v := .int .i64 ((s.last : Int) + 1)) (w' := wz) ?_ (hK _ _ (hJ.add (by decide) (by decide) (by decide) (Below.refl _ _) (show _ = _ from rfl)))
                clear hJ hdep hv h0 hK
                generalize a.eval = ρ at *
                simp [go_sem, execOp, *]
              case s5 =>
                intro L f a wz hJ hLi hdep hv h0 K hK
                have e1 : a.eval (.tmp 1) = .string nm := (h0 1 (noDst_spec (by kernel_rfl))).trans rfl
                refine step_val rfl (v := .string nm) (w' := wz) ?_ (hK _ _ (hJ.add (by decide) (by decide) (by decide) (Below.refl _ _) (show _ = _ from rfl)))
                clear hJ hdep hv h0 hK
                generalize a.eval = ρ at *
                simp [go_sem, execOp, *]
              case s6 =>
                intro L f a wz hJ hLi hdep hv h0 K hK
                have e2 : a.eval (.tmp 2) = .pointer (some ⟨W.heap.size, 0, none⟩) := (h0 2 (noDst_spec (by kernel_rfl))).trans rfl
                refine step_val rfl (v := .pointer (some ⟨W.heap.size, 0, none⟩)) (w' := wz) ?_ (hK _ _ (hJ.add (by decide) (by decide) (by decide) (Below.refl _ _) (show _ = _ from rfl)))
                clear hJ hdep hv h0 hK
                generalize a.eval = ρ at *
                simp [go_sem, execOp, *]
              case s7 =>
                intro L f a wz hJ hLi hdep hv h0 K hK
                have hL6 := hdep 6 (List.mem_of_elem_eq_true (by kernel_rfl))
                have e52 := (hv 6 52 rfl hL6).trans (hJ.vs 6 hL6)
                have c0 := hJ.cell0
                refine step_val rfl (v := .int .i64 s.tasks) (w' := wz) ?_ (hK _ _ (hJ.add (by decide) (by decide) (by decide) (Below.refl _ _) (show _ = _ from rfl)))
                clear hJ hdep hv h0 hK
                generalize a.eval = ρ at *
                simp [go_sem, execOp, *]
              case s8 =>
                intro L f a wz hJ hLi hdep hv h0 K hK
                have hL7 := hdep 7 (List.mem_of_elem_eq_true (by kernel_rfl))
                have e53 := (hv 7 53 rfl hL7).trans (hJ.vs 7 hL7)
                have hmk := make_any (T := 104) (e := 4) rfl infoBool1 rfl (by decide) s.tasks hT40 wz
                refine step_val rfl (v := .slice (some ⟨wz.heap.size, 0, none⟩) s.tasks s.tasks) (w' := wz.alloc (.cells (madeCells #[.bool false] s.tasks) 4)) ?_ (hK _ _ (hJ.add (by decide) (by decide) (by decide) (box_below wz _) ⟨_, rfl, hSb ▸ hJ.made (by rfl) (t := tBool) (fun _ => rfl) hT40⟩))
                clear hJ hdep hv h0 hK
                generalize a.eval = ρ at *
                simp [go_sem, execOp, e53, hmk]
              case s9 =>
                intro L f a wz hJ hLi hdep hv h0 K hK
                have e2 : a.eval (.tmp 2) = .pointer (some ⟨W.heap.size, 0, none⟩) := (h0 2 (noDst_spec (by kernel_rfl))).trans rfl
                refine step_val rfl (v := .pointer (some ⟨W.heap.size, 0, none⟩)) (w' := wz) ?_ (hK _ _ (hJ.add (by decide) (by decide) (by decide) (Below.refl _ _) (show _ = _ from rfl)))
                clear hJ hdep hv h0 hK
                generalize a.eval = ρ at *
                simp [go_sem, execOp, *]
              case s10 =>
                intro L f a wz hJ hLi hdep hv h0 K hK
                have hL9 := hdep 9 (List.mem_of_elem_eq_true (by kernel_rfl))
                have e55 := (hv 9 55 rfl hL9).trans (hJ.vs 9 hL9)
                have c0 := hJ.cell0
                refine step_val rfl (v := .int .i64 s.tasks) (w' := wz) ?_ (hK _ _ (hJ.add (by decide) (by decide) (by decide) (Below.refl _ _) (show _ = _ from rfl)))
                clear hJ hdep hv h0 hK
                generalize a.eval = ρ at *
                simp [go_sem, execOp, *]
              case s11 =>
                intro L f a wz hJ hLi hdep hv h0 K hK
                have hL10 := hdep 10 (List.mem_of_elem_eq_true (by kernel_rfl))
                have e56 := (hv 10 56 rfl hL10).trans (hJ.vs 10 hL10)
                have hmk := make_any (T := 34) (e := 9) rfl infoStr1 rfl (by decide) s.tasks hT40 wz
                refine step_val rfl (v := .slice (some ⟨wz.heap.size, 0, none⟩) s.tasks s.tasks) (w' := wz.alloc (.cells (madeCells #[.string .empty] s.tasks) 9)) ?_ (hK _ _ (hJ.add (by decide) (by decide) (by decide) (box_below wz _) ⟨_, rfl, hSt ▸ hJ.made (by rfl) (t := tStr) (fun _ => ⟨rfl, Nat.zero_le _⟩) hT40⟩))
                clear hJ hdep hv h0 hK
                generalize a.eval = ρ at *
                simp [go_sem, execOp, e56, hmk]
              case s12 =>
                intro L f a wz hJ hLi hdep hv h0 K hK
                have e2 : a.eval (.tmp 2) = .pointer (some ⟨W.heap.size, 0, none⟩) := (h0 2 (noDst_spec (by kernel_rfl))).trans rfl
                refine step_val rfl (v := .pointer (some ⟨W.heap.size, 0, none⟩)) (w' := wz) ?_ (hK _ _ (hJ.add (by decide) (by decide) (by decide) (Below.refl _ _) (show _ = _ from rfl)))
                clear hJ hdep hv h0 hK
                generalize a.eval = ρ at *
                simp [go_sem, execOp, *]
              case s13 =>
                intro L f a wz hJ hLi hdep hv h0 K hK
                have hL12 := hdep 12 (List.mem_of_elem_eq_true (by kernel_rfl))
                have e58 := (hv 12 58 rfl hL12).trans (hJ.vs 12 hL12)
                have c0 := hJ.cell0
                refine step_val rfl (v := .int .i64 s.tasks) (w' := wz) ?_ (hK _ _ (hJ.add (by decide) (by decide) (by decide) (Below.refl _ _) (show _ = _ from rfl)))
                clear hJ hdep hv h0 hK
                generalize a.eval = ρ at *
                simp [go_sem, execOp, *]
              case s14 =>
                intro L f a wz hJ hLi hdep hv h0 K hK
                have hL13 := hdep 13 (List.mem_of_elem_eq_true (by kernel_rfl))
                have e59 := (hv 13 59 rfl hL13).trans (hJ.vs 13 hL13)
                have hmk := make_any (T := 49) (e := 35) rfl infoEs1 rfl (by decide) s.tasks hT40 wz
                refine step_val rfl (v := .slice (some ⟨wz.heap.size, 0, none⟩) s.tasks s.tasks) (w' := wz.alloc (.cells (madeCells #[.slice none 0 0] s.tasks) 35)) ?_ (hK _ _ (hJ.add (by decide) (by decide) (by decide) (box_below wz _) ⟨_, rfl, hSe ▸ hJ.made (by rfl) (t := tEnts) (fun m => slice_nil _ _) hT40⟩))
                clear hJ hdep hv h0 hK
                generalize a.eval = ρ at *
                simp [go_sem, execOp, e59, hmk]
              case s15 =>
                intro L f a wz hJ hLi hdep hv h0 K hK
                have hL4 := hdep 4 (List.mem_of_elem_eq_true (by kernel_rfl))
                have hL5 := hdep 5 (List.mem_of_elem_eq_true (by kernel_rfl))
                have hL8 := hdep 8 (List.mem_of_elem_eq_true (by kernel_rfl))
                have hL11 := hdep 11 (List.mem_of_elem_eq_true (by kernel_rfl))
                have hL14 := hdep 14 (List.mem_of_elem_eq_true (by kernel_rfl))
                have e50 := (hv 4 50 rfl hL4).trans (hJ.vs 4 hL4)
                have e51 := (hv 5 51 rfl hL5).trans (hJ.vs 5 hL5)
                obtain ⟨a8, e8, r8⟩ := hJ.vs 8 hL8
                obtain ⟨a11, e11, r11⟩ := hJ.vs 11 hL11
                obtain ⟨a14, e14, r14⟩ := hJ.vs 14 hL14
                have e54 := (hv 8 54 rfl hL8).trans e8
                have e57 := (hv 11 57 rfl hL11).trans e11
                have e60 := (hv 14 60 rfl hL14).trans e14
                rw [e8] at r8
                rw [e11] at r11
                rw [e14] at r14
                refine step_val rfl (v := .agg #[.int .i64 ((s.last : Int) + 1), .string nm, .bool false, .slice a8 s.tasks s.tasks, .slice a11 s.tasks s.tasks, .slice a14 s.tasks s.tasks]) (w' := wz) ?_ (hK _ _ (hJ.add (by decide) (by decide) (by decide) (Below.refl _ _) ⟨a8, a11, a14, rfl, ⟨_, _, _, by rw [← hXd]; rfl, hXi, r8, r11, r14⟩⟩))
                clear hJ hdep hv h0 hK
                generalize a.eval = ρ at *
                simp [go_sem, execOp, e50, e51, e54, e57, e60]
              case s16 =>
                intro L f a wz hJ hLi hdep hv h0 K hK
                have hL15 := hdep 15 (List.mem_of_elem_eq_true (by kernel_rfl))
                obtain ⟨a1, a2, a3, e15, r15⟩ := hJ.vs 15 hL15
                have e61 := (hv 15 61 rfl hL15).trans e15
                have hsz := hJ.size
                have how := hJ.ow
                refine step_val rfl (v := .slice (some ⟨wz.heap.size, 0, none⟩) 1 1) (w' := wz.alloc (.cells #[.int .i64 ((s.last : Int) + 1), .string nm, .bool false, .slice a1 s.tasks s.tasks, .slice a2 s.tasks s.tasks, .slice a3 s.tasks s.tasks] 106)) ?_ (hK _ _ (hJ.add (by decide) (by decide) (by decide) (box_below wz _) ⟨_, 1, rfl, new_row hsz how r15⟩))
                clear hJ hdep hv h0 hK
                generalize a.eval = ρ at *
                simp [go_sem, execOp, e61]
              case s17 =>
                intro L f a wz hJ hLi hdep hv h0 K hK
                have hL3 := hdep 3 (List.mem_of_elem_eq_true (by kernel_rfl))
                have hL16 := hdep 16 (List.mem_of_elem_eq_true (by kernel_rfl))
                obtain ⟨a, cp, e16, r16⟩ := hJ.vs 16 hL16
                obtain ⟨o3, -⟩ := hJ.vs 3 hL3 hLi
                have e49 := hv 3 49 rfl hL3
                have e62 := (hv 16 62 rfl hL16).trans e16
                rw [e16] at r16
                refine step_append_os rfl (.tmp 49) (.tmp 62) 29 rfl (tIn (joinN M W (NM W (cx L f) wz)) tRSn) (tIn_flat _ tRSn) (tRSn_one _) Try.underlying29 infoRSn rfl (Nat.succ_pos 5) _ s.all [newX s nm] e49 (o3.re (joinN_of _ HM.out)) _ _ _ e62 rfl (slice_to2 r16 NM_le NM_join) (by have := HAL.out; simp; unfold maxLen; omega) (by have := HAL.out; simp; omega) ?_
                intro v5 w5 own5 happ
                exact hK _ _ (hJ.add17 hLi hL3 own5 happ)
              case s18 =>
                intro L f a wz hJ hLi hdep hv h0 K hK
                have e2 : a.eval (.tmp 2) = .pointer (some ⟨W.heap.size, 0, none⟩) := (h0 2 (noDst_spec (by kernel_rfl))).trans rfl
                refine step_val rfl (v := .pointer (some ⟨W.heap.size, 4, none⟩)) (w' := wz) ?_ (hK _ _ (hJ.add (by decide) (by decide) (by decide) (Below.refl _ _) (show _ = _ from rfl)))
                clear hJ hdep hv h0 hK
                generalize a.eval = ρ at *
                simp [go_sem, execOp, *]
              case s19 =>
                intro L f a wz hJ hLi hdep hv h0 K hK
                have hL17 := hdep 17 (List.mem_of_elem_eq_true (by kernel_rfl))
                have hL18 := hdep 18 (List.mem_of_elem_eq_true (by kernel_rfl))
                obtain ⟨⟨u, c4⟩, z4⟩ := hJ.some4
                obtain ⟨a17, cp17, e17, -⟩ := hJ.vs 17 hL17
                have e63 := (hv 17 63 rfl hL17).trans e17
                have e64 := (hv 18 64 rfl hL18).trans (hJ.vs 18 hL18)
                have hk := hK undef _ (hJ.add19 hL17 undef)
                rw [e17] at hk
                refine step_skip rfl ?_ hk
                clear hJ hdep hv h0 hK hk
                generalize a.eval = ρ at *
                simp [go_sem, execOp, e63, e64, c4, z4]
            case ends =>
              intro L f w5 hJ hall
              obtain ⟨u, hF5, -, hu⟩ := hJ.st
              obtain ⟨a5, c5, rfl, hr5⟩ := hu (hall 19 (by decide))
              have HF5 := Lib.hid hF5
              have HR5 := Lib.hid hr5
              clear hF5 hr5 hu hJ hall c0 c1 c2 c3 c4 cz d0 d1 d2 d3 d4 dz HF1 hSb hSt hSe hXd hXi
              have c0 : w5.cell? ⟨W.heap.size, 0, none⟩ = some (.int .i64 s.tasks) := HF5.out.cells.1
              have c1 : w5.cell? ⟨W.heap.size, 1, none⟩ = some (.int .i64 s.most) := HF5.out.cells.2.1
              have c2 : w5.cell? ⟨W.heap.size, 2, none⟩ = some (.int .i64 s.keep) := HF5.out.cells.2.2.1
              have c3 : w5.cell? ⟨W.heap.size, 3, none⟩ = some (.int .i64 ((s.last : Int) + 1)) := HF5.out.cells.2.2.2.1
              have c4 : w5.cell? ⟨W.heap.size, 4, none⟩ = some (.slice a5 (s.all.length + 1) c5) := HF5.out.cells.2.2.2.2
              have cz : ∀ o, w5.frozen? ⟨W.heap.size, o, none⟩ = false := HF5.out.thaw
              have d0 : w5.cell? ⟨W.heap.size + 1, 0, none⟩ = some (.int .i64 0) := HF5.out.res.1
              have d1 : w5.cell? ⟨W.heap.size + 1, 1, none⟩ = some (.int .i64 0) := HF5.out.res.2.1
              have d2 : w5.cell? ⟨W.heap.size + 1, 2, none⟩ = some (.int .i64 0) := HF5.out.res.2.2.1
              have d3 : w5.cell? ⟨W.heap.size + 1, 3, none⟩ = some (.int .i64 0) := HF5.out.res.2.2.2.1
              have d4 : w5.cell? ⟨W.heap.size + 1, 4, none⟩ = some (.slice none 0 0) := HF5.out.res.2.2.2.2.1
              have dz : ∀ o, w5.frozen? ⟨W.heap.size + 1, o, none⟩ = false := HF5.out.res.2.2.2.2.2
              simp only [putAll, Exit.then]
              go_at_K
              have HS := Lib.hid (show s.trigged nm = s.trig nm from HFG.out.trans (if_pos (by rw [HAX.out])))
              have HF9 := Lib.hid (HF5.out.set3 (.int .i64 ((s.last : Int) + 1 + 1)))
              have HN9 := Lib.hid (jn_set (M := M) (W := W) (w := w5) (b := W.heap.size) (o := 3) (u := .int .i64 ((s.last : Int) + 1 + 1)) (by omega))
              have HV9 := Lib.hid (show rvV (s.trig nm) (.slice a5 (s.all.length + 1) c5) = .agg #[.int .i64 s.tasks, .int .i64 s.most, .int .i64 s.keep, .int .i64 ((s.last : Int) + 1 + 1), .slice a5 (s.all.length + 1) c5] from by
                show Value.agg #[.int .i64 s.tasks, .int .i64 s.most, .int .i64 s.keep, .int .i64 (((s.last + 1 : Nat) : Int) + 1), .slice a5 (s.all.length + 1) c5] = _
                rw [Int.natCast_add]; rfl)
              have HO9 := Lib.hid (show RV (jn M W (w5.setCell ⟨W.heap.size, 3, none⟩ (.int .i64 ((s.last : Int) + 1 + 1)))) (s.trig nm) (.slice a5 (s.all.length + 1) c5) from ⟨(tSlice tRSn).mono _ _ _ _ HN9.out HR5.out, HOK.out.trig hla' hnm⟩)
              go_wp2
              have r1 := store5_block HF9.out.rs (.int .i64 s.tasks) (.int .i64 s.most) (.int .i64 s.keep) (.int .i64 ((s.last : Int) + 1 + 1)) (.slice a5 (s.all.length + 1) c5)
              have hBz := store5_below HF9.out.bl (Nat.le_succ _) (.int .i64 s.tasks) (.int .i64 s.most) (.int .i64 s.keep) (.int .i64 ((s.last : Int) + 1 + 1)) (.slice a5 (s.all.length + 1) c5)
              have hnz : (nw W (w5.setCell ⟨W.heap.size, 3, none⟩ (.int .i64 ((s.last : Int) + 1 + 1)))).le (nw W (store5 (w5.setCell ⟨W.heap.size, 3, none⟩ (.int .i64 ((s.last : Int) + 1 + 1))) (W.heap.size + 1) (.int .i64 s.tasks) (.int .i64 s.most) (.int .i64 s.keep) (.int .i64 ((s.last : Int) + 1 + 1)) (.slice a5 (s.all.length + 1) c5))) := nw_store5 (.int .i64 s.tasks) (.int .i64 s.most) (.int .i64 s.keep) (.int .i64 ((s.last : Int) + 1 + 1)) (.slice a5 (s.all.length + 1) c5)
              show bodyPost _ _ _ _ _ (store5 (w5.setCell ⟨W.heap.size, 3, none⟩ (.int .i64 ((s.last : Int) + 1 + 1))) (W.heap.size + 1) (.int .i64 s.tasks) (.int .i64 s.most) (.int .i64 s.keep) (.int .i64 ((s.last : Int) + 1 + 1)) (.slice a5 (s.all.length + 1) c5))
              generalize store5 (w5.setCell ⟨W.heap.size, 3, none⟩ (.int .i64 ((s.last : Int) + 1 + 1))) (W.heap.size + 1) (.int .i64 s.tasks) (.int .i64 s.most) (.int .i64 s.keep) (.int .i64 ((s.last : Int) + 1 + 1)) (.slice a5 (s.all.length + 1) c5) = wz at r1 hBz hnz ⊢
              have g0 : wz.cell? ⟨W.heap.size + 1, 0, none⟩ = some (.int .i64 s.tasks) := mem_cells r1 0
              have g1 : wz.cell? ⟨W.heap.size + 1, 1, none⟩ = some (.int .i64 s.most) := mem_cells r1 1
              have g2 : wz.cell? ⟨W.heap.size + 1, 2, none⟩ = some (.int .i64 s.keep) := mem_cells r1 2
              have g3 : wz.cell? ⟨W.heap.size + 1, 3, none⟩ = some (.int .i64 ((s.last : Int) + 1 + 1)) := mem_cells r1 3
              have g4 : wz.cell? ⟨W.heap.size + 1, 4, none⟩ = some (.slice a5 (s.all.length + 1) c5) := mem_cells r1 4
              exact bodyPost_ret (v := .tuple #[.agg #[.int .i64 s.tasks, .int .i64 s.most, .int .i64 s.keep, .int .i64 ((s.last : Int) + 1 + 1), .slice a5 (s.all.length + 1) c5], .int .i64 ((s.last : Int) + 1), .int .i64 0]) (by simp [results, Try.results25, go_sem, g0, g1, g2, g3, g4]) rfl ⟨.slice a5 (s.all.length + 1) c5, hBz, by rw [HS.out, HAX.out, HV9.out], by rw [HS.out]; exact HO9.out.mono (jn_join HM.out hnz)⟩
end Go.Proofs.Ytnfolemblnnejaa
/- The reference of a vault: R12.ValidEntry, SameInts, SameTexts. -/
namespace Go.Proofs.Ytnfolemblnnejaa
open Go.RowKit Go.Maps

set_option maxHeartbeats 4000000 in
theorem refValid_any (x : Ent) (w : World) (hok : x.okE) :
    Calls Try.prog 16 #[x.v] w fun e w' => e = .returned (.bool (validE x)) ∧ Below w.heap.size w w' := by
  obtain ⟨g, nm, key, val⟩ := x
  obtain ⟨s0, s1, s2, s3⟩ := hok
  have HB0 := Lib.hid (fun o => (show Below w.heap.size w (w.alloc o) from (Below.refl _ _).alloc (Nat.le_refl _) o))
  have HV := Lib.hid (show validE ⟨g, nm, key, val⟩ = (decide (0 ≤ g ∧ g < 128) && (isName nm && (!big key && !big val))) from rfl)
  have HN := Lib.hid (fun w => refName_any nm w s1)
  have hk1 : (key.size : Int) ≤ 9223372036854775807 := by have s2' : key.size ≤ maxLen := s2; unfold maxLen at s2'; omega
  have hv1 : (val.size : Int) ≤ 9223372036854775807 := by have s3' : val.size ≤ maxLen := s3; unfold maxLen at s3'; omega
  have HK := Lib.hid (show big key = decide (65536 < key.size) from rfl)
  have HL := Lib.hid (show big val = decide (65536 < val.size) from rfl)
  generalize validE ⟨g, nm, key, val⟩ = r at *
  clear s1 s2 s3
  by_cases h0 : 0 ≤ g
  case neg =>
    have HR := Lib.hid (show r = false by rw [HV.out, decide_eq_false (by omega)]; rfl)
    clear HK HL HV
    go_enter Try.func16, Try.ntmps16
    go_wp2
    go_ret
    exact ⟨by rw [HR.out] <;> rfl, HB0.out _⟩
  by_cases h1 : g < 128
  case neg =>
    have HR := Lib.hid (show r = false by rw [HV.out, decide_eq_false (by omega)]; rfl)
    clear HK HL HV
    go_enter Try.func16, Try.ntmps16
    go_wp2
    go_ret
    exact ⟨by rw [HR.out] <;> rfl, HB0.out _⟩
  have HV2 := Lib.hid (show r = (isName nm && (!big key && !big val)) by rw [HV.out, decide_eq_true ⟨h0, h1⟩]; rfl)
  clear HV
  generalize isName nm = b1 at *
  go_enter Try.func16, Try.ntmps16
  go_wp2_with fail
  refine (HN.out _).mono ?_
  rintro e w1 ⟨rfl, rfl⟩
  cases b1 with
  | false =>
    have HR := Lib.hid (show r = false by rw [HV2.out]; rfl)
    clear HK HL HV2
    go_wp2
    go_ret
    exact ⟨by rw [HR.out] <;> rfl, HB0.out _⟩
  | true =>
  by_cases h2 : (key.size : Int) ≤ 65536
  case neg =>
    have HR := Lib.hid (show r = false by rw [HV2.out, HK.out, decide_eq_true (by omega)]; rfl)
    clear HK HL HV2
    go_wp2
    go_ret
    exact ⟨by rw [HR.out] <;> rfl, HB0.out _⟩
  by_cases h3 : (val.size : Int) ≤ 65536
  case neg =>
    have HR := Lib.hid (show r = false by rw [HV2.out, HK.out, decide_eq_false (by omega), HL.out, decide_eq_true (by omega)]; rfl)
    clear HK HL HV2
    go_wp2
    go_ret
    exact ⟨by rw [HR.out] <;> simp [show ¬ (val.size : Int) ≤ 65536 by omega] <;> omega, HB0.out _⟩
  have HR := Lib.hid (show r = true by rw [HV2.out, HK.out, decide_eq_false (by omega), HL.out, decide_eq_false (by omega)]; rfl)
  clear HK HL HV2
  go_wp2
  go_ret
  exact ⟨by rw [HR.out] <;> rfl, HB0.out _⟩
theorem tl_inj {p q : ByteArray} (h : p.toList = q.toList) : p = q := bl_inj (by simpa [bl, ByteArray.toList_eq] using h)
theorem below_drewN {B : Nat} {w wr : World} (h : Below B w wr) (n : Nat) : Below B w { wr with drawn := n } := ⟨h.os, h.tape, h.output, h.size, h.block⟩
set_option maxHeartbeats 1000000 in
theorem sameInts_any (xs ys : List Int) (u v : Value) (w : World) (hu : (tSlice tInt).rv (mem w) [u] xs) (hv : (tSlice tInt).rv (mem w) [v] ys) :
    Calls Try.prog 23 #[u, v] w fun e w' => e = .returned (.bool (decide (xs = ys))) ∧ Below w.heap.size w w' := by
  obtain ⟨a, cap, rfl, hl, hm, hu⟩ := slice_form hu
  obtain ⟨b, cap', rfl, hl', hm', hv⟩ := slice_form hv
  have hcap : cap ≤ 9223372036854775807 := by unfold maxLen at hm; exact hm
  have hcap' : cap' ≤ 9223372036854775807 := by unfold maxLen at hm'; exact hm'
  clear hm hm'
  by_cases hn : xs.length = ys.length
  · have hne : ((xs.length : Int) != (ys.length : Int)) = false := by simp [hn]
    have HN := Lib.hid hn
    have hle : ys.length ≤ xs.length := by omega
    have hle' : xs.length ≤ ys.length := by omega
    clear hn
    go_enter Try.func23, Try.ntmps23
    go_wp2
    go_loopw [5] (fun i wr => ∃ k : Nat, k ≤ xs.length ∧ i = .int .i64 k ∧ Hid (xs.take k = ys.take k) ∧ Below w.heap.size w wr) (fun i _ => xs.length - (intOf i).toNat)
    case atStart => exact ⟨0, by omega, rfl, Lib.hid rfl, Below.refl _ _⟩
    case round =>
      obtain ⟨k, hk, rfl, HT, hB⟩ := hrel
      by_cases hlt : k < xs.length
      · obtain ⟨b1, o1, rfl, hat⟩ := slice_at (t := tInt) hu hlt
        obtain ⟨b2, o2, rfl, hat2⟩ := slice_at (t := tInt) hv (show k < ys.length by omega)
        obtain ⟨hc, hin⟩ := int_at hat
        obtain ⟨hc2, hin2⟩ := int_at hat2
        have hc' : wr.cell? ⟨b1, o1 + k, none⟩ = some (.int .i64 xs[k]) := by
          have := (mem_of_block (hB.block b1 (mem_lt hc)) _).trans hc
          simpa [tInt, mem] using this
        have hc2' : wr.cell? ⟨b2, o2 + k, none⟩ = some (.int .i64 (ys[k]'(by omega))) := by
          have := (mem_of_block (hB.block b2 (mem_lt hc2)) _).trans hc2
          simpa [tInt, mem] using this
        have hlty : k < ys.length := by omega
        have HTx := Lib.hid (List.take_succ_eq_append_getElem hlt)
        have HTy := Lib.hid (List.take_succ_eq_append_getElem hlty)
        have HX := Lib.hid (show xs[k]? = some xs[k] from List.getElem?_eq_getElem hlt)
        have HY := Lib.hid (show ys[k]? = some ys[k] from List.getElem?_eq_getElem hlty)
        clear hc hc2 hat hat2 hu hv hin hin2
        generalize xs[k] = p at hc' HTx HX
        generalize ys[k]'hlty = q at hc2' HTy HY
        by_cases hpq : p = q
        · have hb : (p != q) = false := by simp [hpq]
          have HP := Lib.hid hpq
          clear hpq
          go_wp2
          go_region
          go_wp2
          go_roundw
          case rel => exact ⟨k + 1, by omega, by go_num, Lib.hid (by rw [HTx.out, HTy.out, HT.out, HP.out]), below_drewN hB _⟩
          case measure => simp [intOf]; omega
        · have hb : (p != q) = true := by simp [hpq]
          have HD := Lib.hid (show decide (xs = ys) = false by
            simp only [decide_eq_false_iff_not]
            intro e
            have h1 := HX.out; have h2 := HY.out
            rw [e, h2] at h1
            exact hpq (Option.some.inj h1).symm)
          clear hpq
          go_wp2
          go_region
          go_wp2
          go_ret
          exact ⟨by rw [HD.out]; rfl, below_drewN hB _⟩
      · obtain rfl : k = xs.length := by omega
        have HD := Lib.hid (show decide (xs = ys) = true by
          have := HT.out
          rw [List.take_length, List.take_of_length_le (by omega)] at this
          simpa using this)
        go_wp2
        go_ret
        exact ⟨by rw [HD.out]; rfl, hB⟩
  · have hne : ((xs.length : Int) != (ys.length : Int)) = true := by simp; omega
    have HD := Lib.hid (show decide (xs = ys) = false by simp only [decide_eq_false_iff_not]; intro e; exact hn (by rw [e]))
    clear hn
    go_enter Try.func23, Try.ntmps23
    go_wp2
    go_ret
    exact ⟨by rw [HD.out]; rfl, Below.refl _ _⟩
set_option maxHeartbeats 1000000 in
theorem sameTexts_any (xs ys : List ByteArray) (u v : Value) (w : World) (hu : (tSlice tStr).rv (mem w) [u] xs) (hv : (tSlice tStr).rv (mem w) [v] ys) :
    Calls Try.prog 12 #[u, v] w fun e w' => e = .returned (.bool (decide (xs = ys))) ∧ Below w.heap.size w w' := by
  obtain ⟨a, cap, rfl, hl, hm, hu⟩ := slice_form hu
  obtain ⟨b, cap', rfl, hl', hm', hv⟩ := slice_form hv
  have hcap : cap ≤ 9223372036854775807 := by unfold maxLen at hm; exact hm
  have hcap' : cap' ≤ 9223372036854775807 := by unfold maxLen at hm'; exact hm'
  clear hm hm'
  by_cases hn : xs.length = ys.length
  · have hne : ((xs.length : Int) != (ys.length : Int)) = false := by simp [hn]
    have HN := Lib.hid hn
    have hle : ys.length ≤ xs.length := by omega
    have hle' : xs.length ≤ ys.length := by omega
    clear hn
    go_enter Try.func12, Try.ntmps12
    go_wp2
    go_loopw [5] (fun i wr => ∃ k : Nat, k ≤ xs.length ∧ i = .int .i64 k ∧ Hid (xs.take k = ys.take k) ∧ Below w.heap.size w wr) (fun i _ => xs.length - (intOf i).toNat)
    case atStart => exact ⟨0, by omega, rfl, Lib.hid rfl, Below.refl _ _⟩
    case round =>
      obtain ⟨k, hk, rfl, HT, hB⟩ := hrel
      by_cases hlt : k < xs.length
      · obtain ⟨b1, o1, rfl, hc, -⟩ := str_cell hu hlt
        obtain ⟨b2, o2, rfl, hc2, -⟩ := str_cell hv (show k < ys.length by omega)
        have hc' : wr.cell? ⟨b1, o1 + k, none⟩ = some (.string xs[k]) := (mem_of_block (hB.block b1 (mem_lt hc)) _).trans hc
        have hc2' : wr.cell? ⟨b2, o2 + k, none⟩ = some (.string (ys[k]'(by omega))) := (mem_of_block (hB.block b2 (mem_lt hc2)) _).trans hc2
        have hlty : k < ys.length := by omega
        have HTx := Lib.hid (List.take_succ_eq_append_getElem hlt)
        have HTy := Lib.hid (List.take_succ_eq_append_getElem hlty)
        have HX := Lib.hid (show xs[k]? = some xs[k] from List.getElem?_eq_getElem hlt)
        have HY := Lib.hid (show ys[k]? = some ys[k] from List.getElem?_eq_getElem hlty)
        clear hc hc2 hu hv
        generalize xs[k] = p at hc' HTx HX
        generalize ys[k]'hlty = q at hc2' HTy HY
        by_cases hpq : p = q
        · have hb : (p.toList == q.toList) = true := by simp [hpq]
          have HP := Lib.hid hpq
          clear hpq
          go_wp2
          go_region
          go_wp2
          go_roundw
          case rel => exact ⟨k + 1, by omega, by go_num, Lib.hid (by rw [HTx.out, HTy.out, HT.out, HP.out]), below_drewN hB _⟩
          case measure => simp [intOf]; omega
        · have hb : (p.toList == q.toList) = false := by simp; exact fun e => hpq (tl_inj e)
          have HD := Lib.hid (show decide (xs = ys) = false by
            simp only [decide_eq_false_iff_not]
            intro e
            have h1 := HX.out; have h2 := HY.out
            rw [e, h2] at h1
            exact hpq (Option.some.inj h1).symm)
          clear hpq
          go_wp2
          go_region
          go_wp2
          go_ret
          exact ⟨by rw [HD.out]; rfl, below_drewN hB _⟩
      · obtain rfl : k = xs.length := by omega
        have HD := Lib.hid (show decide (xs = ys) = true by
          have := HT.out
          rw [List.take_length, List.take_of_length_le (by omega)] at this
          simpa using this)
        go_wp2
        go_ret
        exact ⟨by rw [HD.out]; rfl, hB⟩
  · have hne : ((xs.length : Int) != (ys.length : Int)) = true := by simp; omega
    have HD := Lib.hid (show decide (xs = ys) = false by simp only [decide_eq_false_iff_not]; intro e; exact hn (by rw [e]))
    clear hn
    go_enter Try.func12, Try.ntmps12
    go_wp2
    go_ret
    exact ⟨by rw [HD.out]; rfl, Below.refl _ _⟩
end Go.Proofs.Ytnfolemblnnejaa
/- Chapter 24's example. -/
namespace Go.Proofs.Ytnfolemblnnejaa
open Go.RowKit Go.Maps

abbrev xS : ByteArray := ⟨#[120]⟩
abbrev yS : ByteArray := ⟨#[121]⟩
def awStep (s : VS) (k : Int) : VS := ((s.trigged ⟨#[]⟩).told k 0 (xS, [])).told k 1 (yS, [])
def awS : Nat → VS
  | 0 => VS.fresh 2 2 1
  | 1 => VS.fresh 2 2 1
  | 2 => awStep (VS.fresh 2 2 1) 1
  | _ => awStep (awStep (VS.fresh 2 2 1) 1) 2
theorem aw_facts (j : Nat) (h1 : 1 ≤ j) (h2 : j ≤ 2) : trigAns (awS j) ⟨#[]⟩ = ((j : Int), 0) ∧ tellAns ((awS j).trigged ⟨#[]⟩) j 0 (xS, []) = (false, 0) ∧ tellAns (((awS j).trigged ⟨#[]⟩).told j 0 (xS, [])) j 1 (yS, []) = (true, 0) ∧ awS (j + 1) = awStep (awS j) j := by
  have : j = 1 ∨ j = 2 := by omega
  rcases this with rfl | rfl
  · exact ⟨by kernel_rfl, by kernel_rfl, by kernel_rfl, rfl⟩
  · exact ⟨by kernel_rfl, by kernel_rfl, by kernel_rfl, rfl⟩
theorem aw_comp : (awS 3).comp = [2] := by kernel_rfl
set_option maxRecDepth 100000 in
set_option maxHeartbeats 8000000 in
theorem awake_any (w : World) :
    Calls Try.prog 5 #[] w fun e w' => e = .returned (.bool true) ∧ Below w.heap.size w w' := by
  have HN := Lib.hid (vNew_any 2 2 1 w (by decide) (by decide))
  go_enter Try.func5, Try.ntmps5
  go_wp2_with fail
  refine HN.out.mono ?_
  rintro e w1 ⟨p, r1, rfl, hi1, hv1, hb1, -⟩
  have HI1 := Lib.hid hi1
  have HV1 := Lib.hid hv1
  have HB1 := Lib.hid hb1
  clear hi1 hv1 hb1 HN
  go_wp2_with fail
  go_loopw [3] (fun kv wr => ∃ (j : Nat) (r : HV), 1 ≤ j ∧ j ≤ 3 ∧ kv = .int .i64 j ∧ Hid (VStep w1 w.heap.size p r1 wr r) ∧ Hid (r.vs = awS j)) (fun kv _ => 3 - (intOf kv).toNat)
  case atStart => exact ⟨1, r1, by omega, by omega, rfl, Lib.hid (VStep.pure HI1.out (Below.refl _ _)), HV1⟩
  case round =>
    obtain ⟨j, r, hj1, hj3, rfl, HS, HV⟩ := hrel
    by_cases hlt : j ≤ 2
    · obtain ⟨f1, f2, f3, f4⟩ := aw_facts j hj1 hlt
      have HT := Lib.hid (vTrigger_any (⟨#[]⟩ : ByteArray) wr HS.out.inv (Nat.zero_le _))
      rw [HV.out, f1] at HT
      have hjj : ((j : Int) != j) = false := by simp
      have F2 := Lib.hid f2
      have F3 := Lib.hid f3
      have F4 := Lib.hid f4
      clear f1 f2 f3 f4
      go_wp2_with fail
      refine HT.out.mono ?_
      rintro e w2 ⟨rfl, r2, st2, hv2⟩
      have HS2 := Lib.hid (HS.out.trans st2)
      have HT2 := Lib.hid (vTell_any (j : Int) 0 (xS, []) (.slice none 0 0) w2 st2.inv (by unfold inI64; omega) (by unfold inI64; omega) (by decide) (slice_nil _ _) (by simp))
      have HV2 := Lib.hid hv2
      rw [hv2, F2.out] at HT2
      clear hv2 st2 HT HS F2
      go_wp2_with fail
      refine HT2.out.mono ?_
      rintro e w3 ⟨rfl, r3, st3, hv3⟩
      have HS3 := Lib.hid (HS2.out.trans st3)
      have HT3 := Lib.hid (vTell_any (j : Int) 1 (yS, []) (.slice none 0 0) w3 st3.inv (by unfold inI64; omega) (by unfold inI64; omega) (by decide) (slice_nil _ _) (by simp))
      have HV3 := Lib.hid hv3
      rw [hv3, F3.out] at HT3
      clear hv3 st3 HT2 HS2 F3
      go_wp2_with fail
      refine HT3.out.mono ?_
      rintro e w4 ⟨rfl, r4, st4, hv4⟩
      have HS4 := Lib.hid (HS3.out.trans st4)
      have HV4 := Lib.hid (show r4.vs = awS (j + 1) from by rw [hv4, F4.out]; rfl)
      clear hv4 st4 HT3 HS3 F4 HV2 HV3 HV
      go_wp2
      go_roundw
      case rel => exact ⟨j + 1, r4, by omega, by omega, by go_num, HS4, HV4⟩
      case measure => simp [intOf]; omega
    · obtain rfl : j = 3 := by omega
      have HC := Lib.hid (vComplete_any wr HS.out.inv)
      rw [HV.out, aw_comp] at HC
      go_wp2_with fail
      refine HC.out.mono ?_
      rintro e w5 ⟨a, cap, rfl, ho, hb⟩
      have HB5 := Lib.hid (HB1.out.trans ((HS.out.below HI1.out).trans (hb.mono HS.out.inv.bw)))
      have HBL := Lib.hid (box_below w5 (.cells #[.int .i64 2] 3))
      have HSI := Lib.hid (sameInts_any [2] [2] _ (.slice (some ⟨w5.heap.size, 0, none⟩) 1 1) (w5.alloc (.cells #[.int .i64 2] 3)) ((tSlice tInt).mono _ _ _ _ (below_mem HBL.out) ho.rv') ⟨_, 1, rfl, Nat.le_refl _, by unfold maxLen; decide, fun _ => ⟨_, 0, rfl, fun k hk => by
        have hk : k = 0 := by simpa using hk
        subst hk
        refine ⟨[.int .i64 2], fun i v hv => ?_, rfl, by unfold inI64; simp⟩
        rw [mem_cells (heap_alloc_new w5 _)]
        simpa using hv⟩⟩)
      have HB6 := Lib.hid (HB5.out.trans (HBL.out.mono HB5.out.size))
      clear ho hb HC
      go_wp2_with fail
      refine HSI.out.mono ?_
      rintro e w6 ⟨rfl, hb6⟩
      have HB7 := Lib.hid (HB6.out.trans (hb6.mono HB6.out.size))
      clear hb6
      go_wp2
      go_ret
      exact ⟨by simp, HB7.out⟩
end Go.Proofs.Ytnfolemblnnejaa
/-
  DERIVED: THE SHELF's CONTRACTS AT THIS DUMP, IN PLAIN WORDS (tools/lay-plain.mjs out of 'TryShelfV3.lean', which tools/lay-shelf.mjs wrote): THE SAME DECLARATIONS UNDER THE SAME NAMES: 'import', 'namespace', 'open', 'def', 'theorem' AND NOTHING ELSE: no command of the shelf's: FOR A HAND-IN. Each laying: the table of numbers ('.._ren') and one theorem, a field a fact of the dump's own or the kernel's comparison; each contract: ONE APPLICATION.
-/
namespace Go.Proofs
open Go.Shelf
def Try.sort73_ren : Go.Shelf.Ren := ⟨fun | 6 => 73 | 15 => 64 | 14 => 91 | 28 => 89 | 29 => 90 | 20 => 104 | 21 => 105 | 22 => 106 | 23 => 107 | 24 => 108 | 25 => 109 | 26 => 110 | 27 => 111 | 46 => 127 | 47 => 99 | 48 => 100 | 49 => 128 | 50 => 129 | 57 => 134 | n => n, fun | 22 => 35 | 24 => 53 | 25 => 102 | 3 => 3 | 39 => 117 | 0 => 0 | 53 => 134 | 55 => 82 | 4 => 4 | 46 => 126 | 45 => 125 | 50 => 131 | 5 => 5 | 9 => 9 | 66 => 141 | 70 => 145 | 76 => 159 | 77 => 160 | n => n, fun | n => n⟩
theorem Try.sort73 : Go.Proofs.SlLaysF0.n6 Try.prog Try.sort73_ren := {
  mixed := by kernel_rfl
  f6 := ⟨Try.f73.name, by decide, Try.func73.trans (congrArg some (by kernel_rfl))⟩
  f14 := ⟨Try.f91.name, by decide, Try.func91.trans (congrArg some (by kernel_rfl))⟩
  f15 := Try.func64.trans (congrArg some (by kernel_rfl))
  f20 := ⟨Try.f104.name, by decide, Try.func104.trans (congrArg some (by kernel_rfl))⟩
  f21 := ⟨Try.f105.name, by decide, Try.func105.trans (congrArg some (by kernel_rfl))⟩
  f22 := ⟨Try.f106.name, by decide, Try.func106.trans (congrArg some (by kernel_rfl))⟩
  f23 := ⟨Try.f107.name, by decide, Try.func107.trans (congrArg some (by kernel_rfl))⟩
  f24 := ⟨Try.f108.name, by decide, Try.func108.trans (congrArg some (by kernel_rfl))⟩
  f25 := ⟨Try.f109.name, by decide, Try.func109.trans (congrArg some (by kernel_rfl))⟩
  f26 := ⟨Try.f110.name, by decide, Try.func110.trans (congrArg some (by kernel_rfl))⟩
  f27 := ⟨Try.f111.name, by decide, Try.func111.trans (congrArg some (by kernel_rfl))⟩
  f28 := Try.func89.trans (congrArg some (by kernel_rfl))
  f29 := Try.func90.trans (congrArg some (by kernel_rfl))
  f46 := ⟨Try.f127.name, by decide, Try.func127.trans (congrArg some (by kernel_rfl))⟩
  f47 := Try.func99.trans (congrArg some (by kernel_rfl))
  f48 := Try.func100.trans (congrArg some (by kernel_rfl))
  f49 := ⟨Try.f128.name, by decide, Try.func128.trans (congrArg some (by kernel_rfl))⟩
  f50 := ⟨Try.f129.name, by decide, Try.func129.trans (congrArg some (by kernel_rfl))⟩
  f57 := ⟨Try.f134.name, by decide, Try.func134.trans (congrArg some (by kernel_rfl))⟩
  t0 := Try.underlying0
  a0 := Try.isAgg0
  z0 := Try.sizeOf0
  v0 := Try.zeroValue0
  t3 := Try.underlying3
  a3 := Try.isAgg3
  z3 := Try.sizeOf3
  v3 := Try.zeroValue3
  t4 := Try.underlying4
  a4 := Try.isAgg4
  z4 := Try.sizeOf4
  v4 := Try.zeroValue4
  t5 := Try.underlying5
  a5 := Try.isAgg5
  z5 := Try.sizeOf5
  v5 := Try.zeroValue5
  t9 := Try.underlying9
  a9 := Try.isAgg9
  z9 := Try.sizeOf9
  v9 := Try.zeroValue9
  t22 := Try.underlying35
  a22 := Try.isAgg35
  z22 := Try.sizeOf35
  v22 := Try.zeroValue35
  t25 := Try.underlying102
  a25 := Try.isAgg102
  z25 := Try.sizeOf102
  v25 := Try.zeroValue102
  t39 := Try.underlying117
  a39 := Try.isAgg117
  z39 := Try.sizeOf117
  v39 := Try.zeroValue117
  t45 := Try.underlying125
  a45 := Try.isAgg125
  z45 := Try.sizeOf125
  v45 := Try.zeroValue125
  t46 := Try.underlying126
  a46 := Try.isAgg126
  z46 := Try.sizeOf126
  v46 := Try.zeroValue126
  t50 := Try.underlying131
  a50 := Try.isAgg131
  z50 := Try.sizeOf131
  v50 := Try.zeroValue131
  t53 := Try.underlying134
  a53 := Try.isAgg134
  z53 := Try.sizeOf134
  v53 := Try.zeroValue134
  t55 := Try.underlying82
  a55 := Try.isAgg82
  z55 := Try.sizeOf82
  v55 := Try.zeroValue82
  t66 := Try.underlying141
  a66 := Try.isAgg141
  z66 := Try.sizeOf141
  v66 := Try.zeroValue141
  t70 := Try.underlying145
  a70 := Try.isAgg145
  z70 := Try.sizeOf145
  v70 := Try.zeroValue145
  t76 := Try.underlying159
  a76 := Try.isAgg159
  z76 := Try.sizeOf159
  v76 := Try.zeroValue159
  t77 := Try.underlying160
  a77 := Try.isAgg160
  z77 := Try.sizeOf160
  v77 := Try.zeroValue160 }
end Go.Proofs
/- cmp.Compare[string]. -/
namespace Go.Proofs.Ytnfolemblnnejaa
open Go.RowKit

set_option maxHeartbeats 400000 in
theorem nanStr_any (s : ByteArray) (w : World) :
    Calls Try.prog 103 #[.string s] w fun e w' => e = .returned (.bool false) ∧ w = w' := by
  go_enter Try.func103, Try.ntmps103
  go_wp2
  go_ret
  exact ⟨by simp, rfl⟩

set_option maxHeartbeats 400000 in
theorem cmpStr_any (s t : ByteArray) (w : World) :
    Calls Try.prog 95 #[.string s, .string t] w fun e w' => e = .returned (.int .i64 (cmpBytes s.toList t.toList)) ∧ w = w' := by
  have HL := Lib.hid (bytesLess_cmp s.toList t.toList)
  have HG := Lib.hid (bytesGtr_cmp s.toList t.toList)
  have hr := cmpBytes_good.range s.toList t.toList
  generalize cmpBytes s.toList t.toList = c at *
  go_enter Try.func95, Try.ntmps95
  go_wp2_with (go_at_call 103; refine (nanStr_any _ _).mono ?_; rintro e w' ⟨rfl, rfl⟩)
  · have h : Op.bytesLess s.toList t.toList = true := by assumption
    have hl := HL.out
    rw [h] at hl
    have : c = -1 := by have := of_decide_eq_true hl.symm; omega
    subst this
    go_ret
    exact ⟨rfl, rfl⟩
  · have h1 : Op.bytesLess s.toList t.toList = false := by assumption
    have h2 : (!s.toList == t.toList) = true := by assumption
    have hg := HG.out
    rw [h1, Bool.false_or, h2] at hg
    have : c = 1 := by have := of_decide_eq_true hg.symm; omega
    subst this
    go_ret
    exact ⟨rfl, rfl⟩
  · have h1 : Op.bytesLess s.toList t.toList = false := by assumption
    have h2 : (!s.toList == t.toList) = false := by assumption
    have hl := HL.out
    have hg := HG.out
    rw [h1] at hl
    rw [h1, Bool.false_or, h2] at hg
    have : c = 0 := by have := of_decide_eq_false hl.symm; have := of_decide_eq_false hg.symm; omega
    subst this
    go_ret
    exact ⟨rfl, rfl⟩

end Go.Proofs.Ytnfolemblnnejaa
