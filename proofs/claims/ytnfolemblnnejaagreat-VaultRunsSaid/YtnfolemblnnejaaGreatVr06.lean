/- Part 6 of the texts that the law's proof stands on, merged. -/
import Derived.Deep.RegionHeld3
import Derived.Deep.RegionLaw
import Derived.Test.YtnfolemblnnejaaGreatVr05
set_option linter.unusedVariables false
set_option linter.unusedSimpArgs false
/- does, Decline (printed by gen_vdoes.py). -/
namespace Go.Proofs.YtnfolemblnnejaaGreat
open Go.RowKit Go.Maps
set_option maxRecDepth 100000 in
set_option maxHeartbeats 16000000 in
theorem does_decline (base p N : Nat) (M : Mem) (W : World) (r : HV) (a : Value) (xk xn xt : Int) (nm tx : ByteArray) (es : List Ent) (ve : Value) (c : VRun base p N M W r a) (hx : (⟨xk, xn, xt, nm, tx, es⟩ : VAct).okA) (hsm : (⟨xk, xn, xt, nm, tx, es⟩ : VAct).small) (hve : tEnts.rv M [ve] es) (hN : N ≤ 900) (h40 : xk % 10 = 9 → xt ≤ 40 ∨ 400 < xt) (hkd : xk % 10 = 6) :
    Calls Tryz.prog 8 #[ptrTo p, rvV r.vs a, .agg #[.int .u8 xk, .int .i64 xn, .int .i64 xt, .string nm, .string tx, ve]] W (DoesOut base p N M W r ⟨xk, xn, xt, nm, tx, es⟩) := by
  obtain ⟨⟨hk0, hk2⟩, hxn, hxt, hnm, htx⟩ := hx
  obtain ⟨hs1, hs2, hs3⟩ := hsm
  simp only at hk0 hk2 hxn hxt hnm htx hs1 hs2 hs3
  have HAV := Lib.hid (show actVS r.vs ⟨xk, xn, xt, nm, tx, es⟩ = r.vs.declined xn from by unfold actVS; simp only; rw [if_neg (by omega)]; rw [if_pos hkd])
  have hkt : xk.tmod 10 = 6 := by rw [Int.tmod_eq_emod_of_nonneg hk0]; exact hkd
  clear hk0 hk2 h40
  have HVE := Lib.hid hve
  obtain ⟨aa, ca, rfl, hla, hma, hra⟩ := slice_form c.rat.ha
  obtain ⟨ae, ke, rfl, hle, hme, -⟩ := slice_form hve
  have hca : ca ≤ 9223372036854775807 := by unfold maxLen at hma; exact hma
  have hke : ke ≤ 9223372036854775807 := by unfold maxLen at hme; exact hme
  have HB := Lib.hid (show Below W.heap.size W (((W.alloc (.cells #[.int .i64 r.vs.tasks, .int .i64 r.vs.most, .int .i64 r.vs.keep, .int .i64 ((r.vs.last : Int) + 1), .slice aa r.vs.all.length ca] 31)).alloc (.cells #[.int .u8 xk, .int .i64 xn, .int .i64 xt, .string nm, .string tx, .slice ae es.length ke] 36)).alloc (.cells #[.int .i64 0, .int .i64 0, .int .i64 0, .int .i64 0, .slice none 0 0] 31)) from (((Below.refl W.heap.size W).alloc (Nat.le_refl _) _).alloc (by simp) _).alloc (by simp; omega) _)
  have hY : ∀ (b : Nat) (o o' : Obj) (w : World), w.heap[b]? = some o → (w.alloc o').heap[b]? = some o := fun b o o' w e => (Below.heap_alloc _ _ _ (Array.getElem?_eq_some_iff.1 e).1).trans e
  have y4 : (((W.alloc (.cells #[.int .i64 r.vs.tasks, .int .i64 r.vs.most, .int .i64 r.vs.keep, .int .i64 ((r.vs.last : Int) + 1), .slice aa r.vs.all.length ca] 31)).alloc (.cells #[.int .u8 xk, .int .i64 xn, .int .i64 xt, .string nm, .string tx, .slice ae es.length ke] 36)).alloc (.cells #[.int .i64 0, .int .i64 0, .int .i64 0, .int .i64 0, .slice none 0 0] 31)).heap[W.heap.size]? = some (.cells #[.int .i64 r.vs.tasks, .int .i64 r.vs.most, .int .i64 r.vs.keep, .int .i64 ((r.vs.last : Int) + 1), .slice aa r.vs.all.length ca] 31 (0, 0)) := hY _ _ _ _ (hY _ _ _ _ (heap_alloc_new W _))
  have y5 : (((W.alloc (.cells #[.int .i64 r.vs.tasks, .int .i64 r.vs.most, .int .i64 r.vs.keep, .int .i64 ((r.vs.last : Int) + 1), .slice aa r.vs.all.length ca] 31)).alloc (.cells #[.int .u8 xk, .int .i64 xn, .int .i64 xt, .string nm, .string tx, .slice ae es.length ke] 36)).alloc (.cells #[.int .i64 0, .int .i64 0, .int .i64 0, .int .i64 0, .slice none 0 0] 31)).heap[W.heap.size + 1]? = some (.cells #[.int .u8 xk, .int .i64 xn, .int .i64 xt, .string nm, .string tx, .slice ae es.length ke] 36 (0, 0)) := hY _ _ _ _ (by have h := heap_alloc_new (W.alloc (.cells #[.int .i64 r.vs.tasks, .int .i64 r.vs.most, .int .i64 r.vs.keep, .int .i64 ((r.vs.last : Int) + 1), .slice aa r.vs.all.length ca] 31)) (.cells #[.int .u8 xk, .int .i64 xn, .int .i64 xt, .string nm, .string tx, .slice ae es.length ke] 36); rw [World.size_alloc] at h; exact h)
  have yR : (((W.alloc (.cells #[.int .i64 r.vs.tasks, .int .i64 r.vs.most, .int .i64 r.vs.keep, .int .i64 ((r.vs.last : Int) + 1), .slice aa r.vs.all.length ca] 31)).alloc (.cells #[.int .u8 xk, .int .i64 xn, .int .i64 xt, .string nm, .string tx, .slice ae es.length ke] 36)).alloc (.cells #[.int .i64 0, .int .i64 0, .int .i64 0, .int .i64 0, .slice none 0 0] 31)).heap[W.heap.size + 1 + 1]? = some (.cells #[.int .i64 0, .int .i64 0, .int .i64 0, .int .i64 0, .slice none 0 0] 31 (0, 0)) := by have h := heap_alloc_new ((W.alloc (.cells #[.int .i64 r.vs.tasks, .int .i64 r.vs.most, .int .i64 r.vs.keep, .int .i64 ((r.vs.last : Int) + 1), .slice aa r.vs.all.length ca] 31)).alloc (.cells #[.int .u8 xk, .int .i64 xn, .int .i64 xt, .string nm, .string tx, .slice ae es.length ke] 36)) (.cells #[.int .i64 0, .int .i64 0, .int .i64 0, .int .i64 0, .slice none 0 0] 31); rw [World.size_alloc, World.size_alloc] at h; exact h
  obtain ⟨M1, hMid, hM1, hnew1, hrat⟩ := c.start HB.out (R := W.heap.size + 1 + 1) yR (by omega)
  have HRAT := Lib.hid hrat
  have HM1 := Lib.hid hM1
  have hbR : W.heap.size ≤ W.heap.size + 1 + 1 := by omega
  have hlast := c.last
  have HLN := Lib.hid c.len
  have HOK := Lib.hid c.inv.ok
  have HC4 := Lib.hid (fun (wq : World) (hq : M1.le (mem wq)) => (show wq.cell? ⟨W.heap.size, 0, none⟩ = some (.int .i64 r.vs.tasks) ∧ wq.cell? ⟨W.heap.size, 1, none⟩ = some (.int .i64 r.vs.most) ∧ wq.cell? ⟨W.heap.size, 2, none⟩ = some (.int .i64 r.vs.keep) ∧ wq.cell? ⟨W.heap.size, 3, none⟩ = some (.int .i64 ((r.vs.last : Int) + 1)) ∧ wq.cell? ⟨W.heap.size, 4, none⟩ = some (.slice aa r.vs.all.length ca) from ⟨hq _ _ _ (hnew1 _ _ _ (Mem.on_some (mem_cells y4 0) ⟨by omega, by omega⟩)), hq _ _ _ (hnew1 _ _ _ (Mem.on_some (mem_cells y4 1) ⟨by omega, by omega⟩)), hq _ _ _ (hnew1 _ _ _ (Mem.on_some (mem_cells y4 2) ⟨by omega, by omega⟩)), hq _ _ _ (hnew1 _ _ _ (Mem.on_some (mem_cells y4 3) ⟨by omega, by omega⟩)), hq _ _ _ (hnew1 _ _ _ (Mem.on_some (mem_cells y4 4) ⟨by omega, by omega⟩))⟩))
  have HC5 := Lib.hid (fun (wq : World) (hq : M1.le (mem wq)) => (show wq.cell? ⟨W.heap.size + 1, 0, none⟩ = some (.int .u8 xk) ∧ wq.cell? ⟨W.heap.size + 1, 1, none⟩ = some (.int .i64 xn) ∧ wq.cell? ⟨W.heap.size + 1, 2, none⟩ = some (.int .i64 xt) ∧ wq.cell? ⟨W.heap.size + 1, 3, none⟩ = some (.string nm) ∧ wq.cell? ⟨W.heap.size + 1, 4, none⟩ = some (.string tx) ∧ wq.cell? ⟨W.heap.size + 1, 5, none⟩ = some (.slice ae es.length ke) from ⟨hq _ _ _ (hnew1 _ _ _ (Mem.on_some (mem_cells y5 0) ⟨by omega, by omega⟩)), hq _ _ _ (hnew1 _ _ _ (Mem.on_some (mem_cells y5 1) ⟨by omega, by omega⟩)), hq _ _ _ (hnew1 _ _ _ (Mem.on_some (mem_cells y5 2) ⟨by omega, by omega⟩)), hq _ _ _ (hnew1 _ _ _ (Mem.on_some (mem_cells y5 3) ⟨by omega, by omega⟩)), hq _ _ _ (hnew1 _ _ _ (Mem.on_some (mem_cells y5 4) ⟨by omega, by omega⟩)), hq _ _ _ (hnew1 _ _ _ (Mem.on_some (mem_cells y5 5) ⟨by omega, by omega⟩))⟩))
  clear hY y4 y5 yR hnew1 hra hma hme hM1 hrat c hve
  go_enter Tryz.func8, Tryz.ntmps8
  go_upto_region 1 with fail
  generalize ((W.alloc (.cells #[.int .i64 r.vs.tasks, .int .i64 r.vs.most, .int .i64 r.vs.keep, .int .i64 ((r.vs.last : Int) + 1), .slice aa r.vs.all.length ca] 31)).alloc (.cells #[.int .u8 xk, .int .i64 xn, .int .i64 xt, .string nm, .string tx, .slice ae es.length ke] 36)).alloc (.cells #[.int .i64 0, .int .i64 0, .int .i64 0, .int .i64 0, .slice none 0 0] 31) = Y at HB hMid ⊢
  have HMI := Lib.hid hMid
  obtain ⟨c0, c1, c2, c3, c4⟩ := HC4.out Y hMid.le
  obtain ⟨d0, d1, d2, d3, d4, d5⟩ := HC5.out Y hMid.le
  clear hMid
  go_upto_region 2 with fail
  try rw [hkt]
  go_wp2_with fail
  refine (refDecline_any r.vs _ M1 Y HMI.out.le HRAT.out (by have := HLN.out; omega) xn).mono ?_
  rintro e w1 ⟨a', hb1, rfl, hr1⟩
  have HSL := Lib.hid (show (r.vs.declined xn).last = r.vs.last from last_declined _ _)
  have HPX := Lib.hid (fun (wq : World) (rq : HV) (M' : Mem) (hq : VMid base p N M' (W.heap.size + 1 + 1) (W, r, M) wq r) => (show Calls Tryz.prog 18 #[ptrTo p, .int .i64 xn] wq (fun e W' => e = .returned (.int .i64 (decAns (r.vs.find xn))) ∧ ∃ r', VMid base p (N + 1) M' (W.heap.size + 1 + 1) (W, r, M) W' r' ∧ r'.vs = r.vs.declined xn) from
    (vDecline_any xn wq hq.inv hxn).mono fun e W' ⟨he, r', st, hv⟩ => ⟨he, r', hq.step st (by have hv2 : r'.vs = r.vs.declined xn := (by rw [hv]; rfl); rw [hv2, HSL.out]; omega), (by rw [hv]; rfl)⟩))
  generalize r.vs.declined xn = s2 at *
  generalize decAns (r.vs.find xn) = cc at *
  obtain ⟨a2, k2, rfl, hl2, hm2, -⟩ := slice_form hr1.ha
  have hk2 : k2 ≤ 9223372036854775807 := by unfold maxLen at hm2; exact hm2
  clear hm2
  have hcc : (cc == cc) = true := by simp
  have hbA := hb1.alloc hb1.size (.cells #[.int .i64 s2.tasks, .int .i64 s2.most, .int .i64 s2.keep, .int .i64 ((s2.last : Int) + 1), .slice a2 s2.all.length k2] 31)
  have HMid2 := Lib.hid (HMI.out.grow hbA)
  have HMM := Lib.hid (joinM_le (W' := w1.alloc (.cells #[.int .i64 s2.tasks, .int .i64 s2.most, .int .i64 s2.keep, .int .i64 ((s2.last : Int) + 1), .slice a2 s2.all.length k2] 31)) HMI.out.le)
  have HC8 := Lib.hid (fun (wq : World) (hq : (joinM M1 Y (w1.alloc (.cells #[.int .i64 s2.tasks, .int .i64 s2.most, .int .i64 s2.keep, .int .i64 ((s2.last : Int) + 1), .slice a2 s2.all.length k2] 31))).le (mem wq)) => (show wq.cell? ⟨w1.heap.size, 0, none⟩ = some (.int .i64 s2.tasks) ∧ wq.cell? ⟨w1.heap.size, 1, none⟩ = some (.int .i64 s2.most) ∧ wq.cell? ⟨w1.heap.size, 2, none⟩ = some (.int .i64 s2.keep) ∧ wq.cell? ⟨w1.heap.size, 3, none⟩ = some (.int .i64 ((s2.last : Int) + 1)) ∧ wq.cell? ⟨w1.heap.size, 4, none⟩ = some (.slice a2 s2.all.length k2) from ⟨hq _ _ _ (joinM_new _ _ _ (Mem.on_some (cell_new 0 rfl) hb1.size)), hq _ _ _ (joinM_new _ _ _ (Mem.on_some (cell_new 1 rfl) hb1.size)), hq _ _ _ (joinM_new _ _ _ (Mem.on_some (cell_new 2 rfl) hb1.size)), hq _ _ _ (joinM_new _ _ _ (Mem.on_some (cell_new 3 rfl) hb1.size)), hq _ _ _ (joinM_new _ _ _ (Mem.on_some (cell_new 4 rfl) hb1.size))⟩))
  have HRF2 := Lib.hid (hr1.mono (show (joinM M1 Y w1).le (joinM M1 Y (w1.alloc (.cells #[.int .i64 s2.tasks, .int .i64 s2.most, .int .i64 s2.keep, .int .i64 ((s2.last : Int) + 1), .slice a2 s2.all.length k2] 31))) from joinM_mono ((Below.refl _ _).alloc (Nat.le_refl _) _)))
  clear hbA hb1 hr1 c0 c1 c2 c3 c4 d0 d1 d2 d3 d4 d5
  go_upto_region 8 with fail
  generalize w1.alloc (.cells #[.int .i64 s2.tasks, .int .i64 s2.most, .int .i64 s2.keep, .int .i64 ((s2.last : Int) + 1), .slice a2 s2.all.length k2] 31) = X at *
  generalize w1.heap.size = nb at *
  generalize joinM M1 Y X = M2 at *
  have HMD := Lib.hid (HMid2.out.pure0 (Below.refl _ _).drew)
  have HSS := Lib.hid (fun (w' : World) (hq : M2.le (mem w')) => (show w'.cell? ⟨nb, 0, none⟩ = some (.int .i64 s2.tasks) ∧ w'.cell? ⟨nb, 1, none⟩ = some (.int .i64 s2.most) ∧ w'.cell? ⟨nb, 2, none⟩ = some (.int .i64 s2.keep) ∧ w'.cell? ⟨nb, 3, none⟩ = some (.int .i64 ((s2.last : Int) + 1)) ∧ w'.cell? ⟨nb, 4, none⟩ = some (.slice a2 s2.all.length k2) ∧ w'.cell? ⟨W.heap.size + 1, 1, none⟩ = some (.int .i64 xn) from ⟨(HC8.out w' hq).1, (HC8.out w' hq).2.1, (HC8.out w' hq).2.2.1, (HC8.out w' hq).2.2.2.1, (HC8.out w' hq).2.2.2.2, (HC5.out w' (Mem.le_trans HMM.out hq)).2.1⟩))
  have HSR := Lib.hid (fun (N' : Nat) (r' : HV) (wq : World) (hq : VMid base p N' M2 (W.heap.size + 1 + 1) (W, r, M) wq r') => (show (((((wq.setCell ⟨W.heap.size + 1 + 1, 0, none⟩ (.int .i64 s2.tasks)).setCell ⟨W.heap.size + 1 + 1, 1, none⟩ (.int .i64 s2.most)).setCell ⟨W.heap.size + 1 + 1, 2, none⟩ (.int .i64 s2.keep)).setCell ⟨W.heap.size + 1 + 1, 3, none⟩ (.int .i64 ((s2.last : Int) + 1))).setCell ⟨W.heap.size + 1 + 1, 4, none⟩ (.slice a2 s2.all.length k2)).cell? ⟨nb, 0, none⟩ = some (.int .i64 s2.tasks) ∧ (((((wq.setCell ⟨W.heap.size + 1 + 1, 0, none⟩ (.int .i64 s2.tasks)).setCell ⟨W.heap.size + 1 + 1, 1, none⟩ (.int .i64 s2.most)).setCell ⟨W.heap.size + 1 + 1, 2, none⟩ (.int .i64 s2.keep)).setCell ⟨W.heap.size + 1 + 1, 3, none⟩ (.int .i64 ((s2.last : Int) + 1))).setCell ⟨W.heap.size + 1 + 1, 4, none⟩ (.slice a2 s2.all.length k2)).cell? ⟨nb, 1, none⟩ = some (.int .i64 s2.most) ∧ (((((wq.setCell ⟨W.heap.size + 1 + 1, 0, none⟩ (.int .i64 s2.tasks)).setCell ⟨W.heap.size + 1 + 1, 1, none⟩ (.int .i64 s2.most)).setCell ⟨W.heap.size + 1 + 1, 2, none⟩ (.int .i64 s2.keep)).setCell ⟨W.heap.size + 1 + 1, 3, none⟩ (.int .i64 ((s2.last : Int) + 1))).setCell ⟨W.heap.size + 1 + 1, 4, none⟩ (.slice a2 s2.all.length k2)).cell? ⟨nb, 2, none⟩ = some (.int .i64 s2.keep) ∧ (((((wq.setCell ⟨W.heap.size + 1 + 1, 0, none⟩ (.int .i64 s2.tasks)).setCell ⟨W.heap.size + 1 + 1, 1, none⟩ (.int .i64 s2.most)).setCell ⟨W.heap.size + 1 + 1, 2, none⟩ (.int .i64 s2.keep)).setCell ⟨W.heap.size + 1 + 1, 3, none⟩ (.int .i64 ((s2.last : Int) + 1))).setCell ⟨W.heap.size + 1 + 1, 4, none⟩ (.slice a2 s2.all.length k2)).cell? ⟨nb, 3, none⟩ = some (.int .i64 ((s2.last : Int) + 1)) ∧ (((((wq.setCell ⟨W.heap.size + 1 + 1, 0, none⟩ (.int .i64 s2.tasks)).setCell ⟨W.heap.size + 1 + 1, 1, none⟩ (.int .i64 s2.most)).setCell ⟨W.heap.size + 1 + 1, 2, none⟩ (.int .i64 s2.keep)).setCell ⟨W.heap.size + 1 + 1, 3, none⟩ (.int .i64 ((s2.last : Int) + 1))).setCell ⟨W.heap.size + 1 + 1, 4, none⟩ (.slice a2 s2.all.length k2)).cell? ⟨nb, 4, none⟩ = some (.slice a2 s2.all.length k2) ∧ (((((wq.setCell ⟨W.heap.size + 1 + 1, 0, none⟩ (.int .i64 s2.tasks)).setCell ⟨W.heap.size + 1 + 1, 1, none⟩ (.int .i64 s2.most)).setCell ⟨W.heap.size + 1 + 1, 2, none⟩ (.int .i64 s2.keep)).setCell ⟨W.heap.size + 1 + 1, 3, none⟩ (.int .i64 ((s2.last : Int) + 1))).setCell ⟨W.heap.size + 1 + 1, 4, none⟩ (.slice a2 s2.all.length k2)).cell? ⟨W.heap.size + 1, 1, none⟩ = some (.int .i64 xn) from HSS.out _ (hq.stored (store5_keeps wq (W.heap.size + 1 + 1) (.int .i64 s2.tasks) (.int .i64 s2.most) (.int .i64 s2.keep) (.int .i64 ((s2.last : Int) + 1)) (.slice a2 s2.all.length k2)))))
  have s0 := HSS.out X.drew HMD.out.le
  have HP1 := Lib.hid (HPX.out _ r _ HMD.out)
  go_region_held3 (fun w' => w'.cell? ⟨nb, 0, none⟩ = some (.int .i64 s2.tasks) ∧ w'.cell? ⟨nb, 1, none⟩ = some (.int .i64 s2.most) ∧ w'.cell? ⟨nb, 2, none⟩ = some (.int .i64 s2.keep) ∧ w'.cell? ⟨nb, 3, none⟩ = some (.int .i64 ((s2.last : Int) + 1)) ∧ w'.cell? ⟨nb, 4, none⟩ = some (.slice a2 s2.all.length k2) ∧ w'.cell? ⟨W.heap.size + 1, 1, none⟩ = some (.int .i64 xn)) (first | with_reducible exact s0 | with_reducible exact HSS.out w5 hm5 | with_reducible exact HSR.out _ _ w5 HMid5.out | go_keep)
    ((first
      | (go_at_call 18; refine HP1.out.mono ?_; rintro e w5 ⟨rfl, r5, hMid5, hv5⟩; have hm5 := hMid5.le; have HMid5 := Lib.hid hMid5; have HV5 := Lib.hid hv5; obtain ⟨z0, z1, z2, z3, z4, zz⟩ := HMid5.out.res; have zz0 := zz 0; have zz1 := zz 1; have zz2 := zz 2; have zz3 := zz 3; have zz4 := zz 4; clear zz; clear hMid5 hv5)))
  all_goals
    go_wp2
    have r1 := store5_block (HMid5.out.hR) (.int .i64 s2.tasks) (.int .i64 s2.most) (.int .i64 s2.keep) (.int .i64 ((s2.last : Int) + 1)) (.slice a2 s2.all.length k2)
    have hk := store5_keeps (w5) (W.heap.size + 1 + 1) (.int .i64 s2.tasks) (.int .i64 s2.most) (.int .i64 s2.keep) (.int .i64 ((s2.last : Int) + 1)) (.slice a2 s2.all.length k2)
    show bodyPost _ _ _ _ _ (store5 (w5) (W.heap.size + 1 + 1) (.int .i64 s2.tasks) (.int .i64 s2.most) (.int .i64 s2.keep) (.int .i64 ((s2.last : Int) + 1)) (.slice a2 s2.all.length k2))
    generalize store5 (w5) (W.heap.size + 1 + 1) (.int .i64 s2.tasks) (.int .i64 s2.most) (.int .i64 s2.keep) (.int .i64 ((s2.last : Int) + 1)) (.slice a2 s2.all.length k2) = wz at r1 hk ⊢
    have g0 : wz.cell? ⟨W.heap.size + 1 + 1, 0, none⟩ = some (.int .i64 s2.tasks) := mem_cells r1 0
    have g1 : wz.cell? ⟨W.heap.size + 1 + 1, 1, none⟩ = some (.int .i64 s2.most) := mem_cells r1 1
    have g2 : wz.cell? ⟨W.heap.size + 1 + 1, 2, none⟩ = some (.int .i64 s2.keep) := mem_cells r1 2
    have g3 : wz.cell? ⟨W.heap.size + 1 + 1, 3, none⟩ = some (.int .i64 ((s2.last : Int) + 1)) := mem_cells r1 3
    have g4 : wz.cell? ⟨W.heap.size + 1 + 1, 4, none⟩ = some (.slice a2 s2.all.length k2) := mem_cells r1 4
    refine bodyPost_ret (v := .tuple #[.agg #[.int .i64 s2.tasks, .int .i64 s2.most, .int .i64 s2.keep, .int .i64 ((s2.last : Int) + 1), .slice a2 s2.all.length k2], .bool true]) (by simp [results, Tryz.results8, go_sem, g0, g1, g2, g3, g4]) rfl ?_
    have hf := HMid5.out.finish hk hbR (by rw [HV5.out]; exact HRF2.out)
    exact ⟨_, _, M2, by rw [HV5.out] <;> rfl, hf.1, Mem.le_trans HM1.out HMM.out, hf.2, by rw [HV5.out, HAV.out]⟩
end Go.Proofs.YtnfolemblnnejaaGreat
/- does, Fall (printed by gen_vdoes.py). -/
namespace Go.Proofs.YtnfolemblnnejaaGreat
open Go.RowKit Go.Maps
set_option maxRecDepth 100000 in
set_option maxHeartbeats 16000000 in
theorem does_fall (base p N : Nat) (M : Mem) (W : World) (r : HV) (a : Value) (xk xn xt : Int) (nm tx : ByteArray) (es : List Ent) (ve : Value) (c : VRun base p N M W r a) (hx : (⟨xk, xn, xt, nm, tx, es⟩ : VAct).okA) (hsm : (⟨xk, xn, xt, nm, tx, es⟩ : VAct).small) (hve : tEnts.rv M [ve] es) (hN : N ≤ 900) (h40 : xk % 10 = 9 → xt ≤ 40 ∨ 400 < xt) (hkd : xk % 10 = 7) :
    Calls Tryz.prog 8 #[ptrTo p, rvV r.vs a, .agg #[.int .u8 xk, .int .i64 xn, .int .i64 xt, .string nm, .string tx, ve]] W (DoesOut base p N M W r ⟨xk, xn, xt, nm, tx, es⟩) := by
  obtain ⟨⟨hk0, hk2⟩, hxn, hxt, hnm, htx⟩ := hx
  obtain ⟨hs1, hs2, hs3⟩ := hsm
  simp only at hk0 hk2 hxn hxt hnm htx hs1 hs2 hs3
  have HAV := Lib.hid (show actVS r.vs ⟨xk, xn, xt, nm, tx, es⟩ = r.vs.dels r.vs.pend from by unfold actVS; simp only; rw [if_neg (by omega)]; rw [if_neg (by omega)]; rw [if_pos hkd])
  have hkt : xk.tmod 10 = 7 := by rw [Int.tmod_eq_emod_of_nonneg hk0]; exact hkd
  clear hk0 hk2 h40
  have HVE := Lib.hid hve
  obtain ⟨aa, ca, rfl, hla, hma, hra⟩ := slice_form c.rat.ha
  obtain ⟨ae, ke, rfl, hle, hme, -⟩ := slice_form hve
  have hca : ca ≤ 9223372036854775807 := by unfold maxLen at hma; exact hma
  have hke : ke ≤ 9223372036854775807 := by unfold maxLen at hme; exact hme
  have HB := Lib.hid (show Below W.heap.size W (((W.alloc (.cells #[.int .i64 r.vs.tasks, .int .i64 r.vs.most, .int .i64 r.vs.keep, .int .i64 ((r.vs.last : Int) + 1), .slice aa r.vs.all.length ca] 31)).alloc (.cells #[.int .u8 xk, .int .i64 xn, .int .i64 xt, .string nm, .string tx, .slice ae es.length ke] 36)).alloc (.cells #[.int .i64 0, .int .i64 0, .int .i64 0, .int .i64 0, .slice none 0 0] 31)) from (((Below.refl W.heap.size W).alloc (Nat.le_refl _) _).alloc (by simp) _).alloc (by simp; omega) _)
  have hY : ∀ (b : Nat) (o o' : Obj) (w : World), w.heap[b]? = some o → (w.alloc o').heap[b]? = some o := fun b o o' w e => (Below.heap_alloc _ _ _ (Array.getElem?_eq_some_iff.1 e).1).trans e
  have y4 : (((W.alloc (.cells #[.int .i64 r.vs.tasks, .int .i64 r.vs.most, .int .i64 r.vs.keep, .int .i64 ((r.vs.last : Int) + 1), .slice aa r.vs.all.length ca] 31)).alloc (.cells #[.int .u8 xk, .int .i64 xn, .int .i64 xt, .string nm, .string tx, .slice ae es.length ke] 36)).alloc (.cells #[.int .i64 0, .int .i64 0, .int .i64 0, .int .i64 0, .slice none 0 0] 31)).heap[W.heap.size]? = some (.cells #[.int .i64 r.vs.tasks, .int .i64 r.vs.most, .int .i64 r.vs.keep, .int .i64 ((r.vs.last : Int) + 1), .slice aa r.vs.all.length ca] 31 (0, 0)) := hY _ _ _ _ (hY _ _ _ _ (heap_alloc_new W _))
  have y5 : (((W.alloc (.cells #[.int .i64 r.vs.tasks, .int .i64 r.vs.most, .int .i64 r.vs.keep, .int .i64 ((r.vs.last : Int) + 1), .slice aa r.vs.all.length ca] 31)).alloc (.cells #[.int .u8 xk, .int .i64 xn, .int .i64 xt, .string nm, .string tx, .slice ae es.length ke] 36)).alloc (.cells #[.int .i64 0, .int .i64 0, .int .i64 0, .int .i64 0, .slice none 0 0] 31)).heap[W.heap.size + 1]? = some (.cells #[.int .u8 xk, .int .i64 xn, .int .i64 xt, .string nm, .string tx, .slice ae es.length ke] 36 (0, 0)) := hY _ _ _ _ (by have h := heap_alloc_new (W.alloc (.cells #[.int .i64 r.vs.tasks, .int .i64 r.vs.most, .int .i64 r.vs.keep, .int .i64 ((r.vs.last : Int) + 1), .slice aa r.vs.all.length ca] 31)) (.cells #[.int .u8 xk, .int .i64 xn, .int .i64 xt, .string nm, .string tx, .slice ae es.length ke] 36); rw [World.size_alloc] at h; exact h)
  have yR : (((W.alloc (.cells #[.int .i64 r.vs.tasks, .int .i64 r.vs.most, .int .i64 r.vs.keep, .int .i64 ((r.vs.last : Int) + 1), .slice aa r.vs.all.length ca] 31)).alloc (.cells #[.int .u8 xk, .int .i64 xn, .int .i64 xt, .string nm, .string tx, .slice ae es.length ke] 36)).alloc (.cells #[.int .i64 0, .int .i64 0, .int .i64 0, .int .i64 0, .slice none 0 0] 31)).heap[W.heap.size + 1 + 1]? = some (.cells #[.int .i64 0, .int .i64 0, .int .i64 0, .int .i64 0, .slice none 0 0] 31 (0, 0)) := by have h := heap_alloc_new ((W.alloc (.cells #[.int .i64 r.vs.tasks, .int .i64 r.vs.most, .int .i64 r.vs.keep, .int .i64 ((r.vs.last : Int) + 1), .slice aa r.vs.all.length ca] 31)).alloc (.cells #[.int .u8 xk, .int .i64 xn, .int .i64 xt, .string nm, .string tx, .slice ae es.length ke] 36)) (.cells #[.int .i64 0, .int .i64 0, .int .i64 0, .int .i64 0, .slice none 0 0] 31); rw [World.size_alloc, World.size_alloc] at h; exact h
  obtain ⟨M1, hMid, hM1, hnew1, hrat⟩ := c.start HB.out (R := W.heap.size + 1 + 1) yR (by omega)
  have HRAT := Lib.hid hrat
  have HM1 := Lib.hid hM1
  have hbR : W.heap.size ≤ W.heap.size + 1 + 1 := by omega
  have hlast := c.last
  have HLN := Lib.hid c.len
  have HOK := Lib.hid c.inv.ok
  have HC4 := Lib.hid (fun (wq : World) (hq : M1.le (mem wq)) => (show wq.cell? ⟨W.heap.size, 0, none⟩ = some (.int .i64 r.vs.tasks) ∧ wq.cell? ⟨W.heap.size, 1, none⟩ = some (.int .i64 r.vs.most) ∧ wq.cell? ⟨W.heap.size, 2, none⟩ = some (.int .i64 r.vs.keep) ∧ wq.cell? ⟨W.heap.size, 3, none⟩ = some (.int .i64 ((r.vs.last : Int) + 1)) ∧ wq.cell? ⟨W.heap.size, 4, none⟩ = some (.slice aa r.vs.all.length ca) from ⟨hq _ _ _ (hnew1 _ _ _ (Mem.on_some (mem_cells y4 0) ⟨by omega, by omega⟩)), hq _ _ _ (hnew1 _ _ _ (Mem.on_some (mem_cells y4 1) ⟨by omega, by omega⟩)), hq _ _ _ (hnew1 _ _ _ (Mem.on_some (mem_cells y4 2) ⟨by omega, by omega⟩)), hq _ _ _ (hnew1 _ _ _ (Mem.on_some (mem_cells y4 3) ⟨by omega, by omega⟩)), hq _ _ _ (hnew1 _ _ _ (Mem.on_some (mem_cells y4 4) ⟨by omega, by omega⟩))⟩))
  have HC5 := Lib.hid (fun (wq : World) (hq : M1.le (mem wq)) => (show wq.cell? ⟨W.heap.size + 1, 0, none⟩ = some (.int .u8 xk) ∧ wq.cell? ⟨W.heap.size + 1, 1, none⟩ = some (.int .i64 xn) ∧ wq.cell? ⟨W.heap.size + 1, 2, none⟩ = some (.int .i64 xt) ∧ wq.cell? ⟨W.heap.size + 1, 3, none⟩ = some (.string nm) ∧ wq.cell? ⟨W.heap.size + 1, 4, none⟩ = some (.string tx) ∧ wq.cell? ⟨W.heap.size + 1, 5, none⟩ = some (.slice ae es.length ke) from ⟨hq _ _ _ (hnew1 _ _ _ (Mem.on_some (mem_cells y5 0) ⟨by omega, by omega⟩)), hq _ _ _ (hnew1 _ _ _ (Mem.on_some (mem_cells y5 1) ⟨by omega, by omega⟩)), hq _ _ _ (hnew1 _ _ _ (Mem.on_some (mem_cells y5 2) ⟨by omega, by omega⟩)), hq _ _ _ (hnew1 _ _ _ (Mem.on_some (mem_cells y5 3) ⟨by omega, by omega⟩)), hq _ _ _ (hnew1 _ _ _ (Mem.on_some (mem_cells y5 4) ⟨by omega, by omega⟩)), hq _ _ _ (hnew1 _ _ _ (Mem.on_some (mem_cells y5 5) ⟨by omega, by omega⟩))⟩))
  clear hY y4 y5 yR hnew1 hra hma hme hM1 hrat c hve
  go_enter Tryz.func8, Tryz.ntmps8
  go_upto_region 1 with fail
  generalize ((W.alloc (.cells #[.int .i64 r.vs.tasks, .int .i64 r.vs.most, .int .i64 r.vs.keep, .int .i64 ((r.vs.last : Int) + 1), .slice aa r.vs.all.length ca] 31)).alloc (.cells #[.int .u8 xk, .int .i64 xn, .int .i64 xt, .string nm, .string tx, .slice ae es.length ke] 36)).alloc (.cells #[.int .i64 0, .int .i64 0, .int .i64 0, .int .i64 0, .slice none 0 0] 31) = Y at HB hMid ⊢
  have HMI := Lib.hid hMid
  obtain ⟨c0, c1, c2, c3, c4⟩ := HC4.out Y hMid.le
  obtain ⟨d0, d1, d2, d3, d4, d5⟩ := HC5.out Y hMid.le
  clear hMid
  go_upto_region 2 with fail
  try rw [hkt]
  have HSL := Lib.hid (show (r.vs.dels r.vs.pend).last = r.vs.last from rfl)
  go_wp2_with fail
  refine (vFall_any Y HMI.out.inv).mono ?_
  rintro e w0 ⟨u1, q1, rfl, hu1, r5, st, hv5⟩
  have HV5 := Lib.hid (show r5.vs = r.vs.dels r.vs.pend from hv5)
  have HU1 := Lib.hid hu1
  have HMid1 := Lib.hid (show VMid base p (N + 1) M1 (W.heap.size + 1 + 1) (W, r, M) w0 r5 from HMI.out.step st (by rw [HV5.out, HSL.out]; omega))
  clear st hv5 hu1 c0 c1 c2 c3 c4 d0 d1 d2 d3 d4 d5
  obtain ⟨c0, c1, c2, c3, c4⟩ := HC4.out w0 HMid1.out.le
  obtain ⟨d0, d1, d2, d3, d4, d5⟩ := HC5.out w0 HMid1.out.le
  go_wp2_with fail
  refine (refFall_any r.vs _ M1 w0 HMid1.out.le HRAT.out (by have := HLN.out; omega)).mono ?_
  rintro e w1 ⟨a', u2, q2, hb1, rfl, hr1, hu2⟩
  have HU2 := Lib.hid hu2
  have HU3 := Lib.hid ((tSlice tInt).mono _ _ _ _ (below_mem hb1) HU1.out)
  clear hu2
  generalize r.vs.dels r.vs.pend = s2 at *
  generalize r.vs.pend = pd at *
  obtain ⟨a2, k2, rfl, hl2, hm2, -⟩ := slice_form hr1.ha
  have hk2 : k2 ≤ 9223372036854775807 := by unfold maxLen at hm2; exact hm2
  clear hm2
  have HX1 := Lib.hid ((tSlice tInt).mono _ _ _ _ (below_mem (box_below w1 (.cells #[.int .i64 s2.tasks, .int .i64 s2.most, .int .i64 s2.keep, .int .i64 ((s2.last : Int) + 1), .slice a2 s2.all.length k2] 31))) HU3.out)
  have HX2 := Lib.hid ((tSlice tInt).mono _ _ _ _ (below_mem (box_below w1 (.cells #[.int .i64 s2.tasks, .int .i64 s2.most, .int .i64 s2.keep, .int .i64 ((s2.last : Int) + 1), .slice a2 s2.all.length k2] 31))) HU2.out)
  clear HU1 HU2 HU3
  have hbA := hb1.alloc hb1.size (.cells #[.int .i64 s2.tasks, .int .i64 s2.most, .int .i64 s2.keep, .int .i64 ((s2.last : Int) + 1), .slice a2 s2.all.length k2] 31)
  have HMid2 := Lib.hid (HMid1.out.grow hbA)
  have HMM := Lib.hid (joinM_le (W' := w1.alloc (.cells #[.int .i64 s2.tasks, .int .i64 s2.most, .int .i64 s2.keep, .int .i64 ((s2.last : Int) + 1), .slice a2 s2.all.length k2] 31)) HMid1.out.le)
  have HC8 := Lib.hid (fun (wq : World) (hq : (joinM M1 w0 (w1.alloc (.cells #[.int .i64 s2.tasks, .int .i64 s2.most, .int .i64 s2.keep, .int .i64 ((s2.last : Int) + 1), .slice a2 s2.all.length k2] 31))).le (mem wq)) => (show wq.cell? ⟨w1.heap.size, 0, none⟩ = some (.int .i64 s2.tasks) ∧ wq.cell? ⟨w1.heap.size, 1, none⟩ = some (.int .i64 s2.most) ∧ wq.cell? ⟨w1.heap.size, 2, none⟩ = some (.int .i64 s2.keep) ∧ wq.cell? ⟨w1.heap.size, 3, none⟩ = some (.int .i64 ((s2.last : Int) + 1)) ∧ wq.cell? ⟨w1.heap.size, 4, none⟩ = some (.slice a2 s2.all.length k2) from ⟨hq _ _ _ (joinM_new _ _ _ (Mem.on_some (cell_new 0 rfl) hb1.size)), hq _ _ _ (joinM_new _ _ _ (Mem.on_some (cell_new 1 rfl) hb1.size)), hq _ _ _ (joinM_new _ _ _ (Mem.on_some (cell_new 2 rfl) hb1.size)), hq _ _ _ (joinM_new _ _ _ (Mem.on_some (cell_new 3 rfl) hb1.size)), hq _ _ _ (joinM_new _ _ _ (Mem.on_some (cell_new 4 rfl) hb1.size))⟩))
  have HRF2 := Lib.hid (hr1.mono (show (joinM M1 w0 w1).le (joinM M1 w0 (w1.alloc (.cells #[.int .i64 s2.tasks, .int .i64 s2.most, .int .i64 s2.keep, .int .i64 ((s2.last : Int) + 1), .slice a2 s2.all.length k2] 31))) from joinM_mono ((Below.refl _ _).alloc (Nat.le_refl _) _)))
  clear hbA hb1 hr1 c0 c1 c2 c3 c4 d0 d1 d2 d3 d4 d5
  go_upto_region 12 with fail
  generalize w1.alloc (.cells #[.int .i64 s2.tasks, .int .i64 s2.most, .int .i64 s2.keep, .int .i64 ((s2.last : Int) + 1), .slice a2 s2.all.length k2] 31) = X at *
  generalize w1.heap.size = nb at *
  generalize joinM M1 w0 X = M2 at *
  have HMD := Lib.hid (HMid2.out.pure0 (Below.refl _ _).drew)
  have HP1 := Lib.hid (show Calls Tryz.prog 12 #[.slice u1 pd.length q1, .slice u2 pd.length q2] X.drew (fun e W' => e = .returned (.bool true) ∧ VMid base p (N + 1) M2 (W.heap.size + 1 + 1) (W, r, M) W' r5) from
    (sameInts_any pd pd _ _ X.drew ((tSlice tInt).mono _ _ _ _ (below_mem (Below.refl X.heap.size X).drew) HX1.out) ((tSlice tInt).mono _ _ _ _ (below_mem (Below.refl X.heap.size X).drew) HX2.out)).mono fun e W' ⟨he, hb⟩ => ⟨by rw [he]; simp, HMD.out.pure0 hb⟩)
  have HSS := Lib.hid (fun (w' : World) (hq : M2.le (mem w')) => (show w'.cell? ⟨nb, 0, none⟩ = some (.int .i64 s2.tasks) ∧ w'.cell? ⟨nb, 1, none⟩ = some (.int .i64 s2.most) ∧ w'.cell? ⟨nb, 2, none⟩ = some (.int .i64 s2.keep) ∧ w'.cell? ⟨nb, 3, none⟩ = some (.int .i64 ((s2.last : Int) + 1)) ∧ w'.cell? ⟨nb, 4, none⟩ = some (.slice a2 s2.all.length k2) from HC8.out w' hq))
  have HSR := Lib.hid (fun (N' : Nat) (r' : HV) (wq : World) (hq : VMid base p N' M2 (W.heap.size + 1 + 1) (W, r, M) wq r') => (show (((((wq.setCell ⟨W.heap.size + 1 + 1, 0, none⟩ (.int .i64 s2.tasks)).setCell ⟨W.heap.size + 1 + 1, 1, none⟩ (.int .i64 s2.most)).setCell ⟨W.heap.size + 1 + 1, 2, none⟩ (.int .i64 s2.keep)).setCell ⟨W.heap.size + 1 + 1, 3, none⟩ (.int .i64 ((s2.last : Int) + 1))).setCell ⟨W.heap.size + 1 + 1, 4, none⟩ (.slice a2 s2.all.length k2)).cell? ⟨nb, 0, none⟩ = some (.int .i64 s2.tasks) ∧ (((((wq.setCell ⟨W.heap.size + 1 + 1, 0, none⟩ (.int .i64 s2.tasks)).setCell ⟨W.heap.size + 1 + 1, 1, none⟩ (.int .i64 s2.most)).setCell ⟨W.heap.size + 1 + 1, 2, none⟩ (.int .i64 s2.keep)).setCell ⟨W.heap.size + 1 + 1, 3, none⟩ (.int .i64 ((s2.last : Int) + 1))).setCell ⟨W.heap.size + 1 + 1, 4, none⟩ (.slice a2 s2.all.length k2)).cell? ⟨nb, 1, none⟩ = some (.int .i64 s2.most) ∧ (((((wq.setCell ⟨W.heap.size + 1 + 1, 0, none⟩ (.int .i64 s2.tasks)).setCell ⟨W.heap.size + 1 + 1, 1, none⟩ (.int .i64 s2.most)).setCell ⟨W.heap.size + 1 + 1, 2, none⟩ (.int .i64 s2.keep)).setCell ⟨W.heap.size + 1 + 1, 3, none⟩ (.int .i64 ((s2.last : Int) + 1))).setCell ⟨W.heap.size + 1 + 1, 4, none⟩ (.slice a2 s2.all.length k2)).cell? ⟨nb, 2, none⟩ = some (.int .i64 s2.keep) ∧ (((((wq.setCell ⟨W.heap.size + 1 + 1, 0, none⟩ (.int .i64 s2.tasks)).setCell ⟨W.heap.size + 1 + 1, 1, none⟩ (.int .i64 s2.most)).setCell ⟨W.heap.size + 1 + 1, 2, none⟩ (.int .i64 s2.keep)).setCell ⟨W.heap.size + 1 + 1, 3, none⟩ (.int .i64 ((s2.last : Int) + 1))).setCell ⟨W.heap.size + 1 + 1, 4, none⟩ (.slice a2 s2.all.length k2)).cell? ⟨nb, 3, none⟩ = some (.int .i64 ((s2.last : Int) + 1)) ∧ (((((wq.setCell ⟨W.heap.size + 1 + 1, 0, none⟩ (.int .i64 s2.tasks)).setCell ⟨W.heap.size + 1 + 1, 1, none⟩ (.int .i64 s2.most)).setCell ⟨W.heap.size + 1 + 1, 2, none⟩ (.int .i64 s2.keep)).setCell ⟨W.heap.size + 1 + 1, 3, none⟩ (.int .i64 ((s2.last : Int) + 1))).setCell ⟨W.heap.size + 1 + 1, 4, none⟩ (.slice a2 s2.all.length k2)).cell? ⟨nb, 4, none⟩ = some (.slice a2 s2.all.length k2) from HSS.out _ (hq.stored (store5_keeps wq (W.heap.size + 1 + 1) (.int .i64 s2.tasks) (.int .i64 s2.most) (.int .i64 s2.keep) (.int .i64 ((s2.last : Int) + 1)) (.slice a2 s2.all.length k2)))))
  have s0 := HSS.out X.drew HMD.out.le
  go_region_held3 (fun w' => w'.cell? ⟨nb, 0, none⟩ = some (.int .i64 s2.tasks) ∧ w'.cell? ⟨nb, 1, none⟩ = some (.int .i64 s2.most) ∧ w'.cell? ⟨nb, 2, none⟩ = some (.int .i64 s2.keep) ∧ w'.cell? ⟨nb, 3, none⟩ = some (.int .i64 ((s2.last : Int) + 1)) ∧ w'.cell? ⟨nb, 4, none⟩ = some (.slice a2 s2.all.length k2)) (first | with_reducible exact s0 | with_reducible exact HSS.out w5 hm5 | with_reducible exact HSR.out _ _ w5 HMid5.out | go_keep)
    ((first
      | (go_at_call 12; refine HP1.out.mono ?_; rintro e w5 ⟨rfl, hMid5⟩; have hm5 := hMid5.le; have HMid5 := Lib.hid hMid5; obtain ⟨z0, z1, z2, z3, z4, zz⟩ := HMid5.out.res; have zz0 := zz 0; have zz1 := zz 1; have zz2 := zz 2; have zz3 := zz 3; have zz4 := zz 4; clear zz; clear hMid5)))
  all_goals
    go_wp2
    have r1 := store5_block (HMid5.out.hR) (.int .i64 s2.tasks) (.int .i64 s2.most) (.int .i64 s2.keep) (.int .i64 ((s2.last : Int) + 1)) (.slice a2 s2.all.length k2)
    have hk := store5_keeps (w5) (W.heap.size + 1 + 1) (.int .i64 s2.tasks) (.int .i64 s2.most) (.int .i64 s2.keep) (.int .i64 ((s2.last : Int) + 1)) (.slice a2 s2.all.length k2)
    show bodyPost _ _ _ _ _ (store5 (w5) (W.heap.size + 1 + 1) (.int .i64 s2.tasks) (.int .i64 s2.most) (.int .i64 s2.keep) (.int .i64 ((s2.last : Int) + 1)) (.slice a2 s2.all.length k2))
    generalize store5 (w5) (W.heap.size + 1 + 1) (.int .i64 s2.tasks) (.int .i64 s2.most) (.int .i64 s2.keep) (.int .i64 ((s2.last : Int) + 1)) (.slice a2 s2.all.length k2) = wz at r1 hk ⊢
    have g0 : wz.cell? ⟨W.heap.size + 1 + 1, 0, none⟩ = some (.int .i64 s2.tasks) := mem_cells r1 0
    have g1 : wz.cell? ⟨W.heap.size + 1 + 1, 1, none⟩ = some (.int .i64 s2.most) := mem_cells r1 1
    have g2 : wz.cell? ⟨W.heap.size + 1 + 1, 2, none⟩ = some (.int .i64 s2.keep) := mem_cells r1 2
    have g3 : wz.cell? ⟨W.heap.size + 1 + 1, 3, none⟩ = some (.int .i64 ((s2.last : Int) + 1)) := mem_cells r1 3
    have g4 : wz.cell? ⟨W.heap.size + 1 + 1, 4, none⟩ = some (.slice a2 s2.all.length k2) := mem_cells r1 4
    refine bodyPost_ret (v := .tuple #[.agg #[.int .i64 s2.tasks, .int .i64 s2.most, .int .i64 s2.keep, .int .i64 ((s2.last : Int) + 1), .slice a2 s2.all.length k2], .bool true]) (by simp [results, Tryz.results8, go_sem, g0, g1, g2, g3, g4]) rfl ?_
    have hf := HMid5.out.finish hk hbR (by rw [HV5.out]; exact HRF2.out)
    exact ⟨_, _, M2, by rw [HV5.out] <;> rfl, hf.1, Mem.le_trans HM1.out HMM.out, hf.2, by rw [HV5.out, HAV.out]⟩
end Go.Proofs.YtnfolemblnnejaaGreat
/- does, Forget (printed by gen_vdoes.py). -/
namespace Go.Proofs.YtnfolemblnnejaaGreat
open Go.RowKit Go.Maps
set_option maxRecDepth 100000 in
set_option maxHeartbeats 16000000 in
theorem does_forget (base p N : Nat) (M : Mem) (W : World) (r : HV) (a : Value) (xk xn xt : Int) (nm tx : ByteArray) (es : List Ent) (ve : Value) (c : VRun base p N M W r a) (hx : (⟨xk, xn, xt, nm, tx, es⟩ : VAct).okA) (hsm : (⟨xk, xn, xt, nm, tx, es⟩ : VAct).small) (hve : tEnts.rv M [ve] es) (hN : N ≤ 900) (h40 : xk % 10 = 9 → xt ≤ 40 ∨ 400 < xt) (hkd : xk % 10 = 8) :
    Calls Tryz.prog 8 #[ptrTo p, rvV r.vs a, .agg #[.int .u8 xk, .int .i64 xn, .int .i64 xt, .string nm, .string tx, ve]] W (DoesOut base p N M W r ⟨xk, xn, xt, nm, tx, es⟩) := by
  obtain ⟨⟨hk0, hk2⟩, hxn, hxt, hnm, htx⟩ := hx
  obtain ⟨hs1, hs2, hs3⟩ := hsm
  simp only at hk0 hk2 hxn hxt hnm htx hs1 hs2 hs3
  have HAV := Lib.hid (show actVS r.vs ⟨xk, xn, xt, nm, tx, es⟩ = r.vs.forget nm from by unfold actVS; simp only; rw [if_neg (by omega)]; rw [if_neg (by omega)]; rw [if_neg (by omega)]; rw [if_pos hkd])
  have hkt : xk.tmod 10 = 8 := by rw [Int.tmod_eq_emod_of_nonneg hk0]; exact hkd
  clear hk0 hk2 h40
  have HVE := Lib.hid hve
  obtain ⟨aa, ca, rfl, hla, hma, hra⟩ := slice_form c.rat.ha
  obtain ⟨ae, ke, rfl, hle, hme, -⟩ := slice_form hve
  have hca : ca ≤ 9223372036854775807 := by unfold maxLen at hma; exact hma
  have hke : ke ≤ 9223372036854775807 := by unfold maxLen at hme; exact hme
  have HB := Lib.hid (show Below W.heap.size W (((W.alloc (.cells #[.int .i64 r.vs.tasks, .int .i64 r.vs.most, .int .i64 r.vs.keep, .int .i64 ((r.vs.last : Int) + 1), .slice aa r.vs.all.length ca] 31)).alloc (.cells #[.int .u8 xk, .int .i64 xn, .int .i64 xt, .string nm, .string tx, .slice ae es.length ke] 36)).alloc (.cells #[.int .i64 0, .int .i64 0, .int .i64 0, .int .i64 0, .slice none 0 0] 31)) from (((Below.refl W.heap.size W).alloc (Nat.le_refl _) _).alloc (by simp) _).alloc (by simp; omega) _)
  have hY : ∀ (b : Nat) (o o' : Obj) (w : World), w.heap[b]? = some o → (w.alloc o').heap[b]? = some o := fun b o o' w e => (Below.heap_alloc _ _ _ (Array.getElem?_eq_some_iff.1 e).1).trans e
  have y4 : (((W.alloc (.cells #[.int .i64 r.vs.tasks, .int .i64 r.vs.most, .int .i64 r.vs.keep, .int .i64 ((r.vs.last : Int) + 1), .slice aa r.vs.all.length ca] 31)).alloc (.cells #[.int .u8 xk, .int .i64 xn, .int .i64 xt, .string nm, .string tx, .slice ae es.length ke] 36)).alloc (.cells #[.int .i64 0, .int .i64 0, .int .i64 0, .int .i64 0, .slice none 0 0] 31)).heap[W.heap.size]? = some (.cells #[.int .i64 r.vs.tasks, .int .i64 r.vs.most, .int .i64 r.vs.keep, .int .i64 ((r.vs.last : Int) + 1), .slice aa r.vs.all.length ca] 31 (0, 0)) := hY _ _ _ _ (hY _ _ _ _ (heap_alloc_new W _))
  have y5 : (((W.alloc (.cells #[.int .i64 r.vs.tasks, .int .i64 r.vs.most, .int .i64 r.vs.keep, .int .i64 ((r.vs.last : Int) + 1), .slice aa r.vs.all.length ca] 31)).alloc (.cells #[.int .u8 xk, .int .i64 xn, .int .i64 xt, .string nm, .string tx, .slice ae es.length ke] 36)).alloc (.cells #[.int .i64 0, .int .i64 0, .int .i64 0, .int .i64 0, .slice none 0 0] 31)).heap[W.heap.size + 1]? = some (.cells #[.int .u8 xk, .int .i64 xn, .int .i64 xt, .string nm, .string tx, .slice ae es.length ke] 36 (0, 0)) := hY _ _ _ _ (by have h := heap_alloc_new (W.alloc (.cells #[.int .i64 r.vs.tasks, .int .i64 r.vs.most, .int .i64 r.vs.keep, .int .i64 ((r.vs.last : Int) + 1), .slice aa r.vs.all.length ca] 31)) (.cells #[.int .u8 xk, .int .i64 xn, .int .i64 xt, .string nm, .string tx, .slice ae es.length ke] 36); rw [World.size_alloc] at h; exact h)
  have yR : (((W.alloc (.cells #[.int .i64 r.vs.tasks, .int .i64 r.vs.most, .int .i64 r.vs.keep, .int .i64 ((r.vs.last : Int) + 1), .slice aa r.vs.all.length ca] 31)).alloc (.cells #[.int .u8 xk, .int .i64 xn, .int .i64 xt, .string nm, .string tx, .slice ae es.length ke] 36)).alloc (.cells #[.int .i64 0, .int .i64 0, .int .i64 0, .int .i64 0, .slice none 0 0] 31)).heap[W.heap.size + 1 + 1]? = some (.cells #[.int .i64 0, .int .i64 0, .int .i64 0, .int .i64 0, .slice none 0 0] 31 (0, 0)) := by have h := heap_alloc_new ((W.alloc (.cells #[.int .i64 r.vs.tasks, .int .i64 r.vs.most, .int .i64 r.vs.keep, .int .i64 ((r.vs.last : Int) + 1), .slice aa r.vs.all.length ca] 31)).alloc (.cells #[.int .u8 xk, .int .i64 xn, .int .i64 xt, .string nm, .string tx, .slice ae es.length ke] 36)) (.cells #[.int .i64 0, .int .i64 0, .int .i64 0, .int .i64 0, .slice none 0 0] 31); rw [World.size_alloc, World.size_alloc] at h; exact h
  obtain ⟨M1, hMid, hM1, hnew1, hrat⟩ := c.start HB.out (R := W.heap.size + 1 + 1) yR (by omega)
  have HRAT := Lib.hid hrat
  have HM1 := Lib.hid hM1
  have hbR : W.heap.size ≤ W.heap.size + 1 + 1 := by omega
  have hlast := c.last
  have HLN := Lib.hid c.len
  have HOK := Lib.hid c.inv.ok
  have HC4 := Lib.hid (fun (wq : World) (hq : M1.le (mem wq)) => (show wq.cell? ⟨W.heap.size, 0, none⟩ = some (.int .i64 r.vs.tasks) ∧ wq.cell? ⟨W.heap.size, 1, none⟩ = some (.int .i64 r.vs.most) ∧ wq.cell? ⟨W.heap.size, 2, none⟩ = some (.int .i64 r.vs.keep) ∧ wq.cell? ⟨W.heap.size, 3, none⟩ = some (.int .i64 ((r.vs.last : Int) + 1)) ∧ wq.cell? ⟨W.heap.size, 4, none⟩ = some (.slice aa r.vs.all.length ca) from ⟨hq _ _ _ (hnew1 _ _ _ (Mem.on_some (mem_cells y4 0) ⟨by omega, by omega⟩)), hq _ _ _ (hnew1 _ _ _ (Mem.on_some (mem_cells y4 1) ⟨by omega, by omega⟩)), hq _ _ _ (hnew1 _ _ _ (Mem.on_some (mem_cells y4 2) ⟨by omega, by omega⟩)), hq _ _ _ (hnew1 _ _ _ (Mem.on_some (mem_cells y4 3) ⟨by omega, by omega⟩)), hq _ _ _ (hnew1 _ _ _ (Mem.on_some (mem_cells y4 4) ⟨by omega, by omega⟩))⟩))
  have HC5 := Lib.hid (fun (wq : World) (hq : M1.le (mem wq)) => (show wq.cell? ⟨W.heap.size + 1, 0, none⟩ = some (.int .u8 xk) ∧ wq.cell? ⟨W.heap.size + 1, 1, none⟩ = some (.int .i64 xn) ∧ wq.cell? ⟨W.heap.size + 1, 2, none⟩ = some (.int .i64 xt) ∧ wq.cell? ⟨W.heap.size + 1, 3, none⟩ = some (.string nm) ∧ wq.cell? ⟨W.heap.size + 1, 4, none⟩ = some (.string tx) ∧ wq.cell? ⟨W.heap.size + 1, 5, none⟩ = some (.slice ae es.length ke) from ⟨hq _ _ _ (hnew1 _ _ _ (Mem.on_some (mem_cells y5 0) ⟨by omega, by omega⟩)), hq _ _ _ (hnew1 _ _ _ (Mem.on_some (mem_cells y5 1) ⟨by omega, by omega⟩)), hq _ _ _ (hnew1 _ _ _ (Mem.on_some (mem_cells y5 2) ⟨by omega, by omega⟩)), hq _ _ _ (hnew1 _ _ _ (Mem.on_some (mem_cells y5 3) ⟨by omega, by omega⟩)), hq _ _ _ (hnew1 _ _ _ (Mem.on_some (mem_cells y5 4) ⟨by omega, by omega⟩)), hq _ _ _ (hnew1 _ _ _ (Mem.on_some (mem_cells y5 5) ⟨by omega, by omega⟩))⟩))
  clear hY y4 y5 yR hnew1 hra hma hme hM1 hrat c hve
  go_enter Tryz.func8, Tryz.ntmps8
  go_upto_region 1 with fail
  generalize ((W.alloc (.cells #[.int .i64 r.vs.tasks, .int .i64 r.vs.most, .int .i64 r.vs.keep, .int .i64 ((r.vs.last : Int) + 1), .slice aa r.vs.all.length ca] 31)).alloc (.cells #[.int .u8 xk, .int .i64 xn, .int .i64 xt, .string nm, .string tx, .slice ae es.length ke] 36)).alloc (.cells #[.int .i64 0, .int .i64 0, .int .i64 0, .int .i64 0, .slice none 0 0] 31) = Y at HB hMid ⊢
  have HMI := Lib.hid hMid
  obtain ⟨c0, c1, c2, c3, c4⟩ := HC4.out Y hMid.le
  obtain ⟨d0, d1, d2, d3, d4, d5⟩ := HC5.out Y hMid.le
  clear hMid
  go_upto_region 2 with fail
  try rw [hkt]
  go_wp2_with fail
  refine (refForget_any r.vs _ M1 Y HMI.out.le HRAT.out (by have := HLN.out; omega) nm hnm).mono ?_
  rintro e w1 ⟨a', hb1, rfl, hr1⟩
  have HSL := Lib.hid (show (r.vs.forget nm).last = r.vs.last from last_forget _ _)
  have HPX := Lib.hid (fun (wq : World) (rq : HV) (M' : Mem) (hq : VMid base p N M' (W.heap.size + 1 + 1) (W, r, M) wq r) => (show Calls Tryz.prog 22 #[ptrTo p, .string nm] wq (fun e W' => e = .returned (.int .i64 ((namedAns r.vs nm).2)) ∧ ∃ r', VMid base p (N + 1) M' (W.heap.size + 1 + 1) (W, r, M) W' r' ∧ r'.vs = r.vs.forget nm) from
    (vForget_any nm wq hq.inv hnm).mono fun e W' ⟨he, r', st, hv⟩ => ⟨he, r', hq.step st (by have hv2 : r'.vs = r.vs.forget nm := (hv); rw [hv2, HSL.out]; omega), (hv)⟩))
  generalize r.vs.forget nm = s2 at *
  generalize (namedAns r.vs nm).2 = cc at *
  obtain ⟨a2, k2, rfl, hl2, hm2, -⟩ := slice_form hr1.ha
  have hk2 : k2 ≤ 9223372036854775807 := by unfold maxLen at hm2; exact hm2
  clear hm2
  have hcc : (cc == cc) = true := by simp
  have hbA := hb1.alloc hb1.size (.cells #[.int .i64 s2.tasks, .int .i64 s2.most, .int .i64 s2.keep, .int .i64 ((s2.last : Int) + 1), .slice a2 s2.all.length k2] 31)
  have HMid2 := Lib.hid (HMI.out.grow hbA)
  have HMM := Lib.hid (joinM_le (W' := w1.alloc (.cells #[.int .i64 s2.tasks, .int .i64 s2.most, .int .i64 s2.keep, .int .i64 ((s2.last : Int) + 1), .slice a2 s2.all.length k2] 31)) HMI.out.le)
  have HC8 := Lib.hid (fun (wq : World) (hq : (joinM M1 Y (w1.alloc (.cells #[.int .i64 s2.tasks, .int .i64 s2.most, .int .i64 s2.keep, .int .i64 ((s2.last : Int) + 1), .slice a2 s2.all.length k2] 31))).le (mem wq)) => (show wq.cell? ⟨w1.heap.size, 0, none⟩ = some (.int .i64 s2.tasks) ∧ wq.cell? ⟨w1.heap.size, 1, none⟩ = some (.int .i64 s2.most) ∧ wq.cell? ⟨w1.heap.size, 2, none⟩ = some (.int .i64 s2.keep) ∧ wq.cell? ⟨w1.heap.size, 3, none⟩ = some (.int .i64 ((s2.last : Int) + 1)) ∧ wq.cell? ⟨w1.heap.size, 4, none⟩ = some (.slice a2 s2.all.length k2) from ⟨hq _ _ _ (joinM_new _ _ _ (Mem.on_some (cell_new 0 rfl) hb1.size)), hq _ _ _ (joinM_new _ _ _ (Mem.on_some (cell_new 1 rfl) hb1.size)), hq _ _ _ (joinM_new _ _ _ (Mem.on_some (cell_new 2 rfl) hb1.size)), hq _ _ _ (joinM_new _ _ _ (Mem.on_some (cell_new 3 rfl) hb1.size)), hq _ _ _ (joinM_new _ _ _ (Mem.on_some (cell_new 4 rfl) hb1.size))⟩))
  have HRF2 := Lib.hid (hr1.mono (show (joinM M1 Y w1).le (joinM M1 Y (w1.alloc (.cells #[.int .i64 s2.tasks, .int .i64 s2.most, .int .i64 s2.keep, .int .i64 ((s2.last : Int) + 1), .slice a2 s2.all.length k2] 31))) from joinM_mono ((Below.refl _ _).alloc (Nat.le_refl _) _)))
  clear hbA hb1 hr1 c0 c1 c2 c3 c4 d0 d1 d2 d3 d4 d5
  go_upto_region 15 with fail
  generalize w1.alloc (.cells #[.int .i64 s2.tasks, .int .i64 s2.most, .int .i64 s2.keep, .int .i64 ((s2.last : Int) + 1), .slice a2 s2.all.length k2] 31) = X at *
  generalize w1.heap.size = nb at *
  generalize joinM M1 Y X = M2 at *
  have HMD := Lib.hid (HMid2.out.pure0 (Below.refl _ _).drew)
  have HSS := Lib.hid (fun (w' : World) (hq : M2.le (mem w')) => (show w'.cell? ⟨nb, 0, none⟩ = some (.int .i64 s2.tasks) ∧ w'.cell? ⟨nb, 1, none⟩ = some (.int .i64 s2.most) ∧ w'.cell? ⟨nb, 2, none⟩ = some (.int .i64 s2.keep) ∧ w'.cell? ⟨nb, 3, none⟩ = some (.int .i64 ((s2.last : Int) + 1)) ∧ w'.cell? ⟨nb, 4, none⟩ = some (.slice a2 s2.all.length k2) ∧ w'.cell? ⟨W.heap.size + 1, 3, none⟩ = some (.string nm) from ⟨(HC8.out w' hq).1, (HC8.out w' hq).2.1, (HC8.out w' hq).2.2.1, (HC8.out w' hq).2.2.2.1, (HC8.out w' hq).2.2.2.2, (HC5.out w' (Mem.le_trans HMM.out hq)).2.2.2.1⟩))
  have HSR := Lib.hid (fun (N' : Nat) (r' : HV) (wq : World) (hq : VMid base p N' M2 (W.heap.size + 1 + 1) (W, r, M) wq r') => (show (((((wq.setCell ⟨W.heap.size + 1 + 1, 0, none⟩ (.int .i64 s2.tasks)).setCell ⟨W.heap.size + 1 + 1, 1, none⟩ (.int .i64 s2.most)).setCell ⟨W.heap.size + 1 + 1, 2, none⟩ (.int .i64 s2.keep)).setCell ⟨W.heap.size + 1 + 1, 3, none⟩ (.int .i64 ((s2.last : Int) + 1))).setCell ⟨W.heap.size + 1 + 1, 4, none⟩ (.slice a2 s2.all.length k2)).cell? ⟨nb, 0, none⟩ = some (.int .i64 s2.tasks) ∧ (((((wq.setCell ⟨W.heap.size + 1 + 1, 0, none⟩ (.int .i64 s2.tasks)).setCell ⟨W.heap.size + 1 + 1, 1, none⟩ (.int .i64 s2.most)).setCell ⟨W.heap.size + 1 + 1, 2, none⟩ (.int .i64 s2.keep)).setCell ⟨W.heap.size + 1 + 1, 3, none⟩ (.int .i64 ((s2.last : Int) + 1))).setCell ⟨W.heap.size + 1 + 1, 4, none⟩ (.slice a2 s2.all.length k2)).cell? ⟨nb, 1, none⟩ = some (.int .i64 s2.most) ∧ (((((wq.setCell ⟨W.heap.size + 1 + 1, 0, none⟩ (.int .i64 s2.tasks)).setCell ⟨W.heap.size + 1 + 1, 1, none⟩ (.int .i64 s2.most)).setCell ⟨W.heap.size + 1 + 1, 2, none⟩ (.int .i64 s2.keep)).setCell ⟨W.heap.size + 1 + 1, 3, none⟩ (.int .i64 ((s2.last : Int) + 1))).setCell ⟨W.heap.size + 1 + 1, 4, none⟩ (.slice a2 s2.all.length k2)).cell? ⟨nb, 2, none⟩ = some (.int .i64 s2.keep) ∧ (((((wq.setCell ⟨W.heap.size + 1 + 1, 0, none⟩ (.int .i64 s2.tasks)).setCell ⟨W.heap.size + 1 + 1, 1, none⟩ (.int .i64 s2.most)).setCell ⟨W.heap.size + 1 + 1, 2, none⟩ (.int .i64 s2.keep)).setCell ⟨W.heap.size + 1 + 1, 3, none⟩ (.int .i64 ((s2.last : Int) + 1))).setCell ⟨W.heap.size + 1 + 1, 4, none⟩ (.slice a2 s2.all.length k2)).cell? ⟨nb, 3, none⟩ = some (.int .i64 ((s2.last : Int) + 1)) ∧ (((((wq.setCell ⟨W.heap.size + 1 + 1, 0, none⟩ (.int .i64 s2.tasks)).setCell ⟨W.heap.size + 1 + 1, 1, none⟩ (.int .i64 s2.most)).setCell ⟨W.heap.size + 1 + 1, 2, none⟩ (.int .i64 s2.keep)).setCell ⟨W.heap.size + 1 + 1, 3, none⟩ (.int .i64 ((s2.last : Int) + 1))).setCell ⟨W.heap.size + 1 + 1, 4, none⟩ (.slice a2 s2.all.length k2)).cell? ⟨nb, 4, none⟩ = some (.slice a2 s2.all.length k2) ∧ (((((wq.setCell ⟨W.heap.size + 1 + 1, 0, none⟩ (.int .i64 s2.tasks)).setCell ⟨W.heap.size + 1 + 1, 1, none⟩ (.int .i64 s2.most)).setCell ⟨W.heap.size + 1 + 1, 2, none⟩ (.int .i64 s2.keep)).setCell ⟨W.heap.size + 1 + 1, 3, none⟩ (.int .i64 ((s2.last : Int) + 1))).setCell ⟨W.heap.size + 1 + 1, 4, none⟩ (.slice a2 s2.all.length k2)).cell? ⟨W.heap.size + 1, 3, none⟩ = some (.string nm) from HSS.out _ (hq.stored (store5_keeps wq (W.heap.size + 1 + 1) (.int .i64 s2.tasks) (.int .i64 s2.most) (.int .i64 s2.keep) (.int .i64 ((s2.last : Int) + 1)) (.slice a2 s2.all.length k2)))))
  have s0 := HSS.out X.drew HMD.out.le
  have HP1 := Lib.hid (HPX.out _ r _ HMD.out)
  go_region_held3 (fun w' => w'.cell? ⟨nb, 0, none⟩ = some (.int .i64 s2.tasks) ∧ w'.cell? ⟨nb, 1, none⟩ = some (.int .i64 s2.most) ∧ w'.cell? ⟨nb, 2, none⟩ = some (.int .i64 s2.keep) ∧ w'.cell? ⟨nb, 3, none⟩ = some (.int .i64 ((s2.last : Int) + 1)) ∧ w'.cell? ⟨nb, 4, none⟩ = some (.slice a2 s2.all.length k2) ∧ w'.cell? ⟨W.heap.size + 1, 3, none⟩ = some (.string nm)) (first | with_reducible exact s0 | with_reducible exact HSS.out w5 hm5 | with_reducible exact HSR.out _ _ w5 HMid5.out | go_keep)
    ((first
      | (go_at_call 22; refine HP1.out.mono ?_; rintro e w5 ⟨rfl, r5, hMid5, hv5⟩; have hm5 := hMid5.le; have HMid5 := Lib.hid hMid5; have HV5 := Lib.hid hv5; obtain ⟨z0, z1, z2, z3, z4, zz⟩ := HMid5.out.res; have zz0 := zz 0; have zz1 := zz 1; have zz2 := zz 2; have zz3 := zz 3; have zz4 := zz 4; clear zz; clear hMid5 hv5)))
  all_goals
    go_wp2
    have r1 := store5_block (HMid5.out.hR) (.int .i64 s2.tasks) (.int .i64 s2.most) (.int .i64 s2.keep) (.int .i64 ((s2.last : Int) + 1)) (.slice a2 s2.all.length k2)
    have hk := store5_keeps (w5) (W.heap.size + 1 + 1) (.int .i64 s2.tasks) (.int .i64 s2.most) (.int .i64 s2.keep) (.int .i64 ((s2.last : Int) + 1)) (.slice a2 s2.all.length k2)
    show bodyPost _ _ _ _ _ (store5 (w5) (W.heap.size + 1 + 1) (.int .i64 s2.tasks) (.int .i64 s2.most) (.int .i64 s2.keep) (.int .i64 ((s2.last : Int) + 1)) (.slice a2 s2.all.length k2))
    generalize store5 (w5) (W.heap.size + 1 + 1) (.int .i64 s2.tasks) (.int .i64 s2.most) (.int .i64 s2.keep) (.int .i64 ((s2.last : Int) + 1)) (.slice a2 s2.all.length k2) = wz at r1 hk ⊢
    have g0 : wz.cell? ⟨W.heap.size + 1 + 1, 0, none⟩ = some (.int .i64 s2.tasks) := mem_cells r1 0
    have g1 : wz.cell? ⟨W.heap.size + 1 + 1, 1, none⟩ = some (.int .i64 s2.most) := mem_cells r1 1
    have g2 : wz.cell? ⟨W.heap.size + 1 + 1, 2, none⟩ = some (.int .i64 s2.keep) := mem_cells r1 2
    have g3 : wz.cell? ⟨W.heap.size + 1 + 1, 3, none⟩ = some (.int .i64 ((s2.last : Int) + 1)) := mem_cells r1 3
    have g4 : wz.cell? ⟨W.heap.size + 1 + 1, 4, none⟩ = some (.slice a2 s2.all.length k2) := mem_cells r1 4
    refine bodyPost_ret (v := .tuple #[.agg #[.int .i64 s2.tasks, .int .i64 s2.most, .int .i64 s2.keep, .int .i64 ((s2.last : Int) + 1), .slice a2 s2.all.length k2], .bool true]) (by simp [results, Tryz.results8, go_sem, g0, g1, g2, g3, g4]) rfl ?_
    have hf := HMid5.out.finish hk hbR (by rw [HV5.out]; exact HRF2.out)
    exact ⟨_, _, M2, by rw [HV5.out] <;> rfl, hf.1, Mem.le_trans HM1.out HMM.out, hf.2, by rw [HV5.out, HAV.out]⟩
end Go.Proofs.YtnfolemblnnejaaGreat
/- does, Retask (printed by gen_vdoes.py). -/
namespace Go.Proofs.YtnfolemblnnejaaGreat
open Go.RowKit Go.Maps
set_option maxRecDepth 100000 in
set_option maxHeartbeats 16000000 in
theorem does_retask (base p N : Nat) (M : Mem) (W : World) (r : HV) (a : Value) (xk xn xt : Int) (nm tx : ByteArray) (es : List Ent) (ve : Value) (c : VRun base p N M W r a) (hx : (⟨xk, xn, xt, nm, tx, es⟩ : VAct).okA) (hsm : (⟨xk, xn, xt, nm, tx, es⟩ : VAct).small) (hve : tEnts.rv M [ve] es) (hN : N ≤ 900) (h40 : xk % 10 = 9 → xt ≤ 40 ∨ 400 < xt) (hkd : xk % 10 = 9) :
    Calls Tryz.prog 8 #[ptrTo p, rvV r.vs a, .agg #[.int .u8 xk, .int .i64 xn, .int .i64 xt, .string nm, .string tx, ve]] W (DoesOut base p N M W r ⟨xk, xn, xt, nm, tx, es⟩) := by
  obtain ⟨⟨hk0, hk2⟩, hxn, hxt, hnm, htx⟩ := hx
  obtain ⟨hs1, hs2, hs3⟩ := hsm
  simp only at hk0 hk2 hxn hxt hnm htx hs1 hs2 hs3
  have HAV := Lib.hid (show actVS r.vs ⟨xk, xn, xt, nm, tx, es⟩ = r.vs.retasked xt from by unfold actVS; simp only; rw [if_neg (by omega)]; rw [if_neg (by omega)]; rw [if_neg (by omega)]; rw [if_neg (by omega)]; rw [if_pos hkd])
  have hkt : xk.tmod 10 = 9 := by rw [Int.tmod_eq_emod_of_nonneg hk0]; exact hkd
  clear hk0 hk2
  have HVE := Lib.hid hve
  obtain ⟨aa, ca, rfl, hla, hma, hra⟩ := slice_form c.rat.ha
  obtain ⟨ae, ke, rfl, hle, hme, -⟩ := slice_form hve
  have hca : ca ≤ 9223372036854775807 := by unfold maxLen at hma; exact hma
  have hke : ke ≤ 9223372036854775807 := by unfold maxLen at hme; exact hme
  have HB := Lib.hid (show Below W.heap.size W (((W.alloc (.cells #[.int .i64 r.vs.tasks, .int .i64 r.vs.most, .int .i64 r.vs.keep, .int .i64 ((r.vs.last : Int) + 1), .slice aa r.vs.all.length ca] 31)).alloc (.cells #[.int .u8 xk, .int .i64 xn, .int .i64 xt, .string nm, .string tx, .slice ae es.length ke] 36)).alloc (.cells #[.int .i64 0, .int .i64 0, .int .i64 0, .int .i64 0, .slice none 0 0] 31)) from (((Below.refl W.heap.size W).alloc (Nat.le_refl _) _).alloc (by simp) _).alloc (by simp; omega) _)
  have hY : ∀ (b : Nat) (o o' : Obj) (w : World), w.heap[b]? = some o → (w.alloc o').heap[b]? = some o := fun b o o' w e => (Below.heap_alloc _ _ _ (Array.getElem?_eq_some_iff.1 e).1).trans e
  have y4 : (((W.alloc (.cells #[.int .i64 r.vs.tasks, .int .i64 r.vs.most, .int .i64 r.vs.keep, .int .i64 ((r.vs.last : Int) + 1), .slice aa r.vs.all.length ca] 31)).alloc (.cells #[.int .u8 xk, .int .i64 xn, .int .i64 xt, .string nm, .string tx, .slice ae es.length ke] 36)).alloc (.cells #[.int .i64 0, .int .i64 0, .int .i64 0, .int .i64 0, .slice none 0 0] 31)).heap[W.heap.size]? = some (.cells #[.int .i64 r.vs.tasks, .int .i64 r.vs.most, .int .i64 r.vs.keep, .int .i64 ((r.vs.last : Int) + 1), .slice aa r.vs.all.length ca] 31 (0, 0)) := hY _ _ _ _ (hY _ _ _ _ (heap_alloc_new W _))
  have y5 : (((W.alloc (.cells #[.int .i64 r.vs.tasks, .int .i64 r.vs.most, .int .i64 r.vs.keep, .int .i64 ((r.vs.last : Int) + 1), .slice aa r.vs.all.length ca] 31)).alloc (.cells #[.int .u8 xk, .int .i64 xn, .int .i64 xt, .string nm, .string tx, .slice ae es.length ke] 36)).alloc (.cells #[.int .i64 0, .int .i64 0, .int .i64 0, .int .i64 0, .slice none 0 0] 31)).heap[W.heap.size + 1]? = some (.cells #[.int .u8 xk, .int .i64 xn, .int .i64 xt, .string nm, .string tx, .slice ae es.length ke] 36 (0, 0)) := hY _ _ _ _ (by have h := heap_alloc_new (W.alloc (.cells #[.int .i64 r.vs.tasks, .int .i64 r.vs.most, .int .i64 r.vs.keep, .int .i64 ((r.vs.last : Int) + 1), .slice aa r.vs.all.length ca] 31)) (.cells #[.int .u8 xk, .int .i64 xn, .int .i64 xt, .string nm, .string tx, .slice ae es.length ke] 36); rw [World.size_alloc] at h; exact h)
  have yR : (((W.alloc (.cells #[.int .i64 r.vs.tasks, .int .i64 r.vs.most, .int .i64 r.vs.keep, .int .i64 ((r.vs.last : Int) + 1), .slice aa r.vs.all.length ca] 31)).alloc (.cells #[.int .u8 xk, .int .i64 xn, .int .i64 xt, .string nm, .string tx, .slice ae es.length ke] 36)).alloc (.cells #[.int .i64 0, .int .i64 0, .int .i64 0, .int .i64 0, .slice none 0 0] 31)).heap[W.heap.size + 1 + 1]? = some (.cells #[.int .i64 0, .int .i64 0, .int .i64 0, .int .i64 0, .slice none 0 0] 31 (0, 0)) := by have h := heap_alloc_new ((W.alloc (.cells #[.int .i64 r.vs.tasks, .int .i64 r.vs.most, .int .i64 r.vs.keep, .int .i64 ((r.vs.last : Int) + 1), .slice aa r.vs.all.length ca] 31)).alloc (.cells #[.int .u8 xk, .int .i64 xn, .int .i64 xt, .string nm, .string tx, .slice ae es.length ke] 36)) (.cells #[.int .i64 0, .int .i64 0, .int .i64 0, .int .i64 0, .slice none 0 0] 31); rw [World.size_alloc, World.size_alloc] at h; exact h
  obtain ⟨M1, hMid, hM1, hnew1, hrat⟩ := c.start HB.out (R := W.heap.size + 1 + 1) yR (by omega)
  have HRAT := Lib.hid hrat
  have HM1 := Lib.hid hM1
  have hbR : W.heap.size ≤ W.heap.size + 1 + 1 := by omega
  have hlast := c.last
  have HLN := Lib.hid c.len
  have HOK := Lib.hid c.inv.ok
  have HC4 := Lib.hid (fun (wq : World) (hq : M1.le (mem wq)) => (show wq.cell? ⟨W.heap.size, 0, none⟩ = some (.int .i64 r.vs.tasks) ∧ wq.cell? ⟨W.heap.size, 1, none⟩ = some (.int .i64 r.vs.most) ∧ wq.cell? ⟨W.heap.size, 2, none⟩ = some (.int .i64 r.vs.keep) ∧ wq.cell? ⟨W.heap.size, 3, none⟩ = some (.int .i64 ((r.vs.last : Int) + 1)) ∧ wq.cell? ⟨W.heap.size, 4, none⟩ = some (.slice aa r.vs.all.length ca) from ⟨hq _ _ _ (hnew1 _ _ _ (Mem.on_some (mem_cells y4 0) ⟨by omega, by omega⟩)), hq _ _ _ (hnew1 _ _ _ (Mem.on_some (mem_cells y4 1) ⟨by omega, by omega⟩)), hq _ _ _ (hnew1 _ _ _ (Mem.on_some (mem_cells y4 2) ⟨by omega, by omega⟩)), hq _ _ _ (hnew1 _ _ _ (Mem.on_some (mem_cells y4 3) ⟨by omega, by omega⟩)), hq _ _ _ (hnew1 _ _ _ (Mem.on_some (mem_cells y4 4) ⟨by omega, by omega⟩))⟩))
  have HC5 := Lib.hid (fun (wq : World) (hq : M1.le (mem wq)) => (show wq.cell? ⟨W.heap.size + 1, 0, none⟩ = some (.int .u8 xk) ∧ wq.cell? ⟨W.heap.size + 1, 1, none⟩ = some (.int .i64 xn) ∧ wq.cell? ⟨W.heap.size + 1, 2, none⟩ = some (.int .i64 xt) ∧ wq.cell? ⟨W.heap.size + 1, 3, none⟩ = some (.string nm) ∧ wq.cell? ⟨W.heap.size + 1, 4, none⟩ = some (.string tx) ∧ wq.cell? ⟨W.heap.size + 1, 5, none⟩ = some (.slice ae es.length ke) from ⟨hq _ _ _ (hnew1 _ _ _ (Mem.on_some (mem_cells y5 0) ⟨by omega, by omega⟩)), hq _ _ _ (hnew1 _ _ _ (Mem.on_some (mem_cells y5 1) ⟨by omega, by omega⟩)), hq _ _ _ (hnew1 _ _ _ (Mem.on_some (mem_cells y5 2) ⟨by omega, by omega⟩)), hq _ _ _ (hnew1 _ _ _ (Mem.on_some (mem_cells y5 3) ⟨by omega, by omega⟩)), hq _ _ _ (hnew1 _ _ _ (Mem.on_some (mem_cells y5 4) ⟨by omega, by omega⟩)), hq _ _ _ (hnew1 _ _ _ (Mem.on_some (mem_cells y5 5) ⟨by omega, by omega⟩))⟩))
  clear hY y4 y5 yR hnew1 hra hma hme hM1 hrat c hve
  go_enter Tryz.func8, Tryz.ntmps8
  go_upto_region 1 with fail
  generalize ((W.alloc (.cells #[.int .i64 r.vs.tasks, .int .i64 r.vs.most, .int .i64 r.vs.keep, .int .i64 ((r.vs.last : Int) + 1), .slice aa r.vs.all.length ca] 31)).alloc (.cells #[.int .u8 xk, .int .i64 xn, .int .i64 xt, .string nm, .string tx, .slice ae es.length ke] 36)).alloc (.cells #[.int .i64 0, .int .i64 0, .int .i64 0, .int .i64 0, .slice none 0 0] 31) = Y at HB hMid ⊢
  have HMI := Lib.hid hMid
  obtain ⟨c0, c1, c2, c3, c4⟩ := HC4.out Y hMid.le
  obtain ⟨d0, d1, d2, d3, d4, d5⟩ := HC5.out Y hMid.le
  clear hMid
  go_upto_region 2 with fail
  try rw [hkt]
  go_wp2_with fail
  refine (refRetask_any r.vs _ M1 Y HMI.out.le HRAT.out xt (h40 hkd)).mono ?_
  rintro e w1 ⟨a', hb1, rfl, hr1⟩
  have HSL := Lib.hid (show (r.vs.retasked xt).last = r.vs.last from last_retasked _ _)
  have HPX := Lib.hid (fun (wq : World) (rq : HV) (M' : Mem) (hq : VMid base p N M' (W.heap.size + 1 + 1) (W, r, M) wq r) => (show Calls Tryz.prog 24 #[ptrTo p, .int .i64 xt] wq (fun e W' => e = .returned (.int .i64 (retAns r.vs xt)) ∧ ∃ r', VMid base p (N + 1) M' (W.heap.size + 1 + 1) (W, r, M) W' r' ∧ r'.vs = r.vs.retasked xt) from
    (vRetask_any xt wq hq.inv (h40 hkd)).mono fun e W' ⟨he, r', st, hv⟩ => ⟨he, r', hq.step st (by have hv2 : r'.vs = r.vs.retasked xt := (by rw [hv]; rfl); rw [hv2, HSL.out]; omega), (by rw [hv]; rfl)⟩))
  generalize r.vs.retasked xt = s2 at *
  generalize retAns r.vs xt = cc at *
  obtain ⟨a2, k2, rfl, hl2, hm2, -⟩ := slice_form hr1.ha
  have hk2 : k2 ≤ 9223372036854775807 := by unfold maxLen at hm2; exact hm2
  clear hm2
  have hcc : (cc == cc) = true := by simp
  have hbA := hb1.alloc hb1.size (.cells #[.int .i64 s2.tasks, .int .i64 s2.most, .int .i64 s2.keep, .int .i64 ((s2.last : Int) + 1), .slice a2 s2.all.length k2] 31)
  have HMid2 := Lib.hid (HMI.out.grow hbA)
  have HMM := Lib.hid (joinM_le (W' := w1.alloc (.cells #[.int .i64 s2.tasks, .int .i64 s2.most, .int .i64 s2.keep, .int .i64 ((s2.last : Int) + 1), .slice a2 s2.all.length k2] 31)) HMI.out.le)
  have HC8 := Lib.hid (fun (wq : World) (hq : (joinM M1 Y (w1.alloc (.cells #[.int .i64 s2.tasks, .int .i64 s2.most, .int .i64 s2.keep, .int .i64 ((s2.last : Int) + 1), .slice a2 s2.all.length k2] 31))).le (mem wq)) => (show wq.cell? ⟨w1.heap.size, 0, none⟩ = some (.int .i64 s2.tasks) ∧ wq.cell? ⟨w1.heap.size, 1, none⟩ = some (.int .i64 s2.most) ∧ wq.cell? ⟨w1.heap.size, 2, none⟩ = some (.int .i64 s2.keep) ∧ wq.cell? ⟨w1.heap.size, 3, none⟩ = some (.int .i64 ((s2.last : Int) + 1)) ∧ wq.cell? ⟨w1.heap.size, 4, none⟩ = some (.slice a2 s2.all.length k2) from ⟨hq _ _ _ (joinM_new _ _ _ (Mem.on_some (cell_new 0 rfl) hb1.size)), hq _ _ _ (joinM_new _ _ _ (Mem.on_some (cell_new 1 rfl) hb1.size)), hq _ _ _ (joinM_new _ _ _ (Mem.on_some (cell_new 2 rfl) hb1.size)), hq _ _ _ (joinM_new _ _ _ (Mem.on_some (cell_new 3 rfl) hb1.size)), hq _ _ _ (joinM_new _ _ _ (Mem.on_some (cell_new 4 rfl) hb1.size))⟩))
  have HRF2 := Lib.hid (hr1.mono (show (joinM M1 Y w1).le (joinM M1 Y (w1.alloc (.cells #[.int .i64 s2.tasks, .int .i64 s2.most, .int .i64 s2.keep, .int .i64 ((s2.last : Int) + 1), .slice a2 s2.all.length k2] 31))) from joinM_mono ((Below.refl _ _).alloc (Nat.le_refl _) _)))
  clear hbA hb1 hr1 c0 c1 c2 c3 c4 d0 d1 d2 d3 d4 d5
  go_upto_region 18 with fail
  generalize w1.alloc (.cells #[.int .i64 s2.tasks, .int .i64 s2.most, .int .i64 s2.keep, .int .i64 ((s2.last : Int) + 1), .slice a2 s2.all.length k2] 31) = X at *
  generalize w1.heap.size = nb at *
  generalize joinM M1 Y X = M2 at *
  have HMD := Lib.hid (HMid2.out.pure0 (Below.refl _ _).drew)
  have HSS := Lib.hid (fun (w' : World) (hq : M2.le (mem w')) => (show w'.cell? ⟨nb, 0, none⟩ = some (.int .i64 s2.tasks) ∧ w'.cell? ⟨nb, 1, none⟩ = some (.int .i64 s2.most) ∧ w'.cell? ⟨nb, 2, none⟩ = some (.int .i64 s2.keep) ∧ w'.cell? ⟨nb, 3, none⟩ = some (.int .i64 ((s2.last : Int) + 1)) ∧ w'.cell? ⟨nb, 4, none⟩ = some (.slice a2 s2.all.length k2) ∧ w'.cell? ⟨W.heap.size + 1, 2, none⟩ = some (.int .i64 xt) from ⟨(HC8.out w' hq).1, (HC8.out w' hq).2.1, (HC8.out w' hq).2.2.1, (HC8.out w' hq).2.2.2.1, (HC8.out w' hq).2.2.2.2, (HC5.out w' (Mem.le_trans HMM.out hq)).2.2.1⟩))
  have HSR := Lib.hid (fun (N' : Nat) (r' : HV) (wq : World) (hq : VMid base p N' M2 (W.heap.size + 1 + 1) (W, r, M) wq r') => (show (((((wq.setCell ⟨W.heap.size + 1 + 1, 0, none⟩ (.int .i64 s2.tasks)).setCell ⟨W.heap.size + 1 + 1, 1, none⟩ (.int .i64 s2.most)).setCell ⟨W.heap.size + 1 + 1, 2, none⟩ (.int .i64 s2.keep)).setCell ⟨W.heap.size + 1 + 1, 3, none⟩ (.int .i64 ((s2.last : Int) + 1))).setCell ⟨W.heap.size + 1 + 1, 4, none⟩ (.slice a2 s2.all.length k2)).cell? ⟨nb, 0, none⟩ = some (.int .i64 s2.tasks) ∧ (((((wq.setCell ⟨W.heap.size + 1 + 1, 0, none⟩ (.int .i64 s2.tasks)).setCell ⟨W.heap.size + 1 + 1, 1, none⟩ (.int .i64 s2.most)).setCell ⟨W.heap.size + 1 + 1, 2, none⟩ (.int .i64 s2.keep)).setCell ⟨W.heap.size + 1 + 1, 3, none⟩ (.int .i64 ((s2.last : Int) + 1))).setCell ⟨W.heap.size + 1 + 1, 4, none⟩ (.slice a2 s2.all.length k2)).cell? ⟨nb, 1, none⟩ = some (.int .i64 s2.most) ∧ (((((wq.setCell ⟨W.heap.size + 1 + 1, 0, none⟩ (.int .i64 s2.tasks)).setCell ⟨W.heap.size + 1 + 1, 1, none⟩ (.int .i64 s2.most)).setCell ⟨W.heap.size + 1 + 1, 2, none⟩ (.int .i64 s2.keep)).setCell ⟨W.heap.size + 1 + 1, 3, none⟩ (.int .i64 ((s2.last : Int) + 1))).setCell ⟨W.heap.size + 1 + 1, 4, none⟩ (.slice a2 s2.all.length k2)).cell? ⟨nb, 2, none⟩ = some (.int .i64 s2.keep) ∧ (((((wq.setCell ⟨W.heap.size + 1 + 1, 0, none⟩ (.int .i64 s2.tasks)).setCell ⟨W.heap.size + 1 + 1, 1, none⟩ (.int .i64 s2.most)).setCell ⟨W.heap.size + 1 + 1, 2, none⟩ (.int .i64 s2.keep)).setCell ⟨W.heap.size + 1 + 1, 3, none⟩ (.int .i64 ((s2.last : Int) + 1))).setCell ⟨W.heap.size + 1 + 1, 4, none⟩ (.slice a2 s2.all.length k2)).cell? ⟨nb, 3, none⟩ = some (.int .i64 ((s2.last : Int) + 1)) ∧ (((((wq.setCell ⟨W.heap.size + 1 + 1, 0, none⟩ (.int .i64 s2.tasks)).setCell ⟨W.heap.size + 1 + 1, 1, none⟩ (.int .i64 s2.most)).setCell ⟨W.heap.size + 1 + 1, 2, none⟩ (.int .i64 s2.keep)).setCell ⟨W.heap.size + 1 + 1, 3, none⟩ (.int .i64 ((s2.last : Int) + 1))).setCell ⟨W.heap.size + 1 + 1, 4, none⟩ (.slice a2 s2.all.length k2)).cell? ⟨nb, 4, none⟩ = some (.slice a2 s2.all.length k2) ∧ (((((wq.setCell ⟨W.heap.size + 1 + 1, 0, none⟩ (.int .i64 s2.tasks)).setCell ⟨W.heap.size + 1 + 1, 1, none⟩ (.int .i64 s2.most)).setCell ⟨W.heap.size + 1 + 1, 2, none⟩ (.int .i64 s2.keep)).setCell ⟨W.heap.size + 1 + 1, 3, none⟩ (.int .i64 ((s2.last : Int) + 1))).setCell ⟨W.heap.size + 1 + 1, 4, none⟩ (.slice a2 s2.all.length k2)).cell? ⟨W.heap.size + 1, 2, none⟩ = some (.int .i64 xt) from HSS.out _ (hq.stored (store5_keeps wq (W.heap.size + 1 + 1) (.int .i64 s2.tasks) (.int .i64 s2.most) (.int .i64 s2.keep) (.int .i64 ((s2.last : Int) + 1)) (.slice a2 s2.all.length k2)))))
  have s0 := HSS.out X.drew HMD.out.le
  have HP1 := Lib.hid (HPX.out _ r _ HMD.out)
  go_region_held3 (fun w' => w'.cell? ⟨nb, 0, none⟩ = some (.int .i64 s2.tasks) ∧ w'.cell? ⟨nb, 1, none⟩ = some (.int .i64 s2.most) ∧ w'.cell? ⟨nb, 2, none⟩ = some (.int .i64 s2.keep) ∧ w'.cell? ⟨nb, 3, none⟩ = some (.int .i64 ((s2.last : Int) + 1)) ∧ w'.cell? ⟨nb, 4, none⟩ = some (.slice a2 s2.all.length k2) ∧ w'.cell? ⟨W.heap.size + 1, 2, none⟩ = some (.int .i64 xt)) (first | with_reducible exact s0 | with_reducible exact HSS.out w5 hm5 | with_reducible exact HSR.out _ _ w5 HMid5.out | go_keep)
    ((first
      | (go_at_call 24; refine HP1.out.mono ?_; rintro e w5 ⟨rfl, r5, hMid5, hv5⟩; have hm5 := hMid5.le; have HMid5 := Lib.hid hMid5; have HV5 := Lib.hid hv5; obtain ⟨z0, z1, z2, z3, z4, zz⟩ := HMid5.out.res; have zz0 := zz 0; have zz1 := zz 1; have zz2 := zz 2; have zz3 := zz 3; have zz4 := zz 4; clear zz; clear hMid5 hv5)))
  all_goals
    go_wp2
    have r1 := store5_block (HMid5.out.hR) (.int .i64 s2.tasks) (.int .i64 s2.most) (.int .i64 s2.keep) (.int .i64 ((s2.last : Int) + 1)) (.slice a2 s2.all.length k2)
    have hk := store5_keeps (w5) (W.heap.size + 1 + 1) (.int .i64 s2.tasks) (.int .i64 s2.most) (.int .i64 s2.keep) (.int .i64 ((s2.last : Int) + 1)) (.slice a2 s2.all.length k2)
    show bodyPost _ _ _ _ _ (store5 (w5) (W.heap.size + 1 + 1) (.int .i64 s2.tasks) (.int .i64 s2.most) (.int .i64 s2.keep) (.int .i64 ((s2.last : Int) + 1)) (.slice a2 s2.all.length k2))
    generalize store5 (w5) (W.heap.size + 1 + 1) (.int .i64 s2.tasks) (.int .i64 s2.most) (.int .i64 s2.keep) (.int .i64 ((s2.last : Int) + 1)) (.slice a2 s2.all.length k2) = wz at r1 hk ⊢
    have g0 : wz.cell? ⟨W.heap.size + 1 + 1, 0, none⟩ = some (.int .i64 s2.tasks) := mem_cells r1 0
    have g1 : wz.cell? ⟨W.heap.size + 1 + 1, 1, none⟩ = some (.int .i64 s2.most) := mem_cells r1 1
    have g2 : wz.cell? ⟨W.heap.size + 1 + 1, 2, none⟩ = some (.int .i64 s2.keep) := mem_cells r1 2
    have g3 : wz.cell? ⟨W.heap.size + 1 + 1, 3, none⟩ = some (.int .i64 ((s2.last : Int) + 1)) := mem_cells r1 3
    have g4 : wz.cell? ⟨W.heap.size + 1 + 1, 4, none⟩ = some (.slice a2 s2.all.length k2) := mem_cells r1 4
    refine bodyPost_ret (v := .tuple #[.agg #[.int .i64 s2.tasks, .int .i64 s2.most, .int .i64 s2.keep, .int .i64 ((s2.last : Int) + 1), .slice a2 s2.all.length k2], .bool true]) (by simp [results, Tryz.results8, go_sem, g0, g1, g2, g3, g4]) rfl ?_
    have hf := HMid5.out.finish hk hbR (by rw [HV5.out]; exact HRF2.out)
    exact ⟨_, _, M2, by rw [HV5.out] <;> rfl, hf.1, Mem.le_trans HM1.out HMM.out, hf.2, by rw [HV5.out, HAV.out]⟩
end Go.Proofs.YtnfolemblnnejaaGreat
/- The reference of a vault: rows written by single stores (for Tell). -/
namespace Go.Proofs.YtnfolemblnnejaaGreat
open Go.RowKit Go.Maps

theorem place_find {s : VS} (h : VOk s) {k i : Int} (hp : PlaceSays s k i) : (s.find k = none ∧ i = -1) ∨ ∃ (j : Nat) (t : Sn), s.all[j]? = some (k, t) ∧ i = j ∧ s.find k = some t := by
  rcases hp with ⟨j, t, h1, rfl⟩ | ⟨h1, rfl⟩
  · exact .inr ⟨j, t, h1, rfl, h.find (List.mem_of_getElem? h1)⟩
  · exact .inl ⟨find_none.2 h1, rfl⟩
theorem ent_cells {m : Mem} {xs : List Ent} {a : Option Addr} {n cap : Nat} (h : tEnts.rv m [.slice a n cap] xs) {k : Nat} (hk : k < xs.length) :
    ∃ b o, a = some ⟨b, o, none⟩ ∧ m b (o + k * 4) = some (.int .i64 xs[k].g) ∧ m b (o + k * 4 + 1) = some (.string xs[k].nm) ∧ m b (o + k * 4 + 2) = some (.string xs[k].key) ∧ m b (o + k * 4 + 3) = some (.string xs[k].val) ∧ xs[k].okE := by
  obtain ⟨b, o, rfl, cs, hat, rfl, hok⟩ := slice_at h hk
  exact ⟨b, o, rfl, hat 0 _ rfl, hat 1 _ rfl, hat 2 _ rfl, hat 3 _ rfl, hok⟩
theorem tStr_one : ∀ m cs x, tStr.rv m cs x → ∀ u ∈ cs, u.oneCell' = true := fun m cs x h u hu => by
  have h : cs = [.string x] := h.1
  subst h
  simp at hu; subst hu; rfl
theorem tEnts_one (M : Mem) : ∀ m cs x, (tIn M tEnts).rv m cs x → ∀ u ∈ cs, u.oneCell' = true := fun m cs x h u hu => by
  obtain ⟨a, c, rfl, -⟩ := h
  simp at hu; subst hu; rfl
theorem tBool_one : ∀ m cs x, tBool.rv m cs x → ∀ u ∈ cs, u.oneCell' = true := fun m cs x h u hu => by
  have h : cs = [.bool x] := h
  subst h
  simp at hu; subst hu; rfl
/-- A row of plain cells: only its block matters. -/
theorem row_block {α : Type} {t : Ty α} (hf : t.flat) {w w' : World} {g o n c : Nat} {xs : List α} (h : (tSlice t).rv (mem w) [.slice (some ⟨g, o, none⟩) n c] xs) (hb : w'.heap[g]? = w.heap[g]?) : (tSlice t).rv (mem w') [.slice (some ⟨g, o, none⟩) n c] xs := by
  obtain ⟨a, cap, e, h1, h2, h3⟩ := h
  refine ⟨a, cap, e, h1, h2, fun hp => ?_⟩
  obtain ⟨b', o', ha, hk⟩ := h3 hp
  simp only [List.cons.injEq, Value.slice.injEq, and_true] at e
  obtain ⟨rfl, -, -⟩ := e
  simp only [Option.some.injEq, Addr.mk.injEq, and_true] at ha
  obtain ⟨rfl, rfl⟩ := ha
  refine ⟨_, _, rfl, fun k hk' => ?_⟩
  obtain ⟨cs, hc, hr⟩ := hk k hk'
  exact ⟨cs, fun j v hj => (mem_of_block hb _).trans (hc j v hj), hf _ _ _ _ hr⟩
/-- An element of such a row is written. -/
theorem row_put {α : Type} {t : Ty α} (hf : t.flat) {m m' : Mem} {g o n c i : Nat} {xs : List α} {x : α} (h : (tSlice t).rv m [.slice (some ⟨g, o, none⟩) n c] xs) (hi : i < xs.length)
    (hoth : ∀ j v, (j < o + i * t.sz ∨ o + i * t.sz + t.sz ≤ j) → m g j = some v → m' g j = some v) {cs : List Value} (hat : ∀ j v, cs[j]? = some v → m' g (o + i * t.sz + j) = some v) (hrv : t.rv m' cs x) :
    (tSlice t).rv m' [.slice (some ⟨g, o, none⟩) n c] (xs.set i x) := by
  obtain ⟨a, cap, e, h1, h2, h3⟩ := h
  simp only [List.cons.injEq, Value.slice.injEq, and_true] at e
  obtain ⟨rfl, rfl, rfl⟩ := e
  refine ⟨_, c, by rw [List.length_set], by rw [List.length_set]; exact h1, h2, fun _ => ?_⟩
  obtain ⟨b', o', e, hk⟩ := h3 (by omega)
  simp only [Option.some.injEq, Addr.mk.injEq, and_true] at e
  obtain ⟨rfl, rfl⟩ := e
  refine ⟨g, o, rfl, fun k hk' => ?_⟩
  have hkx : k < xs.length := by simpa using hk'
  by_cases e : i = k
  · subst e
    rw [List.getElem_set_self]
    exact ⟨cs, hat, hrv⟩
  · rw [List.getElem_set_ne e]
    obtain ⟨cs', hc, hr⟩ := hk k hkx
    refine ⟨cs', fun j v hj => hoth _ _ ?_ (hc j v hj), hf _ _ _ _ hr⟩
    have hl : j < t.sz := by
      have hl := t.len _ _ _ hr
      rw [← hl]
      exact (List.getElem?_eq_some_iff.1 hj).1
    rcases Nat.lt_or_gt_of_ne e with h | h
    · right
      have := Nat.mul_le_mul_right t.sz (show i + 1 ≤ k from h)
      rw [Nat.add_mul, Nat.one_mul] at this
      omega
    · left
      have := Nat.mul_le_mul_right t.sz (show k + 1 ≤ i from h)
      rw [Nat.add_mul, Nat.one_mul] at this
      omega
/-- One cell of a row of cells is written. -/
theorem row_put1 {α : Type} {t : Ty α} (hf : t.flat) (hsz : t.sz = 1) {w : World} {g n c i : Nat} {xs : List α} {x : α} {v : Value} {cur : Array Value} {T : TypeId} (h : (tSlice t).rv (mem w) [.slice (some ⟨g, 0, none⟩) n c] xs) (hi : i < xs.length)
    (hg : w.heap[g]? = some (.cells cur T (0, 0))) (hrv : ∀ m, t.rv m [v] x) : (tSlice t).rv (mem (w.setCell ⟨g, i, none⟩ v)) [.slice (some ⟨g, 0, none⟩) n c] (xs.set i x) := by
  have hb := set_block (o := i) (v := v) hg
  obtain ⟨b', o', e, cs, hc, hr⟩ := slice_at h hi
  simp only [Option.some.injEq, Addr.mk.injEq, and_true] at e
  obtain ⟨rfl, rfl⟩ := e
  have hlen := t.len _ _ _ hr
  rw [hsz] at hlen
  have hlt : i < cur.size := by
    have h0 := hc 0 (cs[0]'(by omega)) (by simp)
    rw [hsz, Nat.mul_one, Nat.zero_add, Nat.add_zero, mem_cells hg] at h0
    exact (Array.getElem?_eq_some_iff.1 h0).1
  refine row_put hf h hi (fun j u hj e => ?_) (cs := [v]) (fun j u hj => ?_) (hrv _)
  · rw [hsz] at hj
    rw [mem_cells hg] at e
    rw [mem_cells hb, Array.getElem?_setIfInBounds_ne (by omega)]
    exact e
  · cases j with
    | zero =>
      simp at hj; subst hj
      rw [hsz, Nat.mul_one, Nat.zero_add, Nat.add_zero, mem_cells hb, Array.getElem?_setIfInBounds_self_of_lt hlt]
    | succ j => simp at hj
/-- Such a row, read in another memory. -/
theorem row_mem {α : Type} {t : Ty α} (hf : t.flat) {m m' : Mem} {g o n c : Nat} {xs : List α} (h : (tSlice t).rv m [.slice (some ⟨g, o, none⟩) n c] xs) (hb : ∀ j v, m g j = some v → m' g j = some v) : (tSlice t).rv m' [.slice (some ⟨g, o, none⟩) n c] xs := by
  obtain ⟨a, cap, e, h1, h2, h3⟩ := h
  refine ⟨a, cap, e, h1, h2, fun hp => ?_⟩
  obtain ⟨b', o', ha, hk⟩ := h3 hp
  simp only [List.cons.injEq, Value.slice.injEq, and_true] at e
  obtain ⟨rfl, -, -⟩ := e
  simp only [Option.some.injEq, Addr.mk.injEq, and_true] at ha
  obtain ⟨rfl, rfl⟩ := ha
  refine ⟨_, _, rfl, fun k hk' => ?_⟩
  obtain ⟨cs, hc, hr⟩ := hk k hk'
  exact ⟨cs, fun j v hj => hb _ _ (hc j v hj), hf _ _ _ _ hr⟩
def store6 (w : World) (b o : Nat) (v0 v1 v2 v3 v4 v5 : Value) : World := (((((w.setCell ⟨b, o, none⟩ v0).setCell ⟨b, o + 1, none⟩ v1).setCell ⟨b, o + 2, none⟩ v2).setCell ⟨b, o + 3, none⟩ v3).setCell ⟨b, o + 4, none⟩ v4).setCell ⟨b, o + 5, none⟩ v5
theorem set_other (cur : Array Value) {o j : Nat} (v : Value) (h : j ≠ o) : (cur.setIfInBounds o v)[j]? = cur[j]? := Array.getElem?_setIfInBounds_ne (Ne.symm h)
theorem set_self (cur : Array Value) {o : Nat} (v : Value) (h : o < cur.size) : (cur.setIfInBounds o v)[o]? = some v := Array.getElem?_setIfInBounds_self_of_lt h
theorem store6_at {w : World} {b o : Nat} {cur : Array Value} {T : TypeId} (h : w.heap[b]? = some (.cells cur T (0, 0))) (ho : o + 6 ≤ cur.size) (v0 v1 v2 v3 v4 v5 : Value) :
    ∃ cur', (store6 w b o v0 v1 v2 v3 v4 v5).heap[b]? = some (.cells cur' T (0, 0)) ∧ (∀ j v, [v0, v1, v2, v3, v4, v5][j]? = some v → cur'[o + j]? = some v) ∧ ∀ j, (j < o ∨ o + 6 ≤ j) → cur'[j]? = cur[j]? := by
  have h0 := set_block (o := o) (v := v0) h
  have h1 := set_block (o := o + 1) (v := v1) h0
  have h2 := set_block (o := o + 2) (v := v2) h1
  have h3 := set_block (o := o + 3) (v := v3) h2
  have h4 := set_block (o := o + 4) (v := v4) h3
  have h5 := set_block (o := o + 5) (v := v5) h4
  refine ⟨_, h5, fun j v hj => ?_, fun j hj => ?_⟩
  · rcases j with _ | _ | _ | _ | _ | _ | j
    · cases hj
      show _[o]? = _
      rw [set_other _ _ (by omega), set_other _ _ (by omega), set_other _ _ (by omega), set_other _ _ (by omega), set_other _ _ (by omega), set_self _ _ (by omega)]
    · cases hj
      rw [set_other _ _ (by omega), set_other _ _ (by omega), set_other _ _ (by omega), set_other _ _ (by omega), set_self _ _ (by simp; omega)]
    · cases hj
      rw [set_other _ _ (by omega), set_other _ _ (by omega), set_other _ _ (by omega), set_self _ _ (by simp; omega)]
    · cases hj
      rw [set_other _ _ (by omega), set_other _ _ (by omega), set_self _ _ (by simp; omega)]
    · cases hj
      rw [set_other _ _ (by omega), set_self _ _ (by simp; omega)]
    · cases hj
      rw [set_self _ _ (by simp; omega)]
    · cases hj
  · rw [set_other _ _ (by omega), set_other _ _ (by omega), set_other _ _ (by omega), set_other _ _ (by omega), set_other _ _ (by omega), set_other _ _ (by omega)]
theorem store6_other {w : World} {b o k : Nat} (hk : k ≠ b) (v0 v1 v2 v3 v4 v5 : Value) : (store6 w b o v0 v1 v2 v3 v4 v5).heap[k]? = w.heap[k]? := by
  unfold store6
  rw [set_block_other hk, set_block_other hk, set_block_other hk, set_block_other hk, set_block_other hk, set_block_other hk]
theorem store6_size {w : World} {b o : Nat} (v0 v1 v2 v3 v4 v5 : Value) : (store6 w b o v0 v1 v2 v3 v4 v5).heap.size = w.heap.size := by
  unfold store6
  simp [World.setCell]
theorem Fr.st6 {W w : World} {v0 v1 v2 v3 v4 : Value} (h : Fr W w v0 v1 v2 v3 v4) {g o : Nat} (hg : W.heap.size + 2 ≤ g) (u0 u1 u2 u3 u4 u5 : Value) : Fr W (store6 w g o u0 u1 u2 u3 u4 u5) v0 v1 v2 v3 v4 := by
  unfold store6
  exact (((((h.other hg u0).other hg u1).other hg u2).other hg u3).other hg u4).other hg u5
theorem tell_bits' (t : Sn) (i : Nat) (x : Part) : (t.tell i x).bits = t.bits.set i true := by
  unfold Sn.tell Sn.bits
  simp only
  rw [List.map_set]; rfl
theorem tell_texts (t : Sn) (i : Nat) (x : Part) : (t.tell i x).texts = t.texts.set i x.1 := by
  unfold Sn.tell Sn.texts
  simp only
  rw [List.map_set]; rfl
theorem tell_rents (t : Sn) (i : Nat) (x : Part) : (t.tell i x).rents = t.rents.set i x.2 := by
  unfold Sn.tell Sn.rents
  simp only
  rw [List.map_set]; rfl
theorem miss_done (t : Sn) (u : Nat) (x : Part) : (((missOf (t.bits.set u true)).length : Int) == 0) = (t.tell u x).done := by
  have hn := miss_nil (t.bits.set u true)
  rw [← tell_bits' t u x] at hn ⊢
  rw [Sn.done_bits]
  cases h : (t.tell u x).bits.all id with
  | true => rw [hn.2 h]; rfl
  | false =>
    have h0 : missOf (t.tell u x).bits ≠ [] := fun e => by rw [hn.1 e] at h; cases h
    have := List.length_pos_iff.2 h0
    rw [beq_eq_false_iff_ne]; omega
/-- Behind Tell: the snapshot's row is written anew. -/
theorem rows_tell {M : Mem} {W w w' : World} {g n c i u : Nat} {s : VS} {k : Int} {t : Sn} {x : Part} {s1 s2 s3 : Value} (hok : VOk s) (hj : s.all[i]? = some (k, t)) (hM : M.le (mem W)) (h : (tSlice (tIn M tRSn)).rv (mem w) [.slice (some ⟨g, 0, none⟩) n c] s.all)
    (hg : W.heap.size + 2 ≤ g) (hoth : ∀ j v, (j < i * 6 ∨ i * 6 + 6 ≤ j) → mem w g j = some v → mem w' g j = some v)
    (hat : ∀ j v, [(.int .i64 k : Value), .string t.name, .bool (t.tell u x).done, s1, s2, s3][j]? = some v → mem w' g (i * 6 + j) = some v)
    (r1 : tBools.rv (jn M W w') [s1] (t.bits.set u true)) (r2 : tStrs.rv (jn M W w') [s2] (t.texts.set u x.1)) (r3 : tEntss.rv (jn M W w') [s3] (t.rents.set u x.2)) :
    RV (jn M W w') (s.upd k (fun t => t.tell u x)) (.slice (some ⟨g, 0, none⟩) n c) := by
  obtain ⟨hil, hie⟩ := List.getElem?_eq_some_iff.1 hj
  have hmem : (k, t) ∈ s.all := hie ▸ List.getElem_mem hil
  have hk : VOk (s.upd k (fun t => t.tell u x)) := hok.upd hmem (by simp [Sn.tell]) (hok.tk _ hmem).2.2
  have hjn : ∀ j, jn M W w' g j = mem w' g j := fun j => by unfold jn; rw [if_pos hg]
  have hMJ : M.le (jn M W w') := jn_of hM
  have hi := hok.i64 (mem_nums hmem)
  have hr := rows_put (M' := jn M W w') (m' := jn M W w') (x := (k, t.tell u x)) (cs := [.int .i64 k, .string t.name, .bool (t.tell u x).done, s1, s2, s3]) h hil hMJ
    (fun j v hj e => by rw [hjn]; rw [Nat.zero_add] at hj; exact hoth j v hj e) (fun j v e => by rw [hjn, Nat.zero_add]; exact hat j v e)
    ⟨s1, s2, s3, rfl, ⟨hi, (hok.tk _ hmem).2.2⟩, by rw [tell_bits']; exact r1, by rw [tell_texts]; exact r2, by rw [tell_rents]; exact r3⟩
  refine ⟨?_, hk⟩
  rw [upd_set hok hj]
  exact slice_in hr (fun b o v e => e)
theorem run_index1 {P : Program} {T e : TypeId} (hT : P.underlying T = some (.slice e)) (hs : (P.info? e).map (·.size) = some 1) (g n c u : Nat) (hu : u < n) (w : World) :
    (Instr.indexAt T (.slice (some ⟨g, 0, none⟩) n c) (.int .i64 u)).run P w = .ok (.pointer (some ⟨g, u, none⟩)) w := by
  have he : P.elem T = e := by simp [Program.elem, hT]
  have h := run_indexAt_slice (P := P) (w := w) T ⟨g, 0, none⟩ n c .i64 (u : Int) (by rw [he]; exact hT)
  rw [if_pos (by omega), he, size_run hs] at h
  rw [h]
  simp [Addr.add]
  intro h
  exact h.symm
/-- The region that stores what a task told, in whatever order: what its operations yield. -/
def V23 (q g3 n3 c3 g4 n4 c4 g5 n5 c5 u : Nat) (text : ByteArray) (ve : Value) : Nat → Value
  | 0 => .pointer (some ⟨q, 3, none⟩)
  | 1 => .slice (some ⟨g3, 0, none⟩) n3 c3
  | 2 => .int .i64 u
  | 3 => .pointer (some ⟨q, 4, none⟩)
  | 4 => .slice (some ⟨g4, 0, none⟩) n4 c4
  | 5 => .int .i64 u
  | 6 => .pointer (some ⟨q, 5, none⟩)
  | 7 => .slice (some ⟨g5, 0, none⟩) n5 c5
  | 8 => .int .i64 u
  | 9 => .string text
  | 10 => ve
  | 11 => .pointer (some ⟨g3, u, none⟩)
  | 13 => .pointer (some ⟨g4, u, none⟩)
  | 15 => .pointer (some ⟨g5, u, none⟩)
  | _ => undef
structure J23 (M : Mem) (q g3 n3 c3 g4 n4 c4 g5 n5 c5 u : Nat) (text : ByteArray) (ve : Value) (w0 : World) (bs : List Bool) (ts : List ByteArray) (xs : List (List Ent)) (es : List Ent) (L : Nat → Bool) (f : Nat → Value) (w : World) : Prop where
  kp : Keeps (fun b => b = g3 ∨ b = g4 ∨ b = g5) w0 w
  r3 : (tSlice tBool).rv (mem w) [.slice (some ⟨g3, 0, none⟩) n3 c3] (if L 12 = true then bs.set u true else bs)
  r4 : (tSlice tStr).rv (mem w) [.slice (some ⟨g4, 0, none⟩) n4 c4] (if L 14 = true then ts.set u text else ts)
  r5 : (tSlice (tIn M tEnts)).rv (mem w) [.slice (some ⟨g5, 0, none⟩) n5 c5] (if L 16 = true then xs.set u es else xs)
  h3 : ∃ cur, w.heap[g3]? = some (.cells cur 4 (0, 0))
  h4 : ∃ cur, w.heap[g4]? = some (.cells cur 9 (0, 0))
  h5 : ∃ cur, w.heap[g5]? = some (.cells cur 34 (0, 0))
  vs : ∀ i, L i = true → f i = V23 q g3 n3 c3 g4 n4 c4 g5 n5 c5 u text ve i
section
variable {M : Mem} {q g3 n3 c3 g4 n4 c4 g5 n5 c5 u : Nat} {text : ByteArray} {ve : Value} {w0 : World} {bs : List Bool} {ts : List ByteArray} {xs : List (List Ent)} {es : List Ent} {L : Nat → Bool} {f : Nat → Value} {w : World}
theorem J23.add (h : J23 M q g3 n3 c3 g4 n4 c4 g5 n5 c5 u text ve w0 bs ts xs es L f w) {i : Nat} (h1 : i ≠ 12) (h2 : i ≠ 14) (h3 : i ≠ 16) {v : Value} (hv : v = V23 q g3 n3 c3 g4 n4 c4 g5 n5 c5 u text ve i) : J23 M q g3 n3 c3 g4 n4 c4 g5 n5 c5 u text ve w0 bs ts xs es (setL L i) (setV f i v) w := by
  refine ⟨h.kp, ?_, ?_, ?_, h.h3, h.h4, h.h5, fun k hk => ?_⟩
  · simp only [setL, if_neg (Ne.symm h1)]; exact h.r3
  · simp only [setL, if_neg (Ne.symm h2)]; exact h.r4
  · simp only [setL, if_neg (Ne.symm h3)]; exact h.r5
  · by_cases e : k = i
    · subst e; simp only [setV, if_pos]; exact hv
    · simp only [setL, setV, if_neg e] at hk ⊢
      exact h.vs k hk
theorem J23.add12 (h : J23 M q g3 n3 c3 g4 n4 c4 g5 n5 c5 u text ve w0 bs ts xs es L f w) (hL : L 12 = false) (h34 : g3 ≠ g4) (h35 : g3 ≠ g5) (hu : u < bs.length) : J23 M q g3 n3 c3 g4 n4 c4 g5 n5 c5 u text ve w0 bs ts xs es (setL L 12) (setV f 12 undef) (w.setCell ⟨g3, u, none⟩ (.bool true)) := by
  obtain ⟨cur, hc⟩ := h.h3
  have r3 := h.r3
  rw [if_neg (by rw [hL]; simp)] at r3
  refine ⟨h.kp.setCell (p := ⟨g3, u, none⟩) (fun _ => .inl rfl) _, ?_, ?_, ?_, ⟨_, set_block hc⟩, h.h4.imp fun c e => (set_block_other (Ne.symm h34)).trans e, h.h5.imp fun c e => (set_block_other (Ne.symm h35)).trans e, fun k hk => ?_⟩
  · simp only [setL, if_pos]
    exact row_put1 (t := tBool) tBool_flat rfl r3 hu hc (fun m => rfl)
  · simp only [setL, if_neg (show (14 : Nat) ≠ 12 by decide)]; exact row_block tStr_flat h.r4 (set_block_other (Ne.symm h34))
  · simp only [setL, if_neg (show (16 : Nat) ≠ 12 by decide)]; exact row_block (tIn_flat M tEnts) h.r5 (set_block_other (Ne.symm h35))
  · by_cases e : k = 12
    · subst e; simp only [setV, if_pos]; rfl
    · simp only [setL, setV, if_neg e] at hk ⊢
      exact h.vs k hk
theorem J23.add14 (h : J23 M q g3 n3 c3 g4 n4 c4 g5 n5 c5 u text ve w0 bs ts xs es L f w) (hL : L 14 = false) (h34 : g3 ≠ g4) (h45 : g4 ≠ g5) (hu : u < ts.length) (htx : text.size ≤ maxLen) : J23 M q g3 n3 c3 g4 n4 c4 g5 n5 c5 u text ve w0 bs ts xs es (setL L 14) (setV f 14 undef) (w.setCell ⟨g4, u, none⟩ (.string text)) := by
  obtain ⟨cur, hc⟩ := h.h4
  have r4 := h.r4
  rw [if_neg (by rw [hL]; simp)] at r4
  refine ⟨h.kp.setCell (p := ⟨g4, u, none⟩) (fun _ => .inr (.inl rfl)) _, ?_, ?_, ?_, h.h3.imp fun c e => (set_block_other h34).trans e, ⟨_, set_block hc⟩, h.h5.imp fun c e => (set_block_other (Ne.symm h45)).trans e, fun k hk => ?_⟩
  · simp only [setL, if_neg (show (12 : Nat) ≠ 14 by decide)]; exact row_block tBool_flat h.r3 (set_block_other h34)
  · simp only [setL, if_pos]
    exact row_put1 (t := tStr) tStr_flat rfl r4 hu hc (fun m => ⟨rfl, htx⟩)
  · simp only [setL, if_neg (show (16 : Nat) ≠ 14 by decide)]; exact row_block (tIn_flat M tEnts) h.r5 (set_block_other (Ne.symm h45))
  · by_cases e : k = 14
    · subst e; simp only [setV, if_pos]; rfl
    · simp only [setL, setV, if_neg e] at hk ⊢
      exact h.vs k hk
theorem J23.add16 (h : J23 M q g3 n3 c3 g4 n4 c4 g5 n5 c5 u text ve w0 bs ts xs es L f w) (hL : L 16 = false) (h35 : g3 ≠ g5) (h45 : g4 ≠ g5) (hu : u < xs.length) (hve : tEnts.rv M [ve] es) : J23 M q g3 n3 c3 g4 n4 c4 g5 n5 c5 u text ve w0 bs ts xs es (setL L 16) (setV f 16 undef) (w.setCell ⟨g5, u, none⟩ ve) := by
  obtain ⟨cur, hc⟩ := h.h5
  have r5 := h.r5
  rw [if_neg (by rw [hL]; simp)] at r5
  refine ⟨h.kp.setCell (p := ⟨g5, u, none⟩) (fun _ => .inr (.inr rfl)) _, ?_, ?_, ?_, h.h3.imp fun c e => (set_block_other h35).trans e, h.h4.imp fun c e => (set_block_other h45).trans e, ⟨_, set_block hc⟩, fun k hk => ?_⟩
  · simp only [setL, if_neg (show (12 : Nat) ≠ 16 by decide)]; exact row_block tBool_flat h.r3 (set_block_other h35)
  · simp only [setL, if_neg (show (14 : Nat) ≠ 16 by decide)]; exact row_block tStr_flat h.r4 (set_block_other h45)
  · simp only [setL, if_pos]
    exact row_put1 (t := tIn M tEnts) (tIn_flat M tEnts) rfl r5 hu hc (fun m => hve)
  · by_cases e : k = 16
    · subst e; simp only [setV, if_pos]; rfl
    · simp only [setL, setV, if_neg e] at hk ⊢
      exact h.vs k hk
/-- A cell of a row of cells is there. -/
theorem row_cell {α : Type} {t : Ty α} (hsz : t.sz = 1) {w : World} {g n c u : Nat} {ys : List α} (h : (tSlice t).rv (mem w) [.slice (some ⟨g, 0, none⟩) n c] ys) (hu : u < ys.length) : ∃ v, w.cell? ⟨g, u, none⟩ = some v := by
  obtain ⟨b', o', e, cs, hc, hr⟩ := slice_at h hu
  simp only [Option.some.injEq, Addr.mk.injEq, and_true] at e
  obtain ⟨rfl, rfl⟩ := e
  have hlen := t.len _ _ _ hr
  rw [hsz] at hlen
  have h0 := hc 0 (cs[0]'(by omega)) (by simp)
  rw [hsz, Nat.mul_one, Nat.zero_add, Nat.add_zero] at h0
  exact ⟨_, h0⟩
theorem J23.kq (h : J23 M q g3 n3 c3 g4 n4 c4 g5 n5 c5 u text ve w0 bs ts xs es L f w) (hq3 : q ≠ g3) (hq4 : q ≠ g4) (hq5 : q ≠ g5) (hq : q < w0.heap.size) : w.heap[q]? = w0.heap[q]? := h.kp.block q hq (fun e => by rcases e with e | e | e <;> contradiction)
theorem J23.kc3 (h : J23 M q g3 n3 c3 g4 n4 c4 g5 n5 c5 u text ve w0 bs ts xs es L f w) (hu : u < bs.length) : (∃ v, w.cell? ⟨g3, u, none⟩ = some v) ∧ w.frozen? ⟨g3, u, none⟩ = false := by
  obtain ⟨cur, hc⟩ := h.h3
  exact ⟨row_cell rfl h.r3 (by split <;> simpa using hu), frozen_cells hc u⟩
theorem J23.kc4 (h : J23 M q g3 n3 c3 g4 n4 c4 g5 n5 c5 u text ve w0 bs ts xs es L f w) (hu : u < ts.length) : (∃ v, w.cell? ⟨g4, u, none⟩ = some v) ∧ w.frozen? ⟨g4, u, none⟩ = false := by
  obtain ⟨cur, hc⟩ := h.h4
  exact ⟨row_cell rfl h.r4 (by split <;> simpa using hu), frozen_cells hc u⟩
theorem J23.kc5 (h : J23 M q g3 n3 c3 g4 n4 c4 g5 n5 c5 u text ve w0 bs ts xs es L f w) (hu : u < xs.length) : (∃ v, w.cell? ⟨g5, u, none⟩ = some v) ∧ w.frozen? ⟨g5, u, none⟩ = false := by
  obtain ⟨cur, hc⟩ := h.h5
  exact ⟨row_cell rfl h.r5 (by split <;> simpa using hu), frozen_cells hc u⟩
end
end Go.Proofs.YtnfolemblnnejaaGreat
