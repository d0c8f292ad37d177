/- Part 6 of the texts that the law's proof stands on, merged. -/
import Derived.Deep.RegionHeld3
import Derived.Deep.RegionLaw
import Derived.Test.YtbmpoecmjmmngaaGreatHr05
set_option linter.unusedVariables false
set_option linter.unusedSimpArgs false
/- does: delete. -/
namespace Go.Proofs.YtbmpoecmjmmngaaGreat
open Go.RowKit Go.Maps
set_option maxRecDepth 100000 in
set_option maxHeartbeats 16000000 in
theorem does_delete (base p N : Nat) (M : Mem) (W : World) (h : HS) (r : RS) (a q : Value) (xk xg xn : Int) (nm key val : ByteArray) (c : HRun base p N M W h r a q) (hx : (⟨xk, xg, xn, nm, key, val⟩ : HAct).okA) (hN : N ≤ 90000) (hkd : xk % 10 = 2) :
    Calls Tryz.prog 19 #[.pointer (some ⟨p, 0, none⟩), rsV r a q, .agg #[.int .u8 xk, .int .i64 xg, .int .i64 xn, .string nm, .string key, .string val]] W (DoesOut base p N M W h ⟨xk, xg, xn, nm, key, val⟩) := by
  obtain ⟨⟨hk0, -⟩, hxg, hxn, hnm, hkey, hval⟩ := hx
  have hkt : xk.tmod 10 = 2 := by rw [Int.tmod_eq_emod_of_nonneg hk0]; exact hkd
  clear hk0
  simp only at hxg hxn hnm hkey hval
  have HSK := Lib.hid (fun (h' : HS) (e : ∀ k fs, h.view.sn k = some fs → ¬ ((2 : Int) = 6 ∧ xn = k) → h'.view.sn k = some fs) => (show SnKept ⟨xk, xg, xn, nm, key, val⟩ h h' from fun k fs e1 e2 => e k fs e1 (fun ee => e2 ⟨hkd.trans ee.1, ee.2⟩)))
  obtain ⟨aa, ca, rfl, hla, hma, hra⟩ := slice_form c.rat.ha
  obtain ⟨aq, cq, rfl, hlq, hmq, hrq⟩ := slice_form c.rat.hq
  have hca : ca ≤ 9223372036854775807 := by unfold maxLen at hma; exact hma
  have hcq : cq ≤ 9223372036854775807 := by unfold maxLen at hmq; exact hmq
  have HB := Lib.hid (show Below W.heap.size W (((W.alloc (.cells #[.int .i64 r.N, .int .i64 r.next, .slice aa r.es.length ca, .slice aq r.sn.length cq] 43)).alloc (.cells #[.int .u8 xk, .int .i64 xg, .int .i64 xn, .string nm, .string key, .string val] 49)).alloc rsZ) from (((Below.refl W.heap.size W).alloc (Nat.le_refl _) _).alloc (by simp) _).alloc (by simp; omega) _)
  have hY : ∀ (b : Nat) (o o' : Obj) (w : World), w.heap[b]? = some o → (w.alloc o').heap[b]? = some o := fun b o o' w e => (Below.heap_alloc _ _ _ (Array.getElem?_eq_some_iff.1 e).1).trans e
  have y4 : (((W.alloc (.cells #[.int .i64 r.N, .int .i64 r.next, .slice aa r.es.length ca, .slice aq r.sn.length cq] 43)).alloc (.cells #[.int .u8 xk, .int .i64 xg, .int .i64 xn, .string nm, .string key, .string val] 49)).alloc rsZ).heap[W.heap.size]? = some (.cells #[.int .i64 r.N, .int .i64 r.next, .slice aa r.es.length ca, .slice aq r.sn.length cq] 43 (0, 0)) := hY _ _ _ _ (hY _ _ _ _ (heap_alloc_new W _))
  have y5 : (((W.alloc (.cells #[.int .i64 r.N, .int .i64 r.next, .slice aa r.es.length ca, .slice aq r.sn.length cq] 43)).alloc (.cells #[.int .u8 xk, .int .i64 xg, .int .i64 xn, .string nm, .string key, .string val] 49)).alloc rsZ).heap[W.heap.size + 1]? = some (.cells #[.int .u8 xk, .int .i64 xg, .int .i64 xn, .string nm, .string key, .string val] 49 (0, 0)) := hY _ _ _ _ (by have h := heap_alloc_new (W.alloc (.cells #[.int .i64 r.N, .int .i64 r.next, .slice aa r.es.length ca, .slice aq r.sn.length cq] 43)) (.cells #[.int .u8 xk, .int .i64 xg, .int .i64 xn, .string nm, .string key, .string val] 49); rwa [World.size_alloc] at h)
  have yR : (((W.alloc (.cells #[.int .i64 r.N, .int .i64 r.next, .slice aa r.es.length ca, .slice aq r.sn.length cq] 43)).alloc (.cells #[.int .u8 xk, .int .i64 xg, .int .i64 xn, .string nm, .string key, .string val] 49)).alloc rsZ).heap[W.heap.size + 1 + 1]? = some rsZ := by have h := heap_alloc_new ((W.alloc (.cells #[.int .i64 r.N, .int .i64 r.next, .slice aa r.es.length ca, .slice aq r.sn.length cq] 43)).alloc (.cells #[.int .u8 xk, .int .i64 xg, .int .i64 xn, .string nm, .string key, .string val] 49)) rsZ; simpa only [World.size_alloc] using h
  obtain ⟨M1, hMid, hM1, hnew1, hrat⟩ := c.start HB.out (R := W.heap.size + 1 + 1) yR (by omega)
  have HRAT := Lib.hid hrat
  have HM1 := Lib.hid hM1
  have hbR : W.heap.size ≤ W.heap.size + 1 + 1 := by omega
  have hle := c.rel.le
  have h20 := c.rel.l20
  have HASC := Lib.hid c.rel.es.asc
  have hnn := c.nn
  have hlast := c.last
  have hn1 := c.n1
  have hn128 := c.n128
  have hlen := c.len
  have HC4 := Lib.hid (fun (wq : World) (hq : M1.le (mem wq)) => (show wq.cell? ⟨W.heap.size, 0, none⟩ = some (.int .i64 r.N) ∧ wq.cell? ⟨W.heap.size, 1, none⟩ = some (.int .i64 r.next) ∧ wq.cell? ⟨W.heap.size, 2, none⟩ = some (.slice aa r.es.length ca) ∧ wq.cell? ⟨W.heap.size, 3, none⟩ = some (.slice aq r.sn.length cq) from ⟨hq _ _ _ (hnew1 _ _ _ (Mem.on_some (mem_cells y4 0) ⟨by omega, by omega⟩)), hq _ _ _ (hnew1 _ _ _ (Mem.on_some (mem_cells y4 1) ⟨by omega, by omega⟩)), hq _ _ _ (hnew1 _ _ _ (Mem.on_some (mem_cells y4 2) ⟨by omega, by omega⟩)), hq _ _ _ (hnew1 _ _ _ (Mem.on_some (mem_cells y4 3) ⟨by omega, by omega⟩))⟩))
  have HC5 := Lib.hid (fun (wq : World) (hq : M1.le (mem wq)) => (show wq.cell? ⟨W.heap.size + 1, 0, none⟩ = some (.int .u8 xk) ∧ wq.cell? ⟨W.heap.size + 1, 1, none⟩ = some (.int .i64 xg) ∧ wq.cell? ⟨W.heap.size + 1, 2, none⟩ = some (.int .i64 xn) ∧ wq.cell? ⟨W.heap.size + 1, 3, none⟩ = some (.string nm) ∧ wq.cell? ⟨W.heap.size + 1, 4, none⟩ = some (.string key) ∧ wq.cell? ⟨W.heap.size + 1, 5, none⟩ = some (.string val) from ⟨hq _ _ _ (hnew1 _ _ _ (Mem.on_some (mem_cells y5 0) ⟨by omega, by omega⟩)), hq _ _ _ (hnew1 _ _ _ (Mem.on_some (mem_cells y5 1) ⟨by omega, by omega⟩)), hq _ _ _ (hnew1 _ _ _ (Mem.on_some (mem_cells y5 2) ⟨by omega, by omega⟩)), hq _ _ _ (hnew1 _ _ _ (Mem.on_some (mem_cells y5 3) ⟨by omega, by omega⟩)), hq _ _ _ (hnew1 _ _ _ (Mem.on_some (mem_cells y5 4) ⟨by omega, by omega⟩)), hq _ _ _ (hnew1 _ _ _ (Mem.on_some (mem_cells y5 5) ⟨by omega, by omega⟩))⟩))
  clear hY y4 y5 yR hnew1 hra hrq hma hmq hM1 hrat c
  go_enter Tryz.func19, Tryz.ntmps19
  go_upto_region 1 with fail
  generalize ((W.alloc (.cells #[.int .i64 r.N, .int .i64 r.next, .slice aa r.es.length ca, .slice aq r.sn.length cq] 43)).alloc (.cells #[.int .u8 xk, .int .i64 xg, .int .i64 xn, .string nm, .string key, .string val] 49)).alloc rsZ = Y at HB hMid ⊢
  have HMI := Lib.hid hMid
  obtain ⟨c0, c1, c2, c3⟩ := HC4.out Y hMid.le
  obtain ⟨d0, d1, d2, d3, d4, d5⟩ := HC5.out Y hMid.le
  clear hMid
  go_upto_region 2 with fail
  try rw [hkt]
  have HREL := Lib.hid (HMI.out.rel.del (g := xg) (nm := nm) (key := key) (fun h0 h1 => HMI.out.grp h0 h1))
  go_wp2_with fail
  refine (refDelete_any r _ _ M1 Y HMI.out.le HRAT.out hle HASC.out xg nm key hnm hkey).mono ?_
  rintro e w1 ⟨hb1, a', rfl, hr1⟩
  generalize delR r.N r.es xg nm key = pr at *
  obtain ⟨es2, cc⟩ := pr
  simp only at hr1
  obtain ⟨a2, k2, rfl, hl2, hm2, -⟩ := slice_form hr1.ha
  have hk2 : k2 ≤ 9223372036854775807 := by unfold maxLen at hm2; exact hm2
  clear hm2
  have hcc : (cc == cc) = true := by simp
  have HP := Lib.hid (fun (wq : World) (hq : HMid base p N (joinM M1 Y (w1.alloc (.cells #[.int .i64 r.N, .int .i64 r.next, .slice a2 es2.length k2, .slice aq r.sn.length cq] 43))) (W.heap.size + 1 + 1) (W, h, M) wq h r) => (show Calls Tryz.prog 12 #[.pointer (some ⟨p, 0, none⟩), .int .i64 xg, .string nm, .string key] wq (fun e W' => e = .returned (.int .i64 cc) ∧ ∃ h', HMid base p (N + 1) (joinM M1 Y (w1.alloc (.cells #[.int .i64 r.N, .int .i64 r.next, .slice a2 es2.length k2, .slice aq r.sn.length cq] 43))) (W.heap.size + 1 + 1) (W, h, M) W' h' { r with es := es2 } ∧ SnKept ⟨xk, xg, xn, nm, key, val⟩ h h') from
    (delete_any xg nm key wq hq.inv hxg hnm hkey (by have := hq.cnt; omega) (by have := hq.cnt; omega)).mono fun e W' ⟨he, h', st⟩ => by
      refine ⟨by rw [he, hq.len, HREL.out.1], h', hq.step st.st (by rw [st.vw]; unfold delPS; rw [hq.len]; exact HREL.out.2) rfl (by have := st.nn; have := hq.nn; omega) (by have := hq.last; have e : h'.last = h.last := (congrArg PS.last st.vw).trans (delPS_last _ _ _ _); omega), HSK.out h' (fun k fs e1 _ => by rw [st.vw, delPS_sn]; exact e1)⟩))
  have hbA := hb1.alloc hb1.size (.cells #[.int .i64 r.N, .int .i64 r.next, .slice a2 es2.length k2, .slice aq r.sn.length cq] 43)
  have HMid2 := Lib.hid (HMI.out.grow hbA)
  have HM2 := Lib.hid (joinM_le (W' := w1.alloc (.cells #[.int .i64 r.N, .int .i64 r.next, .slice a2 es2.length k2, .slice aq r.sn.length cq] 43)) HMI.out.le)
  have HJ2 := Lib.hid (show (joinM M1 Y w1).le (joinM M1 Y (w1.alloc (.cells #[.int .i64 r.N, .int .i64 r.next, .slice a2 es2.length k2, .slice aq r.sn.length cq] 43))) from joinM_mono ((Below.refl _ _).alloc (Nat.le_refl _) _))
  have HC8 := Lib.hid (fun (wq : World) (hq : (joinM M1 Y (w1.alloc (.cells #[.int .i64 r.N, .int .i64 r.next, .slice a2 es2.length k2, .slice aq r.sn.length cq] 43))).le (mem wq)) => (show wq.cell? ⟨w1.heap.size, 0, none⟩ = some (.int .i64 r.N) ∧ wq.cell? ⟨w1.heap.size, 1, none⟩ = some (.int .i64 r.next) ∧ wq.cell? ⟨w1.heap.size, 2, none⟩ = some (.slice a2 es2.length k2) ∧ wq.cell? ⟨w1.heap.size, 3, none⟩ = some (.slice aq r.sn.length cq) from ⟨hq _ _ _ (joinM_new _ _ _ (Mem.on_some (cell_new 0 rfl) hb1.size)), hq _ _ _ (joinM_new _ _ _ (Mem.on_some (cell_new 1 rfl) hb1.size)), hq _ _ _ (joinM_new _ _ _ (Mem.on_some (cell_new 2 rfl) hb1.size)), hq _ _ _ (joinM_new _ _ _ (Mem.on_some (cell_new 3 rfl) hb1.size))⟩))
  have HRF2 := Lib.hid (hr1.mono HJ2.out)
  clear hbA hb1 hr1 c0 c1 c2 c3 d0 d1 d2 d3 d4 d5 HJ2
  go_upto_region 11 with fail
  generalize w1.alloc (.cells #[.int .i64 r.N, .int .i64 r.next, .slice a2 es2.length k2, .slice aq r.sn.length cq] 43) = X at *
  generalize w1.heap.size = nb at *
  generalize joinM M1 Y X = M2 at *
  have HMD := Lib.hid (HMid2.out.pure0 (Below.refl _ _).drew)
  have HSS := Lib.hid (fun (w' : World) (hq : M2.le (mem w')) => (show w'.cell? ⟨nb, 0, none⟩ = some (.int .i64 r.N) ∧ w'.cell? ⟨nb, 1, none⟩ = some (.int .i64 r.next) ∧ w'.cell? ⟨nb, 2, none⟩ = some (.slice a2 es2.length k2) ∧ w'.cell? ⟨nb, 3, none⟩ = some (.slice aq r.sn.length cq) ∧ w'.cell? ⟨W.heap.size + 1, 1, none⟩ = some (.int .i64 xg) ∧ w'.cell? ⟨W.heap.size + 1, 3, none⟩ = some (.string nm) ∧ w'.cell? ⟨W.heap.size + 1, 4, none⟩ = some (.string key) from ⟨(HC8.out w' hq).1, (HC8.out w' hq).2.1, (HC8.out w' hq).2.2.1, (HC8.out w' hq).2.2.2, (HC5.out w' (Mem.le_trans HM2.out hq)).2.1, (HC5.out w' (Mem.le_trans HM2.out hq)).2.2.2.1, (HC5.out w' (Mem.le_trans HM2.out hq)).2.2.2.2.1⟩))
  have HSR := Lib.hid (fun (N' : Nat) (h' : HS) (r' : RS) (wq : World) (hq : HMid base p N' M2 (W.heap.size + 1 + 1) (W, h, M) wq h' r') => (show ((((wq.setCell ⟨W.heap.size + 1 + 1, 0, none⟩ (.int .i64 r.N)).setCell ⟨W.heap.size + 1 + 1, 1, none⟩ (.int .i64 r.next)).setCell ⟨W.heap.size + 1 + 1, 2, none⟩ (.slice a2 es2.length k2)).setCell ⟨W.heap.size + 1 + 1, 3, none⟩ (.slice aq r.sn.length cq)).cell? ⟨nb, 0, none⟩ = some (.int .i64 r.N) ∧ ((((wq.setCell ⟨W.heap.size + 1 + 1, 0, none⟩ (.int .i64 r.N)).setCell ⟨W.heap.size + 1 + 1, 1, none⟩ (.int .i64 r.next)).setCell ⟨W.heap.size + 1 + 1, 2, none⟩ (.slice a2 es2.length k2)).setCell ⟨W.heap.size + 1 + 1, 3, none⟩ (.slice aq r.sn.length cq)).cell? ⟨nb, 1, none⟩ = some (.int .i64 r.next) ∧ ((((wq.setCell ⟨W.heap.size + 1 + 1, 0, none⟩ (.int .i64 r.N)).setCell ⟨W.heap.size + 1 + 1, 1, none⟩ (.int .i64 r.next)).setCell ⟨W.heap.size + 1 + 1, 2, none⟩ (.slice a2 es2.length k2)).setCell ⟨W.heap.size + 1 + 1, 3, none⟩ (.slice aq r.sn.length cq)).cell? ⟨nb, 2, none⟩ = some (.slice a2 es2.length k2) ∧ ((((wq.setCell ⟨W.heap.size + 1 + 1, 0, none⟩ (.int .i64 r.N)).setCell ⟨W.heap.size + 1 + 1, 1, none⟩ (.int .i64 r.next)).setCell ⟨W.heap.size + 1 + 1, 2, none⟩ (.slice a2 es2.length k2)).setCell ⟨W.heap.size + 1 + 1, 3, none⟩ (.slice aq r.sn.length cq)).cell? ⟨nb, 3, none⟩ = some (.slice aq r.sn.length cq) ∧ ((((wq.setCell ⟨W.heap.size + 1 + 1, 0, none⟩ (.int .i64 r.N)).setCell ⟨W.heap.size + 1 + 1, 1, none⟩ (.int .i64 r.next)).setCell ⟨W.heap.size + 1 + 1, 2, none⟩ (.slice a2 es2.length k2)).setCell ⟨W.heap.size + 1 + 1, 3, none⟩ (.slice aq r.sn.length cq)).cell? ⟨W.heap.size + 1, 1, none⟩ = some (.int .i64 xg) ∧ ((((wq.setCell ⟨W.heap.size + 1 + 1, 0, none⟩ (.int .i64 r.N)).setCell ⟨W.heap.size + 1 + 1, 1, none⟩ (.int .i64 r.next)).setCell ⟨W.heap.size + 1 + 1, 2, none⟩ (.slice a2 es2.length k2)).setCell ⟨W.heap.size + 1 + 1, 3, none⟩ (.slice aq r.sn.length cq)).cell? ⟨W.heap.size + 1, 3, none⟩ = some (.string nm) ∧ ((((wq.setCell ⟨W.heap.size + 1 + 1, 0, none⟩ (.int .i64 r.N)).setCell ⟨W.heap.size + 1 + 1, 1, none⟩ (.int .i64 r.next)).setCell ⟨W.heap.size + 1 + 1, 2, none⟩ (.slice a2 es2.length k2)).setCell ⟨W.heap.size + 1 + 1, 3, none⟩ (.slice aq r.sn.length cq)).cell? ⟨W.heap.size + 1, 4, none⟩ = some (.string key) from HSS.out _ (hq.stored (store4_keeps wq (W.heap.size + 1 + 1) (.int .i64 r.N) (.int .i64 r.next) (.slice a2 es2.length k2) (.slice aq r.sn.length cq)))))
  have s0 := HSS.out X.drew HMD.out.le
  have HP1 := Lib.hid (HP.out _ HMD.out)
  go_region_held3 (fun w' => w'.cell? ⟨nb, 0, none⟩ = some (.int .i64 r.N) ∧ w'.cell? ⟨nb, 1, none⟩ = some (.int .i64 r.next) ∧ w'.cell? ⟨nb, 2, none⟩ = some (.slice a2 es2.length k2) ∧ w'.cell? ⟨nb, 3, none⟩ = some (.slice aq r.sn.length cq) ∧ w'.cell? ⟨W.heap.size + 1, 1, none⟩ = some (.int .i64 xg) ∧ w'.cell? ⟨W.heap.size + 1, 3, none⟩ = some (.string nm) ∧ w'.cell? ⟨W.heap.size + 1, 4, none⟩ = some (.string key)) (first | with_reducible exact s0 | with_reducible exact HSS.out w5 hm5 | with_reducible exact HSR.out _ _ _ w5 HMid5.out | go_keep)
    ((first
      | (go_at_call 12; refine HP1.out.mono ?_; rintro e w5 ⟨rfl, h5, hMid5, hsk5⟩; have hm5 := hMid5.le; have HMid5 := Lib.hid hMid5; have HSK5 := Lib.hid hsk5; obtain ⟨z0, z1, z2, z3, zz⟩ := HMid5.out.res; have zz0 := zz 0; have zz1 := zz 1; have zz2 := zz 2; have zz3 := zz 3; clear zz; clear hMid5 hsk5)))
  all_goals
    go_wp2
    have r1 := store4_block (HMid5.out.hR) (.int .i64 r.N) (.int .i64 r.next) (.slice a2 es2.length k2) (.slice aq r.sn.length cq)
    have hk := store4_keeps (w5) (W.heap.size + 1 + 1) (.int .i64 r.N) (.int .i64 r.next) (.slice a2 es2.length k2) (.slice aq r.sn.length cq)
    show bodyPost _ _ _ _ _ (store4 (w5) (W.heap.size + 1 + 1) (.int .i64 r.N) (.int .i64 r.next) (.slice a2 es2.length k2) (.slice aq r.sn.length cq))
    generalize store4 (w5) (W.heap.size + 1 + 1) (.int .i64 r.N) (.int .i64 r.next) (.slice a2 es2.length k2) (.slice aq r.sn.length cq) = wz at r1 hk ⊢
    have g0 : wz.cell? ⟨W.heap.size + 1 + 1, 0, none⟩ = some (.int .i64 r.N) := mem_cells r1 0
    have g1 : wz.cell? ⟨W.heap.size + 1 + 1, 1, none⟩ = some (.int .i64 r.next) := mem_cells r1 1
    have g2 : wz.cell? ⟨W.heap.size + 1 + 1, 2, none⟩ = some (.slice a2 es2.length k2) := mem_cells r1 2
    have g3 : wz.cell? ⟨W.heap.size + 1 + 1, 3, none⟩ = some (.slice aq r.sn.length cq) := mem_cells r1 3
    refine bodyPost_ret (v := .tuple #[.agg #[.int .i64 r.N, .int .i64 r.next, .slice a2 es2.length k2, .slice aq r.sn.length cq], .bool true]) (by simp [results, Tryz.results19, go_sem, g0, g1, g2, g3]) rfl ?_
    have hf := HMid5.out.finish hk hbR HRF2.out
    exact ⟨h5, { r with es := es2 }, _, _, M2, rfl, hf.1, Mem.le_trans HM1.out HM2.out, hf.2, HSK5.out⟩
end Go.Proofs.YtbmpoecmjmmngaaGreat
/- does: clear. -/
namespace Go.Proofs.YtbmpoecmjmmngaaGreat
open Go.RowKit Go.Maps
set_option maxRecDepth 100000 in
set_option maxHeartbeats 16000000 in
theorem does_clear (base p N : Nat) (M : Mem) (W : World) (h : HS) (r : RS) (a q : Value) (xk xg xn : Int) (nm key val : ByteArray) (c : HRun base p N M W h r a q) (hx : (⟨xk, xg, xn, nm, key, val⟩ : HAct).okA) (hN : N ≤ 90000) (hkd : xk % 10 = 3) :
    Calls Tryz.prog 19 #[.pointer (some ⟨p, 0, none⟩), rsV r a q, .agg #[.int .u8 xk, .int .i64 xg, .int .i64 xn, .string nm, .string key, .string val]] W (DoesOut base p N M W h ⟨xk, xg, xn, nm, key, val⟩) := by
  obtain ⟨⟨hk0, -⟩, hxg, hxn, hnm, hkey, hval⟩ := hx
  have hkt : xk.tmod 10 = 3 := by rw [Int.tmod_eq_emod_of_nonneg hk0]; exact hkd
  clear hk0
  simp only at hxg hxn hnm hkey hval
  have HSK := Lib.hid (fun (h' : HS) (e : ∀ k fs, h.view.sn k = some fs → ¬ ((3 : Int) = 6 ∧ xn = k) → h'.view.sn k = some fs) => (show SnKept ⟨xk, xg, xn, nm, key, val⟩ h h' from fun k fs e1 e2 => e k fs e1 (fun ee => e2 ⟨hkd.trans ee.1, ee.2⟩)))
  obtain ⟨aa, ca, rfl, hla, hma, hra⟩ := slice_form c.rat.ha
  obtain ⟨aq, cq, rfl, hlq, hmq, hrq⟩ := slice_form c.rat.hq
  have hca : ca ≤ 9223372036854775807 := by unfold maxLen at hma; exact hma
  have hcq : cq ≤ 9223372036854775807 := by unfold maxLen at hmq; exact hmq
  have HB := Lib.hid (show Below W.heap.size W (((W.alloc (.cells #[.int .i64 r.N, .int .i64 r.next, .slice aa r.es.length ca, .slice aq r.sn.length cq] 43)).alloc (.cells #[.int .u8 xk, .int .i64 xg, .int .i64 xn, .string nm, .string key, .string val] 49)).alloc rsZ) from (((Below.refl W.heap.size W).alloc (Nat.le_refl _) _).alloc (by simp) _).alloc (by simp; omega) _)
  have hY : ∀ (b : Nat) (o o' : Obj) (w : World), w.heap[b]? = some o → (w.alloc o').heap[b]? = some o := fun b o o' w e => (Below.heap_alloc _ _ _ (Array.getElem?_eq_some_iff.1 e).1).trans e
  have y4 : (((W.alloc (.cells #[.int .i64 r.N, .int .i64 r.next, .slice aa r.es.length ca, .slice aq r.sn.length cq] 43)).alloc (.cells #[.int .u8 xk, .int .i64 xg, .int .i64 xn, .string nm, .string key, .string val] 49)).alloc rsZ).heap[W.heap.size]? = some (.cells #[.int .i64 r.N, .int .i64 r.next, .slice aa r.es.length ca, .slice aq r.sn.length cq] 43 (0, 0)) := hY _ _ _ _ (hY _ _ _ _ (heap_alloc_new W _))
  have y5 : (((W.alloc (.cells #[.int .i64 r.N, .int .i64 r.next, .slice aa r.es.length ca, .slice aq r.sn.length cq] 43)).alloc (.cells #[.int .u8 xk, .int .i64 xg, .int .i64 xn, .string nm, .string key, .string val] 49)).alloc rsZ).heap[W.heap.size + 1]? = some (.cells #[.int .u8 xk, .int .i64 xg, .int .i64 xn, .string nm, .string key, .string val] 49 (0, 0)) := hY _ _ _ _ (by have h := heap_alloc_new (W.alloc (.cells #[.int .i64 r.N, .int .i64 r.next, .slice aa r.es.length ca, .slice aq r.sn.length cq] 43)) (.cells #[.int .u8 xk, .int .i64 xg, .int .i64 xn, .string nm, .string key, .string val] 49); rwa [World.size_alloc] at h)
  have yR : (((W.alloc (.cells #[.int .i64 r.N, .int .i64 r.next, .slice aa r.es.length ca, .slice aq r.sn.length cq] 43)).alloc (.cells #[.int .u8 xk, .int .i64 xg, .int .i64 xn, .string nm, .string key, .string val] 49)).alloc rsZ).heap[W.heap.size + 1 + 1]? = some rsZ := by have h := heap_alloc_new ((W.alloc (.cells #[.int .i64 r.N, .int .i64 r.next, .slice aa r.es.length ca, .slice aq r.sn.length cq] 43)).alloc (.cells #[.int .u8 xk, .int .i64 xg, .int .i64 xn, .string nm, .string key, .string val] 49)) rsZ; simpa only [World.size_alloc] using h
  obtain ⟨M1, hMid, hM1, hnew1, hrat⟩ := c.start HB.out (R := W.heap.size + 1 + 1) yR (by omega)
  have HRAT := Lib.hid hrat
  have HM1 := Lib.hid hM1
  have hbR : W.heap.size ≤ W.heap.size + 1 + 1 := by omega
  have hle := c.rel.le
  have h20 := c.rel.l20
  have HASC := Lib.hid c.rel.es.asc
  have hnn := c.nn
  have hlast := c.last
  have hn1 := c.n1
  have hn128 := c.n128
  have hlen := c.len
  have HC4 := Lib.hid (fun (wq : World) (hq : M1.le (mem wq)) => (show wq.cell? ⟨W.heap.size, 0, none⟩ = some (.int .i64 r.N) ∧ wq.cell? ⟨W.heap.size, 1, none⟩ = some (.int .i64 r.next) ∧ wq.cell? ⟨W.heap.size, 2, none⟩ = some (.slice aa r.es.length ca) ∧ wq.cell? ⟨W.heap.size, 3, none⟩ = some (.slice aq r.sn.length cq) from ⟨hq _ _ _ (hnew1 _ _ _ (Mem.on_some (mem_cells y4 0) ⟨by omega, by omega⟩)), hq _ _ _ (hnew1 _ _ _ (Mem.on_some (mem_cells y4 1) ⟨by omega, by omega⟩)), hq _ _ _ (hnew1 _ _ _ (Mem.on_some (mem_cells y4 2) ⟨by omega, by omega⟩)), hq _ _ _ (hnew1 _ _ _ (Mem.on_some (mem_cells y4 3) ⟨by omega, by omega⟩))⟩))
  have HC5 := Lib.hid (fun (wq : World) (hq : M1.le (mem wq)) => (show wq.cell? ⟨W.heap.size + 1, 0, none⟩ = some (.int .u8 xk) ∧ wq.cell? ⟨W.heap.size + 1, 1, none⟩ = some (.int .i64 xg) ∧ wq.cell? ⟨W.heap.size + 1, 2, none⟩ = some (.int .i64 xn) ∧ wq.cell? ⟨W.heap.size + 1, 3, none⟩ = some (.string nm) ∧ wq.cell? ⟨W.heap.size + 1, 4, none⟩ = some (.string key) ∧ wq.cell? ⟨W.heap.size + 1, 5, none⟩ = some (.string val) from ⟨hq _ _ _ (hnew1 _ _ _ (Mem.on_some (mem_cells y5 0) ⟨by omega, by omega⟩)), hq _ _ _ (hnew1 _ _ _ (Mem.on_some (mem_cells y5 1) ⟨by omega, by omega⟩)), hq _ _ _ (hnew1 _ _ _ (Mem.on_some (mem_cells y5 2) ⟨by omega, by omega⟩)), hq _ _ _ (hnew1 _ _ _ (Mem.on_some (mem_cells y5 3) ⟨by omega, by omega⟩)), hq _ _ _ (hnew1 _ _ _ (Mem.on_some (mem_cells y5 4) ⟨by omega, by omega⟩)), hq _ _ _ (hnew1 _ _ _ (Mem.on_some (mem_cells y5 5) ⟨by omega, by omega⟩))⟩))
  clear hY y4 y5 yR hnew1 hra hrq hma hmq hM1 hrat c
  go_enter Tryz.func19, Tryz.ntmps19
  go_upto_region 1 with fail
  generalize ((W.alloc (.cells #[.int .i64 r.N, .int .i64 r.next, .slice aa r.es.length ca, .slice aq r.sn.length cq] 43)).alloc (.cells #[.int .u8 xk, .int .i64 xg, .int .i64 xn, .string nm, .string key, .string val] 49)).alloc rsZ = Y at HB hMid ⊢
  have HMI := Lib.hid hMid
  obtain ⟨c0, c1, c2, c3⟩ := HC4.out Y hMid.le
  obtain ⟨d0, d1, d2, d3, d4, d5⟩ := HC5.out Y hMid.le
  clear hMid
  go_upto_region 2 with fail
  try rw [hkt]
  go_wp2_with fail
  refine (clear_any r xg nm Y HMI.out.inv HMI.out.rel hxg hnm (by omega) (by omega)).mono ?_
  rintro e w1 ⟨kk, cc, h5, rfl, st, hn', hc', hvw, es2, hcs, hrel⟩
  have HSN := Lib.hid hvw.2
  have HMid2 := Lib.hid (HMI.out.step st hrel rfl (by omega) (by omega))
  clear st hrel hvw
  clear c0 c1 c2 c3 d0 d1 d2 d3 d4 d5
  obtain ⟨c0, c1, c2, c3⟩ := HC4.out w1 HMid2.out.le
  obtain ⟨d0, d1, d2, d3, d4, d5⟩ := HC5.out w1 HMid2.out.le
  go_wp2_with fail
  refine (refClear_any r _ _ M1 w1 HMid2.out.le HRAT.out hle xg nm hnm).mono ?_
  rintro e w2 ⟨es3, n3, c3', hcs3, hb2, a', rfl, hr1⟩
  obtain ⟨rfl, rfl, rfl⟩ := hcs.one hcs3
  obtain ⟨a2, k2, rfl, hl2, hm2, -⟩ := slice_form hr1.ha
  have hk2 : k2 ≤ 9223372036854775807 := by unfold maxLen at hm2; exact hm2
  clear hm2 hcs hcs3
  have hkk : (kk == kk) = true := by simp
  have hcc : (cc == cc) = true := by simp
  have hbA := hb2.alloc hb2.size (.cells #[.int .i64 r.N, .int .i64 r.next, .slice a2 es2.length k2, .slice aq r.sn.length cq] 43)
  have HMid3 := Lib.hid (HMid2.out.grow hbA)
  have HM3 := Lib.hid (joinM_le (W' := w2.alloc (.cells #[.int .i64 r.N, .int .i64 r.next, .slice a2 es2.length k2, .slice aq r.sn.length cq] 43)) HMid2.out.le)
  have HJ3 := Lib.hid (show (joinM M1 w1 w2).le (joinM M1 w1 (w2.alloc (.cells #[.int .i64 r.N, .int .i64 r.next, .slice a2 es2.length k2, .slice aq r.sn.length cq] 43))) from joinM_mono ((Below.refl _ _).alloc (Nat.le_refl _) _))
  have HC8 := Lib.hid (fun (wq : World) (hq : (joinM M1 w1 (w2.alloc (.cells #[.int .i64 r.N, .int .i64 r.next, .slice a2 es2.length k2, .slice aq r.sn.length cq] 43))).le (mem wq)) => (show wq.cell? ⟨w2.heap.size, 0, none⟩ = some (.int .i64 r.N) ∧ wq.cell? ⟨w2.heap.size, 1, none⟩ = some (.int .i64 r.next) ∧ wq.cell? ⟨w2.heap.size, 2, none⟩ = some (.slice a2 es2.length k2) ∧ wq.cell? ⟨w2.heap.size, 3, none⟩ = some (.slice aq r.sn.length cq) from ⟨hq _ _ _ (joinM_new _ _ _ (Mem.on_some (cell_new 0 rfl) hb2.size)), hq _ _ _ (joinM_new _ _ _ (Mem.on_some (cell_new 1 rfl) hb2.size)), hq _ _ _ (joinM_new _ _ _ (Mem.on_some (cell_new 2 rfl) hb2.size)), hq _ _ _ (joinM_new _ _ _ (Mem.on_some (cell_new 3 rfl) hb2.size))⟩))
  have HRF2 := Lib.hid (hr1.mono HJ3.out)
  clear hbA hb2 hr1 HJ3
  clear c0 c1 c2 c3 d0 d1 d2 d3 d4 d5
  go_upto_region 15 with fail
  generalize w2.alloc (.cells #[.int .i64 r.N, .int .i64 r.next, .slice a2 es2.length k2, .slice aq r.sn.length cq] 43) = X at *
  generalize w2.heap.size = nb at *
  generalize joinM M1 w1 X = M2 at *
  have HMid5 := HMid3
  obtain ⟨e0, e1, e2, e3⟩ := HC8.out X HMid5.out.le
  obtain ⟨z0, z1, z2, z3, zz⟩ := HMid5.out.res; have zz0 := zz 0; have zz1 := zz 1; have zz2 := zz 2; have zz3 := zz 3; clear zz
  go_wp2
  have r1 := store4_block (HMid5.out.hR) (.int .i64 r.N) (.int .i64 r.next) (.slice a2 es2.length k2) (.slice aq r.sn.length cq)
  have hk := store4_keeps (X) (W.heap.size + 1 + 1) (.int .i64 r.N) (.int .i64 r.next) (.slice a2 es2.length k2) (.slice aq r.sn.length cq)
  show bodyPost _ _ _ _ _ (store4 (X) (W.heap.size + 1 + 1) (.int .i64 r.N) (.int .i64 r.next) (.slice a2 es2.length k2) (.slice aq r.sn.length cq))
  generalize store4 (X) (W.heap.size + 1 + 1) (.int .i64 r.N) (.int .i64 r.next) (.slice a2 es2.length k2) (.slice aq r.sn.length cq) = wz at r1 hk ⊢
  have g0 : wz.cell? ⟨W.heap.size + 1 + 1, 0, none⟩ = some (.int .i64 r.N) := mem_cells r1 0
  have g1 : wz.cell? ⟨W.heap.size + 1 + 1, 1, none⟩ = some (.int .i64 r.next) := mem_cells r1 1
  have g2 : wz.cell? ⟨W.heap.size + 1 + 1, 2, none⟩ = some (.slice a2 es2.length k2) := mem_cells r1 2
  have g3 : wz.cell? ⟨W.heap.size + 1 + 1, 3, none⟩ = some (.slice aq r.sn.length cq) := mem_cells r1 3
  refine bodyPost_ret (v := .tuple #[.agg #[.int .i64 r.N, .int .i64 r.next, .slice a2 es2.length k2, .slice aq r.sn.length cq], .bool true]) (by simp [results, Tryz.results19, go_sem, g0, g1, g2, g3]) rfl ?_
  have hf := HMid5.out.finish hk hbR HRF2.out
  exact ⟨h5, { r with es := es2 }, _, _, M2, rfl, hf.1, Mem.le_trans HM1.out HM3.out, hf.2, HSK.out h5 (fun k fs e1 _ => by rw [HSN.out]; exact e1)⟩
end Go.Proofs.YtbmpoecmjmmngaaGreat
/- does: scan. -/
namespace Go.Proofs.YtbmpoecmjmmngaaGreat
open Go.RowKit Go.Maps
set_option maxRecDepth 100000 in
set_option maxHeartbeats 16000000 in
theorem does_scan (base p N : Nat) (M : Mem) (W : World) (h : HS) (r : RS) (a q : Value) (xk xg xn : Int) (nm key val : ByteArray) (c : HRun base p N M W h r a q) (hx : (⟨xk, xg, xn, nm, key, val⟩ : HAct).okA) (hN : N ≤ 90000) (hkd : xk % 10 = 4) :
    Calls Tryz.prog 19 #[.pointer (some ⟨p, 0, none⟩), rsV r a q, .agg #[.int .u8 xk, .int .i64 xg, .int .i64 xn, .string nm, .string key, .string val]] W (DoesOut base p N M W h ⟨xk, xg, xn, nm, key, val⟩) := by
  obtain ⟨⟨hk0, -⟩, hxg, hxn, hnm, hkey, hval⟩ := hx
  have hkt : xk.tmod 10 = 4 := by rw [Int.tmod_eq_emod_of_nonneg hk0]; exact hkd
  clear hk0
  simp only at hxg hxn hnm hkey hval
  have HSK := Lib.hid (fun (h' : HS) (e : ∀ k fs, h.view.sn k = some fs → ¬ ((4 : Int) = 6 ∧ xn = k) → h'.view.sn k = some fs) => (show SnKept ⟨xk, xg, xn, nm, key, val⟩ h h' from fun k fs e1 e2 => e k fs e1 (fun ee => e2 ⟨hkd.trans ee.1, ee.2⟩)))
  obtain ⟨aa, ca, rfl, hla, hma, hra⟩ := slice_form c.rat.ha
  obtain ⟨aq, cq, rfl, hlq, hmq, hrq⟩ := slice_form c.rat.hq
  have hca : ca ≤ 9223372036854775807 := by unfold maxLen at hma; exact hma
  have hcq : cq ≤ 9223372036854775807 := by unfold maxLen at hmq; exact hmq
  have HB := Lib.hid (show Below W.heap.size W (((W.alloc (.cells #[.int .i64 r.N, .int .i64 r.next, .slice aa r.es.length ca, .slice aq r.sn.length cq] 43)).alloc (.cells #[.int .u8 xk, .int .i64 xg, .int .i64 xn, .string nm, .string key, .string val] 49)).alloc rsZ) from (((Below.refl W.heap.size W).alloc (Nat.le_refl _) _).alloc (by simp) _).alloc (by simp; omega) _)
  have hY : ∀ (b : Nat) (o o' : Obj) (w : World), w.heap[b]? = some o → (w.alloc o').heap[b]? = some o := fun b o o' w e => (Below.heap_alloc _ _ _ (Array.getElem?_eq_some_iff.1 e).1).trans e
  have y4 : (((W.alloc (.cells #[.int .i64 r.N, .int .i64 r.next, .slice aa r.es.length ca, .slice aq r.sn.length cq] 43)).alloc (.cells #[.int .u8 xk, .int .i64 xg, .int .i64 xn, .string nm, .string key, .string val] 49)).alloc rsZ).heap[W.heap.size]? = some (.cells #[.int .i64 r.N, .int .i64 r.next, .slice aa r.es.length ca, .slice aq r.sn.length cq] 43 (0, 0)) := hY _ _ _ _ (hY _ _ _ _ (heap_alloc_new W _))
  have y5 : (((W.alloc (.cells #[.int .i64 r.N, .int .i64 r.next, .slice aa r.es.length ca, .slice aq r.sn.length cq] 43)).alloc (.cells #[.int .u8 xk, .int .i64 xg, .int .i64 xn, .string nm, .string key, .string val] 49)).alloc rsZ).heap[W.heap.size + 1]? = some (.cells #[.int .u8 xk, .int .i64 xg, .int .i64 xn, .string nm, .string key, .string val] 49 (0, 0)) := hY _ _ _ _ (by have h := heap_alloc_new (W.alloc (.cells #[.int .i64 r.N, .int .i64 r.next, .slice aa r.es.length ca, .slice aq r.sn.length cq] 43)) (.cells #[.int .u8 xk, .int .i64 xg, .int .i64 xn, .string nm, .string key, .string val] 49); rwa [World.size_alloc] at h)
  have yR : (((W.alloc (.cells #[.int .i64 r.N, .int .i64 r.next, .slice aa r.es.length ca, .slice aq r.sn.length cq] 43)).alloc (.cells #[.int .u8 xk, .int .i64 xg, .int .i64 xn, .string nm, .string key, .string val] 49)).alloc rsZ).heap[W.heap.size + 1 + 1]? = some rsZ := by have h := heap_alloc_new ((W.alloc (.cells #[.int .i64 r.N, .int .i64 r.next, .slice aa r.es.length ca, .slice aq r.sn.length cq] 43)).alloc (.cells #[.int .u8 xk, .int .i64 xg, .int .i64 xn, .string nm, .string key, .string val] 49)) rsZ; simpa only [World.size_alloc] using h
  obtain ⟨M1, hMid, hM1, hnew1, hrat⟩ := c.start HB.out (R := W.heap.size + 1 + 1) yR (by omega)
  have HRAT := Lib.hid hrat
  have HM1 := Lib.hid hM1
  have hbR : W.heap.size ≤ W.heap.size + 1 + 1 := by omega
  have hle := c.rel.le
  have h20 := c.rel.l20
  have HASC := Lib.hid c.rel.es.asc
  have hnn := c.nn
  have hlast := c.last
  have hn1 := c.n1
  have hn128 := c.n128
  have hlen := c.len
  have HC4 := Lib.hid (fun (wq : World) (hq : M1.le (mem wq)) => (show wq.cell? ⟨W.heap.size, 0, none⟩ = some (.int .i64 r.N) ∧ wq.cell? ⟨W.heap.size, 1, none⟩ = some (.int .i64 r.next) ∧ wq.cell? ⟨W.heap.size, 2, none⟩ = some (.slice aa r.es.length ca) ∧ wq.cell? ⟨W.heap.size, 3, none⟩ = some (.slice aq r.sn.length cq) from ⟨hq _ _ _ (hnew1 _ _ _ (Mem.on_some (mem_cells y4 0) ⟨by omega, by omega⟩)), hq _ _ _ (hnew1 _ _ _ (Mem.on_some (mem_cells y4 1) ⟨by omega, by omega⟩)), hq _ _ _ (hnew1 _ _ _ (Mem.on_some (mem_cells y4 2) ⟨by omega, by omega⟩)), hq _ _ _ (hnew1 _ _ _ (Mem.on_some (mem_cells y4 3) ⟨by omega, by omega⟩))⟩))
  have HC5 := Lib.hid (fun (wq : World) (hq : M1.le (mem wq)) => (show wq.cell? ⟨W.heap.size + 1, 0, none⟩ = some (.int .u8 xk) ∧ wq.cell? ⟨W.heap.size + 1, 1, none⟩ = some (.int .i64 xg) ∧ wq.cell? ⟨W.heap.size + 1, 2, none⟩ = some (.int .i64 xn) ∧ wq.cell? ⟨W.heap.size + 1, 3, none⟩ = some (.string nm) ∧ wq.cell? ⟨W.heap.size + 1, 4, none⟩ = some (.string key) ∧ wq.cell? ⟨W.heap.size + 1, 5, none⟩ = some (.string val) from ⟨hq _ _ _ (hnew1 _ _ _ (Mem.on_some (mem_cells y5 0) ⟨by omega, by omega⟩)), hq _ _ _ (hnew1 _ _ _ (Mem.on_some (mem_cells y5 1) ⟨by omega, by omega⟩)), hq _ _ _ (hnew1 _ _ _ (Mem.on_some (mem_cells y5 2) ⟨by omega, by omega⟩)), hq _ _ _ (hnew1 _ _ _ (Mem.on_some (mem_cells y5 3) ⟨by omega, by omega⟩)), hq _ _ _ (hnew1 _ _ _ (Mem.on_some (mem_cells y5 4) ⟨by omega, by omega⟩)), hq _ _ _ (hnew1 _ _ _ (Mem.on_some (mem_cells y5 5) ⟨by omega, by omega⟩))⟩))
  clear hY y4 y5 yR hnew1 hra hrq hma hmq hM1 hrat c
  go_enter Tryz.func19, Tryz.ntmps19
  go_upto_region 1 with fail
  generalize ((W.alloc (.cells #[.int .i64 r.N, .int .i64 r.next, .slice aa r.es.length ca, .slice aq r.sn.length cq] 43)).alloc (.cells #[.int .u8 xk, .int .i64 xg, .int .i64 xn, .string nm, .string key, .string val] 49)).alloc rsZ = Y at HB hMid ⊢
  have HMI := Lib.hid hMid
  obtain ⟨c0, c1, c2, c3⟩ := HC4.out Y hMid.le
  obtain ⟨d0, d1, d2, d3, d4, d5⟩ := HC5.out Y hMid.le
  clear hMid
  go_upto_region 2 with fail
  try rw [hkt]
  go_wp2_with fail
  refine (scan_any xg nm key val Y HMI.out.inv hxg hnm hkey hval (by omega) (by omega)).mono ?_
  rintro e w1 ⟨u, es, c, rfl, hown, hb1, hsc⟩
  have HMid2 := Lib.hid (HMI.out.pure0 hb1)
  have HU := Lib.hid (hown.rv')
  obtain ⟨au, cu, rfl, hmu⟩ := hown.len
  have hcu : es.length ≤ 9223372036854775807 := by unfold maxLen at hmu; exact hmu
  have HSC := Lib.hid hsc
  clear hsc hown hb1 hmu
  clear c0 c1 c2 c3 d0 d1 d2 d3 d4 d5
  obtain ⟨c0, c1, c2, c3⟩ := HC4.out w1 HMid2.out.le
  obtain ⟨d0, d1, d2, d3, d4, d5⟩ := HC5.out w1 HMid2.out.le
  go_wp2_with fail
  refine (refScan_any r _ _ w1 (HRAT.out.mono HMid2.out.le) hle xg nm key val hnm hkey hval).mono ?_
  rintro e w2 ⟨v2, es2, c2', rfl, hrv, hb2, hss⟩
  obtain ⟨rfl, rfl⟩ := scan_both HMI.out.rel hlen HSC.out hss
  have HMid3 := Lib.hid (HMid2.out.pure0 hb2)
  have HV := Lib.hid hrv
  have HU2 := Lib.hid (tEnts.mono _ _ _ _ (below_mem hb2) HU.out)
  obtain ⟨av, cv, rfl, -, hmv, -⟩ := slice_form hrv
  have hcv : cv ≤ 9223372036854775807 := by unfold maxLen at hmv; exact hmv
  clear hrv hmv hss hb2 HU HSC
  clear c0 c1 c2 c3 d0 d1 d2 d3 d4 d5
  have HMD := Lib.hid (HMid3.out.pure0 (Below.refl _ _).drew)
  have HSS := Lib.hid (fun (w' : World) (hq : M1.le (mem w')) => (show w'.cell? ⟨W.heap.size, 0, none⟩ = some (.int .i64 r.N) ∧ w'.cell? ⟨W.heap.size, 1, none⟩ = some (.int .i64 r.next) ∧ w'.cell? ⟨W.heap.size, 2, none⟩ = some (.slice aa r.es.length ca) ∧ w'.cell? ⟨W.heap.size, 3, none⟩ = some (.slice aq r.sn.length cq) from HC4.out w' hq))
  have HSR := Lib.hid (fun (N' : Nat) (h' : HS) (r' : RS) (wq : World) (hq : HMid base p N' M1 (W.heap.size + 1 + 1) (W, h, M) wq h' r') => (show ((((wq.setCell ⟨W.heap.size + 1 + 1, 0, none⟩ (.int .i64 r.N)).setCell ⟨W.heap.size + 1 + 1, 1, none⟩ (.int .i64 r.next)).setCell ⟨W.heap.size + 1 + 1, 2, none⟩ (.slice aa r.es.length ca)).setCell ⟨W.heap.size + 1 + 1, 3, none⟩ (.slice aq r.sn.length cq)).cell? ⟨W.heap.size, 0, none⟩ = some (.int .i64 r.N) ∧ ((((wq.setCell ⟨W.heap.size + 1 + 1, 0, none⟩ (.int .i64 r.N)).setCell ⟨W.heap.size + 1 + 1, 1, none⟩ (.int .i64 r.next)).setCell ⟨W.heap.size + 1 + 1, 2, none⟩ (.slice aa r.es.length ca)).setCell ⟨W.heap.size + 1 + 1, 3, none⟩ (.slice aq r.sn.length cq)).cell? ⟨W.heap.size, 1, none⟩ = some (.int .i64 r.next) ∧ ((((wq.setCell ⟨W.heap.size + 1 + 1, 0, none⟩ (.int .i64 r.N)).setCell ⟨W.heap.size + 1 + 1, 1, none⟩ (.int .i64 r.next)).setCell ⟨W.heap.size + 1 + 1, 2, none⟩ (.slice aa r.es.length ca)).setCell ⟨W.heap.size + 1 + 1, 3, none⟩ (.slice aq r.sn.length cq)).cell? ⟨W.heap.size, 2, none⟩ = some (.slice aa r.es.length ca) ∧ ((((wq.setCell ⟨W.heap.size + 1 + 1, 0, none⟩ (.int .i64 r.N)).setCell ⟨W.heap.size + 1 + 1, 1, none⟩ (.int .i64 r.next)).setCell ⟨W.heap.size + 1 + 1, 2, none⟩ (.slice aa r.es.length ca)).setCell ⟨W.heap.size + 1 + 1, 3, none⟩ (.slice aq r.sn.length cq)).cell? ⟨W.heap.size, 3, none⟩ = some (.slice aq r.sn.length cq) from HSS.out _ (hq.stored (store4_keeps wq (W.heap.size + 1 + 1) (.int .i64 r.N) (.int .i64 r.next) (.slice aa r.es.length ca) (.slice aq r.sn.length cq)))))
  have s0 := HSS.out w2.drew HMD.out.le
  have HSE := Lib.hid (sameEnts_any es _ _ w2.drew HU2.out HV.out)
  have hcc : (c == c) = true := by simp
  go_upto_region 19 with fail
  go_region_held3 (fun w' => w'.cell? ⟨W.heap.size, 0, none⟩ = some (.int .i64 r.N) ∧ w'.cell? ⟨W.heap.size, 1, none⟩ = some (.int .i64 r.next) ∧ w'.cell? ⟨W.heap.size, 2, none⟩ = some (.slice aa r.es.length ca) ∧ w'.cell? ⟨W.heap.size, 3, none⟩ = some (.slice aq r.sn.length cq)) (first | with_reducible exact s0 | with_reducible exact HSS.out w5 hm5 | with_reducible exact HSR.out _ _ _ w5 HMid5.out | go_keep)
    ((first
      | (go_at_call 10; refine HSE.out.mono ?_; rintro e w5 ⟨rfl, hb5⟩; have hMid5 := (HMD.out.pure0 hb5).more; have hm5 := hMid5.le; have HMid5 := Lib.hid hMid5; obtain ⟨z0, z1, z2, z3, zz⟩ := HMid5.out.res; have zz0 := zz 0; have zz1 := zz 1; have zz2 := zz 2; have zz3 := zz 3; clear zz; clear hMid5 hb5)))
  all_goals
    go_wp2
    have r1 := store4_block (HMid5.out.hR) (.int .i64 r.N) (.int .i64 r.next) (.slice aa r.es.length ca) (.slice aq r.sn.length cq)
    have hk := store4_keeps (w5) (W.heap.size + 1 + 1) (.int .i64 r.N) (.int .i64 r.next) (.slice aa r.es.length ca) (.slice aq r.sn.length cq)
    show bodyPost _ _ _ _ _ (store4 (w5) (W.heap.size + 1 + 1) (.int .i64 r.N) (.int .i64 r.next) (.slice aa r.es.length ca) (.slice aq r.sn.length cq))
    generalize store4 (w5) (W.heap.size + 1 + 1) (.int .i64 r.N) (.int .i64 r.next) (.slice aa r.es.length ca) (.slice aq r.sn.length cq) = wz at r1 hk ⊢
    have g0 : wz.cell? ⟨W.heap.size + 1 + 1, 0, none⟩ = some (.int .i64 r.N) := mem_cells r1 0
    have g1 : wz.cell? ⟨W.heap.size + 1 + 1, 1, none⟩ = some (.int .i64 r.next) := mem_cells r1 1
    have g2 : wz.cell? ⟨W.heap.size + 1 + 1, 2, none⟩ = some (.slice aa r.es.length ca) := mem_cells r1 2
    have g3 : wz.cell? ⟨W.heap.size + 1 + 1, 3, none⟩ = some (.slice aq r.sn.length cq) := mem_cells r1 3
    refine bodyPost_ret (v := .tuple #[.agg #[.int .i64 r.N, .int .i64 r.next, .slice aa r.es.length ca, .slice aq r.sn.length cq], .bool true]) (by simp [results, Tryz.results19, go_sem, g0, g1, g2, g3]) rfl ?_
    have hf := HMid5.out.finish hk hbR HRAT.out
    exact ⟨h, r, _, _, M1, rfl, hf.1, HM1.out, hf.2, HSK.out h (fun k fs e1 _ => e1)⟩
end Go.Proofs.YtbmpoecmjmmngaaGreat
/- does: snapshot. -/
namespace Go.Proofs.YtbmpoecmjmmngaaGreat
open Go.RowKit Go.Maps
set_option maxRecDepth 100000 in
set_option maxHeartbeats 16000000 in
theorem does_snapshot (base p N : Nat) (M : Mem) (W : World) (h : HS) (r : RS) (a q : Value) (xk xg xn : Int) (nm key val : ByteArray) (c : HRun base p N M W h r a q) (hx : (⟨xk, xg, xn, nm, key, val⟩ : HAct).okA) (hN : N ≤ 90000) (hkd : xk % 10 = 5) :
    Calls Tryz.prog 19 #[.pointer (some ⟨p, 0, none⟩), rsV r a q, .agg #[.int .u8 xk, .int .i64 xg, .int .i64 xn, .string nm, .string key, .string val]] W (DoesOut base p N M W h ⟨xk, xg, xn, nm, key, val⟩) := by
  obtain ⟨⟨hk0, -⟩, hxg, hxn, hnm, hkey, hval⟩ := hx
  have hkt : xk.tmod 10 = 5 := by rw [Int.tmod_eq_emod_of_nonneg hk0]; exact hkd
  clear hk0
  simp only at hxg hxn hnm hkey hval
  have HSK := Lib.hid (fun (h' : HS) (e : ∀ k fs, h.view.sn k = some fs → ¬ ((5 : Int) = 6 ∧ xn = k) → h'.view.sn k = some fs) => (show SnKept ⟨xk, xg, xn, nm, key, val⟩ h h' from fun k fs e1 e2 => e k fs e1 (fun ee => e2 ⟨hkd.trans ee.1, ee.2⟩)))
  obtain ⟨aa, ca, rfl, hla, hma, hra⟩ := slice_form c.rat.ha
  obtain ⟨aq, cq, rfl, hlq, hmq, hrq⟩ := slice_form c.rat.hq
  have hca : ca ≤ 9223372036854775807 := by unfold maxLen at hma; exact hma
  have hcq : cq ≤ 9223372036854775807 := by unfold maxLen at hmq; exact hmq
  have HB := Lib.hid (show Below W.heap.size W (((W.alloc (.cells #[.int .i64 r.N, .int .i64 r.next, .slice aa r.es.length ca, .slice aq r.sn.length cq] 43)).alloc (.cells #[.int .u8 xk, .int .i64 xg, .int .i64 xn, .string nm, .string key, .string val] 49)).alloc rsZ) from (((Below.refl W.heap.size W).alloc (Nat.le_refl _) _).alloc (by simp) _).alloc (by simp; omega) _)
  have hY : ∀ (b : Nat) (o o' : Obj) (w : World), w.heap[b]? = some o → (w.alloc o').heap[b]? = some o := fun b o o' w e => (Below.heap_alloc _ _ _ (Array.getElem?_eq_some_iff.1 e).1).trans e
  have y4 : (((W.alloc (.cells #[.int .i64 r.N, .int .i64 r.next, .slice aa r.es.length ca, .slice aq r.sn.length cq] 43)).alloc (.cells #[.int .u8 xk, .int .i64 xg, .int .i64 xn, .string nm, .string key, .string val] 49)).alloc rsZ).heap[W.heap.size]? = some (.cells #[.int .i64 r.N, .int .i64 r.next, .slice aa r.es.length ca, .slice aq r.sn.length cq] 43 (0, 0)) := hY _ _ _ _ (hY _ _ _ _ (heap_alloc_new W _))
  have y5 : (((W.alloc (.cells #[.int .i64 r.N, .int .i64 r.next, .slice aa r.es.length ca, .slice aq r.sn.length cq] 43)).alloc (.cells #[.int .u8 xk, .int .i64 xg, .int .i64 xn, .string nm, .string key, .string val] 49)).alloc rsZ).heap[W.heap.size + 1]? = some (.cells #[.int .u8 xk, .int .i64 xg, .int .i64 xn, .string nm, .string key, .string val] 49 (0, 0)) := hY _ _ _ _ (by have h := heap_alloc_new (W.alloc (.cells #[.int .i64 r.N, .int .i64 r.next, .slice aa r.es.length ca, .slice aq r.sn.length cq] 43)) (.cells #[.int .u8 xk, .int .i64 xg, .int .i64 xn, .string nm, .string key, .string val] 49); rwa [World.size_alloc] at h)
  have yR : (((W.alloc (.cells #[.int .i64 r.N, .int .i64 r.next, .slice aa r.es.length ca, .slice aq r.sn.length cq] 43)).alloc (.cells #[.int .u8 xk, .int .i64 xg, .int .i64 xn, .string nm, .string key, .string val] 49)).alloc rsZ).heap[W.heap.size + 1 + 1]? = some rsZ := by have h := heap_alloc_new ((W.alloc (.cells #[.int .i64 r.N, .int .i64 r.next, .slice aa r.es.length ca, .slice aq r.sn.length cq] 43)).alloc (.cells #[.int .u8 xk, .int .i64 xg, .int .i64 xn, .string nm, .string key, .string val] 49)) rsZ; simpa only [World.size_alloc] using h
  obtain ⟨M1, hMid, hM1, hnew1, hrat⟩ := c.start HB.out (R := W.heap.size + 1 + 1) yR (by omega)
  have HRAT := Lib.hid hrat
  have HM1 := Lib.hid hM1
  have hbR : W.heap.size ≤ W.heap.size + 1 + 1 := by omega
  have hle := c.rel.le
  have h20 := c.rel.l20
  have HASC := Lib.hid c.rel.es.asc
  have hnn := c.nn
  have hlast := c.last
  have hn1 := c.n1
  have hn128 := c.n128
  have hlen := c.len
  have HC4 := Lib.hid (fun (wq : World) (hq : M1.le (mem wq)) => (show wq.cell? ⟨W.heap.size, 0, none⟩ = some (.int .i64 r.N) ∧ wq.cell? ⟨W.heap.size, 1, none⟩ = some (.int .i64 r.next) ∧ wq.cell? ⟨W.heap.size, 2, none⟩ = some (.slice aa r.es.length ca) ∧ wq.cell? ⟨W.heap.size, 3, none⟩ = some (.slice aq r.sn.length cq) from ⟨hq _ _ _ (hnew1 _ _ _ (Mem.on_some (mem_cells y4 0) ⟨by omega, by omega⟩)), hq _ _ _ (hnew1 _ _ _ (Mem.on_some (mem_cells y4 1) ⟨by omega, by omega⟩)), hq _ _ _ (hnew1 _ _ _ (Mem.on_some (mem_cells y4 2) ⟨by omega, by omega⟩)), hq _ _ _ (hnew1 _ _ _ (Mem.on_some (mem_cells y4 3) ⟨by omega, by omega⟩))⟩))
  have HC5 := Lib.hid (fun (wq : World) (hq : M1.le (mem wq)) => (show wq.cell? ⟨W.heap.size + 1, 0, none⟩ = some (.int .u8 xk) ∧ wq.cell? ⟨W.heap.size + 1, 1, none⟩ = some (.int .i64 xg) ∧ wq.cell? ⟨W.heap.size + 1, 2, none⟩ = some (.int .i64 xn) ∧ wq.cell? ⟨W.heap.size + 1, 3, none⟩ = some (.string nm) ∧ wq.cell? ⟨W.heap.size + 1, 4, none⟩ = some (.string key) ∧ wq.cell? ⟨W.heap.size + 1, 5, none⟩ = some (.string val) from ⟨hq _ _ _ (hnew1 _ _ _ (Mem.on_some (mem_cells y5 0) ⟨by omega, by omega⟩)), hq _ _ _ (hnew1 _ _ _ (Mem.on_some (mem_cells y5 1) ⟨by omega, by omega⟩)), hq _ _ _ (hnew1 _ _ _ (Mem.on_some (mem_cells y5 2) ⟨by omega, by omega⟩)), hq _ _ _ (hnew1 _ _ _ (Mem.on_some (mem_cells y5 3) ⟨by omega, by omega⟩)), hq _ _ _ (hnew1 _ _ _ (Mem.on_some (mem_cells y5 4) ⟨by omega, by omega⟩)), hq _ _ _ (hnew1 _ _ _ (Mem.on_some (mem_cells y5 5) ⟨by omega, by omega⟩))⟩))
  clear hY y4 y5 yR hnew1 hra hrq hma hmq hM1 hrat c
  go_enter Tryz.func19, Tryz.ntmps19
  go_upto_region 1 with fail
  generalize ((W.alloc (.cells #[.int .i64 r.N, .int .i64 r.next, .slice aa r.es.length ca, .slice aq r.sn.length cq] 43)).alloc (.cells #[.int .u8 xk, .int .i64 xg, .int .i64 xn, .string nm, .string key, .string val] 49)).alloc rsZ = Y at HB hMid ⊢
  have HMI := Lib.hid hMid
  obtain ⟨c0, c1, c2, c3⟩ := HC4.out Y hMid.le
  obtain ⟨d0, d1, d2, d3, d4, d5⟩ := HC5.out Y hMid.le
  clear hMid
  go_upto_region 2 with fail
  try rw [hkt]
  have hnx : r.next = h.last + 1 := HMI.out.rel.nx
  have hpos : 0 ≤ h.last := HMI.out.rel.pos
  have hkl : (r.sn.map Prod.fst).length = r.sn.length := List.length_map ..
  have HNX := Lib.hid hnx
  have HKL := Lib.hid hkl
  have HPOS := Lib.hid hpos
  have hnr0 : 0 ≤ r.next := by omega
  have hnr1 : r.next ≤ 1000000 := by omega
  clear hnx hkl hpos
  have HKY := Lib.hid HMI.out.rel.keys
  by_cases h20e : r.sn.length = 20
  · have H20E := Lib.hid h20e
    clear h20e
    go_wp2_with fail
    refine (snapshot_full (r.sn.map Prod.fst) Y HMI.out.inv HKY.out (HKL.out.trans H20E.out)).mono ?_
    rintro e w1 ⟨rfl, rfl⟩
    have HMid2 := HMI
    go_wp2_with fail
    refine (refSnapshot_any r _ _ M1 w1 HMid2.out.le HRAT.out hle h20 hnr0 hnr1).mono ?_
    rintro e w2 ⟨r2, a', q', n2, c2', hss, hb2, rfl, hr1⟩
    rcases hss with ⟨-, rfl, rfl, rfl⟩ | ⟨hs, _⟩
    case inr => exact absurd H20E.out hs
    obtain ⟨a2, k2, rfl, hl2, hm2, -⟩ := slice_form hr1.ha
    obtain ⟨q2, kq2, rfl, hl3, hm3, -⟩ := slice_form hr1.hq
    have hk2 : k2 ≤ 9223372036854775807 := by unfold maxLen at hm2; exact hm2
    have hk3 : kq2 ≤ 9223372036854775807 := by unfold maxLen at hm3; exact hm3
    clear hm2 hm3
    have hbA := hb2.alloc hb2.size (.cells #[.int .i64 r2.N, .int .i64 r2.next, .slice a2 r2.es.length k2, .slice q2 r2.sn.length kq2] 43)
    have HMid3 := Lib.hid (HMid2.out.grow hbA)
    have HM3 := Lib.hid (joinM_le (W' := w2.alloc (.cells #[.int .i64 r2.N, .int .i64 r2.next, .slice a2 r2.es.length k2, .slice q2 r2.sn.length kq2] 43)) HMid2.out.le)
    have HJ3 := Lib.hid (show (joinM M1 w1 w2).le (joinM M1 w1 (w2.alloc (.cells #[.int .i64 r2.N, .int .i64 r2.next, .slice a2 r2.es.length k2, .slice q2 r2.sn.length kq2] 43))) from joinM_mono ((Below.refl _ _).alloc (Nat.le_refl _) _))
    have HC8 := Lib.hid (fun (wq : World) (hq : (joinM M1 w1 (w2.alloc (.cells #[.int .i64 r2.N, .int .i64 r2.next, .slice a2 r2.es.length k2, .slice q2 r2.sn.length kq2] 43))).le (mem wq)) => (show wq.cell? ⟨w2.heap.size, 0, none⟩ = some (.int .i64 r2.N) ∧ wq.cell? ⟨w2.heap.size, 1, none⟩ = some (.int .i64 r2.next) ∧ wq.cell? ⟨w2.heap.size, 2, none⟩ = some (.slice a2 r2.es.length k2) ∧ wq.cell? ⟨w2.heap.size, 3, none⟩ = some (.slice q2 r2.sn.length kq2) from ⟨hq _ _ _ (joinM_new _ _ _ (Mem.on_some (cell_new 0 rfl) hb2.size)), hq _ _ _ (joinM_new _ _ _ (Mem.on_some (cell_new 1 rfl) hb2.size)), hq _ _ _ (joinM_new _ _ _ (Mem.on_some (cell_new 2 rfl) hb2.size)), hq _ _ _ (joinM_new _ _ _ (Mem.on_some (cell_new 3 rfl) hb2.size))⟩))
    have HRF2 := Lib.hid (hr1.mono HJ3.out)
    clear hbA hb2 hr1 HJ3
    clear c0 c1 c2 c3 d0 d1 d2 d3 d4 d5
    go_upto_region 23 with fail
    generalize w2.alloc (.cells #[.int .i64 r2.N, .int .i64 r2.next, .slice a2 r2.es.length k2, .slice q2 r2.sn.length kq2] 43) = X at *
    generalize w2.heap.size = nb at *
    generalize joinM M1 w1 X = M2 at *
    have HMid5 := Lib.hid (HMid3.out.more)
    obtain ⟨e0, e1, e2, e3⟩ := HC8.out X HMid5.out.le
    obtain ⟨z0, z1, z2, z3, zz⟩ := HMid5.out.res; have zz0 := zz 0; have zz1 := zz 1; have zz2 := zz 2; have zz3 := zz 3; clear zz
    go_wp2
    have r1 := store4_block (HMid5.out.hR) (.int .i64 r2.N) (.int .i64 r2.next) (.slice a2 r2.es.length k2) (.slice q2 r2.sn.length kq2)
    have hk := store4_keeps (X) (W.heap.size + 1 + 1) (.int .i64 r2.N) (.int .i64 r2.next) (.slice a2 r2.es.length k2) (.slice q2 r2.sn.length kq2)
    show bodyPost _ _ _ _ _ (store4 (X) (W.heap.size + 1 + 1) (.int .i64 r2.N) (.int .i64 r2.next) (.slice a2 r2.es.length k2) (.slice q2 r2.sn.length kq2))
    generalize store4 (X) (W.heap.size + 1 + 1) (.int .i64 r2.N) (.int .i64 r2.next) (.slice a2 r2.es.length k2) (.slice q2 r2.sn.length kq2) = wz at r1 hk ⊢
    have g0 : wz.cell? ⟨W.heap.size + 1 + 1, 0, none⟩ = some (.int .i64 r2.N) := mem_cells r1 0
    have g1 : wz.cell? ⟨W.heap.size + 1 + 1, 1, none⟩ = some (.int .i64 r2.next) := mem_cells r1 1
    have g2 : wz.cell? ⟨W.heap.size + 1 + 1, 2, none⟩ = some (.slice a2 r2.es.length k2) := mem_cells r1 2
    have g3 : wz.cell? ⟨W.heap.size + 1 + 1, 3, none⟩ = some (.slice q2 r2.sn.length kq2) := mem_cells r1 3
    refine bodyPost_ret (v := .tuple #[.agg #[.int .i64 r2.N, .int .i64 r2.next, .slice a2 r2.es.length k2, .slice q2 r2.sn.length kq2], .bool true]) (by simp [results, Tryz.results19, go_sem, g0, g1, g2, g3]) rfl ?_
    have hf := HMid5.out.finish hk hbR HRF2.out
    exact ⟨h, r2, _, _, M2, rfl, hf.1, Mem.le_trans HM1.out HM3.out, hf.2, HSK.out h (fun k fs e1 _ => e1)⟩
  · have H20E := Lib.hid h20e
    clear h20e
    go_wp2_with fail
    refine (snapshot_any (r.sn.map Prod.fst) Y HMI.out.inv HKY.out (fun e => H20E.out (HKL.out.symm.trans e)) HPOS.out (by omega) (by omega) (by omega)).mono ?_
    rintro e w1 ⟨rfl, h5, st, hvw, hn5, hc5, -⟩
    have HL5 := Lib.hid (show h5.last = h.last + 1 from congrArg PS.last hvw)
    have HSN := Lib.hid (show h5.view.sn = putAt h.view.sn (h.last + 1) h.view.grps from congrArg PS.sn hvw)
    have HLT := Lib.hid HMI.out.rel.lt
    have HKS := Lib.hid HMI.out.rel.ks
    have HMid2 := Lib.hid (HMI.out.step (r' := snapR r) st (by rw [hvw]; exact HMI.out.rel.snap H20E.out) rfl (by omega) (by have := HL5.out; omega))
    clear st hvw hn5 hc5
    clear c0 c1 c2 c3 d0 d1 d2 d3 d4 d5
    obtain ⟨c0, c1, c2, c3⟩ := HC4.out w1 HMid2.out.le
    obtain ⟨d0, d1, d2, d3, d4, d5⟩ := HC5.out w1 HMid2.out.le
    go_wp2_with fail
    refine (refSnapshot_any r _ _ M1 w1 HMid2.out.le HRAT.out hle h20 hnr0 hnr1).mono ?_
    rintro e w2 ⟨r2, a', q', n2, c2', hss, hb2, rfl, hr1⟩
    rcases hss with ⟨hs, _⟩ | ⟨-, rfl, rfl, rfl⟩
    case inl => exact absurd hs H20E.out
    generalize snapR r = r2 at *
    have hnn' : (h.last + 1 == r.next) = true := by rw [HNX.out]; simp
    obtain ⟨a2, k2, rfl, hl2, hm2, -⟩ := slice_form hr1.ha
    obtain ⟨q2, kq2, rfl, hl3, hm3, -⟩ := slice_form hr1.hq
    have hk2 : k2 ≤ 9223372036854775807 := by unfold maxLen at hm2; exact hm2
    have hk3 : kq2 ≤ 9223372036854775807 := by unfold maxLen at hm3; exact hm3
    clear hm2 hm3
    have hbA := hb2.alloc hb2.size (.cells #[.int .i64 r2.N, .int .i64 r2.next, .slice a2 r2.es.length k2, .slice q2 r2.sn.length kq2] 43)
    have HMid3 := Lib.hid (HMid2.out.grow hbA)
    have HM3 := Lib.hid (joinM_le (W' := w2.alloc (.cells #[.int .i64 r2.N, .int .i64 r2.next, .slice a2 r2.es.length k2, .slice q2 r2.sn.length kq2] 43)) HMid2.out.le)
    have HJ3 := Lib.hid (show (joinM M1 w1 w2).le (joinM M1 w1 (w2.alloc (.cells #[.int .i64 r2.N, .int .i64 r2.next, .slice a2 r2.es.length k2, .slice q2 r2.sn.length kq2] 43))) from joinM_mono ((Below.refl _ _).alloc (Nat.le_refl _) _))
    have HC8 := Lib.hid (fun (wq : World) (hq : (joinM M1 w1 (w2.alloc (.cells #[.int .i64 r2.N, .int .i64 r2.next, .slice a2 r2.es.length k2, .slice q2 r2.sn.length kq2] 43))).le (mem wq)) => (show wq.cell? ⟨w2.heap.size, 0, none⟩ = some (.int .i64 r2.N) ∧ wq.cell? ⟨w2.heap.size, 1, none⟩ = some (.int .i64 r2.next) ∧ wq.cell? ⟨w2.heap.size, 2, none⟩ = some (.slice a2 r2.es.length k2) ∧ wq.cell? ⟨w2.heap.size, 3, none⟩ = some (.slice q2 r2.sn.length kq2) from ⟨hq _ _ _ (joinM_new _ _ _ (Mem.on_some (cell_new 0 rfl) hb2.size)), hq _ _ _ (joinM_new _ _ _ (Mem.on_some (cell_new 1 rfl) hb2.size)), hq _ _ _ (joinM_new _ _ _ (Mem.on_some (cell_new 2 rfl) hb2.size)), hq _ _ _ (joinM_new _ _ _ (Mem.on_some (cell_new 3 rfl) hb2.size))⟩))
    have HRF2 := Lib.hid (hr1.mono HJ3.out)
    clear hbA hb2 hr1 HJ3
    clear c0 c1 c2 c3 d0 d1 d2 d3 d4 d5
    go_upto_region 23 with fail
    generalize w2.alloc (.cells #[.int .i64 r2.N, .int .i64 r2.next, .slice a2 r2.es.length k2, .slice q2 r2.sn.length kq2] 43) = X at *
    generalize w2.heap.size = nb at *
    generalize joinM M1 w1 X = M2 at *
    have HMid5 := Lib.hid (HMid3.out.again)
    obtain ⟨e0, e1, e2, e3⟩ := HC8.out X HMid5.out.le
    obtain ⟨z0, z1, z2, z3, zz⟩ := HMid5.out.res; have zz0 := zz 0; have zz1 := zz 1; have zz2 := zz 2; have zz3 := zz 3; clear zz
    go_wp2
    have r1 := store4_block (HMid5.out.hR) (.int .i64 r2.N) (.int .i64 r2.next) (.slice a2 r2.es.length k2) (.slice q2 r2.sn.length kq2)
    have hk := store4_keeps (X) (W.heap.size + 1 + 1) (.int .i64 r2.N) (.int .i64 r2.next) (.slice a2 r2.es.length k2) (.slice q2 r2.sn.length kq2)
    show bodyPost _ _ _ _ _ (store4 (X) (W.heap.size + 1 + 1) (.int .i64 r2.N) (.int .i64 r2.next) (.slice a2 r2.es.length k2) (.slice q2 r2.sn.length kq2))
    generalize store4 (X) (W.heap.size + 1 + 1) (.int .i64 r2.N) (.int .i64 r2.next) (.slice a2 r2.es.length k2) (.slice q2 r2.sn.length kq2) = wz at r1 hk ⊢
    have g0 : wz.cell? ⟨W.heap.size + 1 + 1, 0, none⟩ = some (.int .i64 r2.N) := mem_cells r1 0
    have g1 : wz.cell? ⟨W.heap.size + 1 + 1, 1, none⟩ = some (.int .i64 r2.next) := mem_cells r1 1
    have g2 : wz.cell? ⟨W.heap.size + 1 + 1, 2, none⟩ = some (.slice a2 r2.es.length k2) := mem_cells r1 2
    have g3 : wz.cell? ⟨W.heap.size + 1 + 1, 3, none⟩ = some (.slice q2 r2.sn.length kq2) := mem_cells r1 3
    refine bodyPost_ret (v := .tuple #[.agg #[.int .i64 r2.N, .int .i64 r2.next, .slice a2 r2.es.length k2, .slice q2 r2.sn.length kq2], .bool true]) (by simp [results, Tryz.results19, go_sem, g0, g1, g2, g3]) rfl ?_
    have hf := HMid5.out.finish hk hbR HRF2.out
    exact ⟨h5, r2, _, _, M2, rfl, hf.1, Mem.le_trans HM1.out HM3.out, hf.2, HSK.out h5 (fun k fs e1 _ => by
      rw [HSN.out, putAt_other _ _ (fun e => by have := ((HLT.out k ((HKS.out k).1 (by rw [e1]; rfl))).2); have : h.view.last = h.last := rfl; omega)]; exact e1)⟩
end Go.Proofs.YtbmpoecmjmmngaaGreat
/- The reference's Drop. -/
namespace Go.Proofs.YtbmpoecmjmmngaaGreat
open Go.RowKit Go.Maps

def DropSays (r r' : RS) (k c : Int) : Prop := (k ∉ r.sn.map Prod.fst ∧ r' = r ∧ c = 8) ∨ (∃ (i : Nat) (es : List Ent), r.sn[i]? = some (k, es) ∧ r' = { r with sn := r.sn.take i ++ r.sn.drop (i + 1) } ∧ c = 0)
set_option maxRecDepth 100000 in
set_option maxHeartbeats 16000000 in
theorem refDrop_any (r : RS) (a q : Value) (M : Mem) (W : World) (hM : M.le (mem W)) (h : RsAt M r a q) (hl : r.es.length ≤ 4000) (hs : r.sn.length ≤ 20) (k : Int) :
    Calls Tryz.prog 47 #[rsV r a q, .int .i64 k] W fun e W' => ∃ r' a' q' c, DropSays r r' k c ∧ Below W.heap.size W W' ∧ e = .returned (.tuple #[rsV r' a' q', .int .i64 c]) ∧ RsAt (joinM M W W') r' a' q' := by
  have HM := Lib.hid hM
  have HRS := Lib.hid h
  obtain ⟨aa, ca, rfl, hla, hma, hra⟩ := slice_form h.ha
  obtain ⟨aq, cq, rfl, hlq, hmq, hrq⟩ := slice_form h.hq
  have hca : ca ≤ 9223372036854775807 := by unfold maxLen at hma; exact hma
  have hcq : cq ≤ 9223372036854775807 := by unfold maxLen at hmq; exact hmq
  have HA := Lib.hid (fun w' (hb : Below W.heap.size W w') => tEnts.mono _ _ _ _ (Mem.le_trans hM (below_mem hb)) hra)
  have HF0 := Lib.hid (Fr.start W (.int .i64 r.N) (.int .i64 r.next) (.slice aa r.es.length ca) (.slice aq r.sn.length cq))
  have HFI := Lib.hid (fun (w : World) (hb : Below W.heap.size W w) => refFind_any r _ _ w (h.mono (Mem.le_trans hM (below_mem hb))) k)
  have HQ := Lib.hid hrq
  clear hma hmq hra hrq h hM
  go_enter Tryz.func47, Tryz.ntmps47
  go_wp2_with fail
  refine (HFI.out _ HF0.out.bl).mono ?_
  rintro e w1 ⟨i, rfl, hf, hb1⟩
  have HF1 := Lib.hid (HF0.out.pure hb1)
  clear hb1 HFI HF0
  rcases hf with ⟨i, es, hj, rfl⟩ | ⟨hn, rfl⟩
  case inr =>
    have HN := Lib.hid hn
    clear hn
    have c0 : w1.cell? ⟨W.heap.size, 0, none⟩ = some (.int .i64 r.N) := HF1.out.cells.1
    have c1 : w1.cell? ⟨W.heap.size, 1, none⟩ = some (.int .i64 r.next) := HF1.out.cells.2.1
    have c2 : w1.cell? ⟨W.heap.size, 2, none⟩ = some (.slice aa r.es.length ca) := HF1.out.cells.2.2.1
    have c3 : w1.cell? ⟨W.heap.size, 3, none⟩ = some (.slice aq r.sn.length cq) := HF1.out.cells.2.2.2
    have cz : ∀ o, w1.frozen? ⟨W.heap.size, o, none⟩ = false := HF1.out.thaw
    have d0 : w1.cell? ⟨W.heap.size + 1, 0, none⟩ = some (.int .i64 0) := HF1.out.res.1
    have d1 : w1.cell? ⟨W.heap.size + 1, 1, none⟩ = some (.int .i64 0) := HF1.out.res.2.1
    have d2 : w1.cell? ⟨W.heap.size + 1, 2, none⟩ = some (.slice none 0 0) := HF1.out.res.2.2.1
    have d3 : w1.cell? ⟨W.heap.size + 1, 3, none⟩ = some (.slice none 0 0) := HF1.out.res.2.2.2.1
    have dz : ∀ o, w1.frozen? ⟨W.heap.size + 1, o, none⟩ = false := HF1.out.res.2.2.2.2
    go_wp2
    have r1 := store4_block HF1.out.rs (.int .i64 r.N) (.int .i64 r.next) (.slice aa r.es.length ca) (.slice aq r.sn.length cq)
    have hBz := store4_below HF1.out.bl (Nat.le_succ _) (.int .i64 r.N) (.int .i64 r.next) (.slice aa r.es.length ca) (.slice aq r.sn.length cq)
    have hnz : (nw W w1).le (nw W (store4 w1 (W.heap.size + 1) (.int .i64 r.N) (.int .i64 r.next) (.slice aa r.es.length ca) (.slice aq r.sn.length cq))) := nw_store4 (.int .i64 r.N) (.int .i64 r.next) (.slice aa r.es.length ca) (.slice aq r.sn.length cq)
    show bodyPost _ _ _ _ _ (store4 w1 (W.heap.size + 1) (.int .i64 r.N) (.int .i64 r.next) (.slice aa r.es.length ca) (.slice aq r.sn.length cq))
    generalize store4 w1 (W.heap.size + 1) (.int .i64 r.N) (.int .i64 r.next) (.slice aa r.es.length ca) (.slice aq r.sn.length cq) = wz at r1 hBz hnz ⊢
    have g0 : wz.cell? ⟨W.heap.size + 1, 0, none⟩ = some (.int .i64 r.N) := mem_cells r1 0
    have g1 : wz.cell? ⟨W.heap.size + 1, 1, none⟩ = some (.int .i64 r.next) := mem_cells r1 1
    have g2 : wz.cell? ⟨W.heap.size + 1, 2, none⟩ = some (.slice aa r.es.length ca) := mem_cells r1 2
    have g3 : wz.cell? ⟨W.heap.size + 1, 3, none⟩ = some (.slice aq r.sn.length cq) := mem_cells r1 3
    exact bodyPost_ret (v := .tuple #[.agg #[.int .i64 r.N, .int .i64 r.next, .slice aa r.es.length ca, .slice aq r.sn.length cq], .int .i64 8]) (by simp [results, Tryz.results47, go_sem, g0, g1, g2, g3]) rfl ⟨r, _, _, 8, .inl ⟨HN.out, rfl, rfl⟩, hBz, rfl, HRS.out.mono (joinM_le HM.out)⟩
  have HJ := Lib.hid hj
  obtain ⟨hil, -⟩ := List.getElem?_eq_some_iff.1 hj
  clear hj
  have HB1 := Lib.hid HF1.out.bl
  have hz1 := HF1.out.sz
  obtain ⟨a1, c1', hlo, hr1⟩ := cut_lo (t := tIn M tSn) (slice_to HQ.out (Mem.le_refl M)) (n := i) (by omega) Tryz.underlying41 snSize
  obtain ⟨a2, c2', hhi, hr2⟩ := cut_hi (t := tIn M tSn) (slice_to HQ.out (Mem.le_refl M)) (n := i + 1) (by omega) Tryz.underlying41 snSize
  have hhi' : ∀ w2, (Instr.slice 41 (.slice aq r.sn.length cq) (some (.int .i64 ((i : Int) + 1))) none none).run Tryz.prog w2 = .ok (.slice a2 (r.sn.length - (i + 1)) c2') w2 := hhi
  have hw1 : IntKind.i64.wrap ((i : Int) + 1) = (i : Int) + 1 := IntWalk.i64_in _ (by omega)
  have HR1 := Lib.hid (fun w' (hb : Below w1.heap.size w1 w') => (tSlice (tIn M tSn)).mono _ _ _ _ (Mem.le_trans HM.out (below_mem (HB1.out.trans (hb.mono HB1.out.size)))) hr1)
  have HR2 := Lib.hid (fun w' (hb : Below w1.heap.size w1 w') => (tSlice (tIn M tSn)).mono _ _ _ _ (Mem.le_trans HM.out (below_mem (HB1.out.trans (hb.mono HB1.out.size)))) hr2)
  have HL1 := Lib.hid (show i = (r.sn.take i).length by rw [List.length_take]; omega)
  have HL2 := Lib.hid (show r.sn.length - (i + 1) = (r.sn.drop (i + 1)).length by rw [List.length_drop])
  have HA1 := Lib.hid (show ([] : List (Int × List Ent)).length + (r.sn.take i).length ≤ maxLen by rw [← HL1.out]; unfold maxLen; simp; omega)
  have HA2 := Lib.hid (show (([] : List (Int × List Ent)).length + (r.sn.take i).length) * 32 ≤ 140737488355328 by rw [← HL1.out]; simp; omega)
  have HA3 := Lib.hid (show ([] ++ r.sn.take i).length + (r.sn.drop (i + 1)).length ≤ maxLen by rw [← HL2.out, List.nil_append, ← HL1.out]; unfold maxLen; omega)
  have HA4 := Lib.hid (show (([] ++ r.sn.take i).length + (r.sn.drop (i + 1)).length) * 32 ≤ 140737488355328 by rw [← HL2.out, List.nil_append, ← HL1.out]; omega)
  clear hhi hr1 hr2
  have c0 : w1.cell? ⟨W.heap.size, 0, none⟩ = some (.int .i64 r.N) := HF1.out.cells.1
  have c1 : w1.cell? ⟨W.heap.size, 1, none⟩ = some (.int .i64 r.next) := HF1.out.cells.2.1
  have c2 : w1.cell? ⟨W.heap.size, 2, none⟩ = some (.slice aa r.es.length ca) := HF1.out.cells.2.2.1
  have c3 : w1.cell? ⟨W.heap.size, 3, none⟩ = some (.slice aq r.sn.length cq) := HF1.out.cells.2.2.2
  have cz : ∀ o, w1.frozen? ⟨W.heap.size, o, none⟩ = false := HF1.out.thaw
  have d0 : w1.cell? ⟨W.heap.size + 1, 0, none⟩ = some (.int .i64 0) := HF1.out.res.1
  have d1 : w1.cell? ⟨W.heap.size + 1, 1, none⟩ = some (.int .i64 0) := HF1.out.res.2.1
  have d2 : w1.cell? ⟨W.heap.size + 1, 2, none⟩ = some (.slice none 0 0) := HF1.out.res.2.2.1
  have d3 : w1.cell? ⟨W.heap.size + 1, 3, none⟩ = some (.slice none 0 0) := HF1.out.res.2.2.2.1
  have dz : ∀ o, w1.frozen? ⟨W.heap.size + 1, o, none⟩ = false := HF1.out.res.2.2.2.2
  have HBa := Lib.hid (show Below w1.heap.size w1 (w1.alloc (.cells #[] 127)).drew from ((Below.refl _ _).alloc (Nat.le_refl _) _).drew)
  have HLa := Lib.hid (show OwnsO (tIn M tSn) ((w1.alloc (.cells #[] 127)).drew) 127 (.slice (some ⟨w1.heap.size, 0, none⟩) 0 0) [] from lit0_of _ (heap_alloc_new w1 _))
  have HCC := Lib.hid (fun (w' : World) (h : Below w1.heap.size w1 w') => (show w'.cell? ⟨W.heap.size, 3, none⟩ = some (.slice aq r.sn.length cq) from (HF1.out.pure h).cells.2.2.2))
  have e3 := HCC.out _ HBa.out
  have e3' : (w1.alloc (.cells #[] 127)).cell? ⟨W.heap.size, 3, none⟩ = some (.slice aq r.sn.length cq) := e3
  clear e3
  go_wp2_with fail
  clear c0 c1 c2 cz d0 d1 d2 d3 dz
  go_region_law (first
    | (refine step_append_os rfl (.tmp 13) (.tmp 17) 41 rfl (tIn M tSn) (tIn_flat M tSn) (tSn_one M) Tryz.underlying41 infoSn rfl (Nat.succ_pos 1) (.slice (some ⟨w1.heap.size, 0, none⟩) 0 0) [] (r.sn.take i) rfl HLa.out _ _ _ rfl HL1.out (HR1.out _ HBa.out) HA1.out HA2.out ?_; intro v5 w5 own5 happ5; obtain ⟨hb5, hg5⟩ := app_below (Z := w1) (B := w1.heap.size) HBa.out HBa.out.size happ5 (fun k e => by cases e; exact Nat.le_refl _); obtain ⟨a5, n5, c5, rfl, -⟩ := own5.formN; have f1 := HCC.out _ hb5; clear happ5)
    | (refine step_append_os rfl (.tmp 18) (.tmp 23) 41 rfl (tIn M tSn) (tIn_flat M tSn) (tSn_one M) Tryz.underlying41 infoSn rfl (Nat.succ_pos 1) (.slice a5 n5 c5) ([] ++ r.sn.take i) (r.sn.drop (i + 1)) rfl own5 _ _ _ rfl HL2.out (HR2.out _ hb5) HA3.out HA4.out ?_; intro v7 w7 own7 happ7; obtain ⟨hb7, hg7⟩ := app_below (Z := w1) (B := w1.heap.size) hb5 hb5.size happ7 hg5; obtain ⟨a7, n7, c7, rfl, -⟩ := own7.formN; have HF7 := Lib.hid (HF1.out.pure hb7); have q7 := HF7.out.cells.2.2.2; have z7 := HF7.out.thaw 3; clear happ7))
  all_goals
    have HR7 := Lib.hid (show (tSlice (tIn M tSn)).rv (nw W w7) [.slice a7 n7 c7] (([] ++ r.sn.take i) ++ r.sn.drop (i + 1)) from own7.rv (tIn_flat M tSn) (S := (W.heap.size + 2 ≤ ·)) (fun k e => Nat.le_trans hz1 (hg7 k e)))
    have HF8 := Lib.hid (HF7.out.set3 (.slice a7 n7 c7))
    have HN8 := Lib.hid (nw_set (W := W) (w := w7) (b := W.heap.size) (o := 3) (u := .slice a7 n7 c7) (by omega))
    clear own7 hb7 hg7 HF7 q7 z7 hb5 hg5 own5 f1 e3' c3 HBa HLa HCC hlo hhi'
    generalize w7.setCell ⟨W.heap.size, 3, none⟩ (.slice a7 n7 c7) = w8 at *
    have c0 : w8.cell? ⟨W.heap.size, 0, none⟩ = some (.int .i64 r.N) := HF8.out.cells.1
    have c1 : w8.cell? ⟨W.heap.size, 1, none⟩ = some (.int .i64 r.next) := HF8.out.cells.2.1
    have c2 : w8.cell? ⟨W.heap.size, 2, none⟩ = some (.slice aa r.es.length ca) := HF8.out.cells.2.2.1
    have c3 : w8.cell? ⟨W.heap.size, 3, none⟩ = some (.slice a7 n7 c7) := HF8.out.cells.2.2.2
    have cz : ∀ o, w8.frozen? ⟨W.heap.size, o, none⟩ = false := HF8.out.thaw
    have d0 : w8.cell? ⟨W.heap.size + 1, 0, none⟩ = some (.int .i64 0) := HF8.out.res.1
    have d1 : w8.cell? ⟨W.heap.size + 1, 1, none⟩ = some (.int .i64 0) := HF8.out.res.2.1
    have d2 : w8.cell? ⟨W.heap.size + 1, 2, none⟩ = some (.slice none 0 0) := HF8.out.res.2.2.1
    have d3 : w8.cell? ⟨W.heap.size + 1, 3, none⟩ = some (.slice none 0 0) := HF8.out.res.2.2.2.1
    have dz : ∀ o, w8.frozen? ⟨W.heap.size + 1, o, none⟩ = false := HF8.out.res.2.2.2.2
    go_wp2
    have r1 := store4_block HF8.out.rs (.int .i64 r.N) (.int .i64 r.next) (.slice aa r.es.length ca) (.slice a7 n7 c7)
    have hBz := store4_below HF8.out.bl (Nat.le_succ _) (.int .i64 r.N) (.int .i64 r.next) (.slice aa r.es.length ca) (.slice a7 n7 c7)
    have hnz : (nw W w8).le (nw W (store4 w8 (W.heap.size + 1) (.int .i64 r.N) (.int .i64 r.next) (.slice aa r.es.length ca) (.slice a7 n7 c7))) := nw_store4 (.int .i64 r.N) (.int .i64 r.next) (.slice aa r.es.length ca) (.slice a7 n7 c7)
    show bodyPost _ _ _ _ _ (store4 w8 (W.heap.size + 1) (.int .i64 r.N) (.int .i64 r.next) (.slice aa r.es.length ca) (.slice a7 n7 c7))
    generalize store4 w8 (W.heap.size + 1) (.int .i64 r.N) (.int .i64 r.next) (.slice aa r.es.length ca) (.slice a7 n7 c7) = wz at r1 hBz hnz ⊢
    have g0 : wz.cell? ⟨W.heap.size + 1, 0, none⟩ = some (.int .i64 r.N) := mem_cells r1 0
    have g1 : wz.cell? ⟨W.heap.size + 1, 1, none⟩ = some (.int .i64 r.next) := mem_cells r1 1
    have g2 : wz.cell? ⟨W.heap.size + 1, 2, none⟩ = some (.slice aa r.es.length ca) := mem_cells r1 2
    have g3 : wz.cell? ⟨W.heap.size + 1, 3, none⟩ = some (.slice a7 n7 c7) := mem_cells r1 3
    exact bodyPost_ret (v := .tuple #[.agg #[.int .i64 r.N, .int .i64 r.next, .slice aa r.es.length ca, .slice a7 n7 c7], .int .i64 0]) (by simp [results, Tryz.results47, go_sem, g0, g1, g2, g3]) rfl ⟨{ r with sn := r.sn.take i ++ r.sn.drop (i + 1) }, _, _, 0, .inr ⟨i, es, HJ.out, rfl, rfl⟩, hBz, rfl, ⟨HRS.out.hN, HRS.out.hx, tEnts.mono _ _ _ _ (joinM_le HM.out) HRS.out.ha, slice_in ((tSlice (tIn M tSn)).mono _ _ _ _ (Mem.le_trans (Mem.le_trans HN8.out hnz) nw_join) HR7.out) (joinM_le HM.out)⟩⟩
end Go.Proofs.YtbmpoecmjmmngaaGreat
/- does: drop. -/
namespace Go.Proofs.YtbmpoecmjmmngaaGreat
open Go.RowKit Go.Maps
set_option maxRecDepth 100000 in
set_option maxHeartbeats 16000000 in
theorem does_drop (base p N : Nat) (M : Mem) (W : World) (h : HS) (r : RS) (a q : Value) (xk xg xn : Int) (nm key val : ByteArray) (c : HRun base p N M W h r a q) (hx : (⟨xk, xg, xn, nm, key, val⟩ : HAct).okA) (hN : N ≤ 90000) (hkd : xk % 10 = 6) :
    Calls Tryz.prog 19 #[.pointer (some ⟨p, 0, none⟩), rsV r a q, .agg #[.int .u8 xk, .int .i64 xg, .int .i64 xn, .string nm, .string key, .string val]] W (DoesOut base p N M W h ⟨xk, xg, xn, nm, key, val⟩) := by
  obtain ⟨⟨hk0, -⟩, hxg, hxn, hnm, hkey, hval⟩ := hx
  have hkt : xk.tmod 10 = 6 := by rw [Int.tmod_eq_emod_of_nonneg hk0]; exact hkd
  clear hk0
  simp only at hxg hxn hnm hkey hval
  have HSK := Lib.hid (fun (h' : HS) (e : ∀ k fs, h.view.sn k = some fs → ¬ ((6 : Int) = 6 ∧ xn = k) → h'.view.sn k = some fs) => (show SnKept ⟨xk, xg, xn, nm, key, val⟩ h h' from fun k fs e1 e2 => e k fs e1 (fun ee => e2 ⟨hkd.trans ee.1, ee.2⟩)))
  obtain ⟨aa, ca, rfl, hla, hma, hra⟩ := slice_form c.rat.ha
  obtain ⟨aq, cq, rfl, hlq, hmq, hrq⟩ := slice_form c.rat.hq
  have hca : ca ≤ 9223372036854775807 := by unfold maxLen at hma; exact hma
  have hcq : cq ≤ 9223372036854775807 := by unfold maxLen at hmq; exact hmq
  have HB := Lib.hid (show Below W.heap.size W (((W.alloc (.cells #[.int .i64 r.N, .int .i64 r.next, .slice aa r.es.length ca, .slice aq r.sn.length cq] 43)).alloc (.cells #[.int .u8 xk, .int .i64 xg, .int .i64 xn, .string nm, .string key, .string val] 49)).alloc rsZ) from (((Below.refl W.heap.size W).alloc (Nat.le_refl _) _).alloc (by simp) _).alloc (by simp; omega) _)
  have hY : ∀ (b : Nat) (o o' : Obj) (w : World), w.heap[b]? = some o → (w.alloc o').heap[b]? = some o := fun b o o' w e => (Below.heap_alloc _ _ _ (Array.getElem?_eq_some_iff.1 e).1).trans e
  have y4 : (((W.alloc (.cells #[.int .i64 r.N, .int .i64 r.next, .slice aa r.es.length ca, .slice aq r.sn.length cq] 43)).alloc (.cells #[.int .u8 xk, .int .i64 xg, .int .i64 xn, .string nm, .string key, .string val] 49)).alloc rsZ).heap[W.heap.size]? = some (.cells #[.int .i64 r.N, .int .i64 r.next, .slice aa r.es.length ca, .slice aq r.sn.length cq] 43 (0, 0)) := hY _ _ _ _ (hY _ _ _ _ (heap_alloc_new W _))
  have y5 : (((W.alloc (.cells #[.int .i64 r.N, .int .i64 r.next, .slice aa r.es.length ca, .slice aq r.sn.length cq] 43)).alloc (.cells #[.int .u8 xk, .int .i64 xg, .int .i64 xn, .string nm, .string key, .string val] 49)).alloc rsZ).heap[W.heap.size + 1]? = some (.cells #[.int .u8 xk, .int .i64 xg, .int .i64 xn, .string nm, .string key, .string val] 49 (0, 0)) := hY _ _ _ _ (by have h := heap_alloc_new (W.alloc (.cells #[.int .i64 r.N, .int .i64 r.next, .slice aa r.es.length ca, .slice aq r.sn.length cq] 43)) (.cells #[.int .u8 xk, .int .i64 xg, .int .i64 xn, .string nm, .string key, .string val] 49); rwa [World.size_alloc] at h)
  have yR : (((W.alloc (.cells #[.int .i64 r.N, .int .i64 r.next, .slice aa r.es.length ca, .slice aq r.sn.length cq] 43)).alloc (.cells #[.int .u8 xk, .int .i64 xg, .int .i64 xn, .string nm, .string key, .string val] 49)).alloc rsZ).heap[W.heap.size + 1 + 1]? = some rsZ := by have h := heap_alloc_new ((W.alloc (.cells #[.int .i64 r.N, .int .i64 r.next, .slice aa r.es.length ca, .slice aq r.sn.length cq] 43)).alloc (.cells #[.int .u8 xk, .int .i64 xg, .int .i64 xn, .string nm, .string key, .string val] 49)) rsZ; simpa only [World.size_alloc] using h
  obtain ⟨M1, hMid, hM1, hnew1, hrat⟩ := c.start HB.out (R := W.heap.size + 1 + 1) yR (by omega)
  have HRAT := Lib.hid hrat
  have HM1 := Lib.hid hM1
  have hbR : W.heap.size ≤ W.heap.size + 1 + 1 := by omega
  have hle := c.rel.le
  have h20 := c.rel.l20
  have HASC := Lib.hid c.rel.es.asc
  have hnn := c.nn
  have hlast := c.last
  have hn1 := c.n1
  have hn128 := c.n128
  have hlen := c.len
  have HC4 := Lib.hid (fun (wq : World) (hq : M1.le (mem wq)) => (show wq.cell? ⟨W.heap.size, 0, none⟩ = some (.int .i64 r.N) ∧ wq.cell? ⟨W.heap.size, 1, none⟩ = some (.int .i64 r.next) ∧ wq.cell? ⟨W.heap.size, 2, none⟩ = some (.slice aa r.es.length ca) ∧ wq.cell? ⟨W.heap.size, 3, none⟩ = some (.slice aq r.sn.length cq) from ⟨hq _ _ _ (hnew1 _ _ _ (Mem.on_some (mem_cells y4 0) ⟨by omega, by omega⟩)), hq _ _ _ (hnew1 _ _ _ (Mem.on_some (mem_cells y4 1) ⟨by omega, by omega⟩)), hq _ _ _ (hnew1 _ _ _ (Mem.on_some (mem_cells y4 2) ⟨by omega, by omega⟩)), hq _ _ _ (hnew1 _ _ _ (Mem.on_some (mem_cells y4 3) ⟨by omega, by omega⟩))⟩))
  have HC5 := Lib.hid (fun (wq : World) (hq : M1.le (mem wq)) => (show wq.cell? ⟨W.heap.size + 1, 0, none⟩ = some (.int .u8 xk) ∧ wq.cell? ⟨W.heap.size + 1, 1, none⟩ = some (.int .i64 xg) ∧ wq.cell? ⟨W.heap.size + 1, 2, none⟩ = some (.int .i64 xn) ∧ wq.cell? ⟨W.heap.size + 1, 3, none⟩ = some (.string nm) ∧ wq.cell? ⟨W.heap.size + 1, 4, none⟩ = some (.string key) ∧ wq.cell? ⟨W.heap.size + 1, 5, none⟩ = some (.string val) from ⟨hq _ _ _ (hnew1 _ _ _ (Mem.on_some (mem_cells y5 0) ⟨by omega, by omega⟩)), hq _ _ _ (hnew1 _ _ _ (Mem.on_some (mem_cells y5 1) ⟨by omega, by omega⟩)), hq _ _ _ (hnew1 _ _ _ (Mem.on_some (mem_cells y5 2) ⟨by omega, by omega⟩)), hq _ _ _ (hnew1 _ _ _ (Mem.on_some (mem_cells y5 3) ⟨by omega, by omega⟩)), hq _ _ _ (hnew1 _ _ _ (Mem.on_some (mem_cells y5 4) ⟨by omega, by omega⟩)), hq _ _ _ (hnew1 _ _ _ (Mem.on_some (mem_cells y5 5) ⟨by omega, by omega⟩))⟩))
  clear hY y4 y5 yR hnew1 hra hrq hma hmq hM1 hrat c
  go_enter Tryz.func19, Tryz.ntmps19
  go_upto_region 1 with fail
  generalize ((W.alloc (.cells #[.int .i64 r.N, .int .i64 r.next, .slice aa r.es.length ca, .slice aq r.sn.length cq] 43)).alloc (.cells #[.int .u8 xk, .int .i64 xg, .int .i64 xn, .string nm, .string key, .string val] 49)).alloc rsZ = Y at HB hMid ⊢
  have HMI := Lib.hid hMid
  obtain ⟨c0, c1, c2, c3⟩ := HC4.out Y hMid.le
  obtain ⟨d0, d1, d2, d3, d4, d5⟩ := HC5.out Y hMid.le
  clear hMid
  go_upto_region 2 with fail
  try rw [hkt]
  go_wp2_with fail
  refine (refDrop_any r _ _ M1 Y HMI.out.le HRAT.out hle h20 xn).mono ?_
  rintro e w1 ⟨r2, a', q', cc, hds, hb1, rfl, hr1⟩
  obtain ⟨a2, k2, rfl, hl2, hm2, -⟩ := slice_form hr1.ha
  obtain ⟨q2, kq2, rfl, hl3, hm3, -⟩ := slice_form hr1.hq
  have hk2 : k2 ≤ 9223372036854775807 := by unfold maxLen at hm2; exact hm2
  have hk3 : kq2 ≤ 9223372036854775807 := by unfold maxLen at hm3; exact hm3
  clear hm2 hm3
  have HDS := Lib.hid hds
  clear hds
  have hcc : (cc == cc) = true := by simp
  have HP := Lib.hid (fun (wq : World) (hq : HMid base p N (joinM M1 Y (w1.alloc (.cells #[.int .i64 r2.N, .int .i64 r2.next, .slice a2 r2.es.length k2, .slice q2 r2.sn.length kq2] 43))) (W.heap.size + 1 + 1) (W, h, M) wq h r) => (show Calls Tryz.prog 48 #[.pointer (some ⟨p, 0, none⟩), .int .i64 xn] wq (fun e W' => e = .returned (.int .i64 cc) ∧ ∃ h', HMid base p (N + 1) (joinM M1 Y (w1.alloc (.cells #[.int .i64 r2.N, .int .i64 r2.next, .slice a2 r2.es.length k2, .slice q2 r2.sn.length kq2] 43))) (W.heap.size + 1 + 1) (W, h, M) W' h' r2 ∧ SnKept ⟨xk, xg, xn, nm, key, val⟩ h h') from
    (drop_any xn wq hq.inv hxn).mono fun e W' ⟨h', st, hn', hc', hor⟩ => by
      rcases HDS.out with ⟨h1, rfl, rfl⟩ | ⟨i, es, h1, rfl, rfl⟩
      · rcases hor with ⟨h2, h3, h4⟩ | ⟨h2, h3, h4⟩
        · refine ⟨h3, h', hq.step st (by rw [h4]; exact hq.rel) rfl (by have := hq.nn; omega) (by have := hq.last; have e : h'.last = h.last := congrArg PS.last h4; omega), HSK.out h' (fun k fs e1 _ => by rw [h4]; exact e1)⟩
        · exact absurd ((hq.rel.ks _).1 h2) h1
      · have hmem : (h.view.sn xn).isSome = true := (hq.rel.ks _).2 (List.mem_map_of_mem (f := Prod.fst) (List.mem_of_getElem? h1))
        rcases hor with ⟨h2, h3, h4⟩ | ⟨h2, h3, h4⟩
        · rw [h2] at hmem; cases hmem
        · refine ⟨h3, h', hq.step st (by rw [h4]; exact hq.rel.drop h1) rfl (by have := hq.nn; omega) (by have := hq.last; have e : h'.last = h.last := congrArg PS.last h4; omega), HSK.out h' (fun k fs e1 e2 => by
            rw [h4]
            show delAt h.view.sn xn k = some fs
            rw [delAt_other _ (fun e => e2 ⟨by first | rfl | trivial, e.symm⟩)]; exact e1)⟩))
  have hbA := hb1.alloc hb1.size (.cells #[.int .i64 r2.N, .int .i64 r2.next, .slice a2 r2.es.length k2, .slice q2 r2.sn.length kq2] 43)
  have HMid2 := Lib.hid (HMI.out.grow hbA)
  have HM2 := Lib.hid (joinM_le (W' := w1.alloc (.cells #[.int .i64 r2.N, .int .i64 r2.next, .slice a2 r2.es.length k2, .slice q2 r2.sn.length kq2] 43)) HMI.out.le)
  have HJ2 := Lib.hid (show (joinM M1 Y w1).le (joinM M1 Y (w1.alloc (.cells #[.int .i64 r2.N, .int .i64 r2.next, .slice a2 r2.es.length k2, .slice q2 r2.sn.length kq2] 43))) from joinM_mono ((Below.refl _ _).alloc (Nat.le_refl _) _))
  have HC8 := Lib.hid (fun (wq : World) (hq : (joinM M1 Y (w1.alloc (.cells #[.int .i64 r2.N, .int .i64 r2.next, .slice a2 r2.es.length k2, .slice q2 r2.sn.length kq2] 43))).le (mem wq)) => (show wq.cell? ⟨w1.heap.size, 0, none⟩ = some (.int .i64 r2.N) ∧ wq.cell? ⟨w1.heap.size, 1, none⟩ = some (.int .i64 r2.next) ∧ wq.cell? ⟨w1.heap.size, 2, none⟩ = some (.slice a2 r2.es.length k2) ∧ wq.cell? ⟨w1.heap.size, 3, none⟩ = some (.slice q2 r2.sn.length kq2) from ⟨hq _ _ _ (joinM_new _ _ _ (Mem.on_some (cell_new 0 rfl) hb1.size)), hq _ _ _ (joinM_new _ _ _ (Mem.on_some (cell_new 1 rfl) hb1.size)), hq _ _ _ (joinM_new _ _ _ (Mem.on_some (cell_new 2 rfl) hb1.size)), hq _ _ _ (joinM_new _ _ _ (Mem.on_some (cell_new 3 rfl) hb1.size))⟩))
  have HRF2 := Lib.hid (hr1.mono HJ2.out)
  clear hbA hb1 hr1 c0 c1 c2 c3 d0 d1 d2 d3 d4 d5 HJ2
  go_upto_region 26 with fail
  generalize w1.alloc (.cells #[.int .i64 r2.N, .int .i64 r2.next, .slice a2 r2.es.length k2, .slice q2 r2.sn.length kq2] 43) = X at *
  generalize w1.heap.size = nb at *
  generalize joinM M1 Y X = M2 at *
  have HMD := Lib.hid (HMid2.out.pure0 (Below.refl _ _).drew)
  have HSS := Lib.hid (fun (w' : World) (hq : M2.le (mem w')) => (show w'.cell? ⟨nb, 0, none⟩ = some (.int .i64 r2.N) ∧ w'.cell? ⟨nb, 1, none⟩ = some (.int .i64 r2.next) ∧ w'.cell? ⟨nb, 2, none⟩ = some (.slice a2 r2.es.length k2) ∧ w'.cell? ⟨nb, 3, none⟩ = some (.slice q2 r2.sn.length kq2) ∧ w'.cell? ⟨W.heap.size + 1, 2, none⟩ = some (.int .i64 xn) from ⟨(HC8.out w' hq).1, (HC8.out w' hq).2.1, (HC8.out w' hq).2.2.1, (HC8.out w' hq).2.2.2, (HC5.out w' (Mem.le_trans HM2.out hq)).2.2.1⟩))
  have HSR := Lib.hid (fun (N' : Nat) (h' : HS) (r' : RS) (wq : World) (hq : HMid base p N' M2 (W.heap.size + 1 + 1) (W, h, M) wq h' r') => (show ((((wq.setCell ⟨W.heap.size + 1 + 1, 0, none⟩ (.int .i64 r2.N)).setCell ⟨W.heap.size + 1 + 1, 1, none⟩ (.int .i64 r2.next)).setCell ⟨W.heap.size + 1 + 1, 2, none⟩ (.slice a2 r2.es.length k2)).setCell ⟨W.heap.size + 1 + 1, 3, none⟩ (.slice q2 r2.sn.length kq2)).cell? ⟨nb, 0, none⟩ = some (.int .i64 r2.N) ∧ ((((wq.setCell ⟨W.heap.size + 1 + 1, 0, none⟩ (.int .i64 r2.N)).setCell ⟨W.heap.size + 1 + 1, 1, none⟩ (.int .i64 r2.next)).setCell ⟨W.heap.size + 1 + 1, 2, none⟩ (.slice a2 r2.es.length k2)).setCell ⟨W.heap.size + 1 + 1, 3, none⟩ (.slice q2 r2.sn.length kq2)).cell? ⟨nb, 1, none⟩ = some (.int .i64 r2.next) ∧ ((((wq.setCell ⟨W.heap.size + 1 + 1, 0, none⟩ (.int .i64 r2.N)).setCell ⟨W.heap.size + 1 + 1, 1, none⟩ (.int .i64 r2.next)).setCell ⟨W.heap.size + 1 + 1, 2, none⟩ (.slice a2 r2.es.length k2)).setCell ⟨W.heap.size + 1 + 1, 3, none⟩ (.slice q2 r2.sn.length kq2)).cell? ⟨nb, 2, none⟩ = some (.slice a2 r2.es.length k2) ∧ ((((wq.setCell ⟨W.heap.size + 1 + 1, 0, none⟩ (.int .i64 r2.N)).setCell ⟨W.heap.size + 1 + 1, 1, none⟩ (.int .i64 r2.next)).setCell ⟨W.heap.size + 1 + 1, 2, none⟩ (.slice a2 r2.es.length k2)).setCell ⟨W.heap.size + 1 + 1, 3, none⟩ (.slice q2 r2.sn.length kq2)).cell? ⟨nb, 3, none⟩ = some (.slice q2 r2.sn.length kq2) ∧ ((((wq.setCell ⟨W.heap.size + 1 + 1, 0, none⟩ (.int .i64 r2.N)).setCell ⟨W.heap.size + 1 + 1, 1, none⟩ (.int .i64 r2.next)).setCell ⟨W.heap.size + 1 + 1, 2, none⟩ (.slice a2 r2.es.length k2)).setCell ⟨W.heap.size + 1 + 1, 3, none⟩ (.slice q2 r2.sn.length kq2)).cell? ⟨W.heap.size + 1, 2, none⟩ = some (.int .i64 xn) from HSS.out _ (hq.stored (store4_keeps wq (W.heap.size + 1 + 1) (.int .i64 r2.N) (.int .i64 r2.next) (.slice a2 r2.es.length k2) (.slice q2 r2.sn.length kq2)))))
  have s0 := HSS.out X.drew HMD.out.le
  have HP1 := Lib.hid (HP.out _ HMD.out)
  go_region_held3 (fun w' => w'.cell? ⟨nb, 0, none⟩ = some (.int .i64 r2.N) ∧ w'.cell? ⟨nb, 1, none⟩ = some (.int .i64 r2.next) ∧ w'.cell? ⟨nb, 2, none⟩ = some (.slice a2 r2.es.length k2) ∧ w'.cell? ⟨nb, 3, none⟩ = some (.slice q2 r2.sn.length kq2) ∧ w'.cell? ⟨W.heap.size + 1, 2, none⟩ = some (.int .i64 xn)) (first | with_reducible exact s0 | with_reducible exact HSS.out w5 hm5 | with_reducible exact HSR.out _ _ _ w5 HMid5.out | go_keep)
    ((first
      | (go_at_call 48; refine HP1.out.mono ?_; rintro e w5 ⟨rfl, h5, hMid5, hsk5⟩; have hm5 := hMid5.le; have HMid5 := Lib.hid hMid5; have HSK5 := Lib.hid hsk5; obtain ⟨z0, z1, z2, z3, zz⟩ := HMid5.out.res; have zz0 := zz 0; have zz1 := zz 1; have zz2 := zz 2; have zz3 := zz 3; clear zz; clear hMid5 hsk5)))
  all_goals
    go_wp2
    have r1 := store4_block (HMid5.out.hR) (.int .i64 r2.N) (.int .i64 r2.next) (.slice a2 r2.es.length k2) (.slice q2 r2.sn.length kq2)
    have hk := store4_keeps (w5) (W.heap.size + 1 + 1) (.int .i64 r2.N) (.int .i64 r2.next) (.slice a2 r2.es.length k2) (.slice q2 r2.sn.length kq2)
    show bodyPost _ _ _ _ _ (store4 (w5) (W.heap.size + 1 + 1) (.int .i64 r2.N) (.int .i64 r2.next) (.slice a2 r2.es.length k2) (.slice q2 r2.sn.length kq2))
    generalize store4 (w5) (W.heap.size + 1 + 1) (.int .i64 r2.N) (.int .i64 r2.next) (.slice a2 r2.es.length k2) (.slice q2 r2.sn.length kq2) = wz at r1 hk ⊢
    have g0 : wz.cell? ⟨W.heap.size + 1 + 1, 0, none⟩ = some (.int .i64 r2.N) := mem_cells r1 0
    have g1 : wz.cell? ⟨W.heap.size + 1 + 1, 1, none⟩ = some (.int .i64 r2.next) := mem_cells r1 1
    have g2 : wz.cell? ⟨W.heap.size + 1 + 1, 2, none⟩ = some (.slice a2 r2.es.length k2) := mem_cells r1 2
    have g3 : wz.cell? ⟨W.heap.size + 1 + 1, 3, none⟩ = some (.slice q2 r2.sn.length kq2) := mem_cells r1 3
    refine bodyPost_ret (v := .tuple #[.agg #[.int .i64 r2.N, .int .i64 r2.next, .slice a2 r2.es.length k2, .slice q2 r2.sn.length kq2], .bool true]) (by simp [results, Tryz.results19, go_sem, g0, g1, g2, g3]) rfl ?_
    have hf := HMid5.out.finish hk hbR HRF2.out
    exact ⟨h5, r2, _, _, M2, rfl, hf.1, Mem.le_trans HM1.out HM2.out, hf.2, HSK5.out⟩
end Go.Proofs.YtbmpoecmjmmngaaGreat
/- The reference's Reset. -/
namespace Go.Proofs.YtbmpoecmjmmngaaGreat
open Go.RowKit Go.Maps

def ResetSays (r : RS) (k : Int) (es : List Ent) (c : Int) : Prop := ((k, es) ∈ r.sn ∧ c = 0) ∨ (k ∉ r.sn.map Prod.fst ∧ es = r.es ∧ c = 8)
set_option maxRecDepth 100000 in
set_option maxHeartbeats 16000000 in
theorem refReset_any (r : RS) (a q : Value) (M : Mem) (W : World) (hM : M.le (mem W)) (h : RsAt M r a q) (hl : r.es.length ≤ 4000) (k : Int) :
    Calls Tryz.prog 49 #[rsV r a q, .int .i64 k] W fun e W' => ∃ es c, ResetSays r k es c ∧ REs M W r q (es, c) e W' := by
  have HM := Lib.hid hM
  have HRS := Lib.hid h
  obtain ⟨aa, ca, rfl, hla, hma, hra⟩ := slice_form h.ha
  obtain ⟨aq, cq, rfl, hlq, hmq, hrq⟩ := slice_form h.hq
  have hca : ca ≤ 9223372036854775807 := by unfold maxLen at hma; exact hma
  have hcq : cq ≤ 9223372036854775807 := by unfold maxLen at hmq; exact hmq
  have HA := Lib.hid (fun w' (hb : Below W.heap.size W w') => tEnts.mono _ _ _ _ (Mem.le_trans hM (below_mem hb)) hra)
  have HF0 := Lib.hid (Fr.start W (.int .i64 r.N) (.int .i64 r.next) (.slice aa r.es.length ca) (.slice aq r.sn.length cq))
  have HFI := Lib.hid (fun (w : World) (hb : Below W.heap.size W w) => refFind_any r _ _ w (h.mono (Mem.le_trans hM (below_mem hb))) k)
  have HQ := Lib.hid hrq
  clear hma hmq hra hrq h hM
  go_enter Tryz.func49, Tryz.ntmps49
  go_wp2_with fail
  refine (HFI.out _ HF0.out.bl).mono ?_
  rintro e w1 ⟨i, rfl, hf, hb1⟩
  have HF1 := Lib.hid (HF0.out.pure hb1)
  clear hb1 HFI HF0
  have c0 : w1.cell? ⟨W.heap.size, 0, none⟩ = some (.int .i64 r.N) := HF1.out.cells.1
  have c1 : w1.cell? ⟨W.heap.size, 1, none⟩ = some (.int .i64 r.next) := HF1.out.cells.2.1
  have c2 : w1.cell? ⟨W.heap.size, 2, none⟩ = some (.slice aa r.es.length ca) := HF1.out.cells.2.2.1
  have c3 : w1.cell? ⟨W.heap.size, 3, none⟩ = some (.slice aq r.sn.length cq) := HF1.out.cells.2.2.2
  have cz : ∀ o, w1.frozen? ⟨W.heap.size, o, none⟩ = false := HF1.out.thaw
  have d0 : w1.cell? ⟨W.heap.size + 1, 0, none⟩ = some (.int .i64 0) := HF1.out.res.1
  have d1 : w1.cell? ⟨W.heap.size + 1, 1, none⟩ = some (.int .i64 0) := HF1.out.res.2.1
  have d2 : w1.cell? ⟨W.heap.size + 1, 2, none⟩ = some (.slice none 0 0) := HF1.out.res.2.2.1
  have d3 : w1.cell? ⟨W.heap.size + 1, 3, none⟩ = some (.slice none 0 0) := HF1.out.res.2.2.2.1
  have dz : ∀ o, w1.frozen? ⟨W.heap.size + 1, o, none⟩ = false := HF1.out.res.2.2.2.2
  rcases hf with ⟨j, es, hj, rfl⟩ | ⟨hn, rfl⟩
  · obtain ⟨hjl, hje⟩ := List.getElem?_eq_some_iff.1 hj
    obtain ⟨b, o, s, rfl, -, hat, hrs⟩ := sn_at HQ.out hjl
    have d1' : w1.cell? ⟨b, o + j * 2 + 1, none⟩ = some s := below_mem HF1.out.bl _ _ _ (HM.out _ _ _ hat)
    rw [hje] at hrs
    obtain ⟨sa, sc, rfl, hsl, hsm, hrs⟩ := slice_form hrs
    have HR := Lib.hid hrs
    have HMM := Lib.hid (List.mem_of_getElem? hj)
    clear hat hje hrs hsm hsl hj
    go_wp2
    have HFS := Lib.hid (HF1.out.set2 (.slice sa es.length sc))
    have r1 := store4_block HFS.out.rs (.int .i64 r.N) (.int .i64 r.next) (.slice sa es.length sc) (.slice (some ⟨b, o, none⟩) r.sn.length cq)
    have hBz := store4_below HFS.out.bl (Nat.le_succ _) (.int .i64 r.N) (.int .i64 r.next) (.slice sa es.length sc) (.slice (some ⟨b, o, none⟩) r.sn.length cq)
    have hnz : (nw W (w1.setCell ⟨W.heap.size, 2, none⟩ (.slice sa es.length sc))).le (nw W (store4 (w1.setCell ⟨W.heap.size, 2, none⟩ (.slice sa es.length sc)) (W.heap.size + 1) (.int .i64 r.N) (.int .i64 r.next) (.slice sa es.length sc) (.slice (some ⟨b, o, none⟩) r.sn.length cq))) := nw_store4 (.int .i64 r.N) (.int .i64 r.next) (.slice sa es.length sc) (.slice (some ⟨b, o, none⟩) r.sn.length cq)
    show bodyPost _ _ _ _ _ (store4 (w1.setCell ⟨W.heap.size, 2, none⟩ (.slice sa es.length sc)) (W.heap.size + 1) (.int .i64 r.N) (.int .i64 r.next) (.slice sa es.length sc) (.slice (some ⟨b, o, none⟩) r.sn.length cq))
    generalize store4 (w1.setCell ⟨W.heap.size, 2, none⟩ (.slice sa es.length sc)) (W.heap.size + 1) (.int .i64 r.N) (.int .i64 r.next) (.slice sa es.length sc) (.slice (some ⟨b, o, none⟩) r.sn.length cq) = wz at r1 hBz hnz ⊢
    have g0 : wz.cell? ⟨W.heap.size + 1, 0, none⟩ = some (.int .i64 r.N) := mem_cells r1 0
    have g1 : wz.cell? ⟨W.heap.size + 1, 1, none⟩ = some (.int .i64 r.next) := mem_cells r1 1
    have g2 : wz.cell? ⟨W.heap.size + 1, 2, none⟩ = some (.slice sa es.length sc) := mem_cells r1 2
    have g3 : wz.cell? ⟨W.heap.size + 1, 3, none⟩ = some (.slice (some ⟨b, o, none⟩) r.sn.length cq) := mem_cells r1 3
    exact bodyPost_ret (v := .tuple #[.agg #[.int .i64 r.N, .int .i64 r.next, .slice sa es.length sc, .slice (some ⟨b, o, none⟩) r.sn.length cq], .int .i64 0]) (by simp [results, Tryz.results49, go_sem, g0, g1, g2, g3]) rfl ⟨es, 0, .inl ⟨HMM.out, rfl⟩, hBz, _, rfl, ⟨HRS.out.hN, HRS.out.hx, tEnts.mono _ _ _ _ (joinM_le HM.out) HR.out, (tSlice tSn).mono _ _ _ _ (joinM_le HM.out) HRS.out.hq⟩⟩
  · have HN := Lib.hid hn
    clear hn
    go_wp2
    have r1 := store4_block HF1.out.rs (.int .i64 r.N) (.int .i64 r.next) (.slice aa r.es.length ca) (.slice aq r.sn.length cq)
    have hBz := store4_below HF1.out.bl (Nat.le_succ _) (.int .i64 r.N) (.int .i64 r.next) (.slice aa r.es.length ca) (.slice aq r.sn.length cq)
    have hnz : (nw W w1).le (nw W (store4 w1 (W.heap.size + 1) (.int .i64 r.N) (.int .i64 r.next) (.slice aa r.es.length ca) (.slice aq r.sn.length cq))) := nw_store4 (.int .i64 r.N) (.int .i64 r.next) (.slice aa r.es.length ca) (.slice aq r.sn.length cq)
    show bodyPost _ _ _ _ _ (store4 w1 (W.heap.size + 1) (.int .i64 r.N) (.int .i64 r.next) (.slice aa r.es.length ca) (.slice aq r.sn.length cq))
    generalize store4 w1 (W.heap.size + 1) (.int .i64 r.N) (.int .i64 r.next) (.slice aa r.es.length ca) (.slice aq r.sn.length cq) = wz at r1 hBz hnz ⊢
    have g0 : wz.cell? ⟨W.heap.size + 1, 0, none⟩ = some (.int .i64 r.N) := mem_cells r1 0
    have g1 : wz.cell? ⟨W.heap.size + 1, 1, none⟩ = some (.int .i64 r.next) := mem_cells r1 1
    have g2 : wz.cell? ⟨W.heap.size + 1, 2, none⟩ = some (.slice aa r.es.length ca) := mem_cells r1 2
    have g3 : wz.cell? ⟨W.heap.size + 1, 3, none⟩ = some (.slice aq r.sn.length cq) := mem_cells r1 3
    exact bodyPost_ret (v := .tuple #[.agg #[.int .i64 r.N, .int .i64 r.next, .slice aa r.es.length ca, .slice aq r.sn.length cq], .int .i64 8]) (by simp [results, Tryz.results49, go_sem, g0, g1, g2, g3]) rfl ⟨r.es, 8, .inr ⟨HN.out, rfl, rfl⟩, hBz, _, rfl, HRS.out.mono (joinM_le HM.out)⟩
end Go.Proofs.YtbmpoecmjmmngaaGreat
/- does: reset. -/
namespace Go.Proofs.YtbmpoecmjmmngaaGreat
open Go.RowKit Go.Maps
set_option maxRecDepth 100000 in
set_option maxHeartbeats 16000000 in
theorem does_reset (base p N : Nat) (M : Mem) (W : World) (h : HS) (r : RS) (a q : Value) (xk xg xn : Int) (nm key val : ByteArray) (c : HRun base p N M W h r a q) (hx : (⟨xk, xg, xn, nm, key, val⟩ : HAct).okA) (hN : N ≤ 90000) (hkd : xk % 10 = 7) :
    Calls Tryz.prog 19 #[.pointer (some ⟨p, 0, none⟩), rsV r a q, .agg #[.int .u8 xk, .int .i64 xg, .int .i64 xn, .string nm, .string key, .string val]] W (DoesOut base p N M W h ⟨xk, xg, xn, nm, key, val⟩) := by
  obtain ⟨⟨hk0, -⟩, hxg, hxn, hnm, hkey, hval⟩ := hx
  have hkt : xk.tmod 10 = 7 := by rw [Int.tmod_eq_emod_of_nonneg hk0]; exact hkd
  clear hk0
  simp only at hxg hxn hnm hkey hval
  have HSK := Lib.hid (fun (h' : HS) (e : ∀ k fs, h.view.sn k = some fs → ¬ ((7 : Int) = 6 ∧ xn = k) → h'.view.sn k = some fs) => (show SnKept ⟨xk, xg, xn, nm, key, val⟩ h h' from fun k fs e1 e2 => e k fs e1 (fun ee => e2 ⟨hkd.trans ee.1, ee.2⟩)))
  obtain ⟨aa, ca, rfl, hla, hma, hra⟩ := slice_form c.rat.ha
  obtain ⟨aq, cq, rfl, hlq, hmq, hrq⟩ := slice_form c.rat.hq
  have hca : ca ≤ 9223372036854775807 := by unfold maxLen at hma; exact hma
  have hcq : cq ≤ 9223372036854775807 := by unfold maxLen at hmq; exact hmq
  have HB := Lib.hid (show Below W.heap.size W (((W.alloc (.cells #[.int .i64 r.N, .int .i64 r.next, .slice aa r.es.length ca, .slice aq r.sn.length cq] 43)).alloc (.cells #[.int .u8 xk, .int .i64 xg, .int .i64 xn, .string nm, .string key, .string val] 49)).alloc rsZ) from (((Below.refl W.heap.size W).alloc (Nat.le_refl _) _).alloc (by simp) _).alloc (by simp; omega) _)
  have hY : ∀ (b : Nat) (o o' : Obj) (w : World), w.heap[b]? = some o → (w.alloc o').heap[b]? = some o := fun b o o' w e => (Below.heap_alloc _ _ _ (Array.getElem?_eq_some_iff.1 e).1).trans e
  have y4 : (((W.alloc (.cells #[.int .i64 r.N, .int .i64 r.next, .slice aa r.es.length ca, .slice aq r.sn.length cq] 43)).alloc (.cells #[.int .u8 xk, .int .i64 xg, .int .i64 xn, .string nm, .string key, .string val] 49)).alloc rsZ).heap[W.heap.size]? = some (.cells #[.int .i64 r.N, .int .i64 r.next, .slice aa r.es.length ca, .slice aq r.sn.length cq] 43 (0, 0)) := hY _ _ _ _ (hY _ _ _ _ (heap_alloc_new W _))
  have y5 : (((W.alloc (.cells #[.int .i64 r.N, .int .i64 r.next, .slice aa r.es.length ca, .slice aq r.sn.length cq] 43)).alloc (.cells #[.int .u8 xk, .int .i64 xg, .int .i64 xn, .string nm, .string key, .string val] 49)).alloc rsZ).heap[W.heap.size + 1]? = some (.cells #[.int .u8 xk, .int .i64 xg, .int .i64 xn, .string nm, .string key, .string val] 49 (0, 0)) := hY _ _ _ _ (by have h := heap_alloc_new (W.alloc (.cells #[.int .i64 r.N, .int .i64 r.next, .slice aa r.es.length ca, .slice aq r.sn.length cq] 43)) (.cells #[.int .u8 xk, .int .i64 xg, .int .i64 xn, .string nm, .string key, .string val] 49); rwa [World.size_alloc] at h)
  have yR : (((W.alloc (.cells #[.int .i64 r.N, .int .i64 r.next, .slice aa r.es.length ca, .slice aq r.sn.length cq] 43)).alloc (.cells #[.int .u8 xk, .int .i64 xg, .int .i64 xn, .string nm, .string key, .string val] 49)).alloc rsZ).heap[W.heap.size + 1 + 1]? = some rsZ := by have h := heap_alloc_new ((W.alloc (.cells #[.int .i64 r.N, .int .i64 r.next, .slice aa r.es.length ca, .slice aq r.sn.length cq] 43)).alloc (.cells #[.int .u8 xk, .int .i64 xg, .int .i64 xn, .string nm, .string key, .string val] 49)) rsZ; simpa only [World.size_alloc] using h
  obtain ⟨M1, hMid, hM1, hnew1, hrat⟩ := c.start HB.out (R := W.heap.size + 1 + 1) yR (by omega)
  have HRAT := Lib.hid hrat
  have HM1 := Lib.hid hM1
  have hbR : W.heap.size ≤ W.heap.size + 1 + 1 := by omega
  have hle := c.rel.le
  have h20 := c.rel.l20
  have HASC := Lib.hid c.rel.es.asc
  have hnn := c.nn
  have hlast := c.last
  have hn1 := c.n1
  have hn128 := c.n128
  have hlen := c.len
  have HC4 := Lib.hid (fun (wq : World) (hq : M1.le (mem wq)) => (show wq.cell? ⟨W.heap.size, 0, none⟩ = some (.int .i64 r.N) ∧ wq.cell? ⟨W.heap.size, 1, none⟩ = some (.int .i64 r.next) ∧ wq.cell? ⟨W.heap.size, 2, none⟩ = some (.slice aa r.es.length ca) ∧ wq.cell? ⟨W.heap.size, 3, none⟩ = some (.slice aq r.sn.length cq) from ⟨hq _ _ _ (hnew1 _ _ _ (Mem.on_some (mem_cells y4 0) ⟨by omega, by omega⟩)), hq _ _ _ (hnew1 _ _ _ (Mem.on_some (mem_cells y4 1) ⟨by omega, by omega⟩)), hq _ _ _ (hnew1 _ _ _ (Mem.on_some (mem_cells y4 2) ⟨by omega, by omega⟩)), hq _ _ _ (hnew1 _ _ _ (Mem.on_some (mem_cells y4 3) ⟨by omega, by omega⟩))⟩))
  have HC5 := Lib.hid (fun (wq : World) (hq : M1.le (mem wq)) => (show wq.cell? ⟨W.heap.size + 1, 0, none⟩ = some (.int .u8 xk) ∧ wq.cell? ⟨W.heap.size + 1, 1, none⟩ = some (.int .i64 xg) ∧ wq.cell? ⟨W.heap.size + 1, 2, none⟩ = some (.int .i64 xn) ∧ wq.cell? ⟨W.heap.size + 1, 3, none⟩ = some (.string nm) ∧ wq.cell? ⟨W.heap.size + 1, 4, none⟩ = some (.string key) ∧ wq.cell? ⟨W.heap.size + 1, 5, none⟩ = some (.string val) from ⟨hq _ _ _ (hnew1 _ _ _ (Mem.on_some (mem_cells y5 0) ⟨by omega, by omega⟩)), hq _ _ _ (hnew1 _ _ _ (Mem.on_some (mem_cells y5 1) ⟨by omega, by omega⟩)), hq _ _ _ (hnew1 _ _ _ (Mem.on_some (mem_cells y5 2) ⟨by omega, by omega⟩)), hq _ _ _ (hnew1 _ _ _ (Mem.on_some (mem_cells y5 3) ⟨by omega, by omega⟩)), hq _ _ _ (hnew1 _ _ _ (Mem.on_some (mem_cells y5 4) ⟨by omega, by omega⟩)), hq _ _ _ (hnew1 _ _ _ (Mem.on_some (mem_cells y5 5) ⟨by omega, by omega⟩))⟩))
  clear hY y4 y5 yR hnew1 hra hrq hma hmq hM1 hrat c
  go_enter Tryz.func19, Tryz.ntmps19
  go_upto_region 1 with fail
  generalize ((W.alloc (.cells #[.int .i64 r.N, .int .i64 r.next, .slice aa r.es.length ca, .slice aq r.sn.length cq] 43)).alloc (.cells #[.int .u8 xk, .int .i64 xg, .int .i64 xn, .string nm, .string key, .string val] 49)).alloc rsZ = Y at HB hMid ⊢
  have HMI := Lib.hid hMid
  obtain ⟨c0, c1, c2, c3⟩ := HC4.out Y hMid.le
  obtain ⟨d0, d1, d2, d3, d4, d5⟩ := HC5.out Y hMid.le
  clear hMid
  go_upto_region 2 with fail
  try rw [hkt]
  go_wp2_with fail
  refine (refReset_any r _ _ M1 Y HMI.out.le HRAT.out hle xn).mono ?_
  rintro e w1 ⟨es2, cc, hds, hb1, a', rfl, hr1⟩
  simp only at hr1
  obtain ⟨a2, k2, rfl, hl2, hm2, -⟩ := slice_form hr1.ha
  have hk2 : k2 ≤ 9223372036854775807 := by unfold maxLen at hm2; exact hm2
  clear hm2
  have HDS := Lib.hid hds
  clear hds
  have hcc : (cc == cc) = true := by simp
  have HP := Lib.hid (fun (wq : World) (hq : HMid base p N (joinM M1 Y (w1.alloc (.cells #[.int .i64 r.N, .int .i64 r.next, .slice a2 es2.length k2, .slice aq r.sn.length cq] 43))) (W.heap.size + 1 + 1) (W, h, M) wq h r) => (show Calls Tryz.prog 24 #[.pointer (some ⟨p, 0, none⟩), .int .i64 xn] wq (fun e W' => e = .returned (.int .i64 cc) ∧ ∃ h', HMid base p (N + 1) (joinM M1 Y (w1.alloc (.cells #[.int .i64 r.N, .int .i64 r.next, .slice a2 es2.length k2, .slice aq r.sn.length cq] 43))) (W.heap.size + 1 + 1) (W, h, M) W' h' { r with es := es2 } ∧ SnKept ⟨xk, xg, xn, nm, key, val⟩ h h') from
    (reset_any xn wq hq.inv hxn (by have := hq.len; have := hq.n128; omega) (by have := hq.len; have := hq.n1; omega) (by have := hq.nn; omega)).mono fun e W' ⟨h', st, hn', hc', hs', hor⟩ => by
      rcases HDS.out with ⟨h1, rfl⟩ | ⟨h1, rfl, rfl⟩
      · have hmem : (h.view.sn xn).isSome = true := (hq.rel.ks _).2 (List.mem_map_of_mem (f := Prod.fst) h1)
        rcases hor with ⟨h2, h3, h4⟩ | ⟨fs, es, h2, h3, h5, h4⟩
        · rw [h2] at hmem; cases hmem
        · refine ⟨h5, h', hq.step st (by rw [h4]; exact hq.rel.reset h1 h2 h3) rfl (by have := hq.nn; omega) (by have := hq.last; have e : h'.last = h.last := congrArg PS.last h4; omega), HSK.out h' (fun k fs e1 _ => by rw [h4]; exact e1)⟩
      · rcases hor with ⟨h2, h3, h4⟩ | ⟨fs, es, h2, h3, h5, h4⟩
        · refine ⟨h3, h', hq.step st (by rw [h4]; exact hq.rel) rfl (by have := hq.nn; omega) (by have := hq.last; have e : h'.last = h.last := congrArg PS.last h4; omega), HSK.out h' (fun k fs e1 _ => by rw [h4]; exact e1)⟩
        · exact absurd ((hq.rel.ks _).1 (by rw [h2]; rfl)) h1))
  have hbA := hb1.alloc hb1.size (.cells #[.int .i64 r.N, .int .i64 r.next, .slice a2 es2.length k2, .slice aq r.sn.length cq] 43)
  have HMid2 := Lib.hid (HMI.out.grow hbA)
  have HM2 := Lib.hid (joinM_le (W' := w1.alloc (.cells #[.int .i64 r.N, .int .i64 r.next, .slice a2 es2.length k2, .slice aq r.sn.length cq] 43)) HMI.out.le)
  have HJ2 := Lib.hid (show (joinM M1 Y w1).le (joinM M1 Y (w1.alloc (.cells #[.int .i64 r.N, .int .i64 r.next, .slice a2 es2.length k2, .slice aq r.sn.length cq] 43))) from joinM_mono ((Below.refl _ _).alloc (Nat.le_refl _) _))
  have HC8 := Lib.hid (fun (wq : World) (hq : (joinM M1 Y (w1.alloc (.cells #[.int .i64 r.N, .int .i64 r.next, .slice a2 es2.length k2, .slice aq r.sn.length cq] 43))).le (mem wq)) => (show wq.cell? ⟨w1.heap.size, 0, none⟩ = some (.int .i64 r.N) ∧ wq.cell? ⟨w1.heap.size, 1, none⟩ = some (.int .i64 r.next) ∧ wq.cell? ⟨w1.heap.size, 2, none⟩ = some (.slice a2 es2.length k2) ∧ wq.cell? ⟨w1.heap.size, 3, none⟩ = some (.slice aq r.sn.length cq) from ⟨hq _ _ _ (joinM_new _ _ _ (Mem.on_some (cell_new 0 rfl) hb1.size)), hq _ _ _ (joinM_new _ _ _ (Mem.on_some (cell_new 1 rfl) hb1.size)), hq _ _ _ (joinM_new _ _ _ (Mem.on_some (cell_new 2 rfl) hb1.size)), hq _ _ _ (joinM_new _ _ _ (Mem.on_some (cell_new 3 rfl) hb1.size))⟩))
  have HRF2 := Lib.hid (hr1.mono HJ2.out)
  clear hbA hb1 hr1 c0 c1 c2 c3 d0 d1 d2 d3 d4 d5 HJ2
  go_upto_region 29 with fail
  generalize w1.alloc (.cells #[.int .i64 r.N, .int .i64 r.next, .slice a2 es2.length k2, .slice aq r.sn.length cq] 43) = X at *
  generalize w1.heap.size = nb at *
  generalize joinM M1 Y X = M2 at *
  have HMD := Lib.hid (HMid2.out.pure0 (Below.refl _ _).drew)
  have HSS := Lib.hid (fun (w' : World) (hq : M2.le (mem w')) => (show w'.cell? ⟨nb, 0, none⟩ = some (.int .i64 r.N) ∧ w'.cell? ⟨nb, 1, none⟩ = some (.int .i64 r.next) ∧ w'.cell? ⟨nb, 2, none⟩ = some (.slice a2 es2.length k2) ∧ w'.cell? ⟨nb, 3, none⟩ = some (.slice aq r.sn.length cq) ∧ w'.cell? ⟨W.heap.size + 1, 2, none⟩ = some (.int .i64 xn) from ⟨(HC8.out w' hq).1, (HC8.out w' hq).2.1, (HC8.out w' hq).2.2.1, (HC8.out w' hq).2.2.2, (HC5.out w' (Mem.le_trans HM2.out hq)).2.2.1⟩))
  have HSR := Lib.hid (fun (N' : Nat) (h' : HS) (r' : RS) (wq : World) (hq : HMid base p N' M2 (W.heap.size + 1 + 1) (W, h, M) wq h' r') => (show ((((wq.setCell ⟨W.heap.size + 1 + 1, 0, none⟩ (.int .i64 r.N)).setCell ⟨W.heap.size + 1 + 1, 1, none⟩ (.int .i64 r.next)).setCell ⟨W.heap.size + 1 + 1, 2, none⟩ (.slice a2 es2.length k2)).setCell ⟨W.heap.size + 1 + 1, 3, none⟩ (.slice aq r.sn.length cq)).cell? ⟨nb, 0, none⟩ = some (.int .i64 r.N) ∧ ((((wq.setCell ⟨W.heap.size + 1 + 1, 0, none⟩ (.int .i64 r.N)).setCell ⟨W.heap.size + 1 + 1, 1, none⟩ (.int .i64 r.next)).setCell ⟨W.heap.size + 1 + 1, 2, none⟩ (.slice a2 es2.length k2)).setCell ⟨W.heap.size + 1 + 1, 3, none⟩ (.slice aq r.sn.length cq)).cell? ⟨nb, 1, none⟩ = some (.int .i64 r.next) ∧ ((((wq.setCell ⟨W.heap.size + 1 + 1, 0, none⟩ (.int .i64 r.N)).setCell ⟨W.heap.size + 1 + 1, 1, none⟩ (.int .i64 r.next)).setCell ⟨W.heap.size + 1 + 1, 2, none⟩ (.slice a2 es2.length k2)).setCell ⟨W.heap.size + 1 + 1, 3, none⟩ (.slice aq r.sn.length cq)).cell? ⟨nb, 2, none⟩ = some (.slice a2 es2.length k2) ∧ ((((wq.setCell ⟨W.heap.size + 1 + 1, 0, none⟩ (.int .i64 r.N)).setCell ⟨W.heap.size + 1 + 1, 1, none⟩ (.int .i64 r.next)).setCell ⟨W.heap.size + 1 + 1, 2, none⟩ (.slice a2 es2.length k2)).setCell ⟨W.heap.size + 1 + 1, 3, none⟩ (.slice aq r.sn.length cq)).cell? ⟨nb, 3, none⟩ = some (.slice aq r.sn.length cq) ∧ ((((wq.setCell ⟨W.heap.size + 1 + 1, 0, none⟩ (.int .i64 r.N)).setCell ⟨W.heap.size + 1 + 1, 1, none⟩ (.int .i64 r.next)).setCell ⟨W.heap.size + 1 + 1, 2, none⟩ (.slice a2 es2.length k2)).setCell ⟨W.heap.size + 1 + 1, 3, none⟩ (.slice aq r.sn.length cq)).cell? ⟨W.heap.size + 1, 2, none⟩ = some (.int .i64 xn) from HSS.out _ (hq.stored (store4_keeps wq (W.heap.size + 1 + 1) (.int .i64 r.N) (.int .i64 r.next) (.slice a2 es2.length k2) (.slice aq r.sn.length cq)))))
  have s0 := HSS.out X.drew HMD.out.le
  have HP1 := Lib.hid (HP.out _ HMD.out)
  go_region_held3 (fun w' => w'.cell? ⟨nb, 0, none⟩ = some (.int .i64 r.N) ∧ w'.cell? ⟨nb, 1, none⟩ = some (.int .i64 r.next) ∧ w'.cell? ⟨nb, 2, none⟩ = some (.slice a2 es2.length k2) ∧ w'.cell? ⟨nb, 3, none⟩ = some (.slice aq r.sn.length cq) ∧ w'.cell? ⟨W.heap.size + 1, 2, none⟩ = some (.int .i64 xn)) (first | with_reducible exact s0 | with_reducible exact HSS.out w5 hm5 | with_reducible exact HSR.out _ _ _ w5 HMid5.out | go_keep)
    ((first
      | (go_at_call 24; refine HP1.out.mono ?_; rintro e w5 ⟨rfl, h5, hMid5, hsk5⟩; have hm5 := hMid5.le; have HMid5 := Lib.hid hMid5; have HSK5 := Lib.hid hsk5; obtain ⟨z0, z1, z2, z3, zz⟩ := HMid5.out.res; have zz0 := zz 0; have zz1 := zz 1; have zz2 := zz 2; have zz3 := zz 3; clear zz; clear hMid5 hsk5)))
  all_goals
    go_wp2
    have r1 := store4_block (HMid5.out.hR) (.int .i64 r.N) (.int .i64 r.next) (.slice a2 es2.length k2) (.slice aq r.sn.length cq)
    have hk := store4_keeps (w5) (W.heap.size + 1 + 1) (.int .i64 r.N) (.int .i64 r.next) (.slice a2 es2.length k2) (.slice aq r.sn.length cq)
    show bodyPost _ _ _ _ _ (store4 (w5) (W.heap.size + 1 + 1) (.int .i64 r.N) (.int .i64 r.next) (.slice a2 es2.length k2) (.slice aq r.sn.length cq))
    generalize store4 (w5) (W.heap.size + 1 + 1) (.int .i64 r.N) (.int .i64 r.next) (.slice a2 es2.length k2) (.slice aq r.sn.length cq) = wz at r1 hk ⊢
    have g0 : wz.cell? ⟨W.heap.size + 1 + 1, 0, none⟩ = some (.int .i64 r.N) := mem_cells r1 0
    have g1 : wz.cell? ⟨W.heap.size + 1 + 1, 1, none⟩ = some (.int .i64 r.next) := mem_cells r1 1
    have g2 : wz.cell? ⟨W.heap.size + 1 + 1, 2, none⟩ = some (.slice a2 es2.length k2) := mem_cells r1 2
    have g3 : wz.cell? ⟨W.heap.size + 1 + 1, 3, none⟩ = some (.slice aq r.sn.length cq) := mem_cells r1 3
    refine bodyPost_ret (v := .tuple #[.agg #[.int .i64 r.N, .int .i64 r.next, .slice a2 es2.length k2, .slice aq r.sn.length cq], .bool true]) (by simp [results, Tryz.results19, go_sem, g0, g1, g2, g3]) rfl ?_
    have hf := HMid5.out.finish hk hbR HRF2.out
    exact ⟨h5, { r with es := es2 }, _, _, M2, rfl, hf.1, Mem.le_trans HM1.out HM2.out, hf.2, HSK5.out⟩
end Go.Proofs.YtbmpoecmjmmngaaGreat
/- does: entries. -/
namespace Go.Proofs.YtbmpoecmjmmngaaGreat
open Go.RowKit Go.Maps
set_option maxRecDepth 100000 in
set_option maxHeartbeats 16000000 in
theorem does_entries (base p N : Nat) (M : Mem) (W : World) (h : HS) (r : RS) (a q : Value) (xk xg xn : Int) (nm key val : ByteArray) (c : HRun base p N M W h r a q) (hx : (⟨xk, xg, xn, nm, key, val⟩ : HAct).okA) (hN : N ≤ 90000) (hkd : xk % 10 = 8) :
    Calls Tryz.prog 19 #[.pointer (some ⟨p, 0, none⟩), rsV r a q, .agg #[.int .u8 xk, .int .i64 xg, .int .i64 xn, .string nm, .string key, .string val]] W (DoesOut base p N M W h ⟨xk, xg, xn, nm, key, val⟩) := by
  obtain ⟨⟨hk0, -⟩, hxg, hxn, hnm, hkey, hval⟩ := hx
  have hkt : xk.tmod 10 = 8 := by rw [Int.tmod_eq_emod_of_nonneg hk0]; exact hkd
  clear hk0
  simp only at hxg hxn hnm hkey hval
  have HSK := Lib.hid (fun (h' : HS) (e : ∀ k fs, h.view.sn k = some fs → ¬ ((8 : Int) = 6 ∧ xn = k) → h'.view.sn k = some fs) => (show SnKept ⟨xk, xg, xn, nm, key, val⟩ h h' from fun k fs e1 e2 => e k fs e1 (fun ee => e2 ⟨hkd.trans ee.1, ee.2⟩)))
  obtain ⟨aa, ca, rfl, hla, hma, hra⟩ := slice_form c.rat.ha
  obtain ⟨aq, cq, rfl, hlq, hmq, hrq⟩ := slice_form c.rat.hq
  have hca : ca ≤ 9223372036854775807 := by unfold maxLen at hma; exact hma
  have hcq : cq ≤ 9223372036854775807 := by unfold maxLen at hmq; exact hmq
  have HB := Lib.hid (show Below W.heap.size W (((W.alloc (.cells #[.int .i64 r.N, .int .i64 r.next, .slice aa r.es.length ca, .slice aq r.sn.length cq] 43)).alloc (.cells #[.int .u8 xk, .int .i64 xg, .int .i64 xn, .string nm, .string key, .string val] 49)).alloc rsZ) from (((Below.refl W.heap.size W).alloc (Nat.le_refl _) _).alloc (by simp) _).alloc (by simp; omega) _)
  have hY : ∀ (b : Nat) (o o' : Obj) (w : World), w.heap[b]? = some o → (w.alloc o').heap[b]? = some o := fun b o o' w e => (Below.heap_alloc _ _ _ (Array.getElem?_eq_some_iff.1 e).1).trans e
  have y4 : (((W.alloc (.cells #[.int .i64 r.N, .int .i64 r.next, .slice aa r.es.length ca, .slice aq r.sn.length cq] 43)).alloc (.cells #[.int .u8 xk, .int .i64 xg, .int .i64 xn, .string nm, .string key, .string val] 49)).alloc rsZ).heap[W.heap.size]? = some (.cells #[.int .i64 r.N, .int .i64 r.next, .slice aa r.es.length ca, .slice aq r.sn.length cq] 43 (0, 0)) := hY _ _ _ _ (hY _ _ _ _ (heap_alloc_new W _))
  have y5 : (((W.alloc (.cells #[.int .i64 r.N, .int .i64 r.next, .slice aa r.es.length ca, .slice aq r.sn.length cq] 43)).alloc (.cells #[.int .u8 xk, .int .i64 xg, .int .i64 xn, .string nm, .string key, .string val] 49)).alloc rsZ).heap[W.heap.size + 1]? = some (.cells #[.int .u8 xk, .int .i64 xg, .int .i64 xn, .string nm, .string key, .string val] 49 (0, 0)) := hY _ _ _ _ (by have h := heap_alloc_new (W.alloc (.cells #[.int .i64 r.N, .int .i64 r.next, .slice aa r.es.length ca, .slice aq r.sn.length cq] 43)) (.cells #[.int .u8 xk, .int .i64 xg, .int .i64 xn, .string nm, .string key, .string val] 49); rwa [World.size_alloc] at h)
  have yR : (((W.alloc (.cells #[.int .i64 r.N, .int .i64 r.next, .slice aa r.es.length ca, .slice aq r.sn.length cq] 43)).alloc (.cells #[.int .u8 xk, .int .i64 xg, .int .i64 xn, .string nm, .string key, .string val] 49)).alloc rsZ).heap[W.heap.size + 1 + 1]? = some rsZ := by have h := heap_alloc_new ((W.alloc (.cells #[.int .i64 r.N, .int .i64 r.next, .slice aa r.es.length ca, .slice aq r.sn.length cq] 43)).alloc (.cells #[.int .u8 xk, .int .i64 xg, .int .i64 xn, .string nm, .string key, .string val] 49)) rsZ; simpa only [World.size_alloc] using h
  obtain ⟨M1, hMid, hM1, hnew1, hrat⟩ := c.start HB.out (R := W.heap.size + 1 + 1) yR (by omega)
  have HRAT := Lib.hid hrat
  have HM1 := Lib.hid hM1
  have hbR : W.heap.size ≤ W.heap.size + 1 + 1 := by omega
  have hle := c.rel.le
  have h20 := c.rel.l20
  have HASC := Lib.hid c.rel.es.asc
  have hnn := c.nn
  have hlast := c.last
  have hn1 := c.n1
  have hn128 := c.n128
  have hlen := c.len
  have HC4 := Lib.hid (fun (wq : World) (hq : M1.le (mem wq)) => (show wq.cell? ⟨W.heap.size, 0, none⟩ = some (.int .i64 r.N) ∧ wq.cell? ⟨W.heap.size, 1, none⟩ = some (.int .i64 r.next) ∧ wq.cell? ⟨W.heap.size, 2, none⟩ = some (.slice aa r.es.length ca) ∧ wq.cell? ⟨W.heap.size, 3, none⟩ = some (.slice aq r.sn.length cq) from ⟨hq _ _ _ (hnew1 _ _ _ (Mem.on_some (mem_cells y4 0) ⟨by omega, by omega⟩)), hq _ _ _ (hnew1 _ _ _ (Mem.on_some (mem_cells y4 1) ⟨by omega, by omega⟩)), hq _ _ _ (hnew1 _ _ _ (Mem.on_some (mem_cells y4 2) ⟨by omega, by omega⟩)), hq _ _ _ (hnew1 _ _ _ (Mem.on_some (mem_cells y4 3) ⟨by omega, by omega⟩))⟩))
  have HC5 := Lib.hid (fun (wq : World) (hq : M1.le (mem wq)) => (show wq.cell? ⟨W.heap.size + 1, 0, none⟩ = some (.int .u8 xk) ∧ wq.cell? ⟨W.heap.size + 1, 1, none⟩ = some (.int .i64 xg) ∧ wq.cell? ⟨W.heap.size + 1, 2, none⟩ = some (.int .i64 xn) ∧ wq.cell? ⟨W.heap.size + 1, 3, none⟩ = some (.string nm) ∧ wq.cell? ⟨W.heap.size + 1, 4, none⟩ = some (.string key) ∧ wq.cell? ⟨W.heap.size + 1, 5, none⟩ = some (.string val) from ⟨hq _ _ _ (hnew1 _ _ _ (Mem.on_some (mem_cells y5 0) ⟨by omega, by omega⟩)), hq _ _ _ (hnew1 _ _ _ (Mem.on_some (mem_cells y5 1) ⟨by omega, by omega⟩)), hq _ _ _ (hnew1 _ _ _ (Mem.on_some (mem_cells y5 2) ⟨by omega, by omega⟩)), hq _ _ _ (hnew1 _ _ _ (Mem.on_some (mem_cells y5 3) ⟨by omega, by omega⟩)), hq _ _ _ (hnew1 _ _ _ (Mem.on_some (mem_cells y5 4) ⟨by omega, by omega⟩)), hq _ _ _ (hnew1 _ _ _ (Mem.on_some (mem_cells y5 5) ⟨by omega, by omega⟩))⟩))
  clear hY y4 y5 yR hnew1 hra hrq hma hmq hM1 hrat c
  go_enter Tryz.func19, Tryz.ntmps19
  go_upto_region 1 with fail
  generalize ((W.alloc (.cells #[.int .i64 r.N, .int .i64 r.next, .slice aa r.es.length ca, .slice aq r.sn.length cq] 43)).alloc (.cells #[.int .u8 xk, .int .i64 xg, .int .i64 xn, .string nm, .string key, .string val] 49)).alloc rsZ = Y at HB hMid ⊢
  have HMI := Lib.hid hMid
  obtain ⟨c0, c1, c2, c3⟩ := HC4.out Y hMid.le
  obtain ⟨d0, d1, d2, d3, d4, d5⟩ := HC5.out Y hMid.le
  clear hMid
  go_upto_region 2 with fail
  try rw [hkt]
  go_wp2_with fail
  refine (stEntries_any xn Y HMI.out.inv hxn (by omega) (by omega)).mono ?_
  rintro e w1 ⟨u, es, c, rfl, hsc, hown, hb1, -, -⟩
  have HMid2 := Lib.hid (HMI.out.pure0 hb1)
  have HU := Lib.hid (hown.rv')
  obtain ⟨au, cu, rfl, hmu⟩ := hown.len
  have hcu : es.length ≤ 9223372036854775807 := by unfold maxLen at hmu; exact hmu
  have HSC := Lib.hid hsc
  clear hsc hown hb1 hmu
  clear c0 c1 c2 c3 d0 d1 d2 d3 d4 d5
  obtain ⟨c0, c1, c2, c3⟩ := HC4.out w1 HMid2.out.le
  obtain ⟨d0, d1, d2, d3, d4, d5⟩ := HC5.out w1 HMid2.out.le
  go_wp2_with fail
  refine (refEntries_any r _ _ w1 (HRAT.out.mono HMid2.out.le) xn).mono ?_
  rintro e w2 ⟨v2, es2, c2', rfl, hss, hrv, hb2⟩
  obtain ⟨rfl, rfl⟩ := ents_both HMI.out.rel HSC.out hss
  have HMid3 := Lib.hid (HMid2.out.pure0 hb2)
  have HV := Lib.hid hrv
  have HU2 := Lib.hid (tEnts.mono _ _ _ _ (below_mem hb2) HU.out)
  obtain ⟨av, cv, rfl, -, hmv, -⟩ := slice_form hrv
  have hcv : cv ≤ 9223372036854775807 := by unfold maxLen at hmv; exact hmv
  clear hrv hmv hss hb2 HU HSC
  clear c0 c1 c2 c3 d0 d1 d2 d3 d4 d5
  have HMD := Lib.hid (HMid3.out.pure0 (Below.refl _ _).drew)
  have HSS := Lib.hid (fun (w' : World) (hq : M1.le (mem w')) => (show w'.cell? ⟨W.heap.size, 0, none⟩ = some (.int .i64 r.N) ∧ w'.cell? ⟨W.heap.size, 1, none⟩ = some (.int .i64 r.next) ∧ w'.cell? ⟨W.heap.size, 2, none⟩ = some (.slice aa r.es.length ca) ∧ w'.cell? ⟨W.heap.size, 3, none⟩ = some (.slice aq r.sn.length cq) from HC4.out w' hq))
  have HSR := Lib.hid (fun (N' : Nat) (h' : HS) (r' : RS) (wq : World) (hq : HMid base p N' M1 (W.heap.size + 1 + 1) (W, h, M) wq h' r') => (show ((((wq.setCell ⟨W.heap.size + 1 + 1, 0, none⟩ (.int .i64 r.N)).setCell ⟨W.heap.size + 1 + 1, 1, none⟩ (.int .i64 r.next)).setCell ⟨W.heap.size + 1 + 1, 2, none⟩ (.slice aa r.es.length ca)).setCell ⟨W.heap.size + 1 + 1, 3, none⟩ (.slice aq r.sn.length cq)).cell? ⟨W.heap.size, 0, none⟩ = some (.int .i64 r.N) ∧ ((((wq.setCell ⟨W.heap.size + 1 + 1, 0, none⟩ (.int .i64 r.N)).setCell ⟨W.heap.size + 1 + 1, 1, none⟩ (.int .i64 r.next)).setCell ⟨W.heap.size + 1 + 1, 2, none⟩ (.slice aa r.es.length ca)).setCell ⟨W.heap.size + 1 + 1, 3, none⟩ (.slice aq r.sn.length cq)).cell? ⟨W.heap.size, 1, none⟩ = some (.int .i64 r.next) ∧ ((((wq.setCell ⟨W.heap.size + 1 + 1, 0, none⟩ (.int .i64 r.N)).setCell ⟨W.heap.size + 1 + 1, 1, none⟩ (.int .i64 r.next)).setCell ⟨W.heap.size + 1 + 1, 2, none⟩ (.slice aa r.es.length ca)).setCell ⟨W.heap.size + 1 + 1, 3, none⟩ (.slice aq r.sn.length cq)).cell? ⟨W.heap.size, 2, none⟩ = some (.slice aa r.es.length ca) ∧ ((((wq.setCell ⟨W.heap.size + 1 + 1, 0, none⟩ (.int .i64 r.N)).setCell ⟨W.heap.size + 1 + 1, 1, none⟩ (.int .i64 r.next)).setCell ⟨W.heap.size + 1 + 1, 2, none⟩ (.slice aa r.es.length ca)).setCell ⟨W.heap.size + 1 + 1, 3, none⟩ (.slice aq r.sn.length cq)).cell? ⟨W.heap.size, 3, none⟩ = some (.slice aq r.sn.length cq) from HSS.out _ (hq.stored (store4_keeps wq (W.heap.size + 1 + 1) (.int .i64 r.N) (.int .i64 r.next) (.slice aa r.es.length ca) (.slice aq r.sn.length cq)))))
  have s0 := HSS.out w2.drew HMD.out.le
  have HSE := Lib.hid (sameEnts_any es _ _ w2.drew HU2.out HV.out)
  have hcc : (c == c) = true := by simp
  go_upto_region 33 with fail
  go_region_held3 (fun w' => w'.cell? ⟨W.heap.size, 0, none⟩ = some (.int .i64 r.N) ∧ w'.cell? ⟨W.heap.size, 1, none⟩ = some (.int .i64 r.next) ∧ w'.cell? ⟨W.heap.size, 2, none⟩ = some (.slice aa r.es.length ca) ∧ w'.cell? ⟨W.heap.size, 3, none⟩ = some (.slice aq r.sn.length cq)) (first | with_reducible exact s0 | with_reducible exact HSS.out w5 hm5 | with_reducible exact HSR.out _ _ _ w5 HMid5.out | go_keep)
    ((first
      | (go_at_call 10; refine HSE.out.mono ?_; rintro e w5 ⟨rfl, hb5⟩; have hMid5 := (HMD.out.pure0 hb5).more; have hm5 := hMid5.le; have HMid5 := Lib.hid hMid5; obtain ⟨z0, z1, z2, z3, zz⟩ := HMid5.out.res; have zz0 := zz 0; have zz1 := zz 1; have zz2 := zz 2; have zz3 := zz 3; clear zz; clear hMid5 hb5)))
  all_goals
    go_wp2
    have r1 := store4_block (HMid5.out.hR) (.int .i64 r.N) (.int .i64 r.next) (.slice aa r.es.length ca) (.slice aq r.sn.length cq)
    have hk := store4_keeps (w5) (W.heap.size + 1 + 1) (.int .i64 r.N) (.int .i64 r.next) (.slice aa r.es.length ca) (.slice aq r.sn.length cq)
    show bodyPost _ _ _ _ _ (store4 (w5) (W.heap.size + 1 + 1) (.int .i64 r.N) (.int .i64 r.next) (.slice aa r.es.length ca) (.slice aq r.sn.length cq))
    generalize store4 (w5) (W.heap.size + 1 + 1) (.int .i64 r.N) (.int .i64 r.next) (.slice aa r.es.length ca) (.slice aq r.sn.length cq) = wz at r1 hk ⊢
    have g0 : wz.cell? ⟨W.heap.size + 1 + 1, 0, none⟩ = some (.int .i64 r.N) := mem_cells r1 0
    have g1 : wz.cell? ⟨W.heap.size + 1 + 1, 1, none⟩ = some (.int .i64 r.next) := mem_cells r1 1
    have g2 : wz.cell? ⟨W.heap.size + 1 + 1, 2, none⟩ = some (.slice aa r.es.length ca) := mem_cells r1 2
    have g3 : wz.cell? ⟨W.heap.size + 1 + 1, 3, none⟩ = some (.slice aq r.sn.length cq) := mem_cells r1 3
    refine bodyPost_ret (v := .tuple #[.agg #[.int .i64 r.N, .int .i64 r.next, .slice aa r.es.length ca, .slice aq r.sn.length cq], .bool true]) (by simp [results, Tryz.results19, go_sem, g0, g1, g2, g3]) rfl ?_
    have hf := HMid5.out.finish hk hbR HRAT.out
    exact ⟨h, r, _, _, M1, rfl, hf.1, HM1.out, hf.2, HSK.out h (fun k fs e1 _ => e1)⟩
end Go.Proofs.YtbmpoecmjmmngaaGreat
