/- Part 7 of the texts that the law's proof stands on, merged. -/
import Derived.Deep.RegionHeld3
import Derived.Deep.RegionLaw
import Derived.Test.YtbmpoecmjmmngaaHs06
set_option linter.unusedVariables false
set_option linter.unusedSimpArgs false
/- does: groups. -/
namespace Go.Proofs.Ytbmpoecmjmmngaa
open Go.RowKit Go.Maps
set_option maxRecDepth 100000 in
set_option maxHeartbeats 16000000 in
theorem does_groups (base p N : Nat) (M : Mem) (W : World) (h : HS) (r : RS) (a q : Value) (xk xg xn : Int) (nm key val : ByteArray) (c : HRun base p N M W h r a q) (hx : (⟨xk, xg, xn, nm, key, val⟩ : HAct).okA) (hN : N ≤ 90000) (hkd : xk % 10 = 9) :
    Calls Try.prog 14 #[.pointer (some ⟨p, 0, none⟩), rsV r a q, .agg #[.int .u8 xk, .int .i64 xg, .int .i64 xn, .string nm, .string key, .string val]] W (DoesOut base p N M W h ⟨xk, xg, xn, nm, key, val⟩) := by
  obtain ⟨⟨hk0, -⟩, hxg, hxn, hnm, hkey, hval⟩ := hx
  have hkt : xk.tmod 10 = 9 := by rw [Int.tmod_eq_emod_of_nonneg hk0]; exact hkd
  clear hk0
  simp only at hxg hxn hnm hkey hval
  have HSK := Lib.hid (fun (h' : HS) (e : ∀ k fs, h.view.sn k = some fs → ¬ ((9 : Int) = 6 ∧ xn = k) → h'.view.sn k = some fs) => (show SnKept ⟨xk, xg, xn, nm, key, val⟩ h h' from fun k fs e1 e2 => e k fs e1 (fun ee => e2 ⟨hkd.trans ee.1, ee.2⟩)))
  obtain ⟨aa, ca, rfl, hla, hma, hra⟩ := slice_form c.rat.ha
  obtain ⟨aq, cq, rfl, hlq, hmq, hrq⟩ := slice_form c.rat.hq
  have hca : ca ≤ 9223372036854775807 := by unfold maxLen at hma; exact hma
  have hcq : cq ≤ 9223372036854775807 := by unfold maxLen at hmq; exact hmq
  have HB := Lib.hid (show Below W.heap.size W (((W.alloc (.cells #[.int .i64 r.N, .int .i64 r.next, .slice aa r.es.length ca, .slice aq r.sn.length cq] 40)).alloc (.cells #[.int .u8 xk, .int .i64 xg, .int .i64 xn, .string nm, .string key, .string val] 46)).alloc rsZ) from (((Below.refl W.heap.size W).alloc (Nat.le_refl _) _).alloc (by simp) _).alloc (by simp; omega) _)
  have hY : ∀ (b : Nat) (o o' : Obj) (w : World), w.heap[b]? = some o → (w.alloc o').heap[b]? = some o := fun b o o' w e => (Below.heap_alloc _ _ _ (Array.getElem?_eq_some_iff.1 e).1).trans e
  have y4 : (((W.alloc (.cells #[.int .i64 r.N, .int .i64 r.next, .slice aa r.es.length ca, .slice aq r.sn.length cq] 40)).alloc (.cells #[.int .u8 xk, .int .i64 xg, .int .i64 xn, .string nm, .string key, .string val] 46)).alloc rsZ).heap[W.heap.size]? = some (.cells #[.int .i64 r.N, .int .i64 r.next, .slice aa r.es.length ca, .slice aq r.sn.length cq] 40 (0, 0)) := hY _ _ _ _ (hY _ _ _ _ (heap_alloc_new W _))
  have y5 : (((W.alloc (.cells #[.int .i64 r.N, .int .i64 r.next, .slice aa r.es.length ca, .slice aq r.sn.length cq] 40)).alloc (.cells #[.int .u8 xk, .int .i64 xg, .int .i64 xn, .string nm, .string key, .string val] 46)).alloc rsZ).heap[W.heap.size + 1]? = some (.cells #[.int .u8 xk, .int .i64 xg, .int .i64 xn, .string nm, .string key, .string val] 46 (0, 0)) := hY _ _ _ _ (by have h := heap_alloc_new (W.alloc (.cells #[.int .i64 r.N, .int .i64 r.next, .slice aa r.es.length ca, .slice aq r.sn.length cq] 40)) (.cells #[.int .u8 xk, .int .i64 xg, .int .i64 xn, .string nm, .string key, .string val] 46); rwa [World.size_alloc] at h)
  have yR : (((W.alloc (.cells #[.int .i64 r.N, .int .i64 r.next, .slice aa r.es.length ca, .slice aq r.sn.length cq] 40)).alloc (.cells #[.int .u8 xk, .int .i64 xg, .int .i64 xn, .string nm, .string key, .string val] 46)).alloc rsZ).heap[W.heap.size + 1 + 1]? = some rsZ := by have h := heap_alloc_new ((W.alloc (.cells #[.int .i64 r.N, .int .i64 r.next, .slice aa r.es.length ca, .slice aq r.sn.length cq] 40)).alloc (.cells #[.int .u8 xk, .int .i64 xg, .int .i64 xn, .string nm, .string key, .string val] 46)) rsZ; simpa only [World.size_alloc] using h
  obtain ⟨M1, hMid, hM1, hnew1, hrat⟩ := c.start HB.out (R := W.heap.size + 1 + 1) yR (by omega)
  have HRAT := Lib.hid hrat
  have HM1 := Lib.hid hM1
  have hbR : W.heap.size ≤ W.heap.size + 1 + 1 := by omega
  have hle := c.rel.le
  have h20 := c.rel.l20
  have HASC := Lib.hid c.rel.es.asc
  have hnn := c.nn
  have hlast := c.last
  have hn1 := c.n1
  have hn128 := c.n128
  have hlen := c.len
  have HC4 := Lib.hid (fun (wq : World) (hq : M1.le (mem wq)) => (show wq.cell? ⟨W.heap.size, 0, none⟩ = some (.int .i64 r.N) ∧ wq.cell? ⟨W.heap.size, 1, none⟩ = some (.int .i64 r.next) ∧ wq.cell? ⟨W.heap.size, 2, none⟩ = some (.slice aa r.es.length ca) ∧ wq.cell? ⟨W.heap.size, 3, none⟩ = some (.slice aq r.sn.length cq) from ⟨hq _ _ _ (hnew1 _ _ _ (Mem.on_some (mem_cells y4 0) ⟨by omega, by omega⟩)), hq _ _ _ (hnew1 _ _ _ (Mem.on_some (mem_cells y4 1) ⟨by omega, by omega⟩)), hq _ _ _ (hnew1 _ _ _ (Mem.on_some (mem_cells y4 2) ⟨by omega, by omega⟩)), hq _ _ _ (hnew1 _ _ _ (Mem.on_some (mem_cells y4 3) ⟨by omega, by omega⟩))⟩))
  have HC5 := Lib.hid (fun (wq : World) (hq : M1.le (mem wq)) => (show wq.cell? ⟨W.heap.size + 1, 0, none⟩ = some (.int .u8 xk) ∧ wq.cell? ⟨W.heap.size + 1, 1, none⟩ = some (.int .i64 xg) ∧ wq.cell? ⟨W.heap.size + 1, 2, none⟩ = some (.int .i64 xn) ∧ wq.cell? ⟨W.heap.size + 1, 3, none⟩ = some (.string nm) ∧ wq.cell? ⟨W.heap.size + 1, 4, none⟩ = some (.string key) ∧ wq.cell? ⟨W.heap.size + 1, 5, none⟩ = some (.string val) from ⟨hq _ _ _ (hnew1 _ _ _ (Mem.on_some (mem_cells y5 0) ⟨by omega, by omega⟩)), hq _ _ _ (hnew1 _ _ _ (Mem.on_some (mem_cells y5 1) ⟨by omega, by omega⟩)), hq _ _ _ (hnew1 _ _ _ (Mem.on_some (mem_cells y5 2) ⟨by omega, by omega⟩)), hq _ _ _ (hnew1 _ _ _ (Mem.on_some (mem_cells y5 3) ⟨by omega, by omega⟩)), hq _ _ _ (hnew1 _ _ _ (Mem.on_some (mem_cells y5 4) ⟨by omega, by omega⟩)), hq _ _ _ (hnew1 _ _ _ (Mem.on_some (mem_cells y5 5) ⟨by omega, by omega⟩))⟩))
  clear hY y4 y5 yR hnew1 hra hrq hma hmq hM1 hrat c
  go_enter Try.func14, Try.ntmps14
  go_upto_region 1 with fail
  generalize ((W.alloc (.cells #[.int .i64 r.N, .int .i64 r.next, .slice aa r.es.length ca, .slice aq r.sn.length cq] 40)).alloc (.cells #[.int .u8 xk, .int .i64 xg, .int .i64 xn, .string nm, .string key, .string val] 46)).alloc rsZ = Y at HB hMid ⊢
  have HMI := Lib.hid hMid
  obtain ⟨c0, c1, c2, c3⟩ := HC4.out Y hMid.le
  obtain ⟨d0, d1, d2, d3, d4, d5⟩ := HC5.out Y hMid.le
  clear hMid
  go_upto_region 2 with fail
  try rw [hkt]
  go_wp2_with fail
  refine (groups_any xg xn Y HMI.out.inv hxg hxn (by omega) (by omega)).mono ?_
  rintro e w1 ⟨u, es, c, rfl, hown, hb1, hsc⟩
  have HMid2 := Lib.hid (HMI.out.pure0 hb1)
  have HU := Lib.hid (hown.rv')
  obtain ⟨au, cu, rfl, hmu⟩ := hown.len
  have hcu : es.length ≤ 9223372036854775807 := by unfold maxLen at hmu; exact hmu
  have HSC := Lib.hid hsc
  clear hsc hown hb1 hmu
  clear c0 c1 c2 c3 d0 d1 d2 d3 d4 d5
  obtain ⟨c0, c1, c2, c3⟩ := HC4.out w1 HMid2.out.le
  obtain ⟨d0, d1, d2, d3, d4, d5⟩ := HC5.out w1 HMid2.out.le
  go_wp2_with fail
  refine (refGroups_any r _ _ w1 (HRAT.out.mono HMid2.out.le) hle xg xn).mono ?_
  rintro e w2 ⟨v2, es2, c2', rfl, hrv, hb2, hss⟩
  obtain ⟨rfl, rfl⟩ := groups_both HMI.out.rel hlen HSC.out hss
  have HMid3 := Lib.hid (HMid2.out.pure0 hb2)
  have HV := Lib.hid hrv
  have HU2 := Lib.hid (tEnts.mono _ _ _ _ (below_mem hb2) HU.out)
  obtain ⟨av, cv, rfl, -, hmv, -⟩ := slice_form hrv
  have hcv : cv ≤ 9223372036854775807 := by unfold maxLen at hmv; exact hmv
  clear hrv hmv hss hb2 HU HSC
  clear c0 c1 c2 c3 d0 d1 d2 d3 d4 d5
  have HMD := Lib.hid (HMid3.out.pure0 (Below.refl _ _).drew)
  have HSS := Lib.hid (fun (w' : World) (hq : M1.le (mem w')) => (show w'.cell? ⟨W.heap.size, 0, none⟩ = some (.int .i64 r.N) ∧ w'.cell? ⟨W.heap.size, 1, none⟩ = some (.int .i64 r.next) ∧ w'.cell? ⟨W.heap.size, 2, none⟩ = some (.slice aa r.es.length ca) ∧ w'.cell? ⟨W.heap.size, 3, none⟩ = some (.slice aq r.sn.length cq) from HC4.out w' hq))
  have HSR := Lib.hid (fun (N' : Nat) (h' : HS) (r' : RS) (wq : World) (hq : HMid base p N' M1 (W.heap.size + 1 + 1) (W, h, M) wq h' r') => (show ((((wq.setCell ⟨W.heap.size + 1 + 1, 0, none⟩ (.int .i64 r.N)).setCell ⟨W.heap.size + 1 + 1, 1, none⟩ (.int .i64 r.next)).setCell ⟨W.heap.size + 1 + 1, 2, none⟩ (.slice aa r.es.length ca)).setCell ⟨W.heap.size + 1 + 1, 3, none⟩ (.slice aq r.sn.length cq)).cell? ⟨W.heap.size, 0, none⟩ = some (.int .i64 r.N) ∧ ((((wq.setCell ⟨W.heap.size + 1 + 1, 0, none⟩ (.int .i64 r.N)).setCell ⟨W.heap.size + 1 + 1, 1, none⟩ (.int .i64 r.next)).setCell ⟨W.heap.size + 1 + 1, 2, none⟩ (.slice aa r.es.length ca)).setCell ⟨W.heap.size + 1 + 1, 3, none⟩ (.slice aq r.sn.length cq)).cell? ⟨W.heap.size, 1, none⟩ = some (.int .i64 r.next) ∧ ((((wq.setCell ⟨W.heap.size + 1 + 1, 0, none⟩ (.int .i64 r.N)).setCell ⟨W.heap.size + 1 + 1, 1, none⟩ (.int .i64 r.next)).setCell ⟨W.heap.size + 1 + 1, 2, none⟩ (.slice aa r.es.length ca)).setCell ⟨W.heap.size + 1 + 1, 3, none⟩ (.slice aq r.sn.length cq)).cell? ⟨W.heap.size, 2, none⟩ = some (.slice aa r.es.length ca) ∧ ((((wq.setCell ⟨W.heap.size + 1 + 1, 0, none⟩ (.int .i64 r.N)).setCell ⟨W.heap.size + 1 + 1, 1, none⟩ (.int .i64 r.next)).setCell ⟨W.heap.size + 1 + 1, 2, none⟩ (.slice aa r.es.length ca)).setCell ⟨W.heap.size + 1 + 1, 3, none⟩ (.slice aq r.sn.length cq)).cell? ⟨W.heap.size, 3, none⟩ = some (.slice aq r.sn.length cq) from HSS.out _ (hq.stored (store4_keeps wq (W.heap.size + 1 + 1) (.int .i64 r.N) (.int .i64 r.next) (.slice aa r.es.length ca) (.slice aq r.sn.length cq)))))
  have s0 := HSS.out w2.drew HMD.out.le
  have HSE := Lib.hid (sameEnts_any es _ _ w2.drew HU2.out HV.out)
  have hcc : (c == c) = true := by simp
  go_upto_region 36 with fail
  go_region_held3 (fun w' => w'.cell? ⟨W.heap.size, 0, none⟩ = some (.int .i64 r.N) ∧ w'.cell? ⟨W.heap.size, 1, none⟩ = some (.int .i64 r.next) ∧ w'.cell? ⟨W.heap.size, 2, none⟩ = some (.slice aa r.es.length ca) ∧ w'.cell? ⟨W.heap.size, 3, none⟩ = some (.slice aq r.sn.length cq)) (first | with_reducible exact s0 | with_reducible exact HSS.out w5 hm5 | with_reducible exact HSR.out _ _ _ w5 HMid5.out | go_keep)
    ((first
      | (go_at_call 19; refine HSE.out.mono ?_; rintro e w5 ⟨rfl, hb5⟩; have hMid5 := (HMD.out.pure0 hb5).more; have hm5 := hMid5.le; have HMid5 := Lib.hid hMid5; obtain ⟨z0, z1, z2, z3, zz⟩ := HMid5.out.res; have zz0 := zz 0; have zz1 := zz 1; have zz2 := zz 2; have zz3 := zz 3; clear zz; clear hMid5 hb5)))
  all_goals
    go_wp2
    have r1 := store4_block (HMid5.out.hR) (.int .i64 r.N) (.int .i64 r.next) (.slice aa r.es.length ca) (.slice aq r.sn.length cq)
    have hk := store4_keeps (w5) (W.heap.size + 1 + 1) (.int .i64 r.N) (.int .i64 r.next) (.slice aa r.es.length ca) (.slice aq r.sn.length cq)
    show bodyPost _ _ _ _ _ (store4 (w5) (W.heap.size + 1 + 1) (.int .i64 r.N) (.int .i64 r.next) (.slice aa r.es.length ca) (.slice aq r.sn.length cq))
    generalize store4 (w5) (W.heap.size + 1 + 1) (.int .i64 r.N) (.int .i64 r.next) (.slice aa r.es.length ca) (.slice aq r.sn.length cq) = wz at r1 hk ⊢
    have g0 : wz.cell? ⟨W.heap.size + 1 + 1, 0, none⟩ = some (.int .i64 r.N) := mem_cells r1 0
    have g1 : wz.cell? ⟨W.heap.size + 1 + 1, 1, none⟩ = some (.int .i64 r.next) := mem_cells r1 1
    have g2 : wz.cell? ⟨W.heap.size + 1 + 1, 2, none⟩ = some (.slice aa r.es.length ca) := mem_cells r1 2
    have g3 : wz.cell? ⟨W.heap.size + 1 + 1, 3, none⟩ = some (.slice aq r.sn.length cq) := mem_cells r1 3
    refine bodyPost_ret (v := .tuple #[.agg #[.int .i64 r.N, .int .i64 r.next, .slice aa r.es.length ca, .slice aq r.sn.length cq], .bool true]) (by simp [results, Try.results14, go_sem, g0, g1, g2, g3]) rfl ?_
    have hf := HMid5.out.finish hk hbR HRAT.out
    exact ⟨h, r, _, _, M1, rfl, hf.1, HM1.out, hf.2, HSK.out h (fun k fs e1 _ => e1)⟩
end Go.Proofs.Ytbmpoecmjmmngaa
/- does: all kinds of acts. -/
namespace Go.Proofs.Ytbmpoecmjmmngaa
open Go.RowKit Go.Maps

@[reducible] def HAct.v (x : HAct) : Value := .agg #[.int .u8 x.k, .int .i64 x.g, .int .i64 x.n, .string x.nm, .string x.key, .string x.val]
theorem does_any (base p N : Nat) (M : Mem) (W : World) (h : HS) (r : RS) (a q : Value) (x : HAct) (c : HRun base p N M W h r a q) (hx : x.okA) (hN : N ≤ 90000) :
    Calls Try.prog 14 #[.pointer (some ⟨p, 0, none⟩), rsV r a q, x.v] W (DoesOut base p N M W h x) := by
  obtain ⟨xk, xg, xn, nm, key, val⟩ := x
  have h0 : 0 ≤ xk := hx.1.1
  have hk : xk % 10 = 0 ∨ xk % 10 = 1 ∨ xk % 10 = 2 ∨ xk % 10 = 3 ∨ xk % 10 = 4 ∨ xk % 10 = 5 ∨ xk % 10 = 6 ∨ xk % 10 = 7 ∨ xk % 10 = 8 ∨ xk % 10 = 9 := by omega
  rcases hk with e | e | e | e | e | e | e | e | e | e
  · exact does_put base p N M W h r a q xk xg xn nm key val c hx hN e
  · exact does_get base p N M W h r a q xk xg xn nm key val c hx hN e
  · exact does_delete base p N M W h r a q xk xg xn nm key val c hx hN e
  · exact does_clear base p N M W h r a q xk xg xn nm key val c hx hN e
  · exact does_scan base p N M W h r a q xk xg xn nm key val c hx hN e
  · exact does_snapshot base p N M W h r a q xk xg xn nm key val c hx hN e
  · exact does_drop base p N M W h r a q xk xg xn nm key val c hx hN e
  · exact does_reset base p N M W h r a q xk xg xn nm key val c hx hN e
  · exact does_entries base p N M W h r a q xk xg xn nm key val c hx hN e
  · exact does_groups base p N M W h r a q xk xg xn nm key val c hx hN e
end Go.Proofs.Ytbmpoecmjmmngaa
/- The reference's New. -/
namespace Go.Proofs.Ytbmpoecmjmmngaa
open Go.RowKit Go.Maps

set_option maxRecDepth 100000 in
set_option maxHeartbeats 2000000 in
theorem refNew_any (n : Int) (w : World) :
    Calls Try.prog 13 #[.int .i64 n] w fun e w' => e = .returned (.tuple #[if 1 ≤ n ∧ n ≤ 128 then .agg #[.int .i64 n, .int .i64 1, .slice none 0 0, .slice none 0 0] else .agg #[.int .i64 0, .int .i64 0, .slice none 0 0, .slice none 0 0], .int .i64 (if 1 ≤ n ∧ n ≤ 128 then 0 else 7)]) ∧ Below w.heap.size w w' := by
  have HB := Lib.hid (fun o => (show Below w.heap.size w (w.alloc o) from (Below.refl _ _).alloc (Nat.le_refl _) o))
  by_cases h : 1 ≤ n ∧ n ≤ 128
  · have HD := Lib.hid (decide_eq_true h)
    rw [if_pos h, if_pos h]
    clear h
    go_enter Try.func13, Try.ntmps13
    go_wp2_with fail
    refine (refIn_any n 128 _).mono ?_
    rintro e w1 ⟨rfl, rfl⟩
    rw [HD.out]
    go_wp2
    have g0 : (w.alloc (.cells #[.int .i64 n, .int .i64 1, .slice none 0 0, .slice none 0 0] 40)).heap[w.heap.size]? = some (.cells #[.int .i64 n, .int .i64 1, .slice none 0 0, .slice none 0 0] 40 (0, 0)) := heap_alloc_new w _
    have HB1 := Lib.hid (HB.out (.cells #[.int .i64 n, .int .i64 1, .slice none 0 0, .slice none 0 0] 40))
    generalize w.alloc (.cells #[.int .i64 n, .int .i64 1, .slice none 0 0, .slice none 0 0] 40) = wz at g0 HB1 ⊢
    have e0 : wz.cell? ⟨w.heap.size, 0, none⟩ = some (.int .i64 n) := mem_cells g0 0
    have e1 : wz.cell? ⟨w.heap.size, 1, none⟩ = some (.int .i64 1) := mem_cells g0 1
    have e2 : wz.cell? ⟨w.heap.size, 2, none⟩ = some (.slice none 0 0) := mem_cells g0 2
    have e3 : wz.cell? ⟨w.heap.size, 3, none⟩ = some (.slice none 0 0) := mem_cells g0 3
    exact bodyPost_ret (v := .tuple #[.agg #[.int .i64 n, .int .i64 1, .slice none 0 0, .slice none 0 0], .int .i64 0]) (by simp [results, Try.results13, go_sem, e0, e1, e2, e3]) rfl ⟨rfl, HB1.out⟩
  · have HD := Lib.hid (decide_eq_false h)
    rw [if_neg h, if_neg h]
    clear h
    go_enter Try.func13, Try.ntmps13
    go_wp2_with fail
    refine (refIn_any n 128 _).mono ?_
    rintro e w1 ⟨rfl, rfl⟩
    rw [HD.out]
    go_wp2
    have g0 : (w.alloc (.cells #[.int .i64 0, .int .i64 0, .slice none 0 0, .slice none 0 0] 40)).heap[w.heap.size]? = some (.cells #[.int .i64 0, .int .i64 0, .slice none 0 0, .slice none 0 0] 40 (0, 0)) := heap_alloc_new w _
    have HB1 := Lib.hid (HB.out (.cells #[.int .i64 0, .int .i64 0, .slice none 0 0, .slice none 0 0] 40))
    generalize w.alloc (.cells #[.int .i64 0, .int .i64 0, .slice none 0 0, .slice none 0 0] 40) = wz at g0 HB1 ⊢
    have e0 : wz.cell? ⟨w.heap.size, 0, none⟩ = some (.int .i64 0) := mem_cells g0 0
    have e1 : wz.cell? ⟨w.heap.size, 1, none⟩ = some (.int .i64 0) := mem_cells g0 1
    have e2 : wz.cell? ⟨w.heap.size, 2, none⟩ = some (.slice none 0 0) := mem_cells g0 2
    have e3 : wz.cell? ⟨w.heap.size, 3, none⟩ = some (.slice none 0 0) := mem_cells g0 3
    exact bodyPost_ret (v := .tuple #[.agg #[.int .i64 0, .int .i64 0, .slice none 0 0, .slice none 0 0], .int .i64 7]) (by simp [results, Try.results13, go_sem, e0, e1, e2, e3]) rfl ⟨rfl, HB1.out⟩
end Go.Proofs.Ytbmpoecmjmmngaa
/- The two states in a law: the reference's state stands in a variable of the law's own. -/
namespace Go.Proofs.Ytbmpoecmjmmngaa
open Go.RowKit Go.Maps

/-- A block that is not the heap's is written. -/
theorem HeapInv.other {base p R : Nat} {W W2 : World} {h : HS} (hi : HeapInv W base p h) (hk : Keeps (· = R) W W2) (nR : ¬ mutB p h R) (hz : ∀ o x, W.cell? ⟨R, o, none⟩ ≠ some (ptrTo x)) : HeapInv W2 base p h ∧ ((safe W p h).on (· ≠ R)).le (safe W2 p h) := by
  have hmk := hi.cells_kind
  have hat : ∀ k, mutB p h k → W2.heap[k]? = W.heap[k]? := fun k hm => hk.block k (hmk k hm) (fun e => nR (e ▸ hm))
  have hsafe : ((safe W p h).on (· ≠ R)).le (safe W2 p h) := fun b o v e => by
    obtain ⟨hne, e⟩ := Mem.of_on e
    obtain ⟨hm, e⟩ := Mem.of_on e
    exact Mem.on_some ((mem_of_block (hk.block b (mem_lt e) hne) o).trans e) hm
  have hz' : ∀ o x, (safe W p h) R o ≠ some (ptrTo x) := fun o x e => hz o x (Mem.of_on e).2
  exact ⟨⟨(hat p (.inl rfl)).trans hi.hb, hi.cu.at (fun k e => hat k (.inr (.inr (.inl e)))), hi.sn.at (hat _ (.inr (.inl rfl))),
    fun k x e => let ⟨h1, h2⟩ := hi.sr k x e; ⟨tPtrs.mono _ _ _ _ hsafe (ptrs_apart hz' h1), h2⟩,
    fun a ha => let ⟨h1, h2⟩ := hi.gb a ha; ⟨(hat a (.inr (.inr (.inr ⟨a, ha, .inl rfl⟩)))).trans h1, h2.at (hat _ (.inr (.inr (.inr ⟨a, ha, .inr rfl⟩))))⟩,
    hi.inj, hi.smb, hi.sh, hi.nd, hi.ge, Nat.le_trans hi.bw hk.size⟩, hsafe⟩
structure HLaw (base p N : Nat) (M : Mem) (R : Nat) (o W : World) (h : HS) (r : RS) (arr : Array Value) : Prop where
  inv : HeapInv W base p h
  mem : M.le ((safe W p h).on (· ≠ R))
  rel : Rel h.view r
  n1 : 1 ≤ r.N
  n128 : r.N ≤ 128
  nn : h.nn ≤ N
  last : h.last ≤ N
  hR : W.heap[R]? = some (.cells arr 40 (0, 0))
  hz : ∀ (j x : Nat), arr[j]? ≠ some (ptrTo x)
  nR : ¬ mutB p h R
  bl : Below o.heap.size o W
  ob : o.heap.size ≤ base
  oR : o.heap.size ≤ R
section
variable {base p N R : Nat} {M M' : Mem} {o W W' W2 : World} {h h' : HS} {r r' : RS} {a q : Value} {arr arr' : Array Value}
theorem HLaw.len (c : HLaw base p N M R o W h r arr) : h.cur.length = r.N := by rw [← c.rel.hN, view_len rfl]
theorem HLaw.le (c : HLaw base p N M R o W h r arr) : M.le (Go.Proofs.Ytbmpoecmjmmngaa.mem W) := Mem.le_trans c.mem (Mem.le_trans (Mem.on_le _ _) (Mem.on_le _ _))
theorem HLaw.run (c : HLaw base p N M R o W h r arr) (hr : RsAt M r a q) : HRun base p N M W h r a q := ⟨c.inv, Mem.le_trans c.mem (Mem.on_le _ _), c.rel, hr, c.n1, c.n128, c.nn, c.last⟩
theorem HLaw.pure0 (c : HLaw base p N M R o W h r arr) (hb : Below W.heap.size W W') : HLaw base p N M R o W' h r arr := by
  have hRl := (Array.getElem?_eq_some_iff.1 c.hR).1
  refine ⟨c.inv.pure hb, fun b x v e => ?_, c.rel, c.n1, c.n128, c.nn, c.last, (hb.block _ hRl).trans c.hR, c.hz, c.nR, c.bl.trans (hb.mono c.bl.size), c.ob, c.oR⟩
  obtain ⟨hne, e⟩ := Mem.of_on (c.mem _ _ _ e)
  exact Mem.on_some (safe_le ((below_keeps hb).wide (fun k h1 h2 => by omega)) (fun k hm => .inl hm) _ _ _ e) hne
theorem HLaw.grow (c : HLaw base p N M R o W h r arr) (hb : Below W.heap.size W W') : HLaw base p N (joinM M W W') R o W' h r arr := by
  have hk := c.inv.cells_kind
  have hRl := (Array.getElem?_eq_some_iff.1 c.hR).1
  have c' := c.pure0 hb
  refine ⟨c'.inv, fun b x v e => ?_, c.rel, c.n1, c.n128, c.nn, c.last, c'.hR, c.hz, c.nR, c'.bl, c.ob, c.oR⟩
  unfold joinM at e
  split at e
  · exact Mem.on_some (Mem.on_some e (fun hm => by have := hk b hm; omega)) (by omega)
  · exact c'.mem _ _ _ e
theorem HLaw.more (c : HLaw base p N M R o W h r arr) : HLaw base p (N + 1) M R o W h r arr := ⟨c.inv, c.mem, c.rel, c.n1, c.n128, Nat.le_succ_of_le c.nn, by have := c.last; omega, c.hR, c.hz, c.nR, c.bl, c.ob, c.oR⟩
theorem HLaw.step (c : HLaw base p N M R o W h r arr) (s : HStep W base p h W' h') (hr : Rel h'.view r') (hN : r'.N = r.N) (hn : h'.nn ≤ N + 1) (hl : h'.last ≤ N + 1) : HLaw base p (N + 1) M R o W' h' r' arr := by
  have hRl := (Array.getElem?_eq_some_iff.1 c.hR).1
  refine ⟨s.inv, fun b x v e => ?_, hr, hN ▸ c.n1, hN ▸ c.n128, hn, hl, (s.kp.block R hRl c.nR).trans c.hR, c.hz, fun hm => ?_, c.bl.trans ((s.below c.inv).mono c.ob), c.ob, c.oR⟩
  · obtain ⟨hne, e⟩ := Mem.of_on (c.mem _ _ _ e)
    exact Mem.on_some (safe_le s.kp s.mb _ _ _ e) hne
  · rcases s.mb R hm with e | e
    · exact c.nR e
    · omega
theorem HLaw.store (c : HLaw base p N M R o W h r arr) (hk : Keeps (· = R) W W2) (hR : W2.heap[R]? = some (.cells arr' 40 (0, 0))) (hz : ∀ (j x : Nat), arr'[j]? ≠ some (ptrTo x)) : HLaw base p N M R o W2 h r arr' := by
  obtain ⟨hi, hs⟩ := c.inv.other hk c.nR (fun j x e => c.hz j x ((mem_cells c.hR j).symm.trans e))
  refine ⟨hi, fun b x v e => ?_, c.rel, c.n1, c.n128, c.nn, c.last, hR, hz, c.nR, c.bl.trans (hk.below c.bl.size (fun k e => e ▸ c.oR)), c.ob, c.oR⟩
  have e := c.mem _ _ _ e
  exact Mem.on_some (hs _ _ _ e) (Mem.of_on e).1
/-- Behind an act. -/
theorem HLaw.after {x : HAct} {e : Ending} (c : HLaw base p N M R o W h r arr) (d : DoesOut base p N M W h x e W') :
    ∃ h' r' a' q' M', e = .returned (.tuple #[rsV r' a' q', .bool true]) ∧ HLaw base p (N + 1) M' R o W' h' r' arr ∧ RsAt M' r' a' q' ∧ M.le M' ∧ SnKept x h h' := by
  obtain ⟨h', r', a', q', M', rfl, hr, hm, kt, sk⟩ := d
  have hRl := (Array.getElem?_eq_some_iff.1 c.hR).1
  refine ⟨h', r', a', q', M', rfl, ⟨hr.inv, fun b x v e => Mem.on_some (hr.mem _ _ _ e) (fun hb => ?_), hr.rel, hr.n1, hr.n128, hr.nn, hr.last, (kt.kt.kp.block R hRl c.nR).trans c.hR, c.hz, fun hm => ?_, c.bl.trans (kt.kt.bl.mono c.ob), c.ob, c.oR⟩, hr.rat, hm, sk⟩
  · subst hb
    have e2 := kt.nw b x v hRl e
    exact (Mem.of_on (c.mem _ _ _ e2)).1 rfl
  · rcases kt.kt.mb R hm with e | e
    · exact c.nR e
    · have e : W.heap.size ≤ R := e
      omega
theorem rs_noptr {N : Nat} {nx : Int} {aa aq : Option Addr} {n k ca cq : Nat} : ∀ (j x : Nat), (#[.int .i64 N, .int .i64 nx, .slice aa n ca, .slice aq k cq] : Array Value)[j]? ≠ some (ptrTo x) := fun j x e => by
  match j, e with
  | 0, e => simp at e
  | 1, e => simp at e
  | 2, e => simp at e
  | 3, e => simp at e
  | j + 4, e => simp at e
end
end Go.Proofs.Ytbmpoecmjmmngaa
/- HeapSnapshots: the walk. -/
namespace Go.Proofs.Ytbmpoecmjmmngaa
open Go.RowKit Go.Maps

theorem many_len {l : List HAct} (h : manyOf l = false) : l.length ≤ 60 := by
  unfold manyOf at h
  rw [Bool.or_eq_false_iff] at h
  have := h.2
  simp at this
  exact this
set_option maxRecDepth 100000 in
set_option maxHeartbeats 16000000 in
theorem heapSnapshots_any (n : Int) (l1 l2 : List HAct) (v1 v2 : Value) (w : World) (hn : inI64 n) (h1 : tActs.rv (mem w) [v1] l1) (h2 : tActs.rv (mem w) [v2] l2) :
    Calls Try.prog 4 #[.int .i64 n, v1, v2] w fun e w' => e = .returned (.bool true) ∧ Below w.heap.size w w' := by
  obtain ⟨a1, k1, rfl, hl1, hm1, -⟩ := slice_form h1
  obtain ⟨a2, k2, rfl, hl2, hm2, -⟩ := slice_form h2
  have hk1 : k1 ≤ 9223372036854775807 := by unfold maxLen at hm1; exact hm1
  have hk2 : k2 ≤ 9223372036854775807 := by unfold maxLen at hm2; exact hm2
  have HV1 := Lib.hid (fun wr (hb : Below w.heap.size w wr) => (show tActs.rv (mem wr) [.slice a1 l1.length k1] l1 from tActs.mono _ _ _ _ (below_mem hb) h1))
  have HV2 := Lib.hid (fun wr (hb : Below w.heap.size w wr) => (show tActs.rv (mem wr) [.slice a2 l2.length k2] l2 from tActs.mono _ _ _ _ (below_mem hb) h2))
  have H1 := Lib.hid h1
  have H2 := Lib.hid h2
  clear h1 h2 hm1 hm2
  go_enter Try.func4, Try.ntmps4
  go_wp2_with fail
  refine (awake_any _).mono ?_
  rintro e w1 ⟨rfl, hb⟩
  have HB1 := Lib.hid hb
  clear hb
  go_wp2_with fail
  refine (many_any l1 _ _ (HV1.out _ HB1.out)).mono ?_
  rintro e w2 ⟨rfl, hb⟩
  have HB2 := Lib.hid (pure_trans HB1.out hb)
  clear hb HB1
  cases hq1 : manyOf l1
  case true =>
    go_wp2
    go_ret
    exact ⟨rfl, HB2.out⟩
  have hle1 := many_len hq1
  clear hq1
  go_wp2_with fail
  refine (many_any l2 _ _ (HV2.out _ HB2.out)).mono ?_
  rintro e w3 ⟨rfl, hb⟩
  have HB3 := Lib.hid (pure_trans HB2.out hb)
  clear hb HB2
  cases hq2 : manyOf l2
  case true =>
    go_wp2
    go_ret
    exact ⟨rfl, HB3.out⟩
  have hle2 := many_len hq2
  clear hq2
  by_cases hr : 1 ≤ n ∧ n ≤ 128
  case neg =>
    have HNR := Lib.hid (show n < 1 ∨ 128 < n by omega)
    have HRN := Lib.hid (fun (wr : World) => refNew_any n wr)
    rw [if_neg hr, if_neg hr] at HRN
    clear hr
    go_wp2_with fail
    refine (new_bad n _ HNR.out).mono ?_
    rintro e w4 ⟨rfl, hb⟩
    have HB4 := Lib.hid (pure_trans HB3.out hb)
    clear hb HB3
    go_wp2_with fail
    refine (HRN.out _).mono ?_
    rintro e w5 ⟨rfl, hb⟩
    have HB5 := Lib.hid (pure_trans HB4.out hb)
    clear hb HB4
    go_wp2
    go_ret
    exact ⟨rfl, HB5.out.alloc HB5.out.size _⟩
  obtain ⟨m, rfl⟩ := Int.eq_ofNat_of_zero_le (show 0 ≤ n by omega)
  have HRN := Lib.hid (fun (wr : World) => refNew_any (m : Int) wr)
  rw [if_pos hr, if_pos hr] at HRN
  have hm1 : 1 ≤ m := by omega
  have hm2 : m ≤ 128 := by omega
  clear hr
  go_wp2_with fail
  refine (new_any m _ hm1 hm2).mono ?_
  rintro e w4 ⟨rfl, h, hI, hvw, hnn0, hb⟩
  have HI4 := Lib.hid hI
  have HVW := Lib.hid hvw
  have HNN0 := Lib.hid hnn0
  have HB4 := Lib.hid (pure_trans HB3.out hb)
  have HWB := Lib.hid HB3.out.size
  clear hb HB3 hI hvw hnn0
  generalize w3.heap.size = base at *
  generalize base + 1 = p at *
  go_wp2_with fail
  refine (HRN.out _).mono ?_
  rintro e w5 ⟨rfl, hb⟩
  have HBX := Lib.hid (hb.alloc hb.size (.cells #[.int .i64 m, .int .i64 1, .slice none 0 0, .slice none 0 0] 40))
  have HIX := Lib.hid (HI4.out.pure HBX.out)
  have HRX := Lib.hid (heap_alloc_new w5 (.cells #[.int .i64 m, .int .i64 1, .slice none 0 0, .slice none 0 0] 40))
  have HS5 := Lib.hid hb.size
  clear hb
  go_wp2_with fail
  generalize w5.alloc (.cells #[.int .i64 m, .int .i64 1, .slice none 0 0, .slice none 0 0] 40) = X at *
  have HNM := Lib.hid (fun (k : Nat) (e : mutB p h k) => (show k < w5.heap.size from Nat.lt_of_lt_of_le (HI4.out.cells_kind k e) HS5.out))
  generalize w5.heap.size = R at *
  have HBo := Lib.hid (show Below w.heap.size w X from HB4.out.trans (HBX.out.mono HB4.out.size))
  have HL0 := Lib.hid (show HLaw base p 0 ((safe X p h).on (· ≠ R)) R w X h ⟨m, 1, [], []⟩ #[.int .i64 (⟨m, 1, [], []⟩ : RS).N, .int .i64 (⟨m, 1, [], []⟩ : RS).next, .slice none (⟨m, 1, [], []⟩ : RS).es.length 0, .slice none (⟨m, 1, [], []⟩ : RS).sn.length 0] from
    ⟨HIX.out, Mem.le_refl _, by rw [HVW.out]; exact Rel.new m, hm1, hm2, by rw [HNN0.out]; exact Nat.le_refl _, by have e : h.last = 0 := congrArg PS.last HVW.out; omega, HRX.out, rs_noptr, fun e => Nat.lt_irrefl _ (HNM.out R e), HBo.out, HWB.out, Nat.le_trans (Nat.le_trans HB4.out.size HS5.out) (Nat.le_refl _)⟩)
  have HR0 := Lib.hid (show RsAt ((safe X p h).on (· ≠ R)) ⟨m, 1, [], []⟩ (.slice none 0 0) (.slice none 0 0) from ⟨by show m ≤ 1000; omega, by unfold inI64; simp, slice_nil _ _, slice_nil _ _⟩)
  have HW0 := Lib.hid (show (mem w).le ((safe X p h).on (· ≠ R)) from fun b x v e => by
    have hlt := mem_lt e
    refine Mem.on_some (Mem.on_some (below_mem HBo.out _ _ _ e) (fun hm => ?_)) (fun e => ?_)
    · have := HIX.out.ge b hm; have := HWB.out; omega
    · have := HB4.out.size; have := HS5.out; omega)
  have HA0 := Lib.hid (show tActs.rv ((safe X p h).on (· ≠ R)) [.slice a1 l1.length k1] l1 ∧ tActs.rv ((safe X p h).on (· ≠ R)) [.slice a2 l2.length k2] l2 from ⟨tActs.mono _ _ _ _ HW0.out H1.out, tActs.mono _ _ _ _ HW0.out H2.out⟩)
  clear HV1 HV2 H1 H2 HI4 HVW HNN0 HB4 HWB HBX HIX HRX HS5 HNM HBo HW0 HRN
  go_loopw [11] (fun iv wr => ∃ (k : Nat) (M : Mem) (h : HS) (r : RS) (aa : Option Addr) (ca : Nat) (aq : Option Addr) (cq : Nat), k ≤ l1.length ∧ iv = .int .i64 k ∧ Hid (HLaw base p k M R w wr h r #[.int .i64 r.N, .int .i64 r.next, .slice aa r.es.length ca, .slice aq r.sn.length cq]) ∧ Hid (RsAt M r (.slice aa r.es.length ca) (.slice aq r.sn.length cq)) ∧ Hid (tActs.rv M [.slice a1 l1.length k1] l1 ∧ tActs.rv M [.slice a2 l2.length k2] l2)) (fun iv _ => l1.length - (intOf iv).toNat)
  case atStart => exact ⟨0, _, h, ⟨m, 1, [], []⟩, none, 0, none, 0, Nat.zero_le _, rfl, HL0, HR0, HA0⟩
  case round =>
    clear HL0 HR0 HA0
    obtain ⟨k, M, h, r, aa, ca, aq, cq, hk, rfl, HL, HRA, HA⟩ := hrel
    by_cases hlt : k < l1.length
    · obtain ⟨b, o, rfl, hat, hok⟩ := acts_at HA.out.1 hlt
      have d0 : wr.cell? ⟨b, o + k * 6, none⟩ = some (.int .u8 l1[k].k) := HL.out.le _ _ _ (hat 0 _ rfl)
      have d1 : wr.cell? ⟨b, o + k * 6 + 1, none⟩ = some (.int .i64 l1[k].g) := HL.out.le _ _ _ (hat 1 _ rfl)
      have d2 : wr.cell? ⟨b, o + k * 6 + 2, none⟩ = some (.int .i64 l1[k].n) := HL.out.le _ _ _ (hat 2 _ rfl)
      have d3 : wr.cell? ⟨b, o + k * 6 + 3, none⟩ = some (.string l1[k].nm) := HL.out.le _ _ _ (hat 3 _ rfl)
      have d4 : wr.cell? ⟨b, o + k * 6 + 4, none⟩ = some (.string l1[k].key) := HL.out.le _ _ _ (hat 4 _ rfl)
      have d5 : wr.cell? ⟨b, o + k * 6 + 5, none⟩ = some (.string l1[k].val) := HL.out.le _ _ _ (hat 5 _ rfl)
      clear hat
      generalize l1[k] = x at *
      obtain ⟨xk, xg, xn, nm, key, val⟩ := x
      simp only at d0 d1 d2 d3 d4 d5
      have HLD := Lib.hid (HL.out.pure0 (Below.refl wr.heap.size wr).drew)
      have HD := Lib.hid (does_any base p (k) M wr.drew h r _ _ ⟨xk, xg, xn, nm, key, val⟩ (HLD.out.run HRA.out) hok (by omega))
      have c0 : wr.cell? ⟨R, 0, none⟩ = some (.int .i64 r.N) := mem_cells HL.out.hR 0
      have c1 : wr.cell? ⟨R, 1, none⟩ = some (.int .i64 r.next) := mem_cells HL.out.hR 1
      have c2 : wr.cell? ⟨R, 2, none⟩ = some (.slice aa r.es.length ca) := mem_cells HL.out.hR 2
      have c3 : wr.cell? ⟨R, 3, none⟩ = some (.slice aq r.sn.length cq) := mem_cells HL.out.hR 3
      go_wp2_with fail
      go_region_law (go_simp; go_at_call 14; refine HD.out.mono ?_; rintro e w5 hd; obtain ⟨h5, r5, a5, q5, M5, rfl, hl5, hr5, hm5, hs5⟩ := HLD.out.after hd; obtain ⟨a6, k6, rfl, -, -, -⟩ := slice_form hr5.ha; obtain ⟨a7, k7, rfl, -, -, -⟩ := slice_form hr5.hq; have HL5 := Lib.hid hl5; have HR5 := Lib.hid hr5; have HM5 := Lib.hid hm5; have HS5 := Lib.hid hs5; have e0 : w5.cell? ⟨R, 0, none⟩ = some (.int .i64 r.N) := mem_cells hl5.hR 0; have e1 : w5.cell? ⟨R, 1, none⟩ = some (.int .i64 r.next) := mem_cells hl5.hR 1; have e2 : w5.cell? ⟨R, 2, none⟩ = some (.slice aa r.es.length ca) := mem_cells hl5.hR 2; have e3 : w5.cell? ⟨R, 3, none⟩ = some (.slice aq r.sn.length cq) := mem_cells hl5.hR 3; have z0 := frozen_cells hl5.hR 0; have z1 := frozen_cells hl5.hR 1; have z2 := frozen_cells hl5.hR 2; have z3 := frozen_cells hl5.hR 3; clear hd hl5 hr5 hm5 hs5)
      all_goals
        have HL6 := Lib.hid (HL5.out.store (store4_keeps w5 R (.int .i64 r5.N) (.int .i64 r5.next) (.slice a6 r5.es.length k6) (.slice a7 r5.sn.length k7)) (store4_block HL5.out.hR (.int .i64 r5.N) (.int .i64 r5.next) (.slice a6 r5.es.length k6) (.slice a7 r5.sn.length k7)) rs_noptr)
        go_wp2
        go_roundw
        case rel => exact ⟨k + 1, M5, h5, r5, a6, k6, a7, k7, by omega, by go_num, HL6, HR5, Lib.hid ⟨tActs.mono _ _ _ _ HM5.out HA.out.1, tActs.mono _ _ _ _ HM5.out HA.out.2⟩⟩
        case measure => simp [intOf]; omega
    · obtain rfl : k = l1.length := by omega
      have HA2 := Lib.hid HA.out.2
      clear HA
      have hnx : r.next = h.last + 1 := HL.out.rel.nx
      have hlast := HL.out.last
      have hpos : 0 ≤ h.last := HL.out.rel.pos
      have hnr0 : 0 ≤ r.next := by omega
      have hnr1 : r.next ≤ 1000000 := by omega
      have h20 := HL.out.rel.l20
      have hle := HL.out.rel.le
      have HKL := Lib.hid (show (r.sn.map Prod.fst).length = r.sn.length from List.length_map ..)
      have HPOS := Lib.hid hpos
      have HKY := Lib.hid HL.out.rel.keys
      have hnn := HL.out.nn
      have hlen := HL.out.len
      have h128 := HL.out.n128
      clear hnx hpos
      by_cases h20e : r.sn.length = 20
      case pos =>
        have H20E := Lib.hid h20e
        clear h20e
        go_wp2_with fail
        refine (snapshot_full (r.sn.map Prod.fst) wr HL.out.inv HKY.out (HKL.out.trans H20E.out)).mono ?_
        rintro e w5 ⟨rfl, rfl⟩
        go_wp2
        go_ret
        exact ⟨rfl, HL.out.bl⟩
      have H20E := Lib.hid h20e
      clear h20e
      go_wp2_with fail
      refine (snapshot_any (r.sn.map Prod.fst) wr HL.out.inv HKY.out (fun e => H20E.out (HKL.out.symm.trans e)) HPOS.out (by omega) (by omega) (by omega)).mono ?_
      rintro e w5 ⟨rfl, h5, st, hvw, hn5, hc5, -⟩
      have HL5 := Lib.hid (HL.out.step (r' := snapR r) st (by rw [hvw]; exact HL.out.rel.snap H20E.out) rfl (by omega) (by have e : h5.last = h.last + 1 := congrArg PS.last hvw; omega))
      have HSN := Lib.hid (show h5.view.sn (h.last + 1) = some h5.view.grps from by rw [hvw]; exact putAt_same _ _ _)
      have hc5l : h5.cur.length = r.N := HL5.out.len
      clear st hvw hc5 HKY
      go_wp2_with fail
      refine (all_any w5 HL5.out.inv (by omega) (by omega)).mono ?_
      rintro e w6 ⟨u, es, rfl, hall, hown, hb6⟩
      have HAL := Lib.hid hall
      have HL6 := Lib.hid (HL5.out.grow hb6)
      have HM6 := Lib.hid (joinM_le (W' := w6) HL5.out.le)
      have HU := Lib.hid (show tEnts.rv (joinM M w5 w6) [u] es from tEnts.mono _ _ _ _ joinM_new (hown.rv (S := (w5.heap.size ≤ ·)) (fun _ h => h) (fun _ _ _ h => h)))
      obtain ⟨au, cu, rfl, hmu⟩ := hown.len
      have hcu : es.length ≤ 9223372036854775807 := by unfold maxLen at hmu; exact hmu
      clear hall hown hb6 hmu
      have HRA6 := Lib.hid (HRA.out.mono HM6.out)
      have HA6 := Lib.hid (tActs.mono _ _ _ _ HM6.out HA2.out)
      generalize joinM M w5 w6 = M6 at *
      clear HM6 HRA HA2
      have c0 : w6.cell? ⟨R, 0, none⟩ = some (.int .i64 r.N) := mem_cells HL6.out.hR 0
      have c1 : w6.cell? ⟨R, 1, none⟩ = some (.int .i64 r.next) := mem_cells HL6.out.hR 1
      have c2 : w6.cell? ⟨R, 2, none⟩ = some (.slice aa r.es.length ca) := mem_cells HL6.out.hR 2
      have c3 : w6.cell? ⟨R, 3, none⟩ = some (.slice aq r.sn.length cq) := mem_cells HL6.out.hR 3
      go_wp2_with fail
      refine (refSnapshot_any r _ _ M6 w6 HL6.out.le HRA6.out hle h20 hnr0 hnr1).mono ?_
      rintro e w7 ⟨r2, a', q', n2, c2', hss, hb7, rfl, hr7⟩
      rcases hss with ⟨hs, _⟩ | ⟨-, rfl, rfl, rfl⟩
      case inl => exact absurd hs H20E.out
      have HL7 := Lib.hid (HL6.out.grow hb7)
      have HM7 := Lib.hid (joinM_le (W' := w7) HL6.out.le)
      have HA7 := Lib.hid (tActs.mono _ _ _ _ HM7.out HA6.out)
      have HU7 := Lib.hid (tEnts.mono _ _ _ _ HM7.out HU.out)
      obtain ⟨a6, k6, rfl, -, -, -⟩ := slice_form hr7.ha
      obtain ⟨a7, k7, rfl, -, -, -⟩ := slice_form hr7.hq
      have HR7 := Lib.hid hr7
      generalize joinM M6 w6 w7 = M7 at *
      generalize snapR r = r7 at *
      clear hb7 hr7 HM7 HA6 HU HRA6 c0 c1 c2 c3
      have c0 : w7.cell? ⟨R, 0, none⟩ = some (.int .i64 r.N) := mem_cells HL7.out.hR 0
      have c1 : w7.cell? ⟨R, 1, none⟩ = some (.int .i64 r.next) := mem_cells HL7.out.hR 1
      have c2 : w7.cell? ⟨R, 2, none⟩ = some (.slice aa r.es.length ca) := mem_cells HL7.out.hR 2
      have c3 : w7.cell? ⟨R, 3, none⟩ = some (.slice aq r.sn.length cq) := mem_cells HL7.out.hR 3
      have z0 := frozen_cells HL7.out.hR 0
      have z1 := frozen_cells HL7.out.hR 1
      have z2 := frozen_cells HL7.out.hR 2
      have z3 := frozen_cells HL7.out.hR 3
      have HL8 := Lib.hid (HL7.out.store (store4_keeps w7 R (.int .i64 r7.N) (.int .i64 r7.next) (.slice a6 r7.es.length k6) (.slice a7 r7.sn.length k7)) (store4_block HL7.out.hR (.int .i64 r7.N) (.int .i64 r7.next) (.slice a6 r7.es.length k6) (.slice a7 r7.sn.length k7)) rs_noptr)
      generalize hK : h.last + 1 = K at *
      have hK64 : inI64 K := by unfold inI64; have := HPOS.out; omega
      generalize h5.view.grps = gs at *
      clear hK HPOS HL6 HL5 HKL H20E
      go_wp2_with fail
      go_loopw [14] (fun iv wr => ∃ (k : Nat) (M : Mem) (h : HS) (r : RS) (aa : Option Addr) (ca : Nat) (aq : Option Addr) (cq : Nat), k ≤ l2.length ∧ iv = .int .i64 k ∧ Hid (HLaw base p (l1.length + 1 + k) M R w wr h r #[.int .i64 r.N, .int .i64 r.next, .slice aa r.es.length ca, .slice aq r.sn.length cq]) ∧ Hid (RsAt M r (.slice aa r.es.length ca) (.slice aq r.sn.length cq)) ∧ Hid (tActs.rv M [.slice a2 l2.length k2] l2) ∧ Hid (tEnts.rv M [.slice au es.length cu] es) ∧ Hid (h.view.sn K = some gs)) (fun iv _ => l2.length - (intOf iv).toNat)
      case atStart => exact ⟨0, M7, h5, r7, a6, k6, a7, k7, Nat.zero_le _, rfl, HL8, HR7, HA7, HU7, HSN⟩
      case round =>
        clear HL8 HR7 HA7 HU7 HSN HL7 HL
        obtain ⟨k, M, h, r, aa, ca, aq, cq, hk, rfl, HL, HRA, HA, HU, HSN⟩ := hrel
        clear c0 c1 c2 c3 z0 z1 z2 z3 hlast hnr0 hnr1 h20 hle hnn hlen h128 hn5 hc5l
        by_cases hlt : k < l2.length
        · obtain ⟨b, o, rfl, hat, hok⟩ := acts_at HA.out hlt
          have d0 : wr.cell? ⟨b, o + k * 6, none⟩ = some (.int .u8 l2[k].k) := HL.out.le _ _ _ (hat 0 _ rfl)
          have d1 : wr.cell? ⟨b, o + k * 6 + 1, none⟩ = some (.int .i64 l2[k].g) := HL.out.le _ _ _ (hat 1 _ rfl)
          have d2 : wr.cell? ⟨b, o + k * 6 + 2, none⟩ = some (.int .i64 l2[k].n) := HL.out.le _ _ _ (hat 2 _ rfl)
          have d3 : wr.cell? ⟨b, o + k * 6 + 3, none⟩ = some (.string l2[k].nm) := HL.out.le _ _ _ (hat 3 _ rfl)
          have d4 : wr.cell? ⟨b, o + k * 6 + 4, none⟩ = some (.string l2[k].key) := HL.out.le _ _ _ (hat 4 _ rfl)
          have d5 : wr.cell? ⟨b, o + k * 6 + 5, none⟩ = some (.string l2[k].val) := HL.out.le _ _ _ (hat 5 _ rfl)
          clear hat
          generalize l2[k] = x at *
          obtain ⟨xk, xg, xn, nm, key, val⟩ := x
          simp only at d0 d1 d2 d3 d4 d5
          have hx0 : 0 ≤ xk := hok.1.1
          have hxm : xk % 10 = xk.tmod 10 := (Int.tmod_eq_emod_of_nonneg hx0).symm
          have HXM := Lib.hid hxm
          clear hxm hx0
          have HKK := Lib.hid (show ∀ h', SnKept ⟨xk, xg, xn, nm, key, val⟩ h h' → ¬ (xk.tmod 10 = 6 ∧ xn = K) → h'.view.sn K = some gs from fun h' hs hne => hs K gs HSN.out (fun e => hne ⟨HXM.out.symm.trans e.1, e.2⟩))
          by_cases h6 : xk.tmod 10 = 6
          case pos =>
            by_cases hKK : xn = K
            case pos =>
              have h6b : (xk.tmod 10 == 6) = true := by simp [h6]
              have hKb : (xn == K) = true := by simp [hKK]
              go_wp2
              go_roundw
              case rel => exact ⟨k + 1, M, h, r, aa, ca, aq, cq, by omega, by go_num, Lib.hid HL.out.more, HRA, HA, HU, HSN⟩
              case measure => simp [intOf]; omega
            have h6b : (xk.tmod 10 == 6) = true := by simp [h6]
            have hKb : (xn == K) = false := by simp [hKK]
            have HNE := Lib.hid (fun h' hs => HKK.out h' hs (fun e => hKK e.2))
            clear HKK hKK
            have HLD := Lib.hid (HL.out.pure0 (Below.refl wr.heap.size wr).drew)
            have HD := Lib.hid (does_any base p (l1.length + 1 + k) M wr.drew h r _ _ ⟨xk, xg, xn, nm, key, val⟩ (HLD.out.run HRA.out) hok (by omega))
            have c0 : wr.cell? ⟨R, 0, none⟩ = some (.int .i64 r.N) := mem_cells HL.out.hR 0
            have c1 : wr.cell? ⟨R, 1, none⟩ = some (.int .i64 r.next) := mem_cells HL.out.hR 1
            have c2 : wr.cell? ⟨R, 2, none⟩ = some (.slice aa r.es.length ca) := mem_cells HL.out.hR 2
            have c3 : wr.cell? ⟨R, 3, none⟩ = some (.slice aq r.sn.length cq) := mem_cells HL.out.hR 3
            go_wp2_with fail
            go_region_law (go_simp; go_at_call 14; refine HD.out.mono ?_; rintro e w5 hd; obtain ⟨h5, r5, a5, q5, M5, rfl, hl5, hr5, hm5, hs5⟩ := HLD.out.after hd; obtain ⟨a6, k6, rfl, -, -, -⟩ := slice_form hr5.ha; obtain ⟨a7, k7, rfl, -, -, -⟩ := slice_form hr5.hq; have HL5 := Lib.hid hl5; have HR5 := Lib.hid hr5; have HM5 := Lib.hid hm5; have HS5 := Lib.hid hs5; have e0 : w5.cell? ⟨R, 0, none⟩ = some (.int .i64 r.N) := mem_cells hl5.hR 0; have e1 : w5.cell? ⟨R, 1, none⟩ = some (.int .i64 r.next) := mem_cells hl5.hR 1; have e2 : w5.cell? ⟨R, 2, none⟩ = some (.slice aa r.es.length ca) := mem_cells hl5.hR 2; have e3 : w5.cell? ⟨R, 3, none⟩ = some (.slice aq r.sn.length cq) := mem_cells hl5.hR 3; have z0 := frozen_cells hl5.hR 0; have z1 := frozen_cells hl5.hR 1; have z2 := frozen_cells hl5.hR 2; have z3 := frozen_cells hl5.hR 3; clear hd hl5 hr5 hm5 hs5)
            all_goals
              have HL6 := Lib.hid (HL5.out.store (store4_keeps w5 R (.int .i64 r5.N) (.int .i64 r5.next) (.slice a6 r5.es.length k6) (.slice a7 r5.sn.length k7)) (store4_block HL5.out.hR (.int .i64 r5.N) (.int .i64 r5.next) (.slice a6 r5.es.length k6) (.slice a7 r5.sn.length k7)) rs_noptr)
              go_wp2
              go_roundw
              case rel => exact ⟨k + 1, M5, h5, r5, a6, k6, a7, k7, by omega, by go_num, HL6, HR5, Lib.hid (tActs.mono _ _ _ _ HM5.out HA.out), Lib.hid (tEnts.mono _ _ _ _ HM5.out HU.out), Lib.hid (HNE.out h5 HS5.out)⟩
              case measure => simp [intOf]; omega
          have h6b : (xk.tmod 10 == 6) = false := by simp [h6]
          have HNE := Lib.hid (fun h' hs => HKK.out h' hs (fun e => h6 e.1))
          clear HKK
          have HLD := Lib.hid (HL.out.pure0 (Below.refl wr.heap.size wr).drew)
          have HD := Lib.hid (does_any base p (l1.length + 1 + k) M wr.drew h r _ _ ⟨xk, xg, xn, nm, key, val⟩ (HLD.out.run HRA.out) hok (by omega))
          have c0 : wr.cell? ⟨R, 0, none⟩ = some (.int .i64 r.N) := mem_cells HL.out.hR 0
          have c1 : wr.cell? ⟨R, 1, none⟩ = some (.int .i64 r.next) := mem_cells HL.out.hR 1
          have c2 : wr.cell? ⟨R, 2, none⟩ = some (.slice aa r.es.length ca) := mem_cells HL.out.hR 2
          have c3 : wr.cell? ⟨R, 3, none⟩ = some (.slice aq r.sn.length cq) := mem_cells HL.out.hR 3
          go_wp2_with fail
          go_region_law (go_simp; go_at_call 14; refine HD.out.mono ?_; rintro e w5 hd; obtain ⟨h5, r5, a5, q5, M5, rfl, hl5, hr5, hm5, hs5⟩ := HLD.out.after hd; obtain ⟨a6, k6, rfl, -, -, -⟩ := slice_form hr5.ha; obtain ⟨a7, k7, rfl, -, -, -⟩ := slice_form hr5.hq; have HL5 := Lib.hid hl5; have HR5 := Lib.hid hr5; have HM5 := Lib.hid hm5; have HS5 := Lib.hid hs5; have e0 : w5.cell? ⟨R, 0, none⟩ = some (.int .i64 r.N) := mem_cells hl5.hR 0; have e1 : w5.cell? ⟨R, 1, none⟩ = some (.int .i64 r.next) := mem_cells hl5.hR 1; have e2 : w5.cell? ⟨R, 2, none⟩ = some (.slice aa r.es.length ca) := mem_cells hl5.hR 2; have e3 : w5.cell? ⟨R, 3, none⟩ = some (.slice aq r.sn.length cq) := mem_cells hl5.hR 3; have z0 := frozen_cells hl5.hR 0; have z1 := frozen_cells hl5.hR 1; have z2 := frozen_cells hl5.hR 2; have z3 := frozen_cells hl5.hR 3; clear hd hl5 hr5 hm5 hs5)
          all_goals
            have HL6 := Lib.hid (HL5.out.store (store4_keeps w5 R (.int .i64 r5.N) (.int .i64 r5.next) (.slice a6 r5.es.length k6) (.slice a7 r5.sn.length k7)) (store4_block HL5.out.hR (.int .i64 r5.N) (.int .i64 r5.next) (.slice a6 r5.es.length k6) (.slice a7 r5.sn.length k7)) rs_noptr)
            go_wp2
            go_roundw
            case rel => exact ⟨k + 1, M5, h5, r5, a6, k6, a7, k7, by omega, by go_num, HL6, HR5, Lib.hid (tActs.mono _ _ _ _ HM5.out HA.out), Lib.hid (tEnts.mono _ _ _ _ HM5.out HU.out), Lib.hid (HNE.out h5 HS5.out)⟩
            case measure => simp [intOf]; omega
        · obtain rfl : k = l2.length := by omega
          have hlen := HL.out.len
          have h128 := HL.out.n128
          have h1' := HL.out.n1
          have hnn := HL.out.nn
          go_wp2_with fail
          refine (stEntries_any K wr HL.out.inv hK64 (by omega) (by omega)).mono ?_
          rintro e w8 ⟨u2, es2, c8, rfl, hse, hown, hb8, -, -⟩
          have hse2 : AllOf 0 gs es2 ∧ c8 = 0 := by
            unfold SnapEnts at hse
            rw [HSN.out] at hse
            exact hse
          obtain ⟨ha2, rfl⟩ := hse2
          obtain rfl : es = es2 := HAL.out.one ha2
          have HL8 := Lib.hid (HL.out.pure0 hb8)
          have HSE := Lib.hid (sameEnts_any es _ _ w8 hown.rv' (tEnts.mono _ _ _ _ HL8.out.le HU.out))
          obtain ⟨a8, c8', rfl, -⟩ := hown.len
          clear hse hown hb8 ha2
          go_wp2_with fail
          refine HSE.out.mono ?_
          rintro e w9 ⟨rfl, hb9⟩
          have HL9 := Lib.hid (HL8.out.pure0 hb9)
          clear hb9 HSE HL8
          go_wp2_with fail
          refine (reset_any K w9 HL9.out.inv hK64 (by omega) (by omega) (by omega)).mono ?_
          rintro e w10 ⟨h10, st, hn', hc', hs', hor⟩
          rcases hor with ⟨h2, _⟩ | ⟨fs, es3, h2, h3, rfl, h4⟩
          case inl => have := HSN.out; rw [h2] at this; cases this
          obtain rfl : gs = fs := by have := HSN.out; rw [h2] at this; injection this with e; exact e.symm
          have HI10 := Lib.hid st.inv
          have HM10 := Lib.hid (show M.le (mem w10) from Mem.le_trans HL9.out.mem (Mem.le_trans (Mem.on_le _ _) (Mem.le_trans st.safe (Mem.on_le _ _))))
          have HB10 := Lib.hid (HL9.out.bl.trans ((st.below HL9.out.inv).mono HL9.out.ob))
          have HG10 := Lib.hid (show h10.view.grps = gs from by rw [h4])
          clear st hs' h2 h3 h4
          go_wp2_with fail
          refine (all_any w10 HI10.out (by omega) (by omega)).mono ?_
          rintro e w11 ⟨u3, es3', rfl, ha3, hown3, hb11⟩
          obtain rfl : es = es3' := HAL.out.one (HG10.out ▸ ha3)
          have HSE := Lib.hid (sameEnts_any es _ _ w11 hown3.rv' (tEnts.mono _ _ _ _ (Mem.le_trans HM10.out (below_mem hb11)) HU.out))
          have HB11 := Lib.hid (HB10.out.trans (hb11.mono HB10.out.size))
          obtain ⟨a11, c11, rfl, -⟩ := hown3.len
          clear ha3 hown3 hb11
          go_wp2_with fail
          refine HSE.out.mono ?_
          rintro e w12 ⟨rfl, hb12⟩
          have HB12 := Lib.hid (HB11.out.trans (hb12.mono HB11.out.size))
          clear hb12 HSE
          go_wp2
          go_ret
          exact ⟨rfl, HB12.out⟩
end Go.Proofs.Ytbmpoecmjmmngaa
/- The methods of a nil state. -/
namespace Go.Proofs.Ytbmpoecmjmmngaa
open Go.RowKit Go.Maps Go.Shelf
attribute [local go_sem] Oper.semAt_some

theorem getNil (g : Int) (nm key : ByteArray) (w : World) :
    Calls Try.prog 10 #[.pointer none, .int .i64 g, .string nm, .string key] w fun e w' => e = .returned (.tuple #[.string ⟨#[]⟩, .int .i64 1]) ∧ Below w.heap.size w w' := by
  have hb0 : ∀ o, Below w.heap.size w (w.alloc o) := fun o => (Below.refl _ _).alloc (Nat.le_refl _) o
  go_enter Try.func10, Try.ntmps10
  go_wp2_with fail
  refine (checked_nil _ _ _ _).mono ?_
  rintro e w1 ⟨rfl, hb⟩
  have hB := pure_trans (hb0 _) hb
  go_wp2
  go_ret2
  exact ⟨rfl, hB⟩
theorem putNil (g : Int) (nm key val : ByteArray) (w : World) :
    Calls Try.prog 9 #[.pointer none, .int .i64 g, .string nm, .string key, .string val] w fun e w' => e = .returned (.int .i64 1) ∧ Below w.heap.size w w' := by
  have hb0 : ∀ o, Below w.heap.size w (w.alloc o) := fun o => (Below.refl _ _).alloc (Nat.le_refl _) o
  go_enter Try.func9, Try.ntmps9
  go_wp2_with fail
  refine (checked_nil _ _ _ _).mono ?_
  rintro e w1 ⟨rfl, hb⟩
  have hB := pure_trans (hb0 _) hb
  go_wp2
  go_ret
  exact ⟨rfl, hB⟩
theorem deleteNil (g : Int) (nm key : ByteArray) (w : World) :
    Calls Try.prog 23 #[.pointer none, .int .i64 g, .string nm, .string key] w fun e w' => e = .returned (.int .i64 1) ∧ Below w.heap.size w w' := by
  go_enter Try.func23, Try.ntmps23
  go_wp2_with fail
  refine (getNil _ _ _ _).mono ?_
  rintro e w1 ⟨rfl, hb⟩
  go_wp2
  go_ret
  exact ⟨rfl, hb⟩
theorem snapshotNil (w : World) : Calls Try.prog 15 #[.pointer none] w fun e w' => e = .returned (.tuple #[.int .i64 0, .int .i64 1]) ∧ Below w.heap.size w w' := by
  go_enter Try.func15, Try.ntmps15
  go_wp2
  go_ret2
  exact ⟨rfl, Below.refl _ _⟩
theorem groupsNil (a b : Int) (w : World) : Calls Try.prog 22 #[.pointer none, .int .i64 a, .int .i64 b] w fun e w' => e = .returned (.tuple #[.slice none 0 0, .int .i64 1]) ∧ Below w.heap.size w w' := by
  go_enter Try.func22, Try.ntmps22
  go_wp2
  go_ret2
  exact ⟨rfl, Below.refl _ _⟩
theorem snapNil (k : Int) (w : World) : Calls Try.prog 47 #[.pointer none, .int .i64 k] w fun e w' => e = .returned (.tuple #[.slice none 0 0, .int .i64 1]) ∧ w = w' := by
  go_enter Try.func47, Try.ntmps47
  go_wp2
  go_ret2
  exact ⟨rfl, rfl⟩
theorem dropNil (k : Int) (w : World) : Calls Try.prog 26 #[.pointer none, .int .i64 k] w fun e w' => e = .returned (.int .i64 1) ∧ Below w.heap.size w w' := by
  go_enter Try.func26, Try.ntmps26
  go_wp2_with fail
  refine (snapNil _ _).mono ?_
  rintro e w1 ⟨rfl, rfl⟩
  go_wp2
  go_ret
  exact ⟨rfl, Below.refl _ _⟩
theorem resetNil (k : Int) (w : World) : Calls Try.prog 20 #[.pointer none, .int .i64 k] w fun e w' => e = .returned (.int .i64 1) ∧ Below w.heap.size w w' := by
  go_enter Try.func20, Try.ntmps20
  go_wp2_with fail
  refine (snapNil _ _).mono ?_
  rintro e w1 ⟨rfl, rfl⟩
  go_wp2
  go_ret
  exact ⟨rfl, Below.refl _ _⟩
theorem allNil (w : World) : Calls Try.prog 16 #[.pointer none] w fun e w' => e = .returned (.slice none 0 0) ∧ Below w.heap.size w w' := by
  go_enter Try.func16, Try.ntmps16
  go_wp2
  go_ret
  exact ⟨rfl, Below.refl _ _⟩
theorem countNil (w : World) : Calls Try.prog 24 #[.pointer none] w fun e w' => e = .returned (.int .i64 0) ∧ Below w.heap.size w w' := by
  go_enter Try.func24, Try.ntmps24
  go_wp2
  go_ret
  exact ⟨rfl, Below.refl _ _⟩
theorem snapshotsNil (w : World) : Calls Try.prog 25 #[.pointer none] w fun e w' => e = .returned (.slice none 0 0) ∧ Below w.heap.size w w' := by
  go_enter Try.func25, Try.ntmps25
  go_wp2
  go_ret
  exact ⟨rfl, Below.refl _ _⟩
set_option maxRecDepth 100000 in
set_option maxHeartbeats 1000000 in
theorem scanNil (g : Int) (nm a b : ByteArray) (w : World) :
    Calls Try.prog 38 #[.pointer none, .int .i64 g, .string nm, .string a, .string b] w fun e w' => e = .returned (.tuple #[.slice none 0 0, .int .i64 1]) ∧ Below w.heap.size w w' := by
  have hb0 : ∀ o1 o2 o3 o4, Below w.heap.size w ((((w.alloc o1).alloc o2).alloc o3).alloc o4) := fun o1 o2 o3 o4 => ((((Below.refl _ _).alloc (Nat.le_refl _) o1).alloc (by simp) o2).alloc (by simp; omega) o3).alloc (by simp; omega) o4
  refine (callsIn_wide (n := 0)).1 (callsIn_of_wp_marks Try.func38 rfl trivial ?_ rfl)
  simp only [Try.ntmps38, List.size_toArray, List.length_cons, List.length_nil, Nat.reduceAdd, Nat.reduceSub, Array.replicate_succ, Array.replicate_zero, List.push_toArray, List.append_toArray, List.nil_append, List.cons_append]
  gi_wp2
  refine ⟨trivial, rfl, ((callsIn_wide (n := 0)).2 (checked_nil _ _ _ _)).mono ?_⟩
  rintro e w1 ⟨rfl, hb⟩
  have HB := Lib.hid (pure_trans (hb0 _ _ _ _) hb)
  clear hb hb0
  gi_wp2
  refine ⟨.tuple #[.slice none 0 0, .int .i64 1], ?_, ⟨rfl, HB.out⟩⟩
  unfold results
  rw [show Try.f38.results = #[.tmp 10, .tmp 11] from rfl]
  simp [go_sem, Result.andThen]
theorem clearNil (g : Int) (nm : ByteArray) (w : World) : Calls Try.prog 21 #[.pointer none, .int .i64 g, .string nm] w fun e w' => e = .returned (.tuple #[.int .i64 0, .int .i64 1]) ∧ Below w.heap.size w w' := by
  go_enter Try.func21, Try.ntmps21
  go_wp2_with fail
  refine (scanNil _ _ _ _ _).mono ?_
  rintro e w1 ⟨rfl, hb⟩
  go_wp2
  refine wp_loop_rounds 1 ?_
  rw [rounds_succ]
  go_wp2
  go_ret2
  exact ⟨rfl, hb⟩
end Go.Proofs.Ytbmpoecmjmmngaa
/- The law HeapNothing, walked. -/
namespace Go.Proofs.Ytbmpoecmjmmngaa
open Go.RowKit Go.Maps

def tU8 : Ty Int := ⟨1, fun _ cs x => cs = [.int .u8 x] ∧ 0 ≤ x ∧ x ≤ 255, fun _ _ _ h => by rw [h.1]; rfl, fun _ _ _ _ _ h => h⟩
theorem reads_u8 {P : Program} {T : TypeId} (ht : P.underlying T = some (.int .u8)) : Reads P T tU8 := fun _ _ _ _ _ _ h => by
  obtain ⟨n, h1, _, h3⟩ := DataW.trod_int ht h
  refine ⟨n, h1, ?_⟩
  have : 0 ≤ n ∧ n ≤ 255 := by simpa [Lit.wf, IntKind.min, IntKind.max, IntKind.signed, IntKind.bits] using h3
  exact this
set_option maxRecDepth 100000 in
theorem reads_hact : Reads Try.prog 46 tAct := fun H enc w n cs d h => by
  obtain ⟨xs, n', _, _, hl, hx, hg⟩ := DataW.trod_struct Try.underlying46 h
  rw [show Try.prog.cellsOf 46 = 6 from by kernel_rfl] at hl
  have g0 := hg 0 _ rfl
  obtain ⟨x0, r0⟩ := field_read (reads_u8 Try.underlying5) 0 1 rfl rfl (by kernel_rfl) g0 (by rw [hx]; decide)
  have g1 := hg 1 _ rfl
  obtain ⟨x1, r1⟩ := field_read (reads_int Try.underlying3) 1 1 rfl rfl (by kernel_rfl) g1 (by rw [hx]; decide)
  have g2 := hg 2 _ rfl
  obtain ⟨x2, r2⟩ := field_read (reads_int Try.underlying3) 2 1 rfl rfl (by kernel_rfl) g2 (by rw [hx]; decide)
  have g3 := hg 3 _ rfl
  obtain ⟨x3, r3⟩ := field_read (reads_str Try.underlying9) 3 1 rfl rfl (by kernel_rfl) g3 (by rw [hx]; decide)
  have g4 := hg 4 _ rfl
  obtain ⟨x4, r4⟩ := field_read (reads_str Try.underlying9) 4 1 rfl rfl (by kernel_rfl) g4 (by rw [hx]; decide)
  have g5 := hg 5 _ rfl
  obtain ⟨x5, r5⟩ := field_read (reads_str Try.underlying9) 5 1 rfl rfl (by kernel_rfl) g5 (by rw [hx]; decide)
  match cs, hl with
  | [c0, c1, c2, c3, c4, c5], _ =>
    obtain ⟨e0, i0⟩ := r0
    obtain ⟨e1, i1⟩ := r1
    obtain ⟨e2, i2⟩ := r2
    obtain ⟨e3, i3⟩ := r3
    obtain ⟨e4, i4⟩ := r4
    obtain ⟨e5, i5⟩ := r5
    simp at e0 e1 e2 e3 e4 e5
    exact ⟨⟨x0, x1, x2, x3, x4, x5⟩, by rw [e0, e1, e2, e3, e4, e5], i0, i1, i2, i3, i4, i5⟩
theorem reads_hacts : Reads Try.prog 35 tActs := reads_slice Try.underlying35 (by kernel_rfl) (by decide) reads_hact
theorem act_one {m : Mem} {b : Nat} {x : HAct} (h : ∀ j v, x.cs[j]? = some v → m b j = some v) (hok : x.okA) : tActs.rv m [.slice (some ⟨b, 0, none⟩) 1 1] [x] := by
  refine ⟨some ⟨b, 0, none⟩, 1, rfl, Nat.le_refl 1, by unfold maxLen; decide, fun _ => ⟨b, 0, rfl, fun k hk => ?_⟩⟩
  have hk : k < 1 := hk
  match k, hk with
  | 0, _ => exact ⟨x.cs, fun j v hj => by rw [show 0 + 0 * tAct.sz + j = j by omega]; exact h j v hj, rfl, hok⟩
set_option maxRecDepth 100000 in
set_option maxHeartbeats 8000000 in
theorem heapNothing_any (a : HAct) (w : World) (hok : a.okA) :
    Calls Try.prog 5 #[.agg #[.int .u8 a.k, .int .i64 a.g, .int .i64 a.n, .string a.nm, .string a.key, .string a.val]] w fun e w' => e = .returned (.bool true) ∧ Below w.heap.size w w' := by
  obtain ⟨xk, xg, xn, nm, key, val⟩ := a
  have HOK := Lib.hid hok
  have HB0 := Lib.hid (show Below w.heap.size w (w.alloc (.cells #[.int .u8 xk, .int .i64 xg, .int .i64 xn, .string nm, .string key, .string val] 46)) from (Below.refl _ _).alloc (Nat.le_refl _) _)
  have HBK := Lib.hid (heap_alloc_new w (.cells #[.int .u8 xk, .int .i64 xg, .int .i64 xn, .string nm, .string key, .string val] 46))
  clear hok
  go_enter Try.func5, Try.ntmps5
  go_wp2_with fail
  refine (awake_any _).mono ?_
  rintro e w1 ⟨rfl, hb⟩
  have HB1 := Lib.hid (pure_trans HB0.out hb)
  have hbk1 := (hb.block w.heap.size (by simp)).trans HBK.out
  have HBK1 := Lib.hid hbk1
  have c0 : w1.cell? ⟨w.heap.size, 0, none⟩ = some (.int .u8 xk) := mem_cells hbk1 0
  have c1 : w1.cell? ⟨w.heap.size, 1, none⟩ = some (.int .i64 xg) := mem_cells hbk1 1
  have c2 : w1.cell? ⟨w.heap.size, 2, none⟩ = some (.int .i64 xn) := mem_cells hbk1 2
  have c3 : w1.cell? ⟨w.heap.size, 3, none⟩ = some (.string nm) := mem_cells hbk1 3
  have c4 : w1.cell? ⟨w.heap.size, 4, none⟩ = some (.string key) := mem_cells hbk1 4
  have c5 : w1.cell? ⟨w.heap.size, 5, none⟩ = some (.string val) := mem_cells hbk1 5
  have HMA := Lib.hid (fun (T : TypeId) => many_any [⟨xk, xg, xn, nm, key, val⟩] (.slice (some ⟨w1.heap.size, 0, none⟩) 1 1) (w1.alloc (.cells #[.int .u8 xk, .int .i64 xg, .int .i64 xn, .string nm, .string key, .string val] T)) (act_one (x := ⟨xk, xg, xn, nm, key, val⟩) (fun j v hj => by
    have := mem_cells_new w1 #[.int .u8 xk, .int .i64 xg, .int .i64 xn, .string nm, .string key, .string val] T (0, 0) j
    have h2 : (#[.int .u8 xk, .int .i64 xg, .int .i64 xn, .string nm, .string key, .string val] : Array Value)[j]? = some v := by simpa using hj
    rw [h2] at this
    exact this) HOK.out))
  have HBL := Lib.hid (fun o => (show Below w1.heap.size w1 (w1.alloc o) from (Below.refl _ _).alloc (Nat.le_refl _) o))
  clear hb hbk1 HB0 HBK
  go_wp2_with fail
  refine (HMA.out _).mono ?_
  generalize manyOf _ = b
  rintro e w2 ⟨rfl, hb⟩
  have HB12 := Lib.hid (pure_trans (HBL.out _) hb)
  have HB2 := Lib.hid (pure_trans HB1.out HB12.out)
  have hbk2 := (HB12.out.block w.heap.size (mem_lt c0)).trans HBK1.out
  have HBK2 := Lib.hid hbk2
  clear hb HMA HBL HB1 HB12 HBK1 c0 c1 c2 c3 c4 c5
  cases b with
  | true =>
    clear hbk2
    go_wp2
    go_ret
    exact ⟨rfl, HB2.out⟩
  | false =>
  have HCC := Lib.hid (fun (W : World) (h : Below w2.heap.size w2 W) => (show W.cell? ⟨w.heap.size, 1, none⟩ = some (.int .i64 xg) ∧ W.cell? ⟨w.heap.size, 2, none⟩ = some (.int .i64 xn) ∧ W.cell? ⟨w.heap.size, 3, none⟩ = some (.string nm) ∧ W.cell? ⟨w.heap.size, 4, none⟩ = some (.string key) ∧ W.cell? ⟨w.heap.size, 5, none⟩ = some (.string val) from
    have hbk := (h.block w.heap.size (Array.getElem?_eq_some_iff.1 HBK2.out).1).trans HBK2.out
    ⟨mem_cells hbk 1, mem_cells hbk 2, mem_cells hbk 3, mem_cells hbk 4, mem_cells hbk 5⟩))
  clear hbk2
  obtain ⟨c1, c2, c3, c4, c5⟩ := HCC.out w2 (Below.refl _ _)
  go_wp2_with fail
  refine (getNil _ _ _ _).mono ?_
  rintro e w3 ⟨rfl, hb⟩
  have HB3 := Lib.hid hb
  clear hb c1 c2 c3 c4 c5
  obtain ⟨c1, c2, c3, c4, c5⟩ := HCC.out w3 HB3.out
  go_wp2_with fail
  refine (clearNil _ _ _).mono ?_
  rintro e w4 ⟨rfl, hb⟩
  have HB4 := Lib.hid (pure_trans HB3.out hb)
  clear hb c1 c2 c3 c4 c5
  obtain ⟨c1, c2, c3, c4, c5⟩ := HCC.out w4 HB4.out
  go_wp2_with fail
  refine (snapshotNil _).mono ?_
  rintro e w5 ⟨rfl, hb⟩
  have HB5 := Lib.hid (pure_trans HB4.out hb)
  clear hb c1 c2 c3 c4 c5
  obtain ⟨c1, c2, c3, c4, c5⟩ := HCC.out w5 HB5.out
  go_wp2_with fail
  refine (groupsNil _ _ _).mono ?_
  rintro e w6 ⟨rfl, hb⟩
  have HB6 := Lib.hid (pure_trans HB5.out hb)
  clear hb c1 c2 c3 c4 c5
  obtain ⟨c1, c2, c3, c4, c5⟩ := HCC.out w6 HB6.out
  go_wp2_with fail
  refine (putNil _ _ _ _ _).mono ?_
  rintro e w7 ⟨rfl, hb⟩
  have HB7 := Lib.hid (pure_trans HB6.out hb)
  clear hb c1 c2 c3 c4 c5
  obtain ⟨c1, c2, c3, c4, c5⟩ := HCC.out w7 HB7.out
  go_wp2_with fail
  refine (deleteNil _ _ _ _).mono ?_
  rintro e w8 ⟨rfl, hb⟩
  have HB8 := Lib.hid (pure_trans HB7.out hb)
  clear hb c1 c2 c3 c4 c5
  obtain ⟨c1, c2, c3, c4, c5⟩ := HCC.out w8 HB8.out
  go_wp2_with fail
  refine (allNil _).mono ?_
  rintro e w9 ⟨rfl, hb⟩
  have HB9 := Lib.hid (pure_trans HB8.out hb)
  clear hb c1 c2 c3 c4 c5
  obtain ⟨c1, c2, c3, c4, c5⟩ := HCC.out w9 HB9.out
  go_wp2_with fail
  refine (countNil _).mono ?_
  rintro e w10 ⟨rfl, hb⟩
  have HB10 := Lib.hid (pure_trans HB9.out hb)
  clear hb c1 c2 c3 c4 c5
  obtain ⟨c1, c2, c3, c4, c5⟩ := HCC.out w10 HB10.out
  go_wp2_with fail
  refine (snapshotsNil _).mono ?_
  rintro e w11 ⟨rfl, hb⟩
  have HB11 := Lib.hid (pure_trans HB10.out hb)
  clear hb c1 c2 c3 c4 c5
  obtain ⟨c1, c2, c3, c4, c5⟩ := HCC.out w11 HB11.out
  go_wp2_with fail
  refine (dropNil _ _).mono ?_
  rintro e w12 ⟨rfl, hb⟩
  have HB12 := Lib.hid (pure_trans HB11.out hb)
  clear hb c1 c2 c3 c4 c5
  obtain ⟨c1, c2, c3, c4, c5⟩ := HCC.out w12 HB12.out
  go_wp2_with fail
  refine (resetNil _ _).mono ?_
  rintro e w13 ⟨rfl, hb⟩
  have HB13 := Lib.hid (pure_trans HB2.out (pure_trans HB12.out hb))
  clear hb c1 c2 c3 c4 c5
  go_wp2
  go_ret
  exact ⟨rfl, HB13.out⟩
end Go.Proofs.Ytbmpoecmjmmngaa
