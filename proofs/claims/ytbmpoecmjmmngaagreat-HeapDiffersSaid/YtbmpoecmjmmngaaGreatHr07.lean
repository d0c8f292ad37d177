/- Part 7 of the texts that the law's proof stands on, merged. -/
import Derived.Deep.RegionHeld3
import Derived.Deep.RegionLaw
import Derived.Shelf.SlIterI.Keys
import Derived.Shelf.SlIterI.Sorted
import Derived.Shelf.SlIterI.Nil
import Derived.Shelf.SortM.Plain
import Derived.Shelf.SortM.SortNone
import Derived.Ground.GgzProg
import Derived.Ground.SlgmProg
import Derived.Test.YtbmpoecmjmmngaaGreatProg
import Derived.Maps.Views
import Derived.BigQuiet
import Derived.Test.YtbmpoecmjmmngaaGreatHr06
set_option linter.unusedVariables false
set_option linter.unusedSimpArgs false
/- does: groups. -/
namespace Go.Proofs.YtbmpoecmjmmngaaGreat
open Go.RowKit Go.Maps
set_option maxRecDepth 100000 in
set_option maxHeartbeats 16000000 in
theorem does_groups (base p N : Nat) (M : Mem) (W : World) (h : HS) (r : RS) (a q : Value) (xk xg xn : Int) (nm key val : ByteArray) (c : HRun base p N M W h r a q) (hx : (⟨xk, xg, xn, nm, key, val⟩ : HAct).okA) (hN : N ≤ 90000) (hkd : xk % 10 = 9) :
    Calls Tryz.prog 19 #[.pointer (some ⟨p, 0, none⟩), rsV r a q, .agg #[.int .u8 xk, .int .i64 xg, .int .i64 xn, .string nm, .string key, .string val]] W (DoesOut base p N M W h ⟨xk, xg, xn, nm, key, val⟩) := by
  obtain ⟨⟨hk0, -⟩, hxg, hxn, hnm, hkey, hval⟩ := hx
  have hkt : xk.tmod 10 = 9 := by rw [Int.tmod_eq_emod_of_nonneg hk0]; exact hkd
  clear hk0
  simp only at hxg hxn hnm hkey hval
  have HSK := Lib.hid (fun (h' : HS) (e : ∀ k fs, h.view.sn k = some fs → ¬ ((9 : Int) = 6 ∧ xn = k) → h'.view.sn k = some fs) => (show SnKept ⟨xk, xg, xn, nm, key, val⟩ h h' from fun k fs e1 e2 => e k fs e1 (fun ee => e2 ⟨hkd.trans ee.1, ee.2⟩)))
  obtain ⟨aa, ca, rfl, hla, hma, hra⟩ := slice_form c.rat.ha
  obtain ⟨aq, cq, rfl, hlq, hmq, hrq⟩ := slice_form c.rat.hq
  have hca : ca ≤ 9223372036854775807 := by unfold maxLen at hma; exact hma
  have hcq : cq ≤ 9223372036854775807 := by unfold maxLen at hmq; exact hmq
  have HB := Lib.hid (show Below W.heap.size W (((W.alloc (.cells #[.int .i64 r.N, .int .i64 r.next, .slice aa r.es.length ca, .slice aq r.sn.length cq] 43)).alloc (.cells #[.int .u8 xk, .int .i64 xg, .int .i64 xn, .string nm, .string key, .string val] 49)).alloc rsZ) from (((Below.refl W.heap.size W).alloc (Nat.le_refl _) _).alloc (by simp) _).alloc (by simp; omega) _)
  have hY : ∀ (b : Nat) (o o' : Obj) (w : World), w.heap[b]? = some o → (w.alloc o').heap[b]? = some o := fun b o o' w e => (Below.heap_alloc _ _ _ (Array.getElem?_eq_some_iff.1 e).1).trans e
  have y4 : (((W.alloc (.cells #[.int .i64 r.N, .int .i64 r.next, .slice aa r.es.length ca, .slice aq r.sn.length cq] 43)).alloc (.cells #[.int .u8 xk, .int .i64 xg, .int .i64 xn, .string nm, .string key, .string val] 49)).alloc rsZ).heap[W.heap.size]? = some (.cells #[.int .i64 r.N, .int .i64 r.next, .slice aa r.es.length ca, .slice aq r.sn.length cq] 43 (0, 0)) := hY _ _ _ _ (hY _ _ _ _ (heap_alloc_new W _))
  have y5 : (((W.alloc (.cells #[.int .i64 r.N, .int .i64 r.next, .slice aa r.es.length ca, .slice aq r.sn.length cq] 43)).alloc (.cells #[.int .u8 xk, .int .i64 xg, .int .i64 xn, .string nm, .string key, .string val] 49)).alloc rsZ).heap[W.heap.size + 1]? = some (.cells #[.int .u8 xk, .int .i64 xg, .int .i64 xn, .string nm, .string key, .string val] 49 (0, 0)) := hY _ _ _ _ (by have h := heap_alloc_new (W.alloc (.cells #[.int .i64 r.N, .int .i64 r.next, .slice aa r.es.length ca, .slice aq r.sn.length cq] 43)) (.cells #[.int .u8 xk, .int .i64 xg, .int .i64 xn, .string nm, .string key, .string val] 49); rwa [World.size_alloc] at h)
  have yR : (((W.alloc (.cells #[.int .i64 r.N, .int .i64 r.next, .slice aa r.es.length ca, .slice aq r.sn.length cq] 43)).alloc (.cells #[.int .u8 xk, .int .i64 xg, .int .i64 xn, .string nm, .string key, .string val] 49)).alloc rsZ).heap[W.heap.size + 1 + 1]? = some rsZ := by have h := heap_alloc_new ((W.alloc (.cells #[.int .i64 r.N, .int .i64 r.next, .slice aa r.es.length ca, .slice aq r.sn.length cq] 43)).alloc (.cells #[.int .u8 xk, .int .i64 xg, .int .i64 xn, .string nm, .string key, .string val] 49)) rsZ; simpa only [World.size_alloc] using h
  obtain ⟨M1, hMid, hM1, hnew1, hrat⟩ := c.start HB.out (R := W.heap.size + 1 + 1) yR (by omega)
  have HRAT := Lib.hid hrat
  have HM1 := Lib.hid hM1
  have hbR : W.heap.size ≤ W.heap.size + 1 + 1 := by omega
  have hle := c.rel.le
  have h20 := c.rel.l20
  have HASC := Lib.hid c.rel.es.asc
  have hnn := c.nn
  have hlast := c.last
  have hn1 := c.n1
  have hn128 := c.n128
  have hlen := c.len
  have HC4 := Lib.hid (fun (wq : World) (hq : M1.le (mem wq)) => (show wq.cell? ⟨W.heap.size, 0, none⟩ = some (.int .i64 r.N) ∧ wq.cell? ⟨W.heap.size, 1, none⟩ = some (.int .i64 r.next) ∧ wq.cell? ⟨W.heap.size, 2, none⟩ = some (.slice aa r.es.length ca) ∧ wq.cell? ⟨W.heap.size, 3, none⟩ = some (.slice aq r.sn.length cq) from ⟨hq _ _ _ (hnew1 _ _ _ (Mem.on_some (mem_cells y4 0) ⟨by omega, by omega⟩)), hq _ _ _ (hnew1 _ _ _ (Mem.on_some (mem_cells y4 1) ⟨by omega, by omega⟩)), hq _ _ _ (hnew1 _ _ _ (Mem.on_some (mem_cells y4 2) ⟨by omega, by omega⟩)), hq _ _ _ (hnew1 _ _ _ (Mem.on_some (mem_cells y4 3) ⟨by omega, by omega⟩))⟩))
  have HC5 := Lib.hid (fun (wq : World) (hq : M1.le (mem wq)) => (show wq.cell? ⟨W.heap.size + 1, 0, none⟩ = some (.int .u8 xk) ∧ wq.cell? ⟨W.heap.size + 1, 1, none⟩ = some (.int .i64 xg) ∧ wq.cell? ⟨W.heap.size + 1, 2, none⟩ = some (.int .i64 xn) ∧ wq.cell? ⟨W.heap.size + 1, 3, none⟩ = some (.string nm) ∧ wq.cell? ⟨W.heap.size + 1, 4, none⟩ = some (.string key) ∧ wq.cell? ⟨W.heap.size + 1, 5, none⟩ = some (.string val) from ⟨hq _ _ _ (hnew1 _ _ _ (Mem.on_some (mem_cells y5 0) ⟨by omega, by omega⟩)), hq _ _ _ (hnew1 _ _ _ (Mem.on_some (mem_cells y5 1) ⟨by omega, by omega⟩)), hq _ _ _ (hnew1 _ _ _ (Mem.on_some (mem_cells y5 2) ⟨by omega, by omega⟩)), hq _ _ _ (hnew1 _ _ _ (Mem.on_some (mem_cells y5 3) ⟨by omega, by omega⟩)), hq _ _ _ (hnew1 _ _ _ (Mem.on_some (mem_cells y5 4) ⟨by omega, by omega⟩)), hq _ _ _ (hnew1 _ _ _ (Mem.on_some (mem_cells y5 5) ⟨by omega, by omega⟩))⟩))
  clear hY y4 y5 yR hnew1 hra hrq hma hmq hM1 hrat c
  go_enter Tryz.func19, Tryz.ntmps19
  go_upto_region 1 with fail
  generalize ((W.alloc (.cells #[.int .i64 r.N, .int .i64 r.next, .slice aa r.es.length ca, .slice aq r.sn.length cq] 43)).alloc (.cells #[.int .u8 xk, .int .i64 xg, .int .i64 xn, .string nm, .string key, .string val] 49)).alloc rsZ = Y at HB hMid ⊢
  have HMI := Lib.hid hMid
  obtain ⟨c0, c1, c2, c3⟩ := HC4.out Y hMid.le
  obtain ⟨d0, d1, d2, d3, d4, d5⟩ := HC5.out Y hMid.le
  clear hMid
  go_upto_region 2 with fail
  try rw [hkt]
  go_wp2_with fail
  refine (groups_any xg xn Y HMI.out.inv hxg hxn (by omega) (by omega)).mono ?_
  rintro e w1 ⟨u, es, c, rfl, hown, hb1, hsc⟩
  have HMid2 := Lib.hid (HMI.out.pure0 hb1)
  have HU := Lib.hid (hown.rv')
  obtain ⟨au, cu, rfl, hmu⟩ := hown.len
  have hcu : es.length ≤ 9223372036854775807 := by unfold maxLen at hmu; exact hmu
  have HSC := Lib.hid hsc
  clear hsc hown hb1 hmu
  clear c0 c1 c2 c3 d0 d1 d2 d3 d4 d5
  obtain ⟨c0, c1, c2, c3⟩ := HC4.out w1 HMid2.out.le
  obtain ⟨d0, d1, d2, d3, d4, d5⟩ := HC5.out w1 HMid2.out.le
  go_wp2_with fail
  refine (refGroups_any r _ _ w1 (HRAT.out.mono HMid2.out.le) hle xg xn).mono ?_
  rintro e w2 ⟨v2, es2, c2', rfl, hrv, hb2, hss⟩
  obtain ⟨rfl, rfl⟩ := groups_both HMI.out.rel hlen HSC.out hss
  have HMid3 := Lib.hid (HMid2.out.pure0 hb2)
  have HV := Lib.hid hrv
  have HU2 := Lib.hid (tEnts.mono _ _ _ _ (below_mem hb2) HU.out)
  obtain ⟨av, cv, rfl, -, hmv, -⟩ := slice_form hrv
  have hcv : cv ≤ 9223372036854775807 := by unfold maxLen at hmv; exact hmv
  clear hrv hmv hss hb2 HU HSC
  clear c0 c1 c2 c3 d0 d1 d2 d3 d4 d5
  have HMD := Lib.hid (HMid3.out.pure0 (Below.refl _ _).drew)
  have HSS := Lib.hid (fun (w' : World) (hq : M1.le (mem w')) => (show w'.cell? ⟨W.heap.size, 0, none⟩ = some (.int .i64 r.N) ∧ w'.cell? ⟨W.heap.size, 1, none⟩ = some (.int .i64 r.next) ∧ w'.cell? ⟨W.heap.size, 2, none⟩ = some (.slice aa r.es.length ca) ∧ w'.cell? ⟨W.heap.size, 3, none⟩ = some (.slice aq r.sn.length cq) from HC4.out w' hq))
  have HSR := Lib.hid (fun (N' : Nat) (h' : HS) (r' : RS) (wq : World) (hq : HMid base p N' M1 (W.heap.size + 1 + 1) (W, h, M) wq h' r') => (show ((((wq.setCell ⟨W.heap.size + 1 + 1, 0, none⟩ (.int .i64 r.N)).setCell ⟨W.heap.size + 1 + 1, 1, none⟩ (.int .i64 r.next)).setCell ⟨W.heap.size + 1 + 1, 2, none⟩ (.slice aa r.es.length ca)).setCell ⟨W.heap.size + 1 + 1, 3, none⟩ (.slice aq r.sn.length cq)).cell? ⟨W.heap.size, 0, none⟩ = some (.int .i64 r.N) ∧ ((((wq.setCell ⟨W.heap.size + 1 + 1, 0, none⟩ (.int .i64 r.N)).setCell ⟨W.heap.size + 1 + 1, 1, none⟩ (.int .i64 r.next)).setCell ⟨W.heap.size + 1 + 1, 2, none⟩ (.slice aa r.es.length ca)).setCell ⟨W.heap.size + 1 + 1, 3, none⟩ (.slice aq r.sn.length cq)).cell? ⟨W.heap.size, 1, none⟩ = some (.int .i64 r.next) ∧ ((((wq.setCell ⟨W.heap.size + 1 + 1, 0, none⟩ (.int .i64 r.N)).setCell ⟨W.heap.size + 1 + 1, 1, none⟩ (.int .i64 r.next)).setCell ⟨W.heap.size + 1 + 1, 2, none⟩ (.slice aa r.es.length ca)).setCell ⟨W.heap.size + 1 + 1, 3, none⟩ (.slice aq r.sn.length cq)).cell? ⟨W.heap.size, 2, none⟩ = some (.slice aa r.es.length ca) ∧ ((((wq.setCell ⟨W.heap.size + 1 + 1, 0, none⟩ (.int .i64 r.N)).setCell ⟨W.heap.size + 1 + 1, 1, none⟩ (.int .i64 r.next)).setCell ⟨W.heap.size + 1 + 1, 2, none⟩ (.slice aa r.es.length ca)).setCell ⟨W.heap.size + 1 + 1, 3, none⟩ (.slice aq r.sn.length cq)).cell? ⟨W.heap.size, 3, none⟩ = some (.slice aq r.sn.length cq) from HSS.out _ (hq.stored (store4_keeps wq (W.heap.size + 1 + 1) (.int .i64 r.N) (.int .i64 r.next) (.slice aa r.es.length ca) (.slice aq r.sn.length cq)))))
  have s0 := HSS.out w2.drew HMD.out.le
  have HSE := Lib.hid (sameEnts_any es _ _ w2.drew HU2.out HV.out)
  have hcc : (c == c) = true := by simp
  go_upto_region 36 with fail
  go_region_held3 (fun w' => w'.cell? ⟨W.heap.size, 0, none⟩ = some (.int .i64 r.N) ∧ w'.cell? ⟨W.heap.size, 1, none⟩ = some (.int .i64 r.next) ∧ w'.cell? ⟨W.heap.size, 2, none⟩ = some (.slice aa r.es.length ca) ∧ w'.cell? ⟨W.heap.size, 3, none⟩ = some (.slice aq r.sn.length cq)) (first | with_reducible exact s0 | with_reducible exact HSS.out w5 hm5 | with_reducible exact HSR.out _ _ _ w5 HMid5.out | go_keep)
    ((first
      | (go_at_call 10; refine HSE.out.mono ?_; rintro e w5 ⟨rfl, hb5⟩; have hMid5 := (HMD.out.pure0 hb5).more; have hm5 := hMid5.le; have HMid5 := Lib.hid hMid5; obtain ⟨z0, z1, z2, z3, zz⟩ := HMid5.out.res; have zz0 := zz 0; have zz1 := zz 1; have zz2 := zz 2; have zz3 := zz 3; clear zz; clear hMid5 hb5)))
  all_goals
    go_wp2
    have r1 := store4_block (HMid5.out.hR) (.int .i64 r.N) (.int .i64 r.next) (.slice aa r.es.length ca) (.slice aq r.sn.length cq)
    have hk := store4_keeps (w5) (W.heap.size + 1 + 1) (.int .i64 r.N) (.int .i64 r.next) (.slice aa r.es.length ca) (.slice aq r.sn.length cq)
    show bodyPost _ _ _ _ _ (store4 (w5) (W.heap.size + 1 + 1) (.int .i64 r.N) (.int .i64 r.next) (.slice aa r.es.length ca) (.slice aq r.sn.length cq))
    generalize store4 (w5) (W.heap.size + 1 + 1) (.int .i64 r.N) (.int .i64 r.next) (.slice aa r.es.length ca) (.slice aq r.sn.length cq) = wz at r1 hk ⊢
    have g0 : wz.cell? ⟨W.heap.size + 1 + 1, 0, none⟩ = some (.int .i64 r.N) := mem_cells r1 0
    have g1 : wz.cell? ⟨W.heap.size + 1 + 1, 1, none⟩ = some (.int .i64 r.next) := mem_cells r1 1
    have g2 : wz.cell? ⟨W.heap.size + 1 + 1, 2, none⟩ = some (.slice aa r.es.length ca) := mem_cells r1 2
    have g3 : wz.cell? ⟨W.heap.size + 1 + 1, 3, none⟩ = some (.slice aq r.sn.length cq) := mem_cells r1 3
    refine bodyPost_ret (v := .tuple #[.agg #[.int .i64 r.N, .int .i64 r.next, .slice aa r.es.length ca, .slice aq r.sn.length cq], .bool true]) (by simp [results, Tryz.results19, go_sem, g0, g1, g2, g3]) rfl ?_
    have hf := HMid5.out.finish hk hbR HRAT.out
    exact ⟨h, r, _, _, M1, rfl, hf.1, HM1.out, hf.2, HSK.out h (fun k fs e1 _ => e1)⟩
end Go.Proofs.YtbmpoecmjmmngaaGreat
/- does: all kinds of acts. -/
namespace Go.Proofs.YtbmpoecmjmmngaaGreat
open Go.RowKit Go.Maps

@[reducible] def HAct.v (x : HAct) : Value := .agg #[.int .u8 x.k, .int .i64 x.g, .int .i64 x.n, .string x.nm, .string x.key, .string x.val]
theorem does_any (base p N : Nat) (M : Mem) (W : World) (h : HS) (r : RS) (a q : Value) (x : HAct) (c : HRun base p N M W h r a q) (hx : x.okA) (hN : N ≤ 90000) :
    Calls Tryz.prog 19 #[.pointer (some ⟨p, 0, none⟩), rsV r a q, x.v] W (DoesOut base p N M W h x) := by
  obtain ⟨xk, xg, xn, nm, key, val⟩ := x
  have h0 : 0 ≤ xk := hx.1.1
  have hk : xk % 10 = 0 ∨ xk % 10 = 1 ∨ xk % 10 = 2 ∨ xk % 10 = 3 ∨ xk % 10 = 4 ∨ xk % 10 = 5 ∨ xk % 10 = 6 ∨ xk % 10 = 7 ∨ xk % 10 = 8 ∨ xk % 10 = 9 := by omega
  rcases hk with e | e | e | e | e | e | e | e | e | e
  · exact does_put base p N M W h r a q xk xg xn nm key val c hx hN e
  · exact does_get base p N M W h r a q xk xg xn nm key val c hx hN e
  · exact does_delete base p N M W h r a q xk xg xn nm key val c hx hN e
  · exact does_clear base p N M W h r a q xk xg xn nm key val c hx hN e
  · exact does_scan base p N M W h r a q xk xg xn nm key val c hx hN e
  · exact does_snapshot base p N M W h r a q xk xg xn nm key val c hx hN e
  · exact does_drop base p N M W h r a q xk xg xn nm key val c hx hN e
  · exact does_reset base p N M W h r a q xk xg xn nm key val c hx hN e
  · exact does_entries base p N M W h r a q xk xg xn nm key val c hx hN e
  · exact does_groups base p N M W h r a q xk xg xn nm key val c hx hN e
end Go.Proofs.YtbmpoecmjmmngaaGreat
/- The reference's New. -/
namespace Go.Proofs.YtbmpoecmjmmngaaGreat
open Go.RowKit Go.Maps

set_option maxRecDepth 100000 in
set_option maxHeartbeats 2000000 in
theorem refNew_any (n : Int) (w : World) :
    Calls Tryz.prog 18 #[.int .i64 n] w fun e w' => e = .returned (.tuple #[if 1 ≤ n ∧ n ≤ 128 then .agg #[.int .i64 n, .int .i64 1, .slice none 0 0, .slice none 0 0] else .agg #[.int .i64 0, .int .i64 0, .slice none 0 0, .slice none 0 0], .int .i64 (if 1 ≤ n ∧ n ≤ 128 then 0 else 7)]) ∧ Below w.heap.size w w' := by
  have HB := Lib.hid (fun o => (show Below w.heap.size w (w.alloc o) from (Below.refl _ _).alloc (Nat.le_refl _) o))
  by_cases h : 1 ≤ n ∧ n ≤ 128
  · have HD := Lib.hid (decide_eq_true h)
    rw [if_pos h, if_pos h]
    clear h
    go_enter Tryz.func18, Tryz.ntmps18
    go_wp2_with fail
    refine (refIn_any n 128 _).mono ?_
    rintro e w1 ⟨rfl, rfl⟩
    rw [HD.out]
    go_wp2
    have g0 : (w.alloc (.cells #[.int .i64 n, .int .i64 1, .slice none 0 0, .slice none 0 0] 43)).heap[w.heap.size]? = some (.cells #[.int .i64 n, .int .i64 1, .slice none 0 0, .slice none 0 0] 43 (0, 0)) := heap_alloc_new w _
    have HB1 := Lib.hid (HB.out (.cells #[.int .i64 n, .int .i64 1, .slice none 0 0, .slice none 0 0] 43))
    generalize w.alloc (.cells #[.int .i64 n, .int .i64 1, .slice none 0 0, .slice none 0 0] 43) = wz at g0 HB1 ⊢
    have e0 : wz.cell? ⟨w.heap.size, 0, none⟩ = some (.int .i64 n) := mem_cells g0 0
    have e1 : wz.cell? ⟨w.heap.size, 1, none⟩ = some (.int .i64 1) := mem_cells g0 1
    have e2 : wz.cell? ⟨w.heap.size, 2, none⟩ = some (.slice none 0 0) := mem_cells g0 2
    have e3 : wz.cell? ⟨w.heap.size, 3, none⟩ = some (.slice none 0 0) := mem_cells g0 3
    exact bodyPost_ret (v := .tuple #[.agg #[.int .i64 n, .int .i64 1, .slice none 0 0, .slice none 0 0], .int .i64 0]) (by simp [results, Tryz.results18, go_sem, e0, e1, e2, e3]) rfl ⟨rfl, HB1.out⟩
  · have HD := Lib.hid (decide_eq_false h)
    rw [if_neg h, if_neg h]
    clear h
    go_enter Tryz.func18, Tryz.ntmps18
    go_wp2_with fail
    refine (refIn_any n 128 _).mono ?_
    rintro e w1 ⟨rfl, rfl⟩
    rw [HD.out]
    go_wp2
    have g0 : (w.alloc (.cells #[.int .i64 0, .int .i64 0, .slice none 0 0, .slice none 0 0] 43)).heap[w.heap.size]? = some (.cells #[.int .i64 0, .int .i64 0, .slice none 0 0, .slice none 0 0] 43 (0, 0)) := heap_alloc_new w _
    have HB1 := Lib.hid (HB.out (.cells #[.int .i64 0, .int .i64 0, .slice none 0 0, .slice none 0 0] 43))
    generalize w.alloc (.cells #[.int .i64 0, .int .i64 0, .slice none 0 0, .slice none 0 0] 43) = wz at g0 HB1 ⊢
    have e0 : wz.cell? ⟨w.heap.size, 0, none⟩ = some (.int .i64 0) := mem_cells g0 0
    have e1 : wz.cell? ⟨w.heap.size, 1, none⟩ = some (.int .i64 0) := mem_cells g0 1
    have e2 : wz.cell? ⟨w.heap.size, 2, none⟩ = some (.slice none 0 0) := mem_cells g0 2
    have e3 : wz.cell? ⟨w.heap.size, 3, none⟩ = some (.slice none 0 0) := mem_cells g0 3
    exact bodyPost_ret (v := .tuple #[.agg #[.int .i64 0, .int .i64 0, .slice none 0 0, .slice none 0 0], .int .i64 7]) (by simp [results, Tryz.results18, go_sem, e0, e1, e2, e3]) rfl ⟨rfl, HB1.out⟩
end Go.Proofs.YtbmpoecmjmmngaaGreat
/- The two states in a law: the reference's state stands in a variable of the law's own. -/
namespace Go.Proofs.YtbmpoecmjmmngaaGreat
open Go.RowKit Go.Maps

/-- A block that is not the heap's is written. -/
theorem HeapInv.other {base p R : Nat} {W W2 : World} {h : HS} (hi : HeapInv W base p h) (hk : Keeps (· = R) W W2) (nR : ¬ mutB p h R) (hz : ∀ o x, W.cell? ⟨R, o, none⟩ ≠ some (ptrTo x)) : HeapInv W2 base p h ∧ ((safe W p h).on (· ≠ R)).le (safe W2 p h) := by
  have hmk := hi.cells_kind
  have hat : ∀ k, mutB p h k → W2.heap[k]? = W.heap[k]? := fun k hm => hk.block k (hmk k hm) (fun e => nR (e ▸ hm))
  have hsafe : ((safe W p h).on (· ≠ R)).le (safe W2 p h) := fun b o v e => by
    obtain ⟨hne, e⟩ := Mem.of_on e
    obtain ⟨hm, e⟩ := Mem.of_on e
    exact Mem.on_some ((mem_of_block (hk.block b (mem_lt e) hne) o).trans e) hm
  have hz' : ∀ o x, (safe W p h) R o ≠ some (ptrTo x) := fun o x e => hz o x (Mem.of_on e).2
  exact ⟨⟨(hat p (.inl rfl)).trans hi.hb, hi.cu.at (fun k e => hat k (.inr (.inr (.inl e)))), hi.sn.at (hat _ (.inr (.inl rfl))),
    fun k x e => let ⟨h1, h2⟩ := hi.sr k x e; ⟨tPtrs.mono _ _ _ _ hsafe (ptrs_apart hz' h1), h2⟩,
    fun a ha => let ⟨h1, h2⟩ := hi.gb a ha; ⟨(hat a (.inr (.inr (.inr ⟨a, ha, .inl rfl⟩)))).trans h1, h2.at (hat _ (.inr (.inr (.inr ⟨a, ha, .inr rfl⟩))))⟩,
    hi.inj, hi.smb, hi.sh, hi.nd, hi.ge, Nat.le_trans hi.bw hk.size⟩, hsafe⟩
structure HLaw (base p N : Nat) (M : Mem) (R : Nat) (o W : World) (h : HS) (r : RS) (arr : Array Value) : Prop where
  inv : HeapInv W base p h
  mem : M.le ((safe W p h).on (· ≠ R))
  rel : Rel h.view r
  n1 : 1 ≤ r.N
  n128 : r.N ≤ 128
  nn : h.nn ≤ N
  last : h.last ≤ N
  hR : W.heap[R]? = some (.cells arr 43 (0, 0))
  hz : ∀ (j x : Nat), arr[j]? ≠ some (ptrTo x)
  nR : ¬ mutB p h R
  bl : Below o.heap.size o W
  ob : o.heap.size ≤ base
  oR : o.heap.size ≤ R
section
variable {base p N R : Nat} {M M' : Mem} {o W W' W2 : World} {h h' : HS} {r r' : RS} {a q : Value} {arr arr' : Array Value}
theorem HLaw.len (c : HLaw base p N M R o W h r arr) : h.cur.length = r.N := by rw [← c.rel.hN, view_len rfl]
theorem HLaw.le (c : HLaw base p N M R o W h r arr) : M.le (Go.Proofs.YtbmpoecmjmmngaaGreat.mem W) := Mem.le_trans c.mem (Mem.le_trans (Mem.on_le _ _) (Mem.on_le _ _))
theorem HLaw.run (c : HLaw base p N M R o W h r arr) (hr : RsAt M r a q) : HRun base p N M W h r a q := ⟨c.inv, Mem.le_trans c.mem (Mem.on_le _ _), c.rel, hr, c.n1, c.n128, c.nn, c.last⟩
theorem HLaw.pure0 (c : HLaw base p N M R o W h r arr) (hb : Below W.heap.size W W') : HLaw base p N M R o W' h r arr := by
  have hRl := (Array.getElem?_eq_some_iff.1 c.hR).1
  refine ⟨c.inv.pure hb, fun b x v e => ?_, c.rel, c.n1, c.n128, c.nn, c.last, (hb.block _ hRl).trans c.hR, c.hz, c.nR, c.bl.trans (hb.mono c.bl.size), c.ob, c.oR⟩
  obtain ⟨hne, e⟩ := Mem.of_on (c.mem _ _ _ e)
  exact Mem.on_some (safe_le ((below_keeps hb).wide (fun k h1 h2 => by omega)) (fun k hm => .inl hm) _ _ _ e) hne
theorem HLaw.grow (c : HLaw base p N M R o W h r arr) (hb : Below W.heap.size W W') : HLaw base p N (joinM M W W') R o W' h r arr := by
  have hk := c.inv.cells_kind
  have hRl := (Array.getElem?_eq_some_iff.1 c.hR).1
  have c' := c.pure0 hb
  refine ⟨c'.inv, fun b x v e => ?_, c.rel, c.n1, c.n128, c.nn, c.last, c'.hR, c.hz, c.nR, c'.bl, c.ob, c.oR⟩
  unfold joinM at e
  split at e
  · exact Mem.on_some (Mem.on_some e (fun hm => by have := hk b hm; omega)) (by omega)
  · exact c'.mem _ _ _ e
theorem HLaw.more (c : HLaw base p N M R o W h r arr) : HLaw base p (N + 1) M R o W h r arr := ⟨c.inv, c.mem, c.rel, c.n1, c.n128, Nat.le_succ_of_le c.nn, by have := c.last; omega, c.hR, c.hz, c.nR, c.bl, c.ob, c.oR⟩
theorem HLaw.step (c : HLaw base p N M R o W h r arr) (s : HStep W base p h W' h') (hr : Rel h'.view r') (hN : r'.N = r.N) (hn : h'.nn ≤ N + 1) (hl : h'.last ≤ N + 1) : HLaw base p (N + 1) M R o W' h' r' arr := by
  have hRl := (Array.getElem?_eq_some_iff.1 c.hR).1
  refine ⟨s.inv, fun b x v e => ?_, hr, hN ▸ c.n1, hN ▸ c.n128, hn, hl, (s.kp.block R hRl c.nR).trans c.hR, c.hz, fun hm => ?_, c.bl.trans ((s.below c.inv).mono c.ob), c.ob, c.oR⟩
  · obtain ⟨hne, e⟩ := Mem.of_on (c.mem _ _ _ e)
    exact Mem.on_some (safe_le s.kp s.mb _ _ _ e) hne
  · rcases s.mb R hm with e | e
    · exact c.nR e
    · omega
theorem HLaw.store (c : HLaw base p N M R o W h r arr) (hk : Keeps (· = R) W W2) (hR : W2.heap[R]? = some (.cells arr' 43 (0, 0))) (hz : ∀ (j x : Nat), arr'[j]? ≠ some (ptrTo x)) : HLaw base p N M R o W2 h r arr' := by
  obtain ⟨hi, hs⟩ := c.inv.other hk c.nR (fun j x e => c.hz j x ((mem_cells c.hR j).symm.trans e))
  refine ⟨hi, fun b x v e => ?_, c.rel, c.n1, c.n128, c.nn, c.last, hR, hz, c.nR, c.bl.trans (hk.below c.bl.size (fun k e => e ▸ c.oR)), c.ob, c.oR⟩
  have e := c.mem _ _ _ e
  exact Mem.on_some (hs _ _ _ e) (Mem.of_on e).1
/-- Behind an act. -/
theorem HLaw.after {x : HAct} {e : Ending} (c : HLaw base p N M R o W h r arr) (d : DoesOut base p N M W h x e W') :
    ∃ h' r' a' q' M', e = .returned (.tuple #[rsV r' a' q', .bool true]) ∧ HLaw base p (N + 1) M' R o W' h' r' arr ∧ RsAt M' r' a' q' ∧ M.le M' ∧ SnKept x h h' := by
  obtain ⟨h', r', a', q', M', rfl, hr, hm, kt, sk⟩ := d
  have hRl := (Array.getElem?_eq_some_iff.1 c.hR).1
  refine ⟨h', r', a', q', M', rfl, ⟨hr.inv, fun b x v e => Mem.on_some (hr.mem _ _ _ e) (fun hb => ?_), hr.rel, hr.n1, hr.n128, hr.nn, hr.last, (kt.kt.kp.block R hRl c.nR).trans c.hR, c.hz, fun hm => ?_, c.bl.trans (kt.kt.bl.mono c.ob), c.ob, c.oR⟩, hr.rat, hm, sk⟩
  · subst hb
    have e2 := kt.nw b x v hRl e
    exact (Mem.of_on (c.mem _ _ _ e2)).1 rfl
  · rcases kt.kt.mb R hm with e | e
    · exact c.nR e
    · have e : W.heap.size ≤ R := e
      omega
theorem rs_noptr {N : Nat} {nx : Int} {aa aq : Option Addr} {n k ca cq : Nat} : ∀ (j x : Nat), (#[.int .i64 N, .int .i64 nx, .slice aa n ca, .slice aq k cq] : Array Value)[j]? ≠ some (ptrTo x) := fun j x e => by
  match j, e with
  | 0, e => simp at e
  | 1, e => simp at e
  | 2, e => simp at e
  | 3, e => simp at e
  | j + 4, e => simp at e
end
end Go.Proofs.YtbmpoecmjmmngaaGreat
/-
  DERIVED: THE SHELF's CONTRACTS AT THIS DUMP, IN PLAIN WORDS (tools/lay-plain.mjs out of 'TryShelfZ2.lean', which tools/lay-shelf.mjs wrote): THE SAME DECLARATIONS UNDER THE SAME NAMES: 'import', 'namespace', 'open', 'def', 'theorem' AND NOTHING ELSE: no command of the shelf's: FOR A HAND-IN. Each laying: the table of numbers ('.._ren') and one theorem, a field a fact of the dump's own or the kernel's comparison; each contract: ONE APPLICATION.
-/
namespace Go.Proofs
open Go.Shelf
def Tryz.keys79_ren : Go.Shelf.Ren := ⟨fun | 7 => 79 | 10 => 110 | n => n, fun | 23 => 79 | 26 => 3 | 3 => 78 | 28 => 131 | 0 => 0 | 27 => 130 | 33 => 158 | 4 => 4 | n => n, fun | n => n⟩
theorem Tryz.keys79 : Go.Proofs.SlLaysZI.n7 Tryz.prog Tryz.keys79_ren := {
  mixed := by kernel_rfl
  f7 := ⟨Tryz.f79.name, by decide, Tryz.func79.trans (congrArg some (by kernel_rfl))⟩
  f10 := ⟨Tryz.f110.name, by decide, Tryz.func110.trans (congrArg some (by kernel_rfl))⟩
  t0 := Tryz.underlying0
  a0 := Tryz.isAgg0
  z0 := Tryz.sizeOf0
  v0 := Tryz.zeroValue0
  t4 := Tryz.underlying4
  a4 := Tryz.isAgg4
  z4 := Tryz.sizeOf4
  v4 := Tryz.zeroValue4
  t23 := Tryz.underlying79
  a23 := Tryz.isAgg79
  z23 := Tryz.sizeOf79
  v23 := Tryz.zeroValue79
  t26 := Tryz.underlying3
  a26 := Tryz.isAgg3
  z26 := Tryz.sizeOf3
  v26 := Tryz.zeroValue3
  t27 := Tryz.underlying130
  a27 := Tryz.isAgg130
  z27 := Tryz.sizeOf130
  v27 := Tryz.zeroValue130
  t28 := Tryz.underlying131
  a28 := Tryz.isAgg131
  z28 := Tryz.sizeOf131
  v28 := Tryz.zeroValue131
  t33 := Tryz.underlying158
  a33 := Tryz.isAgg158
  z33 := Tryz.sizeOf158
  v33 := Tryz.zeroValue158 }
def Tryz.sorted78_ren : Go.Shelf.Ren := ⟨fun | 6 => 78 | 8 => 108 | 9 => 109 | 11 => 122 | 13 => 63 | 12 => 123 | 23 => 91 | 24 => 92 | 14 => 127 | 15 => 128 | 16 => 129 | 17 => 130 | 18 => 131 | 19 => 132 | 20 => 133 | 21 => 134 | 22 => 135 | 25 => 144 | 26 => 112 | 27 => 113 | 28 => 145 | 29 => 146 | 30 => 116 | 31 => 150 | n => n, fun | 26 => 3 | 28 => 131 | 24 => 102 | 0 => 0 | 3 => 3 | 37 => 111 | 48 => 142 | 50 => 144 | 4 => 4 | 40 => 136 | 39 => 135 | 45 => 68 | 5 => 5 | 9 => 9 | 51 => 159 | 55 => 163 | 57 => 171 | 58 => 172 | 33 => 158 | n => n, fun | n => n⟩
theorem Tryz.sorted78 : Go.Proofs.SlLaysZI.n6 Tryz.prog Tryz.sorted78_ren := {
  mixed := by kernel_rfl
  f6 := ⟨Tryz.f78.name, by decide, Tryz.func78.trans (congrArg some (by kernel_rfl))⟩
  f8 := ⟨Tryz.f108.name, by decide, Tryz.func108.trans (congrArg some (by kernel_rfl))⟩
  f11 := ⟨Tryz.f122.name, by decide, Tryz.func122.trans (congrArg some (by kernel_rfl))⟩
  t0 := Tryz.underlying0
  a0 := Tryz.isAgg0
  z0 := Tryz.sizeOf0
  v0 := Tryz.zeroValue0
  t24 := Tryz.underlying102
  a24 := Tryz.isAgg102
  z24 := Tryz.sizeOf102
  v24 := Tryz.zeroValue102
  t26 := Tryz.underlying3
  a26 := Tryz.isAgg3
  z26 := Tryz.sizeOf3
  v26 := Tryz.zeroValue3
  t28 := Tryz.underlying131
  a28 := Tryz.isAgg131
  z28 := Tryz.sizeOf131
  v28 := Tryz.zeroValue131
  i26 := by kernel_rfl }
def Tryz.sortI109_ren : Go.Shelf.Ren := ⟨fun | 5 => 109 | 8 => 63 | 7 => 123 | 19 => 91 | 20 => 92 | 10 => 127 | 11 => 128 | 12 => 129 | 13 => 130 | 14 => 131 | 15 => 132 | 16 => 133 | 17 => 134 | 18 => 135 | 30 => 144 | 31 => 112 | 32 => 113 | 33 => 145 | 34 => 146 | 35 => 116 | 40 => 150 | n => n, fun | 23 => 102 | 25 => 3 | 3 => 3 | 32 => 111 | 22 => 102 | 0 => 0 | 44 => 142 | 46 => 144 | 4 => 4 | 36 => 136 | 35 => 135 | 41 => 68 | 5 => 5 | 9 => 9 | 53 => 159 | 57 => 163 | 63 => 171 | 64 => 172 | n => n, fun | n => n⟩
theorem Tryz.sortI109 : Go.Proofs.SlLaysM.n5 Tryz.prog Tryz.sortI109_ren := {
  mixed := by kernel_rfl
  f5 := ⟨Tryz.f109.name, by decide, Tryz.func109.trans (congrArg some (by kernel_rfl))⟩
  f7 := ⟨Tryz.f123.name, by decide, Tryz.func123.trans (congrArg some (by kernel_rfl))⟩
  f8 := Tryz.func63.trans (congrArg some (by kernel_rfl))
  f10 := ⟨Tryz.f127.name, by decide, Tryz.func127.trans (congrArg some (by kernel_rfl))⟩
  f11 := ⟨Tryz.f128.name, by decide, Tryz.func128.trans (congrArg some (by kernel_rfl))⟩
  f12 := ⟨Tryz.f129.name, by decide, Tryz.func129.trans (congrArg some (by kernel_rfl))⟩
  f13 := ⟨Tryz.f130.name, by decide, Tryz.func130.trans (congrArg some (by kernel_rfl))⟩
  f14 := ⟨Tryz.f131.name, by decide, Tryz.func131.trans (congrArg some (by kernel_rfl))⟩
  f15 := ⟨Tryz.f132.name, by decide, Tryz.func132.trans (congrArg some (by kernel_rfl))⟩
  f16 := ⟨Tryz.f133.name, by decide, Tryz.func133.trans (congrArg some (by kernel_rfl))⟩
  f17 := ⟨Tryz.f134.name, by decide, Tryz.func134.trans (congrArg some (by kernel_rfl))⟩
  f18 := ⟨Tryz.f135.name, by decide, Tryz.func135.trans (congrArg some (by kernel_rfl))⟩
  f19 := Tryz.func91.trans (congrArg some (by kernel_rfl))
  f20 := Tryz.func92.trans (congrArg some (by kernel_rfl))
  f30 := ⟨Tryz.f144.name, by decide, Tryz.func144.trans (congrArg some (by kernel_rfl))⟩
  f31 := Tryz.func112.trans (congrArg some (by kernel_rfl))
  f32 := Tryz.func113.trans (congrArg some (by kernel_rfl))
  f33 := ⟨Tryz.f145.name, by decide, Tryz.func145.trans (congrArg some (by kernel_rfl))⟩
  f34 := ⟨Tryz.f146.name, by decide, Tryz.func146.trans (congrArg some (by kernel_rfl))⟩
  f35 := ⟨Tryz.f116.name, by decide, Tryz.func116.trans (congrArg some (by kernel_rfl))⟩
  f40 := ⟨Tryz.f150.name, by decide, Tryz.func150.trans (congrArg some (by kernel_rfl))⟩
  t0 := Tryz.underlying0
  a0 := Tryz.isAgg0
  z0 := Tryz.sizeOf0
  v0 := Tryz.zeroValue0
  t3 := Tryz.underlying3
  a3 := Tryz.isAgg3
  z3 := Tryz.sizeOf3
  v3 := Tryz.zeroValue3
  t4 := Tryz.underlying4
  a4 := Tryz.isAgg4
  z4 := Tryz.sizeOf4
  v4 := Tryz.zeroValue4
  t5 := Tryz.underlying5
  a5 := Tryz.isAgg5
  z5 := Tryz.sizeOf5
  v5 := Tryz.zeroValue5
  t9 := Tryz.underlying9
  a9 := Tryz.isAgg9
  z9 := Tryz.sizeOf9
  v9 := Tryz.zeroValue9
  t22 := Tryz.underlying102
  a22 := Tryz.isAgg102
  z22 := Tryz.sizeOf102
  v22 := Tryz.zeroValue102
  t23 := Tryz.underlying102
  a23 := Tryz.isAgg102
  z23 := Tryz.sizeOf102
  v23 := Tryz.zeroValue102
  t25 := Tryz.underlying3
  a25 := Tryz.isAgg3
  z25 := Tryz.sizeOf3
  v25 := Tryz.zeroValue3
  t32 := Tryz.underlying111
  a32 := Tryz.isAgg111
  z32 := Tryz.sizeOf111
  v32 := Tryz.zeroValue111
  t35 := Tryz.underlying135
  a35 := Tryz.isAgg135
  z35 := Tryz.sizeOf135
  v35 := Tryz.zeroValue135
  t36 := Tryz.underlying136
  a36 := Tryz.isAgg136
  z36 := Tryz.sizeOf136
  v36 := Tryz.zeroValue136
  t41 := Tryz.underlying68
  a41 := Tryz.isAgg68
  z41 := Tryz.sizeOf68
  v41 := Tryz.zeroValue68
  t44 := Tryz.underlying142
  a44 := Tryz.isAgg142
  z44 := Tryz.sizeOf142
  v44 := Tryz.zeroValue142
  t46 := Tryz.underlying144
  a46 := Tryz.isAgg144
  z46 := Tryz.sizeOf144
  v46 := Tryz.zeroValue144
  t53 := Tryz.underlying159
  a53 := Tryz.isAgg159
  z53 := Tryz.sizeOf159
  v53 := Tryz.zeroValue159
  t57 := Tryz.underlying163
  a57 := Tryz.isAgg163
  z57 := Tryz.sizeOf163
  v57 := Tryz.zeroValue163
  t63 := Tryz.underlying171
  a63 := Tryz.isAgg171
  z63 := Tryz.sizeOf171
  v63 := Tryz.zeroValue171
  t64 := Tryz.underlying172
  a64 := Tryz.isAgg172
  z64 := Tryz.sizeOf172
  v64 := Tryz.zeroValue172 }
end Go.Proofs
/- package heap: Snapshots: the keys of a map from numbers, sorted. -/
namespace Go.Proofs.YtbmpoecmjmmngaaGreat
open Go.RowKit Go.Maps Go.Sort Go.Shelf

theorem sort_ord (ss : List Int) : (ss.mergeSort (fun x y => decide (x ≤ y))).Pairwise (· ≤ ·) :=
  (List.pairwise_mergeSort (le := fun x y => decide (x ≤ y)) (fun a b c h1 h2 => by simp at *; omega) (fun a b => by simp; omega) ss).imp (fun h => by simpa using h)
/-- The keys, in order. -/
structure SortedKeys (f : Int → Option (Value × List Nat)) (ss : List Int) : Prop where
  mem : ∀ k, k ∈ ss ↔ (f k).isSome = true
  nd : ss.Nodup
  ord : ss.Pairwise (· ≤ ·)
theorem SortedKeys.unique {f : Int → Option (Value × List Nat)} {ss ss' : List Int} (h : SortedKeys f ss) (h' : SortedKeys f ss') : ss = ss' :=
  List.Perm.eq_of_pairwise (fun a b _ _ h1 h2 => Int.le_antisymm h1 h2) h.ord h'.ord ((List.perm_ext_iff_of_nodup h.nd h'.nd).2 fun k => (h.mem k).trans (h'.mem k).symm)

theorem SMap.keys {W : World} {b n : Nat} {f : Int → Option (Value × List Nat)} (h : SMap W b n f) : ∃ D, W.ownsMap Tryz.prog 3 rawE b n D ∧ Maps.size D ≤ n ∧ (∀ k, k ∈ intKeys D ↔ (f k).isSome = true) ∧ (intKeys D).Nodup ∧ ∀ k ∈ intKeys D, inI64 k := by
  obtain ⟨D, hown, h1, h2, h3⟩ := h
  obtain ⟨es, hD, hpw⟩ := hown.tidy keyK
  have hwf := intKeys_wf hown Tryz.underlying3
  have hko : ∀ p ∈ es, ∃ x, p.1 = .int .i64 x := fun p hp => by
    obtain ⟨es', hD', hko⟩ := hown.keysOf
    obtain rfl : es = es' := by rw [hD] at hD'; simpa using hD'
    obtain ⟨v, hv⟩ := hko p hp
    obtain ⟨x, _, hx, _⟩ := Maps.keyOf_i64 Tryz.underlying3 hv
    exact ⟨x, hx⟩
  refine ⟨D, hown, hown.size_le, fun k => ?_, ?_, fun k hk => ?_⟩
  · have hh : Maps.has D (intKey k) = true ↔ k ∈ intKeys D := by
      subst hD
      rw [has_eq, List.any_eq_true]
      show _ ↔ k ∈ es.map fun p => Go.intOf p.1
      rw [List.mem_map]
      constructor
      · rintro ⟨p, hp', hs⟩
        obtain ⟨a, ha⟩ := hko p hp'
        rw [ha] at hs
        exact ⟨p, hp', by rw [ha]; simpa [Lit.sameKey, Go.intOf, intKey] using hs⟩
      · rintro ⟨p, hp', rfl⟩
        obtain ⟨a, ha⟩ := hko p hp'
        exact ⟨p, hp', by rw [ha]; simp [Lit.sameKey, Go.intOf, intKey]⟩
    rw [← hh]
    cases hf : f k with
    | none => rw [h1 k hf]; simp
    | some a => rw [(h2 k a hf).1]; simp
  · subst hD
    show (es.map fun p => Go.intOf p.1).Nodup
    refine List.pairwise_map.2 (hpw.imp_of_mem fun {p q} hp' hq' hne e => hne ?_)
    obtain ⟨a, ha⟩ := hko p hp'
    obtain ⟨b, hb⟩ := hko q hq'
    rw [ha, hb] at e ⊢
    exact congrArg _ e
  · have := hwf k hk
    unfold inI64
    simpa [Lit.wf, IntKind.min, IntKind.max, IntKind.signed, IntKind.bits] using this

theorem sortsInt (m : Nat) : AnyZI.SortsIn Tryz.prog Tryz.sorted78_ren Fence.wide m :=
  ⟨fun blk off cap ss W hH hblk hsz => callsIn_wide.2 (AnyM.slices_Sort_int Tryz.sortI109 blk off cap ss W hH hblk hsz),
   fun p cap W => callsIn_wide.2 (AnyM.slices_Sort_int_none Tryz.sortI109 p cap W)⟩
theorem snKeys_any (mb : Option Nat) (W : World) : Calls Tryz.prog 79 #[.map mb] W fun e w' => e = .returned (.func (.func 110) #[] #[.pointer (some ⟨W.heap.size, 0, none⟩)]) ∧ w' = W.alloc (.cells #[.map mb] 79) :=
  (callsIn_wide (n := 5)).1 (AnyZI.keys_in Tryz.keys79 Fence.wide 5 trivial rfl mb W)
set_option maxRecDepth 100000 in
set_option maxHeartbeats 1000000 in
theorem sortedKeys_any (b n : Nat) (f : Int → Option (Value × List Nat)) (w : World) (h : SMap w b n f) (hn : n ≤ 1000000000) :
    Calls Tryz.prog 78 #[.func (.func 110) #[] #[.pointer (some ⟨w.heap.size, 0, none⟩)]] (w.alloc (.cells #[.map (some b)] 79)) fun e w' => ∃ v ss, e = .returned v ∧ (tSlice tInt).rv ((mem w').on (w.heap.size ≤ ·)) [v] ss ∧ SortedKeys f ss ∧ ss.length ≤ n ∧ Below w.heap.size w w' := by
  obtain ⟨D0, hown, hsz, hmem, hnd, hin⟩ := h.keys
  have hbl := hown.lt
  have hseq : SeqGives Fence.wide 2 Tryz.prog 110 #[.pointer (some ⟨w.heap.size, 0, none⟩)] encZ (fun ss => ss.Perm (intKeys D0)) (Maps.size D0) (w.alloc (.cells #[.map (some b)] 79)) :=
    AnyZI.keys_gives (ρ := Tryz.keys79_ren) { Tryz.keys79 with } Fence.wide _ trivial rfl (by omega) w.heap.size b n D0 _ (by simp) (by simp) (by
      obtain ⟨es, clock, hb, Ft, hs, hD⟩ := hown
      exact ⟨es, clock, (Below.heap_alloc _ _ b hbl).trans hb, Ft, hs, hD⟩)
  have cS := AnyZI.sorted_in Tryz.sorted78 Fence.wide 5 trivial trivial trivial trivial rfl (by omega) (sortsInt _) (enters_of Tryz.func109 (by kernel_rfl) rfl) 110 #[.pointer (some ⟨w.heap.size, 0, none⟩)] trivial (enters_of Tryz.func110 (by kernel_rfl) rfl) _ _ (by unfold maxLen; omega) (by omega) _ hseq
  change CallsIn _ _ Tryz.prog 78 _ _ _ at cS
  refine ((callsIn_wide (n := 5)).1 cS).mono ?_
  rintro e w' ⟨v, ss, rfl, hS, hrow, _, hb⟩
  have hlen : ss.length ≤ n := by
    have h1 := hS.length_eq
    have h2 : (intKeys D0).length = Maps.size D0 := by cases D0 <;> simp [intKeys, Maps.size]
    omega
  have hperm : (ss.mergeSort (fun x y => decide (x ≤ y))).Perm (intKeys D0) := (List.mergeSort_perm _ _).trans hS
  have hord := (sort_ord ss)
  have hl2 : (ss.mergeSort (fun x y => decide (x ≤ y))).length = ss.length := by simp
  rw [← hl2] at hlen hrow
  generalize (ss.mergeSort (fun x y => decide (x ≤ y))) = qs at hperm hord hrow hlen
  have hO : Owns tInt w' (w.alloc (.cells #[.map (some b)] 79)).heap.size 3 v qs := by
    refine ⟨qs.map fun x => [.int .i64 x], by simp, ?_, fun c hc => ?_, fun k h h' => ?_⟩
    · have e : (qs.map fun x => [Value.int .i64 x]).flatten = qs.map encZ := by
        clear hperm hord hrow hlen
        induction qs with
        | nil => rfl
        | cons x l ih => simp [ih]
      rw [e]; exact hrow
    · obtain ⟨x, _, rfl⟩ := List.mem_map.1 hc; rfl
    · simp only [List.getElem_map]
      exact ⟨rfl, hin _ (hperm.mem_iff.1 (List.getElem_mem h'))⟩
  exact ⟨v, qs, rfl, hO.rv (fun k hk => by simp at hk; omega) (fun _ _ _ hk => hk), ⟨fun k => (hperm.mem_iff).trans (hmem k), hperm.nodup_iff.2 hnd, hord⟩, hlen, ((Below.refl _ w).alloc (Nat.le_refl _) _).trans (hb.mono (by simp))⟩

set_option maxRecDepth 100000 in
set_option maxHeartbeats 1000000 in
theorem snapshots_any {base p : Nat} {r : HS} (w : World) (hI : HeapInv w base p r) (hn : r.nn ≤ 1000000000) :
    Calls Tryz.prog 54 #[.pointer (some ⟨p, 0, none⟩)] w fun e w' => ∃ v ss, e = .returned v ∧ (tSlice tInt).rv ((mem w').on (w.heap.size ≤ ·)) [v] ss ∧ SortedKeys r.snaps ss ∧ ss.length ≤ r.nn ∧ Below w.heap.size w w' := by
  have c2 : w.cell? ⟨p, 2, none⟩ = some (.map (some r.sm)) := mem_cells hI.hb 2
  have HK := Lib.hid (snKeys_any (some r.sm) w)
  have HS := Lib.hid (sortedKeys_any r.sm r.nn r.snaps w hI.sn hn)
  clear hI
  go_enter Tryz.func54, Tryz.ntmps54
  go_wp2_with fail
  refine HK.out.mono ?_
  rintro e w' ⟨rfl, rfl⟩
  go_wp2_with fail
  refine HS.out.mono ?_
  rintro e w' ⟨v, ss, rfl, hr, hk, hl, hb⟩
  have HE := Lib.hid (And.intro hr (And.intro hk (And.intro hl hb)))
  clear hr hk hl hb
  go_wp2
  go_ret
  exact ⟨v, ss, rfl, HE.out.1, HE.out.2.1, HE.out.2.2.1, HE.out.2.2.2⟩
end Go.Proofs.YtbmpoecmjmmngaaGreat
/- The reference's Snapshots; SameInts at one list. -/
namespace Go.Proofs.YtbmpoecmjmmngaaGreat
open Go.RowKit Go.Maps

theorem infoI : (Tryz.prog.info? 3).map (fun i => (i.zero, i.size, i.bytes)) = some (some (.int .i64 0), 1, 8) := by kernel_rfl
set_option maxRecDepth 100000 in
set_option maxHeartbeats 4000000 in
theorem refSnapshots_any (r : RS) (a q : Value) (W : World) (h : RsAt (mem W) r a q) (h20 : r.sn.length ≤ 20) :
    Calls Tryz.prog 55 #[rsV r a q] W fun e w' => ∃ v, e = .returned v ∧ (tSlice tInt).rv (mem w') [v] (r.sn.map Prod.fst) ∧ Below W.heap.size W w' := by
  obtain ⟨aa, ca, rfl, hla, hma, hra⟩ := slice_form h.ha
  obtain ⟨aq, cq, rfl, hlq, hmq, hrq⟩ := slice_form h.hq
  have hca : ca ≤ 9223372036854775807 := by unfold maxLen at hma; exact hma
  have hcq : cq ≤ 9223372036854775807 := by unfold maxLen at hmq; exact hmq
  have HB := Lib.hid (box_below W (.cells #[.int .i64 r.N, .int .i64 r.next, .slice aa r.es.length ca, .slice aq r.sn.length cq] 43))
  have HBK := Lib.hid (heap_alloc_new W (.cells #[.int .i64 r.N, .int .i64 r.next, .slice aa r.es.length ca, .slice aq r.sn.length cq] 43))
  have HQ := Lib.hid ((tSlice tSn).mono _ _ _ _ (below_mem HB.out) hrq)
  clear hma hmq hra hrq h
  go_enter Tryz.func55, Tryz.ntmps55
  go_wp2_with fail
  generalize W.alloc (.cells #[.int .i64 r.N, .int .i64 r.next, .slice aa r.es.length ca, .slice aq r.sn.length cq] 43) = W1 at *
  have HS1 := Lib.hid (show W.heap.size < W1.heap.size from (Array.getElem?_eq_some_iff.1 HBK.out).1)
  have HC := Lib.hid (fun (w' : World) (hb : Below W1.heap.size W1 w') => (show w'.cell? ⟨W.heap.size, 3, none⟩ = some (.slice aq r.sn.length cq) from mem_cells ((hb.block _ HS1.out).trans HBK.out) 3))
  clear HBK
  go_loopw [3, 4] (fun ov i wr => ∃ k : Nat, k ≤ r.sn.length ∧ i = .int .i64 k ∧ Hid (Owns tInt wr W1.heap.size 3 ov ((r.sn.take k).map Prod.fst)) ∧ Hid (Below W1.heap.size W1 wr)) (fun _ i _ => r.sn.length - (intOf i).toNat)
  case atStart => exact ⟨0, by omega, rfl, Lib.hid (Owns.nil _ _ _ _), Lib.hid (Below.refl _ _)⟩
  case round =>
    obtain ⟨k, hk, rfl, HO, HBR⟩ := hrel
    have c3 := HC.out _ HBR.out
    by_cases hlt : k < r.sn.length
    · have HSZ := Lib.hid HBR.out.size
      obtain ⟨b, o, rfl, cs, hat, s, rfl, hin, -⟩ := slice_at ((tSlice tSn).mono _ _ _ _ (below_mem HBR.out) HQ.out) hlt
      have d0 : wr.cell? ⟨b, o + k * 2, none⟩ = some (.int .i64 r.sn[k].1) := hat 0 _ rfl
      have HNX := Lib.hid (show (r.sn.take k).map Prod.fst ++ [r.sn[k].1] = (r.sn.take (k + 1)).map Prod.fst by rw [List.take_succ_eq_append_getElem hlt, List.map_append]; rfl)
      have HLL := Lib.hid (show ((r.sn.take k).map Prod.fst).length ≤ 20 by rw [List.length_map, List.length_take]; omega)
      have HIN := Lib.hid hin
      clear hat hin
      generalize (r.sn.take k).map Prod.fst = l at *
      generalize r.sn[k].1 = y at *
      obtain ⟨al, cl, hvl, _⟩ := HO.out.len
      subst hvl
      go_wp2_with (at_builtin; refine wpList_append_int rfl _ _ 102 rfl Tryz.underlying102 infoI W1.heap.size _ l rfl (HO.out.alloc _) _ _ y rfl ?c1 ?c2 ?c3 ?c4 ?_)
      case c1 => simp
      case c2 => exact HIN.out
      case c3 => have := HLL.out; omega
      case c4 => have := HSZ.out; simp; omega
      · intro v' w6 own6 hgrow _
        have HB6 := Lib.hid (show Below W1.heap.size W1 w6 from (HBR.out.alloc HBR.out.size _).grown hgrow (by have := HSZ.out; simp; omega) (fun k hk => ((HO.out).lt k hk).1))
        obtain ⟨a6, cap6, rfl, _⟩ := own6.len
        have HO6 := Lib.hid (show Owns tInt w6 W1.heap.size 3 (.slice a6 (l ++ [y]).length cap6) ((r.sn.take (k + 1)).map Prod.fst) by rw [← HNX.out]; exact own6)
        clear own6 hgrow HO
        go_wp2
        go_roundw
        case rel => exact ⟨k + 1, by omega, by go_num, HO6, HB6⟩
        case measure => simp [intOf]; omega
    · obtain rfl : k = r.sn.length := by omega
      rw [List.take_length] at HO
      obtain ⟨al, cl, hvl, _⟩ := HO.out.len
      subst hvl
      go_wp2
      go_ret
      exact ⟨_, rfl, HO.out.rv', HB.out.trans (HBR.out.mono HB.out.size)⟩
set_option maxRecDepth 100000 in
set_option maxHeartbeats 4000000 in
theorem sameInts_eq (xs : List Int) (u v : Value) (w : World) (hu : (tSlice tInt).rv (mem w) [u] xs) (hv : (tSlice tInt).rv (mem w) [v] xs) :
    Calls Tryz.prog 53 #[u, v] w fun e w' => e = .returned (.bool true) ∧ Below w.heap.size w w' := by
  obtain ⟨a, cap, rfl, hl, hm, hu⟩ := slice_form hu
  obtain ⟨b, cap', rfl, hl', hm', hv⟩ := slice_form hv
  have hcap : cap ≤ 9223372036854775807 := by unfold maxLen at hm; exact hm
  have hcap' : cap' ≤ 9223372036854775807 := by unfold maxLen at hm'; exact hm'
  have hll : ((xs.length : Int) == (xs.length : Int)) = true := by simp
  clear hm hm'
  go_enter Tryz.func53, Tryz.ntmps53
  go_wp2
  go_loopw [5] (fun i wr => ∃ k : Nat, k ≤ xs.length ∧ i = .int .i64 k ∧ Hid (Below w.heap.size w wr)) (fun i _ => xs.length - (intOf i).toNat)
  case atStart => exact ⟨0, by omega, rfl, Lib.hid (Below.refl _ _)⟩
  case round =>
    obtain ⟨k, hk, rfl, HB⟩ := hrel
    by_cases hlt : k < xs.length
    · obtain ⟨b1, o1, rfl, cs1, hat1, rfl, -⟩ := slice_at (t := tInt) ((tSlice tInt).mono _ _ _ _ (below_mem HB.out) hu) hlt
      obtain ⟨b2, o2, rfl, cs2, hat2, rfl, -⟩ := slice_at (t := tInt) ((tSlice tInt).mono _ _ _ _ (below_mem HB.out) hv) hlt
      have c1 : wr.cell? ⟨b1, o1 + k, none⟩ = some (.int .i64 xs[k]) := by have := hat1 0 _ rfl; rw [show o1 + k * tInt.sz + 0 = o1 + k by show o1 + k * 1 + 0 = _; omega] at this; exact this
      have c2 : wr.cell? ⟨b2, o2 + k, none⟩ = some (.int .i64 xs[k]) := by have := hat2 0 _ rfl; rw [show o2 + k * tInt.sz + 0 = o2 + k by show o2 + k * 1 + 0 = _; omega] at this; exact this
      clear hat1 hat2
      generalize xs[k] = y at *
      have e0 : (y == y) = true := by simp
      go_wp2_with fail
      go_quiet (fail)
      all_goals
        go_wp2
        exact ⟨⟨k + 1, by omega, by go_num, Lib.hid (HB.out.trans ⟨rfl, rfl, rfl, Nat.le_refl _, fun _ _ => rfl⟩)⟩, by simp [intOf]; omega⟩
    · obtain rfl : k = xs.length := by omega
      go_wp2
      go_ret
      exact ⟨rfl, HB.out⟩
end Go.Proofs.YtbmpoecmjmmngaaGreat
/- same: a state tells what the reference's tells. -/
namespace Go.Proofs.YtbmpoecmjmmngaaGreat
open Go.RowKit Go.Maps

set_option maxRecDepth 100000 in
set_option maxHeartbeats 16000000 in
theorem same_any (base p N : Nat) (M : Mem) (W : World) (h : HS) (r : RS) (a q : Value) (c : HRun base p N M W h r a q) (hN : N ≤ 90000) :
    Calls Tryz.prog 20 #[.pointer (some ⟨p, 0, none⟩), rsV r a q] W fun e W' => e = .returned (.bool true) ∧ Below W.heap.size W W' := by
  have hlen := c.len
  have h128 := c.n128
  have hnn := c.nn
  have h20 := c.rel.l20
  have HR := Lib.hid (fun (W' : World) (hb : Below W.heap.size W W') => c.rat.mono (Mem.le_trans c.le (below_mem hb)))
  have HALL := Lib.hid (fun (W' : World) (hb : Below W.heap.size W W') => (show Calls Tryz.prog 14 #[.pointer (some ⟨p, 0, none⟩)] W' (fun e w' => ∃ u, e = .returned u ∧ tEnts.rv (mem w') [u] r.es ∧ Below W'.heap.size W' w') from
    (all_any W' (c.inv.pure hb) (by omega) (by omega)).mono fun e w' ⟨u, es, he, ha, ho, hb'⟩ => ⟨u, he, by
      obtain rfl : es = r.es := (AllOf.es ha).one c.rel.es
      exact ho.rv', hb'⟩))
  have HCNT := Lib.hid (fun (W' : World) (hb : Below W.heap.size W W') => (show Calls Tryz.prog 25 #[.pointer (some ⟨p, 0, none⟩)] W' (fun e w' => e = .returned (.int .i64 (r.es.length : Nat)) ∧ w' = W') from
    (count_any W' (c.inv.pure hb)).mono fun e w' ⟨he, hw⟩ => ⟨by rw [he]; exact congrArg (fun z => Ending.returned (.int .i64 z)) c.rel.cnt, hw⟩))
  have HSNS := Lib.hid (fun (W' : World) (hb : Below W.heap.size W W') => (show Calls Tryz.prog 54 #[.pointer (some ⟨p, 0, none⟩)] W' (fun e w' => ∃ u, e = .returned u ∧ (tSlice tInt).rv (mem w') [u] (r.sn.map Prod.fst) ∧ Below W'.heap.size W' w') from
    (snapshots_any W' (c.inv.pure hb) (by omega)).mono fun e w' ⟨u, ss, he, hr, hk, _, hb'⟩ => ⟨u, he, by
      have hk2 : SortedKeys h.snaps (r.sn.map Prod.fst) := ⟨c.rel.keys.2, c.rel.keys.1, c.rel.up.imp (fun h => by omega)⟩
      obtain rfl := hk.unique hk2
      exact (tSlice tInt).mono _ _ _ _ (Mem.on_le _ _) hr, hb'⟩))
  have HRSN := Lib.hid (fun (W' : World) (hb : Below W.heap.size W W') => refSnapshots_any r a q W' (HR.out W' hb) h20)
  obtain ⟨aa, ca, rfl, hla, hma, -⟩ := slice_form c.rat.ha
  obtain ⟨aq, cq, rfl, hlq, hmq, -⟩ := slice_form c.rat.hq
  have hca : ca ≤ 9223372036854775807 := by unfold maxLen at hma; exact hma
  have hcq : cq ≤ 9223372036854775807 := by unfold maxLen at hmq; exact hmq
  have HB := Lib.hid (box_below W (.cells #[.int .i64 r.N, .int .i64 r.next, .slice aa r.es.length ca, .slice aq r.sn.length cq] 43))
  have HBK := Lib.hid (heap_alloc_new W (.cells #[.int .i64 r.N, .int .i64 r.next, .slice aa r.es.length ca, .slice aq r.sn.length cq] 43))
  have hcc : ((r.es.length : Int) == (r.es.length : Int)) = true := by simp
  clear hma hmq c hlen h128 hnn h20
  go_enter Tryz.func20, Tryz.ntmps20
  go_wp2_with fail
  generalize W.alloc (.cells #[.int .i64 r.N, .int .i64 r.next, .slice aa r.es.length ca, .slice aq r.sn.length cq] 43) = X at *
  have HXS := Lib.hid (show W.heap.size < X.heap.size from (Array.getElem?_eq_some_iff.1 HBK.out).1)
  have HS := Lib.hid (fun (w' : World) (hb : Below X.heap.size X w') => (show w'.cell? ⟨W.heap.size, 0, none⟩ = some (.int .i64 r.N) ∧ w'.cell? ⟨W.heap.size, 1, none⟩ = some (.int .i64 r.next) ∧ w'.cell? ⟨W.heap.size, 2, none⟩ = some (.slice aa r.es.length ca) ∧ w'.cell? ⟨W.heap.size, 3, none⟩ = some (.slice aq r.sn.length cq) from by
    have h := (hb.block _ HXS.out).trans HBK.out
    exact ⟨mem_cells h 0, mem_cells h 1, mem_cells h 2, mem_cells h 3⟩))
  have hb0 : Below X.heap.size X X.drew := (Below.refl _ _).drew
  have HW := Lib.hid (fun (w' : World) (hb : Below X.heap.size X w') => (show Below W.heap.size W w' from HB.out.trans (hb.mono HB.out.size)))
  go_region_held3 (fun w' => w'.cell? ⟨W.heap.size, 0, none⟩ = some (.int .i64 r.N) ∧ w'.cell? ⟨W.heap.size, 1, none⟩ = some (.int .i64 r.next) ∧ w'.cell? ⟨W.heap.size, 2, none⟩ = some (.slice aa r.es.length ca) ∧ w'.cell? ⟨W.heap.size, 3, none⟩ = some (.slice aq r.sn.length cq))
    (first | with_reducible exact HS.out _ hb0 | with_reducible exact HS.out _ hb1 | with_reducible exact HS.out _ hb2 | with_reducible exact HS.out _ hb4 | with_reducible exact HS.out _ hb5 | with_reducible exact HS.out _ hb6)
    ((first
      | (go_at_call 14; refine (HALL.out _ (HW.out _ hb0)).mono ?_; rintro e w1 ⟨u, rfl, hu, hb⟩; have hb1 := pure_trans hb0 hb; have HSE := Lib.hid (sameEnts_any r.es u (.slice aa r.es.length ca) w1 hu (HR.out w1 (HW.out _ hb1)).ha); clear hb hu)
      | (go_at_call 10; refine HSE.out.mono ?_; rintro e w2 ⟨rfl, hb⟩; have hb2 := pure_trans hb1 hb; clear hb)
      | (go_at_call 25; refine (HCNT.out _ (HW.out _ hb2)).mono ?_; rintro e w3 ⟨rfl, rfl⟩)
      | (go_at_call 54; first
          | (refine (HSNS.out _ (HW.out _ hb2)).mono ?_; rintro e w4 ⟨u4, rfl, hu4, hb⟩; have hb4 := pure_trans hb2 hb; clear hb)
          | (refine (HSNS.out _ (HW.out _ hb5)).mono ?_; rintro e w4 ⟨u4, rfl, hu4, hb⟩; have hb4 := pure_trans hb5 hb; have hu6 := (tSlice tInt).mono _ _ _ _ (below_mem hb) hu5; have HSI := Lib.hid (sameInts_eq (r.sn.map Prod.fst) u4 u5 w4 hu4 hu6); clear hb))
      | (go_at_call 55; first
          | (refine (HRSN.out _ (HW.out _ hb2)).mono ?_; rintro e w5 ⟨u5, rfl, hu5, hb⟩; have hb5 := pure_trans hb2 hb; clear hb)
          | (refine (HRSN.out _ (HW.out _ hb4)).mono ?_; rintro e w5 ⟨u5, rfl, hu5, hb⟩; have hb5 := pure_trans hb4 hb; have hu6 := (tSlice tInt).mono _ _ _ _ (below_mem hb) hu4; have HSI := Lib.hid (sameInts_eq (r.sn.map Prod.fst) u4 u5 w5 hu6 hu5); clear hb))
      | (go_at_call 53; refine HSI.out.mono ?_; rintro e w6 ⟨rfl, hb⟩; have hb6 := (by first | exact pure_trans hb5 hb | exact pure_trans hb4 hb : Below X.heap.size X w6); clear hb)))
  all_goals
    have HE := Lib.hid (HW.out _ hb6)
    go_wp2
    go_ret
    exact ⟨rfl, HE.out⟩
end Go.Proofs.YtbmpoecmjmmngaaGreat
/- The two states in a law: what else an act leaves; another box is written. -/
namespace Go.Proofs.YtbmpoecmjmmngaaGreat
open Go.RowKit Go.Maps

section
variable {base p N R : Nat} {M M' : Mem} {o W W' W2 : World} {h h' : HS} {r r' : RS} {a q : Value} {arr arr' : Array Value}
theorem HLaw.after2 {x : HAct} {e : Ending} (c : HLaw base p N M R o W h r arr) (d : DoesOut base p N M W h x e W') :
    ∃ h' r' a' q' M', e = .returned (.tuple #[rsV r' a' q', .bool true]) ∧ HLaw base p (N + 1) M' R o W' h' r' arr ∧ RsAt M' r' a' q' ∧ M.le M' ∧ SnKept x h h' ∧
      ∀ k, k < W.heap.size → ¬ mutB p h k → W'.heap[k]? = W.heap[k]? ∧ ¬ mutB p h' k ∧ ((∀ x, M k x = none) → ∀ x, M' k x = none) := by
  have d0 := d
  obtain ⟨h', r', a', q', M', he, hr, hm, kt, sk⟩ := d
  have hRl := (Array.getElem?_eq_some_iff.1 c.hR).1
  refine ⟨h', r', a', q', M', he, ⟨hr.inv, fun b x v e => Mem.on_some (hr.mem _ _ _ e) (fun hb => ?_), hr.rel, hr.n1, hr.n128, hr.nn, hr.last, (kt.kt.kp.block R hRl c.nR).trans c.hR, c.hz, fun hm => ?_, c.bl.trans (kt.kt.bl.mono c.ob), c.ob, c.oR⟩, hr.rat, hm, sk, fun k hk hn => ⟨kt.kt.kp.block k hk hn, fun hm => ?_, fun hM x => ?_⟩⟩
  · subst hb
    have e2 := kt.nw b x v hRl e
    exact (Mem.of_on (c.mem _ _ _ e2)).1 rfl
  · rcases kt.kt.mb R hm with e | e
    · exact c.nR e
    · have e : W.heap.size ≤ R := e
      omega
  · rcases kt.kt.mb k hm with e | e
    · exact hn e
    · have e : W.heap.size ≤ k := e
      omega
  · cases e : M' k x with
    | none => rfl
    | some v => have := kt.nw k x v hk e; rw [show (W, h, M).2.2 k x = M k x from rfl, hM x] at this; cases this
theorem HLaw.store2 {nb : Nat} (c : HLaw base p N M R o W h r arr) (hk : Keeps (· = nb) W W2) (hm : ¬ mutB p h nb) (hM : ∀ x, M nb x = none) (hz : ∀ j x, W.cell? ⟨nb, j, none⟩ ≠ some (ptrTo x)) (hne : R ≠ nb) (ho : o.heap.size ≤ nb) : HLaw base p N M R o W2 h r arr := by
  obtain ⟨hi, hs⟩ := c.inv.other hk hm hz
  have hRl := (Array.getElem?_eq_some_iff.1 c.hR).1
  refine ⟨hi, fun b x v e => ?_, c.rel, c.n1, c.n128, c.nn, c.last, (hk.block R hRl hne).trans c.hR, c.hz, c.nR, c.bl.trans (hk.below c.bl.size (fun k e => e ▸ ho)), c.ob, c.oR⟩
  have hbn : b ≠ nb := fun e2 => by rw [e2, hM x] at e; cases e
  obtain ⟨h1, h2⟩ := Mem.of_on (c.mem _ _ _ e)
  exact Mem.on_some (hs _ _ _ (Mem.on_some h2 hbn)) h1
/-- A box that was made ahead of an act. -/
theorem HLaw.box (c : HLaw base p N M R o W h r arr) : ¬ mutB p h W.heap.size ∧ (∀ x, M W.heap.size x = none) ∧ R ≠ W.heap.size ∧ o.heap.size ≤ W.heap.size := by
  refine ⟨fun hm => Nat.lt_irrefl _ (c.inv.cells_kind _ hm), fun x => ?_, fun e => ?_, c.bl.size⟩
  · cases e : M W.heap.size x with
    | none => rfl
    | some v => exact absurd (mem_lt (c.le _ _ _ e)) (Nat.lt_irrefl _)
  · have hRl := (Array.getElem?_eq_some_iff.1 c.hR).1
    omega
end
end Go.Proofs.YtbmpoecmjmmngaaGreat
/- Acts of chapter 13 read of a law's arguments. -/
namespace Go.Proofs.YtbmpoecmjmmngaaGreat
open Go.RowKit Go.Maps

def tU8 : Ty Int := ⟨1, fun _ cs x => cs = [.int .u8 x] ∧ 0 ≤ x ∧ x ≤ 255, fun _ _ _ h => by rw [h.1]; rfl, fun _ _ _ _ _ h => h⟩
theorem reads_u8 {P : Program} {T : TypeId} (ht : P.underlying T = some (.int .u8)) : Reads P T tU8 := fun _ _ _ _ _ _ h => by
  obtain ⟨n, h1, _, h3⟩ := DataW.trod_int ht h
  refine ⟨n, h1, ?_⟩
  have : 0 ≤ n ∧ n ≤ 255 := by simpa [Lit.wf, IntKind.min, IntKind.max, IntKind.signed, IntKind.bits] using h3
  exact this
set_option maxRecDepth 100000 in
theorem reads_hact : Reads Tryz.prog 49 tAct := fun H enc w n cs d h => by
  obtain ⟨xs, n', _, _, hl, hx, hg⟩ := DataW.trod_struct Tryz.underlying49 h
  rw [show Tryz.prog.cellsOf 49 = 6 from by kernel_rfl] at hl
  have g0 := hg 0 _ rfl
  obtain ⟨x0, r0⟩ := field_read (reads_u8 Tryz.underlying5) 0 1 rfl rfl (by kernel_rfl) g0 (by rw [hx]; decide)
  have g1 := hg 1 _ rfl
  obtain ⟨x1, r1⟩ := field_read (reads_int Tryz.underlying3) 1 1 rfl rfl (by kernel_rfl) g1 (by rw [hx]; decide)
  have g2 := hg 2 _ rfl
  obtain ⟨x2, r2⟩ := field_read (reads_int Tryz.underlying3) 2 1 rfl rfl (by kernel_rfl) g2 (by rw [hx]; decide)
  have g3 := hg 3 _ rfl
  obtain ⟨x3, r3⟩ := field_read (reads_str Tryz.underlying9) 3 1 rfl rfl (by kernel_rfl) g3 (by rw [hx]; decide)
  have g4 := hg 4 _ rfl
  obtain ⟨x4, r4⟩ := field_read (reads_str Tryz.underlying9) 4 1 rfl rfl (by kernel_rfl) g4 (by rw [hx]; decide)
  have g5 := hg 5 _ rfl
  obtain ⟨x5, r5⟩ := field_read (reads_str Tryz.underlying9) 5 1 rfl rfl (by kernel_rfl) g5 (by rw [hx]; decide)
  match cs, hl with
  | [c0, c1, c2, c3, c4, c5], _ =>
    obtain ⟨e0, i0⟩ := r0
    obtain ⟨e1, i1⟩ := r1
    obtain ⟨e2, i2⟩ := r2
    obtain ⟨e3, i3⟩ := r3
    obtain ⟨e4, i4⟩ := r4
    obtain ⟨e5, i5⟩ := r5
    simp at e0 e1 e2 e3 e4 e5
    exact ⟨⟨x0, x1, x2, x3, x4, x5⟩, by rw [e0, e1, e2, e3, e4, e5], i0, i1, i2, i3, i4, i5⟩
theorem reads_hacts : Reads Tryz.prog 38 tActs := reads_slice Tryz.underlying38 (by kernel_rfl) (by decide) reads_hact
end Go.Proofs.YtbmpoecmjmmngaaGreat
