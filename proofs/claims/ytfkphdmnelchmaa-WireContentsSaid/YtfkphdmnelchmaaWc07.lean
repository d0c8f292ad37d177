/- Part 7 of the texts that the law's proof stands on, merged. -/
import Derived.Deep.RegionLaw
import Derived.Test.YtfkphdmnelchmaaWc06
set_option linter.unusedVariables false
set_option linter.unusedSimpArgs false
/- does: put. -/
namespace Go.Proofs.Ytfkphdmnelchmaa
open Go.RowKit Go.Maps

set_option maxRecDepth 100000 in
set_option maxHeartbeats 8000000 in
theorem does_put (c : Int) (base b : Nat) (M0 : Mem) (w0 : World) (F : Nat → Prop) (W : World) (r : Raw) (ah : List El) (ps : List PK) (m N kk : Nat) (M : Mem) (a q p s : Value) (x : Act20) (h : Run c base b M0 w0 F W r ah ps m N M a q p) (hx : x.el.ok) (hxn : inI64 x.n) (hx8 : 0 ≤ x.kind ∧ x.kind ≤ 255) (hs : tRow.rv M [s] x.el.row) (hkd : x.kind % 8 = 0) (hN : N ≤ 500000) (hcnt : r.count ≤ kk) (hkk : kk ≤ 2000) :
    Calls Try.prog 25 #[.pointer (some ⟨b, 0, none⟩), wV (refOf r ah ps) a q p, actV x s] W (DoesOut c base b M0 w0 F N M (kk + 1)) := by
  have hfine := h.so.fine (by omega)
  have hcn0 := h.so.cnt0
  have hl : (rcont (refOf r ah ps)).length ≤ 2000 := by rw [h.so.rcnt]; omega
  have hpl : (refOf r ah ps).pk.length ≤ 2000 := by
    have h1 := h.so.cr; have h2 := h.so.c0; have h3 := h.so.c1
    show (ps.map _).length ≤ 2000
    rw [List.length_map]; omega
  generalize hw : refOf r ah ps = w at *
  have hRun := h
  have hrf := h.rf
  rw [hw] at hrf
  obtain ⟨aa, ca, rfl, hla, hma, hra⟩ := slice_form hrf.ha
  obtain ⟨aq, cq, rfl, hlq, hmq, hrq⟩ := slice_form hrf.hq
  obtain ⟨ap, cp, rfl, hlp, hmp, hrp⟩ := slice_form hrf.hp
  obtain ⟨ax, cx, rfl, _, hmx, hs⟩ := slice_form hs
  have hca : ca ≤ 9223372036854775807 := by unfold maxLen at hma; exact hma
  have hcq : cq ≤ 9223372036854775807 := by unfold maxLen at hmq; exact hmq
  have hcp : cp ≤ 9223372036854775807 := by unfold maxLen at hmp; exact hmp
  have HW := Lib.hid hw
  have HB := Lib.hid ((((Below.refl W.heap.size W).alloc (Nat.le_refl _) (.cells #[.int .i64 w.size, .int .i64 w.room, .int .i64 w.credits, .int .i64 w.next, .slice aa w.ahead.length ca, .slice aq w.queue.length cq, .slice ap w.pk.length cp] 56)).alloc (by simp) (.cells #[.int .u8 x.kind, .int .i64 x.n, .int .i64 x.el.kind, .int .i64 x.el.n, .int .i64 x.el.time, .slice ax x.el.row.length cx, .int .i64 x.el.cn] 44)).alloc (by simp; omega) (.cells #[.int .i64 0, .int .i64 0, .int .i64 0, .int .i64 0, .slice none 0 0, .slice none 0 0, .slice none 0 0] 56))
  have y4 : (((W.alloc (.cells #[.int .i64 w.size, .int .i64 w.room, .int .i64 w.credits, .int .i64 w.next, .slice aa w.ahead.length ca, .slice aq w.queue.length cq, .slice ap w.pk.length cp] 56)).alloc (.cells #[.int .u8 x.kind, .int .i64 x.n, .int .i64 x.el.kind, .int .i64 x.el.n, .int .i64 x.el.time, .slice ax x.el.row.length cx, .int .i64 x.el.cn] 44)).alloc (.cells #[.int .i64 0, .int .i64 0, .int .i64 0, .int .i64 0, .slice none 0 0, .slice none 0 0, .slice none 0 0] 56)).heap[W.heap.size]? = some (.cells #[.int .i64 w.size, .int .i64 w.room, .int .i64 w.credits, .int .i64 w.next, .slice aa w.ahead.length ca, .slice aq w.queue.length cq, .slice ap w.pk.length cp] 56 (0, 0)) := alloc_block (alloc_block (heap_alloc_new W _) _) _
  have y5 : (((W.alloc (.cells #[.int .i64 w.size, .int .i64 w.room, .int .i64 w.credits, .int .i64 w.next, .slice aa w.ahead.length ca, .slice aq w.queue.length cq, .slice ap w.pk.length cp] 56)).alloc (.cells #[.int .u8 x.kind, .int .i64 x.n, .int .i64 x.el.kind, .int .i64 x.el.n, .int .i64 x.el.time, .slice ax x.el.row.length cx, .int .i64 x.el.cn] 44)).alloc (.cells #[.int .i64 0, .int .i64 0, .int .i64 0, .int .i64 0, .slice none 0 0, .slice none 0 0, .slice none 0 0] 56)).heap[W.heap.size + 1]? = some (.cells #[.int .u8 x.kind, .int .i64 x.n, .int .i64 x.el.kind, .int .i64 x.el.n, .int .i64 x.el.time, .slice ax x.el.row.length cx, .int .i64 x.el.cn] 44 (0, 0)) := alloc_block (by have h := heap_alloc_new (W.alloc (.cells #[.int .i64 w.size, .int .i64 w.room, .int .i64 w.credits, .int .i64 w.next, .slice aa w.ahead.length ca, .slice aq w.queue.length cq, .slice ap w.pk.length cp] 56)) (.cells #[.int .u8 x.kind, .int .i64 x.n, .int .i64 x.el.kind, .int .i64 x.el.n, .int .i64 x.el.time, .slice ax x.el.row.length cx, .int .i64 x.el.cn] 44); rwa [World.size_alloc] at h) _
  have yR : (((W.alloc (.cells #[.int .i64 w.size, .int .i64 w.room, .int .i64 w.credits, .int .i64 w.next, .slice aa w.ahead.length ca, .slice aq w.queue.length cq, .slice ap w.pk.length cp] 56)).alloc (.cells #[.int .u8 x.kind, .int .i64 x.n, .int .i64 x.el.kind, .int .i64 x.el.n, .int .i64 x.el.time, .slice ax x.el.row.length cx, .int .i64 x.el.cn] 44)).alloc (.cells #[.int .i64 0, .int .i64 0, .int .i64 0, .int .i64 0, .slice none 0 0, .slice none 0 0, .slice none 0 0] 56)).heap[W.heap.size + 1 + 1]? = some (.cells #[.int .i64 0, .int .i64 0, .int .i64 0, .int .i64 0, .slice none 0 0, .slice none 0 0, .slice none 0 0] 56 (0, 0)) := by have h := heap_alloc_new ((W.alloc (.cells #[.int .i64 w.size, .int .i64 w.room, .int .i64 w.credits, .int .i64 w.next, .slice aa w.ahead.length ca, .slice aq w.queue.length cq, .slice ap w.pk.length cp] 56)).alloc (.cells #[.int .u8 x.kind, .int .i64 x.n, .int .i64 x.el.kind, .int .i64 x.el.n, .int .i64 x.el.time, .slice ax x.el.row.length cx, .int .i64 x.el.cn] 44)) (.cells #[.int .i64 0, .int .i64 0, .int .i64 0, .int .i64 0, .slice none 0 0, .slice none 0 0, .slice none 0 0] 56); simpa only [World.size_alloc] using h
  obtain ⟨M1, hMid, hM1, hnew1⟩ := h.start HB.out (R := W.heap.size + 1 + 1) (by omega) yR
  have HRF := Lib.hid (hrf.mono hM1)
  have HHS := Lib.hid (tRow.mono _ _ _ _ hM1 hs)
  have HX := Lib.hid hx
  have HM1 := Lib.hid hM1
  have HSO := Lib.hid hRun.so
  have HF := Lib.hid hfine
  have HC4 := Lib.hid (fun (wq : World) (hq : M1.le (mem wq)) => (show wq.cell? ⟨W.heap.size, 0, none⟩ = some (.int .i64 w.size) ∧ wq.cell? ⟨W.heap.size, 1, none⟩ = some (.int .i64 w.room) ∧ wq.cell? ⟨W.heap.size, 2, none⟩ = some (.int .i64 w.credits) ∧ wq.cell? ⟨W.heap.size, 3, none⟩ = some (.int .i64 w.next) ∧ wq.cell? ⟨W.heap.size, 4, none⟩ = some (.slice aa w.ahead.length ca) ∧ wq.cell? ⟨W.heap.size, 5, none⟩ = some (.slice aq w.queue.length cq) ∧ wq.cell? ⟨W.heap.size, 6, none⟩ = some (.slice ap w.pk.length cp) from ⟨hq _ _ _ (hnew1 _ _ _ (Mem.on_some (mem_cells y4 0) ⟨by omega, by omega⟩)), hq _ _ _ (hnew1 _ _ _ (Mem.on_some (mem_cells y4 1) ⟨by omega, by omega⟩)), hq _ _ _ (hnew1 _ _ _ (Mem.on_some (mem_cells y4 2) ⟨by omega, by omega⟩)), hq _ _ _ (hnew1 _ _ _ (Mem.on_some (mem_cells y4 3) ⟨by omega, by omega⟩)), hq _ _ _ (hnew1 _ _ _ (Mem.on_some (mem_cells y4 4) ⟨by omega, by omega⟩)), hq _ _ _ (hnew1 _ _ _ (Mem.on_some (mem_cells y4 5) ⟨by omega, by omega⟩)), hq _ _ _ (hnew1 _ _ _ (Mem.on_some (mem_cells y4 6) ⟨by omega, by omega⟩))⟩))
  have HC5 := Lib.hid (fun (wq : World) (hq : M1.le (mem wq)) => (show wq.cell? ⟨W.heap.size + 1, 0, none⟩ = some (.int .u8 x.kind) ∧ wq.cell? ⟨W.heap.size + 1, 1, none⟩ = some (.int .i64 x.n) ∧ wq.cell? ⟨W.heap.size + 1, 2, none⟩ = some (.int .i64 x.el.kind) ∧ wq.cell? ⟨W.heap.size + 1, 3, none⟩ = some (.int .i64 x.el.n) ∧ wq.cell? ⟨W.heap.size + 1, 4, none⟩ = some (.int .i64 x.el.time) ∧ wq.cell? ⟨W.heap.size + 1, 5, none⟩ = some (.slice ax x.el.row.length cx) ∧ wq.cell? ⟨W.heap.size + 1, 6, none⟩ = some (.int .i64 x.el.cn) from ⟨hq _ _ _ (hnew1 _ _ _ (Mem.on_some (mem_cells y5 0) ⟨by omega, by omega⟩)), hq _ _ _ (hnew1 _ _ _ (Mem.on_some (mem_cells y5 1) ⟨by omega, by omega⟩)), hq _ _ _ (hnew1 _ _ _ (Mem.on_some (mem_cells y5 2) ⟨by omega, by omega⟩)), hq _ _ _ (hnew1 _ _ _ (Mem.on_some (mem_cells y5 3) ⟨by omega, by omega⟩)), hq _ _ _ (hnew1 _ _ _ (Mem.on_some (mem_cells y5 4) ⟨by omega, by omega⟩)), hq _ _ _ (hnew1 _ _ _ (Mem.on_some (mem_cells y5 5) ⟨by omega, by omega⟩)), hq _ _ _ (hnew1 _ _ _ (Mem.on_some (mem_cells y5 6) ⟨by omega, by omega⟩))⟩))
  clear y4 y5 yR hnew1 hra hrq hrp hma hmq hmp hmx hs h hrf hw hx hRun hfine hM1
  go_enter Try.func25, Try.ntmps25
  go_upto_region 1 with fail
  generalize ((W.alloc (.cells #[.int .i64 w.size, .int .i64 w.room, .int .i64 w.credits, .int .i64 w.next, .slice aa w.ahead.length ca, .slice aq w.queue.length cq, .slice ap w.pk.length cp] 56)).alloc (.cells #[.int .u8 x.kind, .int .i64 x.n, .int .i64 x.el.kind, .int .i64 x.el.n, .int .i64 x.el.time, .slice ax x.el.row.length cx, .int .i64 x.el.cn] 44)).alloc (.cells #[.int .i64 0, .int .i64 0, .int .i64 0, .int .i64 0, .slice none 0 0, .slice none 0 0, .slice none 0 0] 56) = Y at HB hMid ⊢
  have HMid := Lib.hid hMid
  obtain ⟨c0, c1, c2, c3, c4, c5, c6⟩ := HC4.out Y hMid.mem
  obtain ⟨d0, d1, d2, d3, d4, d5, d6⟩ := HC5.out Y hMid.mem
  clear hMid
  go_upto_region 2 with fail
  rw [hkd]
  have hsp := HSO.out.put (x := x.el) HX.out (by omega)
  go_wp2_with fail
  refine (refPut_any w _ _ _ M1 Y HMid.out.mem HRF.out (by omega) x.el _ HX.out HHS.out).mono ?_
  rintro e w1 ⟨hput, hb1⟩
  rcases hsp with ⟨g1, g2, g3, g4, g5⟩ | ⟨g1, g2, g3⟩
  · rcases hput with ⟨hv, _⟩ | ⟨_, hl4, _⟩ | ⟨_, _, q', rfl, hr⟩
    · rw [g5] at hv; cases hv
    · omega
    obtain ⟨aq', cq', rfl, _, hmq, _⟩ := slice_form hr.hq
    have hcq' : cq' ≤ 9223372036854775807 := by unfold maxLen at hmq; exact hmq
    clear hmq
    have hll : (w.queue ++ [x.el]).length = w.queue.length + 1 := by simp
    have hr : RwAt (joinM M1 Y w1) { w with queue := w.queue ++ [x.el] } (.slice aa w.ahead.length ca) (.slice aq' (w.queue.length + 1) cq') (.slice ap w.pk.length cp) := by rw [← hll]; exact hr
    have HG := Lib.hid (And.intro g2 (And.intro g4 g5))
    have hbA2 : Below Y.heap.size Y (w1.alloc (.cells #[.int .i64 w.size, .int .i64 w.room, .int .i64 w.credits, .int .i64 w.next, .slice aa w.ahead.length ca, .slice aq' (w.queue.length + 1) cq', .slice ap w.pk.length cp] 56)) := hb1.alloc hb1.size _
    obtain ⟨M2, hMid2, hM2, hn2⟩ := HMid.out.grow hbA2
    have HN2 := Lib.hid (show ((mem w1).on (Y.heap.size ≤ ·)).le M2 from fun i o v e => hn2 _ _ _ (let ⟨hs, e⟩ := Mem.of_on e; Mem.on_some (below_mem ((Below.refl w1.heap.size w1).alloc (Nat.le_refl _) _) _ _ _ e) hs))
    have HC82 := Lib.hid (fun (wq : World) (hq : M2.le (mem wq)) => (show wq.cell? ⟨w1.heap.size, 0, none⟩ = some (.int .i64 w.size) ∧ wq.cell? ⟨w1.heap.size, 1, none⟩ = some (.int .i64 w.room) ∧ wq.cell? ⟨w1.heap.size, 2, none⟩ = some (.int .i64 w.credits) ∧ wq.cell? ⟨w1.heap.size, 3, none⟩ = some (.int .i64 w.next) ∧ wq.cell? ⟨w1.heap.size, 4, none⟩ = some (.slice aa w.ahead.length ca) ∧ wq.cell? ⟨w1.heap.size, 5, none⟩ = some (.slice aq' (w.queue.length + 1) cq') ∧ wq.cell? ⟨w1.heap.size, 6, none⟩ = some (.slice ap w.pk.length cp) from ⟨hq _ _ _ (hn2 _ _ _ (Mem.on_some (cell_new 0 rfl) hb1.size)), hq _ _ _ (hn2 _ _ _ (Mem.on_some (cell_new 1 rfl) hb1.size)), hq _ _ _ (hn2 _ _ _ (Mem.on_some (cell_new 2 rfl) hb1.size)), hq _ _ _ (hn2 _ _ _ (Mem.on_some (cell_new 3 rfl) hb1.size)), hq _ _ _ (hn2 _ _ _ (Mem.on_some (cell_new 4 rfl) hb1.size)), hq _ _ _ (hn2 _ _ _ (Mem.on_some (cell_new 5 rfl) hb1.size)), hq _ _ _ (hn2 _ _ _ (Mem.on_some (cell_new 6 rfl) hb1.size))⟩))
    have HM2 := Lib.hid hM2
    have HMid2 := Lib.hid hMid2
    have HRF2 := Lib.hid (hr.mono (joinM_to hM2 HN2.out))
    have HMD := Lib.hid (hMid2.pure (Below.refl _ _).drew)
    have HP := Lib.hid (show Calls Try.prog 16 #[.pointer (some ⟨b, 0, none⟩), elV x.el (.slice ax x.el.row.length cx)] (w1.alloc (.cells #[.int .i64 w.size, .int .i64 w.room, .int .i64 w.credits, .int .i64 w.next, .slice aa w.ahead.length ca, .slice aq' (w.queue.length + 1) cq', .slice ap w.pk.length cp] 56)).drew (fun e W' => e = .returned (.int .i64 0) ∧ Stp base b N M2 (fun k => F k ∨ k = W.heap.size + 1 + 1) (w1.alloc (.cells #[.int .i64 w.size, .int .i64 w.room, .int .i64 w.credits, .int .i64 w.next, .slice aa w.ahead.length ca, .slice aq' (w.queue.length + 1) cq', .slice ap w.pk.length cp] 56)).drew W' (putR r x.el)) from (st_put HMD.out.st HF.out x.el _ HX.out (tRow.mono _ _ _ _ (Mem.le_trans hM2 HMD.out.mem) HHS.out)).mono (fun e W' ⟨h1, h2⟩ => ⟨by rw [h1, g1], h2⟩))
    clear hn2 hM2 hMid2 hbA2 hb1 c0 c1 c2 c3 c4 c5 c6 d0 d1 d2 d3 d4 d5 d6
    go_upto_region 4 with fail
    generalize (w1.alloc (.cells #[.int .i64 w.size, .int .i64 w.room, .int .i64 w.credits, .int .i64 w.next, .slice aa w.ahead.length ca, .slice aq' (w.queue.length + 1) cq', .slice ap w.pk.length cp] 56)) = X at HMid2 HMD HP ⊢
    generalize w1.heap.size = nb at HC82 ⊢
    obtain ⟨c0, c1, c2, c3, c4, c5, c6⟩ := HC82.out X.drew HMD.out.mem
    obtain ⟨d0, d1, d2, d3, d4, d5, d6⟩ := HC5.out X.drew (Mem.le_trans HM2.out HMD.out.mem)
    go_region_law (go_simp; go_at_call 16; refine HP.out.mono ?_; rintro e w5 ⟨rfl, hS⟩; have hMid5 := HMD.out.step (Mem.le_refl _) hS (HG.out.1.mono (Nat.le_succ N)); have HMid5 := Lib.hid hMid5; obtain ⟨b0, b1, b2, b3, b4, b5, b6⟩ := HC82.out w5 hMid5.mem; obtain ⟨f5, z5⟩ := hMid5.cells; have z0 := z5 0; have z1 := z5 1; have z2 := z5 2; have z3 := z5 3; have z4 := z5 4; have z55 := z5 5; have z6 := z5 6; clear hS hMid5 z5)
    all_goals
      go_wp2
      have r1 := store7_block HMid5.out.hR (.int .i64 w.size) (.int .i64 w.room) (.int .i64 w.credits) (.int .i64 w.next) (.slice aa w.ahead.length ca) (.slice aq' (w.queue.length + 1) cq') (.slice ap w.pk.length cp)
      have hk := store7_keeps (w5) (W.heap.size + 1 + 1) (.int .i64 w.size) (.int .i64 w.room) (.int .i64 w.credits) (.int .i64 w.next) (.slice aa w.ahead.length ca) (.slice aq' (w.queue.length + 1) cq') (.slice ap w.pk.length cp)
      show bodyPost _ _ _ _ _ (store7 (w5) (W.heap.size + 1 + 1) (.int .i64 w.size) (.int .i64 w.room) (.int .i64 w.credits) (.int .i64 w.next) (.slice aa w.ahead.length ca) (.slice aq' (w.queue.length + 1) cq') (.slice ap w.pk.length cp))
      generalize store7 (w5) (W.heap.size + 1 + 1) (.int .i64 w.size) (.int .i64 w.room) (.int .i64 w.credits) (.int .i64 w.next) (.slice aa w.ahead.length ca) (.slice aq' (w.queue.length + 1) cq') (.slice ap w.pk.length cp) = w2 at r1 hk ⊢
      have g0 : w2.cell? ⟨W.heap.size + 1 + 1, 0, none⟩ = some (.int .i64 w.size) := mem_cells r1 0
      have g1 : w2.cell? ⟨W.heap.size + 1 + 1, 1, none⟩ = some (.int .i64 w.room) := mem_cells r1 1
      have g2 : w2.cell? ⟨W.heap.size + 1 + 1, 2, none⟩ = some (.int .i64 w.credits) := mem_cells r1 2
      have g3 : w2.cell? ⟨W.heap.size + 1 + 1, 3, none⟩ = some (.int .i64 w.next) := mem_cells r1 3
      have g4 : w2.cell? ⟨W.heap.size + 1 + 1, 4, none⟩ = some (.slice aa w.ahead.length ca) := mem_cells r1 4
      have g5 : w2.cell? ⟨W.heap.size + 1 + 1, 5, none⟩ = some (.slice aq' (w.queue.length + 1) cq') := mem_cells r1 5
      have g6 : w2.cell? ⟨W.heap.size + 1 + 1, 6, none⟩ = some (.slice ap w.pk.length cp) := mem_cells r1 6
      refine bodyPost_ret (v := .tuple #[.agg #[.int .i64 w.size, .int .i64 w.room, .int .i64 w.credits, .int .i64 w.next, .slice aa w.ahead.length ca, .slice aq' (w.queue.length + 1) cq', .slice ap w.pk.length cp], .bool true]) (by simp [results, Try.results25, go_sem, g0, g1, g2, g3, g4, g5, g6]) rfl ?_
      have hE : refOf (putR r x.el) ah ps = { w with queue := w.queue ++ [x.el] } := by rw [← HW.out]; unfold putR; rw [if_pos HG.out.2.2, if_neg (by omega)]; rfl
      exact ⟨_, _, _, _, M2, _, _, _, by rw [hE], HMid5.out.finish hk (by rw [hE]; exact HRF2.out), Mem.le_trans HM1.out HM2.out, by rw [HG.out.2.1]; omega⟩
  · rcases hput with ⟨_, rfl⟩ | ⟨hv, _⟩ | ⟨hv, _⟩
    rotate_left
    · rw [g3] at hv; cases hv
    · rw [g3] at hv; cases hv
    have hbA2 : Below Y.heap.size Y (w1.alloc (.cells #[.int .i64 w.size, .int .i64 w.room, .int .i64 w.credits, .int .i64 w.next, .slice aa w.ahead.length ca, .slice aq w.queue.length cq, .slice ap w.pk.length cp] 56)) := hb1.alloc hb1.size _
    obtain ⟨M2, hMid2, hM2, hn2⟩ := HMid.out.grow hbA2
    have HN2 := Lib.hid (show ((mem w1).on (Y.heap.size ≤ ·)).le M2 from fun i o v e => hn2 _ _ _ (let ⟨hs, e⟩ := Mem.of_on e; Mem.on_some (below_mem ((Below.refl w1.heap.size w1).alloc (Nat.le_refl _) _) _ _ _ e) hs))
    have HC82 := Lib.hid (fun (wq : World) (hq : M2.le (mem wq)) => (show wq.cell? ⟨w1.heap.size, 0, none⟩ = some (.int .i64 w.size) ∧ wq.cell? ⟨w1.heap.size, 1, none⟩ = some (.int .i64 w.room) ∧ wq.cell? ⟨w1.heap.size, 2, none⟩ = some (.int .i64 w.credits) ∧ wq.cell? ⟨w1.heap.size, 3, none⟩ = some (.int .i64 w.next) ∧ wq.cell? ⟨w1.heap.size, 4, none⟩ = some (.slice aa w.ahead.length ca) ∧ wq.cell? ⟨w1.heap.size, 5, none⟩ = some (.slice aq w.queue.length cq) ∧ wq.cell? ⟨w1.heap.size, 6, none⟩ = some (.slice ap w.pk.length cp) from ⟨hq _ _ _ (hn2 _ _ _ (Mem.on_some (cell_new 0 rfl) hb1.size)), hq _ _ _ (hn2 _ _ _ (Mem.on_some (cell_new 1 rfl) hb1.size)), hq _ _ _ (hn2 _ _ _ (Mem.on_some (cell_new 2 rfl) hb1.size)), hq _ _ _ (hn2 _ _ _ (Mem.on_some (cell_new 3 rfl) hb1.size)), hq _ _ _ (hn2 _ _ _ (Mem.on_some (cell_new 4 rfl) hb1.size)), hq _ _ _ (hn2 _ _ _ (Mem.on_some (cell_new 5 rfl) hb1.size)), hq _ _ _ (hn2 _ _ _ (Mem.on_some (cell_new 6 rfl) hb1.size))⟩))
    have HM2 := Lib.hid hM2
    have HMid2 := Lib.hid hMid2
    have HRF2 := Lib.hid (HRF.out.mono hM2)
    have HMD := Lib.hid (hMid2.pure (Below.refl _ _).drew)
    have HP := Lib.hid (show Calls Try.prog 16 #[.pointer (some ⟨b, 0, none⟩), elV x.el (.slice ax x.el.row.length cx)] (w1.alloc (.cells #[.int .i64 w.size, .int .i64 w.room, .int .i64 w.credits, .int .i64 w.next, .slice aa w.ahead.length ca, .slice aq w.queue.length cq, .slice ap w.pk.length cp] 56)).drew (fun e W' => e = .returned (.int .i64 1) ∧ Stp base b N M2 (fun k => F k ∨ k = W.heap.size + 1 + 1) (w1.alloc (.cells #[.int .i64 w.size, .int .i64 w.room, .int .i64 w.credits, .int .i64 w.next, .slice aa w.ahead.length ca, .slice aq w.queue.length cq, .slice ap w.pk.length cp] 56)).drew W' (r)) from (st_put HMD.out.st HF.out x.el _ HX.out (tRow.mono _ _ _ _ (Mem.le_trans hM2 HMD.out.mem) HHS.out)).mono (fun e W' ⟨h1, h2⟩ => ⟨by rw [h1, g1], by rw [g2] at h2; exact h2⟩))
    clear hn2 hM2 hMid2 hbA2 hb1 c0 c1 c2 c3 c4 c5 c6 d0 d1 d2 d3 d4 d5 d6
    go_upto_region 4 with fail
    generalize (w1.alloc (.cells #[.int .i64 w.size, .int .i64 w.room, .int .i64 w.credits, .int .i64 w.next, .slice aa w.ahead.length ca, .slice aq w.queue.length cq, .slice ap w.pk.length cp] 56)) = X at HMid2 HMD HP ⊢
    generalize w1.heap.size = nb at HC82 ⊢
    obtain ⟨c0, c1, c2, c3, c4, c5, c6⟩ := HC82.out X.drew HMD.out.mem
    obtain ⟨d0, d1, d2, d3, d4, d5, d6⟩ := HC5.out X.drew (Mem.le_trans HM2.out HMD.out.mem)
    go_region_law (go_simp; go_at_call 16; refine HP.out.mono ?_; rintro e w5 ⟨rfl, hS⟩; have hMid5 := HMD.out.step (Mem.le_refl _) hS (HSO.out.mono (Nat.le_succ N)); have HMid5 := Lib.hid hMid5; obtain ⟨b0, b1, b2, b3, b4, b5, b6⟩ := HC82.out w5 hMid5.mem; obtain ⟨f5, z5⟩ := hMid5.cells; have z0 := z5 0; have z1 := z5 1; have z2 := z5 2; have z3 := z5 3; have z4 := z5 4; have z55 := z5 5; have z6 := z5 6; clear hS hMid5 z5)
    all_goals
      go_wp2
      have r1 := store7_block HMid5.out.hR (.int .i64 w.size) (.int .i64 w.room) (.int .i64 w.credits) (.int .i64 w.next) (.slice aa w.ahead.length ca) (.slice aq w.queue.length cq) (.slice ap w.pk.length cp)
      have hk := store7_keeps (w5) (W.heap.size + 1 + 1) (.int .i64 w.size) (.int .i64 w.room) (.int .i64 w.credits) (.int .i64 w.next) (.slice aa w.ahead.length ca) (.slice aq w.queue.length cq) (.slice ap w.pk.length cp)
      show bodyPost _ _ _ _ _ (store7 (w5) (W.heap.size + 1 + 1) (.int .i64 w.size) (.int .i64 w.room) (.int .i64 w.credits) (.int .i64 w.next) (.slice aa w.ahead.length ca) (.slice aq w.queue.length cq) (.slice ap w.pk.length cp))
      generalize store7 (w5) (W.heap.size + 1 + 1) (.int .i64 w.size) (.int .i64 w.room) (.int .i64 w.credits) (.int .i64 w.next) (.slice aa w.ahead.length ca) (.slice aq w.queue.length cq) (.slice ap w.pk.length cp) = w2 at r1 hk ⊢
      have g0 : w2.cell? ⟨W.heap.size + 1 + 1, 0, none⟩ = some (.int .i64 w.size) := mem_cells r1 0
      have g1 : w2.cell? ⟨W.heap.size + 1 + 1, 1, none⟩ = some (.int .i64 w.room) := mem_cells r1 1
      have g2 : w2.cell? ⟨W.heap.size + 1 + 1, 2, none⟩ = some (.int .i64 w.credits) := mem_cells r1 2
      have g3 : w2.cell? ⟨W.heap.size + 1 + 1, 3, none⟩ = some (.int .i64 w.next) := mem_cells r1 3
      have g4 : w2.cell? ⟨W.heap.size + 1 + 1, 4, none⟩ = some (.slice aa w.ahead.length ca) := mem_cells r1 4
      have g5 : w2.cell? ⟨W.heap.size + 1 + 1, 5, none⟩ = some (.slice aq w.queue.length cq) := mem_cells r1 5
      have g6 : w2.cell? ⟨W.heap.size + 1 + 1, 6, none⟩ = some (.slice ap w.pk.length cp) := mem_cells r1 6
      refine bodyPost_ret (v := .tuple #[.agg #[.int .i64 w.size, .int .i64 w.room, .int .i64 w.credits, .int .i64 w.next, .slice aa w.ahead.length ca, .slice aq w.queue.length cq, .slice ap w.pk.length cp], .bool true]) (by simp [results, Try.results25, go_sem, g0, g1, g2, g3, g4, g5, g6]) rfl ?_
      have hE : refOf r ah ps = w := HW.out
      exact ⟨_, _, _, _, M2, _, _, _, by rw [hE], HMid5.out.finish hk (by rw [hE]; exact HRF2.out), Mem.le_trans HM1.out HM2.out, by omega⟩
end Go.Proofs.Ytfkphdmnelchmaa
/- The reference's wire: Send. -/
namespace Go.Proofs.Ytfkphdmnelchmaa
open Go.RowKit Go.Maps

def dropB (g off cap n sz : Nat) : Addr := if cap = n then ⟨g, off, none⟩ else ⟨g, off + n * sz, none⟩
section
variable {P : Program}
theorem take2_run {T e : TypeId} {sz : Nat} (hT : P.underlying T = some (.slice e)) (hs : (P.info? e).map (·.size) = some sz) (g off len cap n : Nat) (hn : n ≤ cap) (w2 : World) :
    (Instr.slice T (.slice (some ⟨g, off, none⟩) len cap) none (some (.int .i64 n)) none).run P w2 = .ok (.slice (some ⟨g, off, none⟩) n cap) w2 := by
  have he : P.elem T = e := by simp [Program.elem, hT]
  rw [run_slice_h w2 T _ len cap (by rw [he]; exact hT) .i64 n (by omega) (by omega), he, size_run hs]
  by_cases h1 : cap = 0
  · simp [Result.andThen, sliced, h1]
  · simp [Result.andThen, sliced, h1, Addr.add]
theorem drop2_run {T e : TypeId} {sz : Nat} (hT : P.underlying T = some (.slice e)) (hs : (P.info? e).map (·.size) = some sz) (g off len cap n : Nat) (hn : n ≤ len) (w2 : World) :
    (Instr.slice T (.slice (some ⟨g, off, none⟩) len cap) (some (.int .i64 n)) none none).run P w2 = .ok (.slice (some (dropB g off cap n sz)) (len - n) (cap - n)) w2 := by
  have he : P.elem T = e := by simp [Program.elem, hT]
  rw [run_slice_l w2 T _ len cap (by rw [he]; exact hT) .i64 n (by omega) (by omega), he, size_run hs]
  by_cases h1 : cap = n
  · simp [Result.andThen, sliced, dropB, h1]
  · simp [Result.andThen, sliced, dropB, h1, Addr.add]
end
theorem slice_take2 {α : Type} {t : Ty α} {m : Mem} {a : Option Addr} {len cap n : Nat} {xs : List α} (h : (tSlice t).rv m [.slice a len cap] xs) (hn : n ≤ xs.length) : (tSlice t).rv m [.slice a n cap] (xs.take n) := by
  obtain ⟨rfl, h1, h2⟩ := slice_len h
  obtain ⟨a', cap', e, _, _, h4⟩ := h
  simp only [List.cons.injEq, Value.slice.injEq, and_true] at e
  obtain ⟨rfl, _, rfl⟩ := e
  have hl : (xs.take n).length = n := by simp; omega
  refine ⟨a, cap, by rw [hl], by rw [hl]; omega, h2, fun h0 => ?_⟩
  rw [hl] at h0
  obtain ⟨b, o, ha, hat⟩ := h4 (by omega)
  exact ⟨b, o, ha, fun k hk => by rw [List.getElem_take]; exact hat k (by omega)⟩
theorem slice_drop2 {α : Type} {t : Ty α} {m : Mem} {g off len cap n : Nat} {xs : List α} (h : (tSlice t).rv m [.slice (some ⟨g, off, none⟩) len cap] xs) (hn : n ≤ xs.length) : (tSlice t).rv m [.slice (some (dropB g off cap n t.sz)) (len - n) (cap - n)] (xs.drop n) := by
  obtain ⟨rfl, h1, h2⟩ := slice_len h
  obtain ⟨a', cap', e, _, _, h4⟩ := h
  simp only [List.cons.injEq, Value.slice.injEq, and_true] at e
  obtain ⟨rfl, _, rfl⟩ := e
  refine ⟨some (dropB g off cap n t.sz), cap - n, by simp, by simp; omega, by omega, fun h0 => ?_⟩
  rw [List.length_drop] at h0
  obtain ⟨b, o, ha, hat⟩ := h4 (by omega)
  simp only [Option.some.injEq, Addr.mk.injEq, and_true] at ha
  obtain ⟨rfl, rfl⟩ := ha
  refine ⟨g, off + n * t.sz, by unfold dropB; rw [if_neg (by omega)], fun k hk => ?_⟩
  rw [List.length_drop] at hk
  have h := hat (n + k) (by omega)
  rw [List.getElem_drop]
  have e : off + (n + k) * t.sz = off + n * t.sz + k * t.sz := by rw [Nat.add_mul]; omega
  rw [e] at h; exact h
theorem at_lit3 {w : World} {a b c : Value} {T : TypeId} : At (mem (w.alloc (.cells #[a, b, c] T))) w.heap.size 0 [a, b, c] := fun j u hj => by
  rw [Nat.zero_add]
  show World.cell? _ ⟨w.heap.size, j, none⟩ = some u
  rw [cell_new j rfl]; simpa using hj
theorem at_lit3b {w : World} {a b c : Value} {T : TypeId} {o : Obj} : At (mem ((w.alloc o).alloc (.cells #[a, b, c] T))) (w.heap.size + 1) 0 [a, b, c] := by
  have h := at_lit3 (w := w.alloc o) (a := a) (b := b) (c := c) (T := T)
  rwa [World.size_alloc] at h
theorem rp_one {k : Int} {a : Option Addr} {n c : Nat} {d : Bool} : ∀ u ∈ [Value.int .i64 k, .slice a n c, .bool d], u.oneCell' = true := fun u hu => by
  simp at hu; rcases hu with rfl | rfl | rfl <;> rfl
def sendK (w : RW) : Nat := min w.size.toNat w.queue.length
def sendW (w : RW) : RW := { w with queue := w.queue.drop (sendK w), pk := w.pk ++ [⟨w.next, w.queue.take (sendK w), false⟩], next := w.next + 1, credits := w.credits - 1 }
/-- Nothing but a normal end. -/
def OnlyN (Q : Act → World → Prop) : Exit → Act → World → Prop
  | .normal, a, w => Q a w
  | _, _, _ => False
def Sent (M : Mem) (B : Nat) (w : RW) (aa ap : Option Addr) (ca cp cq gq oq n : Nat) (Y : World) (ac : Act) (wX : World) : Prop :=
  ∃ (u7 u8 u9 u10 u11 u12 u13 u14 u15 u16 u17 u18 u19 u20 u21 u22 u23 u24 u25 u26 u27 u28 u29 u30 u31 u32 u33 u34 u35 u36 u37 u38 u39 u40 u41 u42 u43 u44 u45 u46 u47 u48 u49 u50 u51 u52 u53 u54 u55 : Value) (a6 : Option Addr) (cz : Nat) (w6 : World), ac = ⟨#[wV w (.slice aa w.ahead.length ca) (.slice (some ⟨gq, oq, none⟩) w.queue.length cq) (.slice ap w.pk.length cp), .pointer (some ⟨B, 0, none⟩), .pointer (some ⟨B + 1, 0, none⟩), .int .i64 0, .int .i64 0, .int .i64 n, .int .i64 w.next, u7, u8, u9, u10, u11, u12, u13, u14, u15, u16, u17, u18, u19, u20, u21, u22, u23, u24, u25, u26, u27, u28, u29, u30, u31, u32, u33, u34, u35, u36, u37, u38, u39, u40, u41, u42, u43, u44, u45, u46, u47, u48, u49, u50, u51, u52, u53, u54, u55], []⟩ ∧ wX = w6.setCell ⟨B, 6, none⟩ (.slice a6 (w.pk.length + 1) cz) ∧ OwnsO (tIn M tRP) w6 126 (.slice a6 (w.pk.length + 1) cz) (w.pk ++ [(⟨w.next, w.queue.take n, false⟩ : RP)]) ∧ Below Y.heap.size Y w6 ∧ (∀ k, (Value.slice a6 (w.pk.length + 1) cz).ownBlock = some k → Y.heap.size ≤ k)
def RSend (M : Mem) (W : World) (w : RW) (a q p : Value) (e : Ending) (W' : World) : Prop :=
  (w.queue = [] ∧ e = .returned (.tuple #[wV w a q p, .int .i64 0, .int .i64 8])) ∨ (w.queue ≠ [] ∧ w.credits = 0 ∧ e = .returned (.tuple #[wV w a q p, .int .i64 0, .int .i64 10])) ∨
  (w.queue ≠ [] ∧ w.credits ≠ 0 ∧ ∃ q' p', e = .returned (.tuple #[wV (sendW w) a q' p', .int .i64 w.next, .int .i64 0]) ∧ RwAt (joinM M W W') (sendW w) a q' p')
set_option maxRecDepth 100000 in
set_option maxHeartbeats 80000000 in
theorem refSend_any (w : RW) (a q p : Value) (M : Mem) (W : World) (hM : M.le (mem W)) (h : RwAt M w a q p) (hql : w.queue.length ≤ 100000) (hpl : w.pk.length ≤ 100000) (hs1 : 1 ≤ w.size ∧ w.size ≤ 100) (hn1 : 0 ≤ w.next ∧ w.next ≤ 1000000) (hc1 : 0 ≤ w.credits ∧ w.credits ≤ 1000) : Calls Try.prog 49 #[wV w a q p] W fun e W' => RSend M W w a q p e W' ∧ Below W.heap.size W W' := by
  obtain ⟨aa, ca, rfl, hla, hma, hra⟩ := slice_form h.ha
  obtain ⟨aq, cq, rfl, hlq, hmq, hrq⟩ := slice_form h.hq
  obtain ⟨ap, cp, rfl, hlp, hmp, hrp⟩ := slice_form h.hp
  have hca : ca ≤ 9223372036854775807 := by unfold maxLen at hma; exact hma
  have hcq : cq ≤ 9223372036854775807 := by unfold maxLen at hmq; exact hmq
  have hcp : cp ≤ 9223372036854775807 := by unfold maxLen at hmp; exact hmp
  have HA := Lib.hid hra
  have HQ := Lib.hid hrq
  have HP := Lib.hid hrp
  have HW := Lib.hid h
  have HM := Lib.hid hM
  clear hma hmq hmp hra hrq hrp h hM
  have HB2 := Lib.hid (((Below.refl W.heap.size W).alloc (Nat.le_refl _) (.cells #[.int .i64 w.size, .int .i64 w.room, .int .i64 w.credits, .int .i64 w.next, .slice aa w.ahead.length ca, .slice aq w.queue.length cq, .slice ap w.pk.length cp] 56)).alloc (by simp) (.cells #[.int .i64 0, .int .i64 0, .int .i64 0, .int .i64 0, .slice none 0 0, .slice none 0 0, .slice none 0 0] 56))
  have yB : ((W.alloc (.cells #[.int .i64 w.size, .int .i64 w.room, .int .i64 w.credits, .int .i64 w.next, .slice aa w.ahead.length ca, .slice aq w.queue.length cq, .slice ap w.pk.length cp] 56)).alloc (.cells #[.int .i64 0, .int .i64 0, .int .i64 0, .int .i64 0, .slice none 0 0, .slice none 0 0, .slice none 0 0] 56)).heap[W.heap.size]? = some (.cells #[.int .i64 w.size, .int .i64 w.room, .int .i64 w.credits, .int .i64 w.next, .slice aa w.ahead.length ca, .slice aq w.queue.length cq, .slice ap w.pk.length cp] 56 (0, 0)) := alloc_block (heap_alloc_new W _) _
  have yR : ((W.alloc (.cells #[.int .i64 w.size, .int .i64 w.room, .int .i64 w.credits, .int .i64 w.next, .slice aa w.ahead.length ca, .slice aq w.queue.length cq, .slice ap w.pk.length cp] 56)).alloc (.cells #[.int .i64 0, .int .i64 0, .int .i64 0, .int .i64 0, .slice none 0 0, .slice none 0 0, .slice none 0 0] 56)).heap[W.heap.size + 1]? = some (.cells #[.int .i64 0, .int .i64 0, .int .i64 0, .int .i64 0, .slice none 0 0, .slice none 0 0, .slice none 0 0] 56 (0, 0)) := by have h := heap_alloc_new (W.alloc (.cells #[.int .i64 w.size, .int .i64 w.room, .int .i64 w.credits, .int .i64 w.next, .slice aa w.ahead.length ca, .slice aq w.queue.length cq, .slice ap w.pk.length cp] 56)) (.cells #[.int .i64 0, .int .i64 0, .int .i64 0, .int .i64 0, .slice none 0 0, .slice none 0 0, .slice none 0 0] 56); rwa [World.size_alloc] at h
  have hszY : ((W.alloc (.cells #[.int .i64 w.size, .int .i64 w.room, .int .i64 w.credits, .int .i64 w.next, .slice aa w.ahead.length ca, .slice aq w.queue.length cq, .slice ap w.pk.length cp] 56)).alloc (.cells #[.int .i64 0, .int .i64 0, .int .i64 0, .int .i64 0, .slice none 0 0, .slice none 0 0, .slice none 0 0] 56)).heap.size = W.heap.size + 2 := by simp
  go_enter Try.func49, Try.ntmps49
  go_upto_region 1 with fail
  generalize (W.alloc (.cells #[.int .i64 w.size, .int .i64 w.room, .int .i64 w.credits, .int .i64 w.next, .slice aa w.ahead.length ca, .slice aq w.queue.length cq, .slice ap w.pk.length cp] 56)).alloc (.cells #[.int .i64 0, .int .i64 0, .int .i64 0, .int .i64 0, .slice none 0 0, .slice none 0 0, .slice none 0 0] 56) = Y at HB2 yB yR hszY ⊢
  have c0 : Y.cell? ⟨W.heap.size, 0, none⟩ = some (.int .i64 w.size) := mem_cells yB 0
  have c1 : Y.cell? ⟨W.heap.size, 1, none⟩ = some (.int .i64 w.room) := mem_cells yB 1
  have c2 : Y.cell? ⟨W.heap.size, 2, none⟩ = some (.int .i64 w.credits) := mem_cells yB 2
  have c3 : Y.cell? ⟨W.heap.size, 3, none⟩ = some (.int .i64 w.next) := mem_cells yB 3
  have c4 : Y.cell? ⟨W.heap.size, 4, none⟩ = some (.slice aa w.ahead.length ca) := mem_cells yB 4
  have c5 : Y.cell? ⟨W.heap.size, 5, none⟩ = some (.slice aq w.queue.length cq) := mem_cells yB 5
  have c6 : Y.cell? ⟨W.heap.size, 6, none⟩ = some (.slice ap w.pk.length cp) := mem_cells yB 6
  have r0 : Y.cell? ⟨W.heap.size + 1, 0, none⟩ = some (.int .i64 0) := mem_cells yR 0
  have r1 : Y.cell? ⟨W.heap.size + 1, 1, none⟩ = some (.int .i64 0) := mem_cells yR 1
  have r2 : Y.cell? ⟨W.heap.size + 1, 2, none⟩ = some (.int .i64 0) := mem_cells yR 2
  have r3 : Y.cell? ⟨W.heap.size + 1, 3, none⟩ = some (.int .i64 0) := mem_cells yR 3
  have r4 : Y.cell? ⟨W.heap.size + 1, 4, none⟩ = some (.slice none 0 0) := mem_cells yR 4
  have r5 : Y.cell? ⟨W.heap.size + 1, 5, none⟩ = some (.slice none 0 0) := mem_cells yR 5
  have r6 : Y.cell? ⟨W.heap.size + 1, 6, none⟩ = some (.slice none 0 0) := mem_cells yR 6
  have fB : ∀ o, Y.frozen? ⟨W.heap.size, o, none⟩ = false := frozen_cells yB
  have fR : ∀ o, Y.frozen? ⟨W.heap.size + 1, o, none⟩ = false := frozen_cells yR
  have HYR := Lib.hid yR
  have HYB := Lib.hid yB
  by_cases h0 : w.queue.length = 0
  · have h0' : ((w.queue.length : Int) == 0) = true := by rw [h0]; rfl
    have HN := Lib.hid (show w.queue = [] from List.length_eq_zero_iff.1 h0)
    clear h0 yB yR
    go_wp2
    have HBX := HB2
    have r1 := store7_block HYR.out (.int .i64 w.size) (.int .i64 w.room) (.int .i64 w.credits) (.int .i64 w.next) (.slice aa w.ahead.length ca) (.slice aq w.queue.length cq) (.slice ap w.pk.length cp)
    have hk := store7_keeps (Y) (W.heap.size + 1) (.int .i64 w.size) (.int .i64 w.room) (.int .i64 w.credits) (.int .i64 w.next) (.slice aa w.ahead.length ca) (.slice aq w.queue.length cq) (.slice ap w.pk.length cp)
    show bodyPost _ _ _ _ _ (store7 (Y) (W.heap.size + 1) (.int .i64 w.size) (.int .i64 w.room) (.int .i64 w.credits) (.int .i64 w.next) (.slice aa w.ahead.length ca) (.slice aq w.queue.length cq) (.slice ap w.pk.length cp))
    generalize store7 (Y) (W.heap.size + 1) (.int .i64 w.size) (.int .i64 w.room) (.int .i64 w.credits) (.int .i64 w.next) (.slice aa w.ahead.length ca) (.slice aq w.queue.length cq) (.slice ap w.pk.length cp) = w2 at r1 hk ⊢
    have hBz : Below W.heap.size W w2 := Keeps.belowStep HBX.out hk (fun k hk => by omega) HBX.out.size
    have g0 : w2.cell? ⟨(W.heap.size + 1), 0, none⟩ = some (.int .i64 w.size) := mem_cells r1 0
    have g1 : w2.cell? ⟨(W.heap.size + 1), 1, none⟩ = some (.int .i64 w.room) := mem_cells r1 1
    have g2 : w2.cell? ⟨(W.heap.size + 1), 2, none⟩ = some (.int .i64 w.credits) := mem_cells r1 2
    have g3 : w2.cell? ⟨(W.heap.size + 1), 3, none⟩ = some (.int .i64 w.next) := mem_cells r1 3
    have g4 : w2.cell? ⟨(W.heap.size + 1), 4, none⟩ = some (.slice aa w.ahead.length ca) := mem_cells r1 4
    have g5 : w2.cell? ⟨(W.heap.size + 1), 5, none⟩ = some (.slice aq w.queue.length cq) := mem_cells r1 5
    have g6 : w2.cell? ⟨(W.heap.size + 1), 6, none⟩ = some (.slice ap w.pk.length cp) := mem_cells r1 6
    exact bodyPost_ret (v := .tuple #[.agg #[.int .i64 w.size, .int .i64 w.room, .int .i64 w.credits, .int .i64 w.next, .slice aa w.ahead.length ca, .slice aq w.queue.length cq, .slice ap w.pk.length cp], .int .i64 0, .int .i64 8]) (by simp [results, Try.results49, go_sem, g0, g1, g2, g3, g4, g5, g6]) rfl ⟨.inl ⟨HN.out, rfl⟩, hBz⟩
  have h0' : ((w.queue.length : Int) == 0) = false := by have h : (w.queue.length : Int) ≠ 0 := (by omega); simpa using h
  have HNE := Lib.hid (show w.queue ≠ [] from fun h => h0 (by rw [h]; rfl))
  by_cases hcz : w.credits = 0
  · have hcz' : (w.credits == 0) = true := by simpa using hcz
    have HC := Lib.hid hcz
    clear hcz yB yR
    go_wp2
    have HBX := HB2
    have r1 := store7_block HYR.out (.int .i64 w.size) (.int .i64 w.room) (.int .i64 w.credits) (.int .i64 w.next) (.slice aa w.ahead.length ca) (.slice aq w.queue.length cq) (.slice ap w.pk.length cp)
    have hk := store7_keeps (Y) (W.heap.size + 1) (.int .i64 w.size) (.int .i64 w.room) (.int .i64 w.credits) (.int .i64 w.next) (.slice aa w.ahead.length ca) (.slice aq w.queue.length cq) (.slice ap w.pk.length cp)
    show bodyPost _ _ _ _ _ (store7 (Y) (W.heap.size + 1) (.int .i64 w.size) (.int .i64 w.room) (.int .i64 w.credits) (.int .i64 w.next) (.slice aa w.ahead.length ca) (.slice aq w.queue.length cq) (.slice ap w.pk.length cp))
    generalize store7 (Y) (W.heap.size + 1) (.int .i64 w.size) (.int .i64 w.room) (.int .i64 w.credits) (.int .i64 w.next) (.slice aa w.ahead.length ca) (.slice aq w.queue.length cq) (.slice ap w.pk.length cp) = w2 at r1 hk ⊢
    have hBz : Below W.heap.size W w2 := Keeps.belowStep HBX.out hk (fun k hk => by omega) HBX.out.size
    have g0 : w2.cell? ⟨(W.heap.size + 1), 0, none⟩ = some (.int .i64 w.size) := mem_cells r1 0
    have g1 : w2.cell? ⟨(W.heap.size + 1), 1, none⟩ = some (.int .i64 w.room) := mem_cells r1 1
    have g2 : w2.cell? ⟨(W.heap.size + 1), 2, none⟩ = some (.int .i64 w.credits) := mem_cells r1 2
    have g3 : w2.cell? ⟨(W.heap.size + 1), 3, none⟩ = some (.int .i64 w.next) := mem_cells r1 3
    have g4 : w2.cell? ⟨(W.heap.size + 1), 4, none⟩ = some (.slice aa w.ahead.length ca) := mem_cells r1 4
    have g5 : w2.cell? ⟨(W.heap.size + 1), 5, none⟩ = some (.slice aq w.queue.length cq) := mem_cells r1 5
    have g6 : w2.cell? ⟨(W.heap.size + 1), 6, none⟩ = some (.slice ap w.pk.length cp) := mem_cells r1 6
    exact bodyPost_ret (v := .tuple #[.agg #[.int .i64 w.size, .int .i64 w.room, .int .i64 w.credits, .int .i64 w.next, .slice aa w.ahead.length ca, .slice aq w.queue.length cq, .slice ap w.pk.length cp], .int .i64 0, .int .i64 10]) (by simp [results, Try.results49, go_sem, g0, g1, g2, g3, g4, g5, g6]) rfl ⟨.inr (.inl ⟨HNE.out, HC.out, rfl⟩), hBz⟩
  have hcz' : (w.credits == 0) = false := by simpa using hcz
  have HC := Lib.hid hcz
  clear hcz
  obtain ⟨gq, oq, rfl, _⟩ := slice_at HQ.out (k := 0) (by omega)
  obtain ⟨n, hn⟩ : ∃ n, sendK w = n := ⟨_, rfl⟩
  have hnl : n ≤ w.queue.length ∧ (n : Int) ≤ w.size ∧ ((n : Int) = w.size ∨ n = w.queue.length) ∧ 0 < n := by unfold sendK at hn; omega
  have hncq : n ≤ cq := by omega
  have HNK := Lib.hid hn
  have htk := fun w2 => take2_run (P := Try.prog) (T := 36) (e := 42) (sz := 5) Try.underlying36 (by kernel_rfl) gq oq w.queue.length cq n hncq w2
  have hdr := fun w2 => drop2_run (P := Try.prog) (T := 36) (e := 42) (sz := 5) Try.underlying36 (by kernel_rfl) gq oq w.queue.length cq n hnl.1 w2
  have HTK := Lib.hid (slice_take2 (n := n) HQ.out hnl.1)
  have HDR := Lib.hid (slice_drop2 (n := n) HQ.out hnl.1)
  have hlt : (w.queue.take n).length = n := by rw [List.length_take]; omega
  have HX := Lib.hid (show (tIn M tRP).rv noMem [.int .i64 w.next, .slice (some ⟨gq, oq, none⟩) n cq, .bool false] (⟨w.next, w.queue.take n, false⟩ : RP) from ⟨_, rfl, HW.out.i4, HTK.out⟩)
  have HS6 := Lib.hid (fun (w' : World) (hq : Below Y.heap.size Y w') => (show w'.cell? ⟨W.heap.size, 6, none⟩ = some (.slice ap w.pk.length cp) from below_mem hq _ _ _ (mem_cells yB 6)))
  have HS5 := Lib.hid (fun (w' : World) (hq : Below Y.heap.size Y w') => (show w'.cell? ⟨W.heap.size, 5, none⟩ = some (.slice (some ⟨gq, oq, none⟩) w.queue.length cq) from below_mem hq _ _ _ (mem_cells yB 5)))
  have HFB := Lib.hid (fun (w' : World) (hq : Below Y.heap.size Y w') => (show w'.frozen? ⟨W.heap.size, 6, none⟩ = false from frozen_cells ((hq.block _ (by omega)).trans yB) 6))
  have HRQ := Lib.hid (fun (w' : World) (hq : Below Y.heap.size Y w') => (tSlice (tIn M tRP)).mono _ _ _ _ (Mem.le_trans HM.out (Mem.le_trans (below_mem HB2.out) (below_mem hq))) (tRPs_in HP.out))
  have HL1 := Lib.hid (show ([] : List RP).length + w.pk.length ≤ maxLen by unfold maxLen; simp; omega)
  have HL2 := Lib.hid (show (([] : List RP).length + w.pk.length) * 40 ≤ 140737488355328 by simp; omega)
  have HL3 := Lib.hid (show ([] ++ w.pk).length + 1 ≤ maxLen by unfold maxLen; simp; omega)
  have HL4 := Lib.hid (show (([] ++ w.pk).length + 1) * 40 ≤ 140737488355328 by simp; omega)
  have q50 : Y.drew.cell? ⟨W.heap.size, 6, none⟩ = some (.slice ap w.pk.length cp) := HS6.out _ (Below.refl _ _).drew
  have q51 : (Y.alloc (.cells #[] 126)).drew.cell? ⟨W.heap.size, 6, none⟩ = some (.slice ap w.pk.length cp) := HS6.out _ (((Below.refl Y.heap.size Y).alloc (Nat.le_refl _) (.cells #[] 126)).drew)
  have q52 : ((Y.alloc (.cells #[] 126)).alloc (.cells #[.int .i64 w.next, .slice (some ⟨gq, oq, none⟩) n cq, .bool false] 126)).drew.cell? ⟨W.heap.size, 6, none⟩ = some (.slice ap w.pk.length cp) := HS6.out _ ((((Below.refl Y.heap.size Y).alloc (Nat.le_refl _) (.cells #[] 126)).alloc (by simp) (.cells #[.int .i64 w.next, .slice (some ⟨gq, oq, none⟩) n cq, .bool false] 126)).drew)
  have q53 : ((Y.alloc (.cells #[.int .i64 w.next, .slice (some ⟨gq, oq, none⟩) n cq, .bool false] 126)).alloc (.cells #[] 126)).drew.cell? ⟨W.heap.size, 6, none⟩ = some (.slice ap w.pk.length cp) := HS6.out _ ((((Below.refl Y.heap.size Y).alloc (Nat.le_refl _) (.cells #[.int .i64 w.next, .slice (some ⟨gq, oq, none⟩) n cq, .bool false] 126)).alloc (by simp) (.cells #[] 126)).drew)
  have q54 : (Y.alloc (.cells #[.int .i64 w.next, .slice (some ⟨gq, oq, none⟩) n cq, .bool false] 126)).drew.cell? ⟨W.heap.size, 6, none⟩ = some (.slice ap w.pk.length cp) := HS6.out _ (((Below.refl Y.heap.size Y).alloc (Nat.le_refl _) (.cells #[.int .i64 w.next, .slice (some ⟨gq, oq, none⟩) n cq, .bool false] 126)).drew)
  have p50 := HS5.out Y.drew (Below.refl _ _).drew
  have p51 := HS5.out (Y.alloc (.cells #[] 126)).drew (((Below.refl Y.heap.size Y).alloc (Nat.le_refl _) (.cells #[] 126)).drew)
  have HSZ := Lib.hid hszY
  clear yB yR hszY
  by_cases hbig : (w.queue.length : Int) < w.size
  · have hnq : n = w.queue.length := by omega
    go_upto_region 9 with fail
    · rw [show (Value.int .i64 (w.queue.length : Int)) = .int .i64 (n : Int) by rw [hnq]]
      clear hnq
      go_wp2
      refine Code.wp_mono (Q := OnlyN (Sent M W.heap.size w aa ap ca cp cq gq oq n Y)) ?post ?region
      case region =>
        go_region_law (first
            | (refine step_append_os rfl (.tmp 28) (.tmp 30) 54 rfl (tIn M tRP) (tIn_flat _ _) tRPIn_one Try.underlying54 (infoRP _) rfl (Nat.succ_pos 2) _ [] w.pk rfl (by first | exact (OwnsO.lit0 (tIn M tRP) Y 126).keeps (fun k e => rfl) | exact (OwnsO.lit0 (tIn M tRP) Y 126).keeps (fun k e => (((Below.refl _ _).alloc (Nat.le_refl _) (.cells #[.int .i64 w.next, .slice (some ⟨gq, oq, none⟩) n cq, .bool false] 126)).drew).block k ((OwnsO.lit0 (tIn M tRP) Y 126).lt k e)) | exact (lit0_at (tIn M tRP) Y 126 (.cells #[.int .i64 w.next, .slice (some ⟨gq, oq, none⟩) n cq, .bool false] 126)).keeps (fun k e => rfl)) _ _ _ rfl rfl (by first | exact HRQ.out _ (((Below.refl Y.heap.size Y).alloc (Nat.le_refl _) (.cells #[] 126)).drew) | exact HRQ.out _ ((((Below.refl Y.heap.size Y).alloc (Nat.le_refl _) (.cells #[] 126)).alloc (by simp) (.cells #[.int .i64 w.next, .slice (some ⟨gq, oq, none⟩) n cq, .bool false] 126)).drew) | exact HRQ.out _ ((((Below.refl Y.heap.size Y).alloc (Nat.le_refl _) (.cells #[.int .i64 w.next, .slice (some ⟨gq, oq, none⟩) n cq, .bool false] 126)).alloc (by simp) (.cells #[] 126)).drew)) HL1.out HL2.out ?_; intro v5 w5 own5 happ5; obtain ⟨hb5, hg5⟩ := app_below (Z := Y) (by first | exact ((Below.refl Y.heap.size Y).alloc (Nat.le_refl _) (.cells #[] 126)).drew | exact (((Below.refl Y.heap.size Y).alloc (Nat.le_refl _) (.cells #[] 126)).alloc (by simp) (.cells #[.int .i64 w.next, .slice (some ⟨gq, oq, none⟩) n cq, .bool false] 126)).drew | exact (((Below.refl Y.heap.size Y).alloc (Nat.le_refl _) (.cells #[.int .i64 w.next, .slice (some ⟨gq, oq, none⟩) n cq, .bool false] 126)).alloc (by simp) (.cells #[] 126)).drew) happ5 (fun k e => by cases e; first | exact Nat.le_refl _ | exact Nat.le_succ _); (first | have hat5 := at_keep (v := .slice (some ⟨Y.heap.size, 0, none⟩) 0 0) (cs := [.int .i64 w.next, .slice (some ⟨gq, oq, none⟩) n cq, .bool false]) (at_drew at_lit3b) happ5 (by simp [Value.ownBlock]) | have hat5 := at_keep (v := .slice (some ⟨Y.heap.size + 1, 0, none⟩) 0 0) (cs := [.int .i64 w.next, .slice (some ⟨gq, oq, none⟩) n cq, .bool false]) (at_drew (fun j u e => below_mem ((Below.refl _ _).alloc (Nat.le_refl _) _) _ _ _ (at_lit3 (T := 126) j u e))) happ5 (by simp [Value.ownBlock]) | skip); obtain ⟨a5, c5z, rfl, _⟩ := own5.form; have p55 := HS5.out w5 hb5)
            | (refine step_append_o1 rfl (.tmp 31) (.tmp 38) 54 rfl (tIn M tRP) Try.underlying54 (infoRP _) rfl _ ([] ++ w.pk) rfl (by first | exact own5 | exact own5.keeps (fun k e => ((Below.refl _ _).alloc (Nat.le_refl _) (.cells #[.int .i64 w.next, .slice (some ⟨gq, oq, none⟩) n cq, .bool false] 126)).block k (own5.lt k e))) _ _ (⟨w.next, w.queue.take n, false⟩ : RP) rfl _ (by first | exact hat5 | exact at_lit3) HX.out rp_one HL3.out HL4.out ?_; intro v6 w6 own6 happ6; obtain ⟨hb6, hg6⟩ := app_below (Z := Y) (by first | exact hb5 | exact hb5.alloc hb5.size (.cells #[.int .i64 w.next, .slice (some ⟨gq, oq, none⟩) n cq, .bool false] 126)) happ6 hg5; obtain ⟨a6, cz, rfl, _⟩ := own6.form; have hf6 := HFB.out w6 hb6; have q66 := HS6.out w6 hb6))
        all_goals exact ⟨_, _, _, _, _, _, _, _, _, _, _, _, _, _, _, _, _, _, _, _, _, _, _, _, _, _, _, _, _, _, _, _, _, _, _, _, _, _, _, _, _, _, _, _, _, _, _, _, _, a6, cz, w6, rfl, rfl, by simpa using own6, hb6, fun k e => hg6 k (by simpa [Value.ownBlock] using e)⟩
      case post =>
        intro e ac wX hQ
        cases e <;> try exact False.elim hQ
        obtain ⟨u7, u8, u9, u10, u11, u12, u13, u14, u15, u16, u17, u18, u19, u20, u21, u22, u23, u24, u25, u26, u27, u28, u29, u30, u31, u32, u33, u34, u35, u36, u37, u38, u39, u40, u41, u42, u43, u44, u45, u46, u47, u48, u49, u50, u51, u52, u53, u54, u55, a6, cz, w6, rfl, rfl, own7, hb6, hg6⟩ := hQ
        have hszY := HSZ.out
        have yB := (hb6.block W.heap.size (by omega)).trans HYB.out
        have yR := (hb6.block (W.heap.size + 1) (by omega)).trans HYR.out
        have hk6 : Keeps (fun k => k = W.heap.size) w6 (w6.setCell ⟨W.heap.size, 6, none⟩ (.slice a6 (w.pk.length + 1) cz)) := keepB 6 _
        have zB : (w6.setCell ⟨W.heap.size, 6, none⟩ (.slice a6 (w.pk.length + 1) cz)).heap[W.heap.size]? = some (.cells #[.int .i64 w.size, .int .i64 w.room, .int .i64 w.credits, .int .i64 w.next, .slice aa w.ahead.length ca, .slice (some ⟨gq, oq, none⟩) w.queue.length cq, .slice a6 (w.pk.length + 1) cz] 56 (0, 0)) := set_block yB
        have zR := (hk6.block (W.heap.size + 1) (Array.getElem?_eq_some_iff.1 yR).1 (by omega)).trans yR
        have oX := own_after own7 hk6 (fun k e => by have := hg6 k (by simpa [Value.ownBlock] using e); omega)
        have hBX := Keeps.belowStep (HB2.out.trans (hb6.mono HB2.out.size)) hk6 (fun k hk => by omega) (Nat.le_trans HB2.out.size hb6.size)
        have HXX := Lib.hid (And.intro oX (And.intro hBX (And.intro zR (And.intro (show ∀ k, (Value.slice a6 (w.pk.length + 1) cz).ownBlock = some k → W.heap.size + 2 ≤ k from fun k e => by have := hg6 k (by simpa [Value.ownBlock] using e); omega) zB))))
        clear own7 hk6 oX hBX yB yR q50 q51 q52 q53 q54 p50 p51 hg6 hb6 HL1 HL2 HL3 HL4 HRQ HFB HS5 HS6 htk HX r0 r1 r2 r3 r4 r5 r6 fR fB c0 c1 c2 c3 c4 c5 c6
        generalize (w6.setCell ⟨W.heap.size, 6, none⟩ (.slice a6 (w.pk.length + 1) cz)) = X at HXX zB zR ⊢
        have c0 : X.cell? ⟨W.heap.size, 0, none⟩ = some (.int .i64 w.size) := mem_cells zB 0
        have c1 : X.cell? ⟨W.heap.size, 1, none⟩ = some (.int .i64 w.room) := mem_cells zB 1
        have c2 : X.cell? ⟨W.heap.size, 2, none⟩ = some (.int .i64 w.credits) := mem_cells zB 2
        have c3 : X.cell? ⟨W.heap.size, 3, none⟩ = some (.int .i64 w.next) := mem_cells zB 3
        have c4 : X.cell? ⟨W.heap.size, 4, none⟩ = some (.slice aa w.ahead.length ca) := mem_cells zB 4
        have c5 : X.cell? ⟨W.heap.size, 5, none⟩ = some (.slice (some ⟨gq, oq, none⟩) w.queue.length cq) := mem_cells zB 5
        have c6 : X.cell? ⟨W.heap.size, 6, none⟩ = some (.slice a6 (w.pk.length + 1) cz) := mem_cells zB 6
        have r0 : X.cell? ⟨(W.heap.size + 1), 0, none⟩ = some (.int .i64 0) := mem_cells zR 0
        have r1 : X.cell? ⟨(W.heap.size + 1), 1, none⟩ = some (.int .i64 0) := mem_cells zR 1
        have r2 : X.cell? ⟨(W.heap.size + 1), 2, none⟩ = some (.int .i64 0) := mem_cells zR 2
        have r3 : X.cell? ⟨(W.heap.size + 1), 3, none⟩ = some (.int .i64 0) := mem_cells zR 3
        have r4 : X.cell? ⟨(W.heap.size + 1), 4, none⟩ = some (.slice none 0 0) := mem_cells zR 4
        have r5 : X.cell? ⟨(W.heap.size + 1), 5, none⟩ = some (.slice none 0 0) := mem_cells zR 5
        have r6 : X.cell? ⟨(W.heap.size + 1), 6, none⟩ = some (.slice none 0 0) := mem_cells zR 6
        have fR : ∀ o, X.frozen? ⟨W.heap.size + 1, o, none⟩ = false := frozen_cells zR
        have fB : ∀ o, X.frozen? ⟨W.heap.size, o, none⟩ = false := frozen_cells zB
        clear zB zR
        go_wp2
        have hk4 : Keeps (fun k => k = W.heap.size) X (((X.setCell ⟨W.heap.size, 5, none⟩ (.slice (some (dropB gq oq cq n 5)) (w.queue.length - n) (cq - n))).setCell ⟨W.heap.size, 3, none⟩ (.int .i64 (w.next + 1))).setCell ⟨W.heap.size, 2, none⟩ (.int .i64 (w.credits - 1))) := keep1 (keep1 (keepB _ _) _ _) _ _
        have z4 := (hk4.block (W.heap.size + 1) (Array.getElem?_eq_some_iff.1 HXX.out.2.2.1).1 (by omega)).trans HXX.out.2.2.1
        have HBX := Lib.hid (Keeps.belowStep HXX.out.2.1 hk4 (fun k hk => by omega) HXX.out.2.1.size)
        have o4 := own_after HXX.out.1 hk4 (fun k e => by have := HXX.out.2.2.2.1 k e; omega)
        have hSW : sendW w = { w with queue := w.queue.drop n, pk := w.pk ++ [(⟨w.next, w.queue.take n, false⟩ : RP)], next := w.next + 1, credits := w.credits - 1 } := by unfold sendW; rw [HNK.out]
        have r1 := store7_block z4 (.int .i64 w.size) (.int .i64 w.room) (.int .i64 (w.credits - 1)) (.int .i64 (w.next + 1)) (.slice aa w.ahead.length ca) (.slice (some (dropB gq oq cq n 5)) (w.queue.length - n) (cq - n)) (.slice a6 (w.pk.length + 1) cz)
        have hk := store7_keeps (((X.setCell ⟨W.heap.size, 5, none⟩ (.slice (some (dropB gq oq cq n 5)) (w.queue.length - n) (cq - n))).setCell ⟨W.heap.size, 3, none⟩ (.int .i64 (w.next + 1))).setCell ⟨W.heap.size, 2, none⟩ (.int .i64 (w.credits - 1))) (W.heap.size + 1) (.int .i64 w.size) (.int .i64 w.room) (.int .i64 (w.credits - 1)) (.int .i64 (w.next + 1)) (.slice aa w.ahead.length ca) (.slice (some (dropB gq oq cq n 5)) (w.queue.length - n) (cq - n)) (.slice a6 (w.pk.length + 1) cz)
        show bodyPost _ _ _ _ _ (store7 (((X.setCell ⟨W.heap.size, 5, none⟩ (.slice (some (dropB gq oq cq n 5)) (w.queue.length - n) (cq - n))).setCell ⟨W.heap.size, 3, none⟩ (.int .i64 (w.next + 1))).setCell ⟨W.heap.size, 2, none⟩ (.int .i64 (w.credits - 1))) (W.heap.size + 1) (.int .i64 w.size) (.int .i64 w.room) (.int .i64 (w.credits - 1)) (.int .i64 (w.next + 1)) (.slice aa w.ahead.length ca) (.slice (some (dropB gq oq cq n 5)) (w.queue.length - n) (cq - n)) (.slice a6 (w.pk.length + 1) cz))
        generalize store7 (((X.setCell ⟨W.heap.size, 5, none⟩ (.slice (some (dropB gq oq cq n 5)) (w.queue.length - n) (cq - n))).setCell ⟨W.heap.size, 3, none⟩ (.int .i64 (w.next + 1))).setCell ⟨W.heap.size, 2, none⟩ (.int .i64 (w.credits - 1))) (W.heap.size + 1) (.int .i64 w.size) (.int .i64 w.room) (.int .i64 (w.credits - 1)) (.int .i64 (w.next + 1)) (.slice aa w.ahead.length ca) (.slice (some (dropB gq oq cq n 5)) (w.queue.length - n) (cq - n)) (.slice a6 (w.pk.length + 1) cz) = w2 at r1 hk ⊢
        have hBz : Below W.heap.size W w2 := Keeps.belowStep HBX.out hk (fun k hk => by omega) HBX.out.size
        have g0 : w2.cell? ⟨(W.heap.size + 1), 0, none⟩ = some (.int .i64 w.size) := mem_cells r1 0
        have g1 : w2.cell? ⟨(W.heap.size + 1), 1, none⟩ = some (.int .i64 w.room) := mem_cells r1 1
        have g2 : w2.cell? ⟨(W.heap.size + 1), 2, none⟩ = some (.int .i64 (w.credits - 1)) := mem_cells r1 2
        have g3 : w2.cell? ⟨(W.heap.size + 1), 3, none⟩ = some (.int .i64 (w.next + 1)) := mem_cells r1 3
        have g4 : w2.cell? ⟨(W.heap.size + 1), 4, none⟩ = some (.slice aa w.ahead.length ca) := mem_cells r1 4
        have g5 : w2.cell? ⟨(W.heap.size + 1), 5, none⟩ = some (.slice (some (dropB gq oq cq n 5)) (w.queue.length - n) (cq - n)) := mem_cells r1 5
        have g6 : w2.cell? ⟨(W.heap.size + 1), 6, none⟩ = some (.slice a6 (w.pk.length + 1) cz) := mem_cells r1 6
        exact bodyPost_ret (v := .tuple #[.agg #[.int .i64 w.size, .int .i64 w.room, .int .i64 (w.credits - 1), .int .i64 (w.next + 1), .slice aa w.ahead.length ca, .slice (some (dropB gq oq cq n 5)) (w.queue.length - n) (cq - n), .slice a6 (w.pk.length + 1) cz], .int .i64 w.next, .int .i64 0]) (by simp [results, Try.results49, go_sem, g0, g1, g2, g3, g4, g5, g6]) rfl ⟨.inr (.inr ⟨HNE.out, HC.out, .slice (some (dropB gq oq cq n 5)) (w.queue.length - n) (cq - n), .slice a6 (w.pk.length + 1) cz, by first | (rw [hSW]; done) | (rw [hSW]; simp only [List.length_drop, List.length_append, List.length_cons, List.length_nil]), by rw [hSW]; exact ⟨HW.out.i1, HW.out.i2, (show inI64 (w.credits - 1) by unfold inI64; omega), (show inI64 (w.next + 1) by unfold inI64; omega), tEls.mono _ _ _ _ (joinM_le HM.out) HW.out.ha, tEls.mono _ _ _ _ (joinM_le HM.out) HDR.out, own_join HM.out (own_after o4 hk (fun k e => by have := HXX.out.2.2.2.1 k e; omega)) (fun k e => by have := HXX.out.2.2.2.1 k e; omega)⟩⟩), hBz⟩

  · have hsz : w.size = n := by omega
    rw [hsz] at c0
    go_upto_region 9 with fail
    · go_wp2
      refine Code.wp_mono (Q := OnlyN (Sent M W.heap.size w aa ap ca cp cq gq oq n Y)) ?post ?region
      case region =>
        go_region_law (first
            | (refine step_append_os rfl (.tmp 28) (.tmp 30) 54 rfl (tIn M tRP) (tIn_flat _ _) tRPIn_one Try.underlying54 (infoRP _) rfl (Nat.succ_pos 2) _ [] w.pk rfl (by first | exact (OwnsO.lit0 (tIn M tRP) Y 126).keeps (fun k e => rfl) | exact (OwnsO.lit0 (tIn M tRP) Y 126).keeps (fun k e => (((Below.refl _ _).alloc (Nat.le_refl _) (.cells #[.int .i64 w.next, .slice (some ⟨gq, oq, none⟩) n cq, .bool false] 126)).drew).block k ((OwnsO.lit0 (tIn M tRP) Y 126).lt k e)) | exact (lit0_at (tIn M tRP) Y 126 (.cells #[.int .i64 w.next, .slice (some ⟨gq, oq, none⟩) n cq, .bool false] 126)).keeps (fun k e => rfl)) _ _ _ rfl rfl (by first | exact HRQ.out _ (((Below.refl Y.heap.size Y).alloc (Nat.le_refl _) (.cells #[] 126)).drew) | exact HRQ.out _ ((((Below.refl Y.heap.size Y).alloc (Nat.le_refl _) (.cells #[] 126)).alloc (by simp) (.cells #[.int .i64 w.next, .slice (some ⟨gq, oq, none⟩) n cq, .bool false] 126)).drew) | exact HRQ.out _ ((((Below.refl Y.heap.size Y).alloc (Nat.le_refl _) (.cells #[.int .i64 w.next, .slice (some ⟨gq, oq, none⟩) n cq, .bool false] 126)).alloc (by simp) (.cells #[] 126)).drew)) HL1.out HL2.out ?_; intro v5 w5 own5 happ5; obtain ⟨hb5, hg5⟩ := app_below (Z := Y) (by first | exact ((Below.refl Y.heap.size Y).alloc (Nat.le_refl _) (.cells #[] 126)).drew | exact (((Below.refl Y.heap.size Y).alloc (Nat.le_refl _) (.cells #[] 126)).alloc (by simp) (.cells #[.int .i64 w.next, .slice (some ⟨gq, oq, none⟩) n cq, .bool false] 126)).drew | exact (((Below.refl Y.heap.size Y).alloc (Nat.le_refl _) (.cells #[.int .i64 w.next, .slice (some ⟨gq, oq, none⟩) n cq, .bool false] 126)).alloc (by simp) (.cells #[] 126)).drew) happ5 (fun k e => by cases e; first | exact Nat.le_refl _ | exact Nat.le_succ _); (first | have hat5 := at_keep (v := .slice (some ⟨Y.heap.size, 0, none⟩) 0 0) (cs := [.int .i64 w.next, .slice (some ⟨gq, oq, none⟩) n cq, .bool false]) (at_drew at_lit3b) happ5 (by simp [Value.ownBlock]) | have hat5 := at_keep (v := .slice (some ⟨Y.heap.size + 1, 0, none⟩) 0 0) (cs := [.int .i64 w.next, .slice (some ⟨gq, oq, none⟩) n cq, .bool false]) (at_drew (fun j u e => below_mem ((Below.refl _ _).alloc (Nat.le_refl _) _) _ _ _ (at_lit3 (T := 126) j u e))) happ5 (by simp [Value.ownBlock]) | skip); obtain ⟨a5, c5z, rfl, _⟩ := own5.form; have p55 := HS5.out w5 hb5)
            | (refine step_append_o1 rfl (.tmp 31) (.tmp 38) 54 rfl (tIn M tRP) Try.underlying54 (infoRP _) rfl _ ([] ++ w.pk) rfl (by first | exact own5 | exact own5.keeps (fun k e => ((Below.refl _ _).alloc (Nat.le_refl _) (.cells #[.int .i64 w.next, .slice (some ⟨gq, oq, none⟩) n cq, .bool false] 126)).block k (own5.lt k e))) _ _ (⟨w.next, w.queue.take n, false⟩ : RP) rfl _ (by first | exact hat5 | exact at_lit3) HX.out rp_one HL3.out HL4.out ?_; intro v6 w6 own6 happ6; obtain ⟨hb6, hg6⟩ := app_below (Z := Y) (by first | exact hb5 | exact hb5.alloc hb5.size (.cells #[.int .i64 w.next, .slice (some ⟨gq, oq, none⟩) n cq, .bool false] 126)) happ6 hg5; obtain ⟨a6, cz, rfl, _⟩ := own6.form; have hf6 := HFB.out w6 hb6; have q66 := HS6.out w6 hb6))
        all_goals exact ⟨_, _, _, _, _, _, _, _, _, _, _, _, _, _, _, _, _, _, _, _, _, _, _, _, _, _, _, _, _, _, _, _, _, _, _, _, _, _, _, _, _, _, _, _, _, _, _, _, _, a6, cz, w6, rfl, rfl, by simpa using own6, hb6, fun k e => hg6 k (by simpa [Value.ownBlock] using e)⟩
      case post =>
        intro e ac wX hQ
        cases e <;> try exact False.elim hQ
        obtain ⟨u7, u8, u9, u10, u11, u12, u13, u14, u15, u16, u17, u18, u19, u20, u21, u22, u23, u24, u25, u26, u27, u28, u29, u30, u31, u32, u33, u34, u35, u36, u37, u38, u39, u40, u41, u42, u43, u44, u45, u46, u47, u48, u49, u50, u51, u52, u53, u54, u55, a6, cz, w6, rfl, rfl, own7, hb6, hg6⟩ := hQ
        have hszY := HSZ.out
        have yB := (hb6.block W.heap.size (by omega)).trans HYB.out
        have yR := (hb6.block (W.heap.size + 1) (by omega)).trans HYR.out
        have hk6 : Keeps (fun k => k = W.heap.size) w6 (w6.setCell ⟨W.heap.size, 6, none⟩ (.slice a6 (w.pk.length + 1) cz)) := keepB 6 _
        have zB : (w6.setCell ⟨W.heap.size, 6, none⟩ (.slice a6 (w.pk.length + 1) cz)).heap[W.heap.size]? = some (.cells #[.int .i64 w.size, .int .i64 w.room, .int .i64 w.credits, .int .i64 w.next, .slice aa w.ahead.length ca, .slice (some ⟨gq, oq, none⟩) w.queue.length cq, .slice a6 (w.pk.length + 1) cz] 56 (0, 0)) := set_block yB
        have zR := (hk6.block (W.heap.size + 1) (Array.getElem?_eq_some_iff.1 yR).1 (by omega)).trans yR
        have oX := own_after own7 hk6 (fun k e => by have := hg6 k (by simpa [Value.ownBlock] using e); omega)
        have hBX := Keeps.belowStep (HB2.out.trans (hb6.mono HB2.out.size)) hk6 (fun k hk => by omega) (Nat.le_trans HB2.out.size hb6.size)
        have HXX := Lib.hid (And.intro oX (And.intro hBX (And.intro zR (And.intro (show ∀ k, (Value.slice a6 (w.pk.length + 1) cz).ownBlock = some k → W.heap.size + 2 ≤ k from fun k e => by have := hg6 k (by simpa [Value.ownBlock] using e); omega) zB))))
        clear hsz own7 hk6 oX hBX yB yR q50 q51 q52 q53 q54 p50 p51 hg6 hb6 HL1 HL2 HL3 HL4 HRQ HFB HS5 HS6 htk HX r0 r1 r2 r3 r4 r5 r6 fR fB c0 c1 c2 c3 c4 c5 c6
        generalize (w6.setCell ⟨W.heap.size, 6, none⟩ (.slice a6 (w.pk.length + 1) cz)) = X at HXX zB zR ⊢
        have c0 : X.cell? ⟨W.heap.size, 0, none⟩ = some (.int .i64 w.size) := mem_cells zB 0
        have c1 : X.cell? ⟨W.heap.size, 1, none⟩ = some (.int .i64 w.room) := mem_cells zB 1
        have c2 : X.cell? ⟨W.heap.size, 2, none⟩ = some (.int .i64 w.credits) := mem_cells zB 2
        have c3 : X.cell? ⟨W.heap.size, 3, none⟩ = some (.int .i64 w.next) := mem_cells zB 3
        have c4 : X.cell? ⟨W.heap.size, 4, none⟩ = some (.slice aa w.ahead.length ca) := mem_cells zB 4
        have c5 : X.cell? ⟨W.heap.size, 5, none⟩ = some (.slice (some ⟨gq, oq, none⟩) w.queue.length cq) := mem_cells zB 5
        have c6 : X.cell? ⟨W.heap.size, 6, none⟩ = some (.slice a6 (w.pk.length + 1) cz) := mem_cells zB 6
        have r0 : X.cell? ⟨(W.heap.size + 1), 0, none⟩ = some (.int .i64 0) := mem_cells zR 0
        have r1 : X.cell? ⟨(W.heap.size + 1), 1, none⟩ = some (.int .i64 0) := mem_cells zR 1
        have r2 : X.cell? ⟨(W.heap.size + 1), 2, none⟩ = some (.int .i64 0) := mem_cells zR 2
        have r3 : X.cell? ⟨(W.heap.size + 1), 3, none⟩ = some (.int .i64 0) := mem_cells zR 3
        have r4 : X.cell? ⟨(W.heap.size + 1), 4, none⟩ = some (.slice none 0 0) := mem_cells zR 4
        have r5 : X.cell? ⟨(W.heap.size + 1), 5, none⟩ = some (.slice none 0 0) := mem_cells zR 5
        have r6 : X.cell? ⟨(W.heap.size + 1), 6, none⟩ = some (.slice none 0 0) := mem_cells zR 6
        have fR : ∀ o, X.frozen? ⟨W.heap.size + 1, o, none⟩ = false := frozen_cells zR
        have fB : ∀ o, X.frozen? ⟨W.heap.size, o, none⟩ = false := frozen_cells zB
        clear zB zR
        go_wp2
        have hk4 : Keeps (fun k => k = W.heap.size) X (((X.setCell ⟨W.heap.size, 5, none⟩ (.slice (some (dropB gq oq cq n 5)) (w.queue.length - n) (cq - n))).setCell ⟨W.heap.size, 3, none⟩ (.int .i64 (w.next + 1))).setCell ⟨W.heap.size, 2, none⟩ (.int .i64 (w.credits - 1))) := keep1 (keep1 (keepB _ _) _ _) _ _
        have z4 := (hk4.block (W.heap.size + 1) (Array.getElem?_eq_some_iff.1 HXX.out.2.2.1).1 (by omega)).trans HXX.out.2.2.1
        have HBX := Lib.hid (Keeps.belowStep HXX.out.2.1 hk4 (fun k hk => by omega) HXX.out.2.1.size)
        have o4 := own_after HXX.out.1 hk4 (fun k e => by have := HXX.out.2.2.2.1 k e; omega)
        have hSW : sendW w = { w with queue := w.queue.drop n, pk := w.pk ++ [(⟨w.next, w.queue.take n, false⟩ : RP)], next := w.next + 1, credits := w.credits - 1 } := by unfold sendW; rw [HNK.out]
        have r1 := store7_block z4 (.int .i64 w.size) (.int .i64 w.room) (.int .i64 (w.credits - 1)) (.int .i64 (w.next + 1)) (.slice aa w.ahead.length ca) (.slice (some (dropB gq oq cq n 5)) (w.queue.length - n) (cq - n)) (.slice a6 (w.pk.length + 1) cz)
        have hk := store7_keeps (((X.setCell ⟨W.heap.size, 5, none⟩ (.slice (some (dropB gq oq cq n 5)) (w.queue.length - n) (cq - n))).setCell ⟨W.heap.size, 3, none⟩ (.int .i64 (w.next + 1))).setCell ⟨W.heap.size, 2, none⟩ (.int .i64 (w.credits - 1))) (W.heap.size + 1) (.int .i64 w.size) (.int .i64 w.room) (.int .i64 (w.credits - 1)) (.int .i64 (w.next + 1)) (.slice aa w.ahead.length ca) (.slice (some (dropB gq oq cq n 5)) (w.queue.length - n) (cq - n)) (.slice a6 (w.pk.length + 1) cz)
        show bodyPost _ _ _ _ _ (store7 (((X.setCell ⟨W.heap.size, 5, none⟩ (.slice (some (dropB gq oq cq n 5)) (w.queue.length - n) (cq - n))).setCell ⟨W.heap.size, 3, none⟩ (.int .i64 (w.next + 1))).setCell ⟨W.heap.size, 2, none⟩ (.int .i64 (w.credits - 1))) (W.heap.size + 1) (.int .i64 w.size) (.int .i64 w.room) (.int .i64 (w.credits - 1)) (.int .i64 (w.next + 1)) (.slice aa w.ahead.length ca) (.slice (some (dropB gq oq cq n 5)) (w.queue.length - n) (cq - n)) (.slice a6 (w.pk.length + 1) cz))
        generalize store7 (((X.setCell ⟨W.heap.size, 5, none⟩ (.slice (some (dropB gq oq cq n 5)) (w.queue.length - n) (cq - n))).setCell ⟨W.heap.size, 3, none⟩ (.int .i64 (w.next + 1))).setCell ⟨W.heap.size, 2, none⟩ (.int .i64 (w.credits - 1))) (W.heap.size + 1) (.int .i64 w.size) (.int .i64 w.room) (.int .i64 (w.credits - 1)) (.int .i64 (w.next + 1)) (.slice aa w.ahead.length ca) (.slice (some (dropB gq oq cq n 5)) (w.queue.length - n) (cq - n)) (.slice a6 (w.pk.length + 1) cz) = w2 at r1 hk ⊢
        have hBz : Below W.heap.size W w2 := Keeps.belowStep HBX.out hk (fun k hk => by omega) HBX.out.size
        have g0 : w2.cell? ⟨(W.heap.size + 1), 0, none⟩ = some (.int .i64 w.size) := mem_cells r1 0
        have g1 : w2.cell? ⟨(W.heap.size + 1), 1, none⟩ = some (.int .i64 w.room) := mem_cells r1 1
        have g2 : w2.cell? ⟨(W.heap.size + 1), 2, none⟩ = some (.int .i64 (w.credits - 1)) := mem_cells r1 2
        have g3 : w2.cell? ⟨(W.heap.size + 1), 3, none⟩ = some (.int .i64 (w.next + 1)) := mem_cells r1 3
        have g4 : w2.cell? ⟨(W.heap.size + 1), 4, none⟩ = some (.slice aa w.ahead.length ca) := mem_cells r1 4
        have g5 : w2.cell? ⟨(W.heap.size + 1), 5, none⟩ = some (.slice (some (dropB gq oq cq n 5)) (w.queue.length - n) (cq - n)) := mem_cells r1 5
        have g6 : w2.cell? ⟨(W.heap.size + 1), 6, none⟩ = some (.slice a6 (w.pk.length + 1) cz) := mem_cells r1 6
        exact bodyPost_ret (v := .tuple #[.agg #[.int .i64 w.size, .int .i64 w.room, .int .i64 (w.credits - 1), .int .i64 (w.next + 1), .slice aa w.ahead.length ca, .slice (some (dropB gq oq cq n 5)) (w.queue.length - n) (cq - n), .slice a6 (w.pk.length + 1) cz], .int .i64 w.next, .int .i64 0]) (by simp [results, Try.results49, go_sem, g0, g1, g2, g3, g4, g5, g6]) rfl ⟨.inr (.inr ⟨HNE.out, HC.out, .slice (some (dropB gq oq cq n 5)) (w.queue.length - n) (cq - n), .slice a6 (w.pk.length + 1) cz, by first | (rw [hSW]; done) | (rw [hSW]; simp only [List.length_drop, List.length_append, List.length_cons, List.length_nil]), by rw [hSW]; exact ⟨HW.out.i1, HW.out.i2, (show inI64 (w.credits - 1) by unfold inI64; omega), (show inI64 (w.next + 1) by unfold inI64; omega), tEls.mono _ _ _ _ (joinM_le HM.out) HW.out.ha, tEls.mono _ _ _ _ (joinM_le HM.out) HDR.out, own_join HM.out (own_after o4 hk (fun k e => by have := HXX.out.2.2.2.1 k e; omega)) (fun k e => by have := HXX.out.2.2.2.1 k e; omega)⟩⟩), hBz⟩

end Go.Proofs.Ytfkphdmnelchmaa
/- does: send. -/
namespace Go.Proofs.Ytfkphdmnelchmaa
open Go.RowKit Go.Maps

theorem send_ref {r : Raw} {ah : List El} {ps : List PK} {w : RW} (h : refOf r ah ps = w) {ad : Nat} (hs : 1 ≤ w.size) : refOf (sendR r ad) ah (ps ++ [⟨r.next, ad, r.queue.take (sendN r), false⟩]) = sendW w := by
  subst h
  have e : sendK (refOf r ah ps) = sendN r := by
    unfold sendK sendN
    show min r.size.toNat r.queue.length = _
    have : 1 ≤ r.size := hs
    omega
  unfold sendW
  rw [e]
  unfold refOf sendR
  simp
set_option maxRecDepth 100000 in
set_option maxHeartbeats 8000000 in
theorem does_send (c : Int) (base b : Nat) (M0 : Mem) (w0 : World) (F : Nat → Prop) (W : World) (r : Raw) (ah : List El) (ps : List PK) (m N kk : Nat) (M : Mem) (a q p s : Value) (x : Act20) (h : Run c base b M0 w0 F W r ah ps m N M a q p) (hx : x.el.ok) (hxn : inI64 x.n) (hx8 : 0 ≤ x.kind ∧ x.kind ≤ 255) (hs : tRow.rv M [s] x.el.row) (hkd : x.kind % 8 = 1) (hN : N ≤ 500000) (hcnt : r.count ≤ kk) (hkk : kk ≤ 2000) :
    Calls Try.prog 25 #[.pointer (some ⟨b, 0, none⟩), wV (refOf r ah ps) a q p, actV x s] W (DoesOut c base b M0 w0 F N M (kk + 1)) := by
  have hfine := h.so.fine (by omega)
  have hcn0 := h.so.cnt0
  have hl : (rcont (refOf r ah ps)).length ≤ 2000 := by rw [h.so.rcnt]; omega
  have hpl : (refOf r ah ps).pk.length ≤ 2000 := by
    have h1 := h.so.cr; have h2 := h.so.c0; have h3 := h.so.c1
    show (ps.map _).length ≤ 2000
    rw [List.length_map]; omega
  generalize hw : refOf r ah ps = w at *
  have hRun := h
  have hrf := h.rf
  rw [hw] at hrf
  obtain ⟨aa, ca, rfl, hla, hma, hra⟩ := slice_form hrf.ha
  obtain ⟨aq, cq, rfl, hlq, hmq, hrq⟩ := slice_form hrf.hq
  obtain ⟨ap, cp, rfl, hlp, hmp, hrp⟩ := slice_form hrf.hp
  obtain ⟨ax, cx, rfl, _, hmx, hs⟩ := slice_form hs
  have hca : ca ≤ 9223372036854775807 := by unfold maxLen at hma; exact hma
  have hcq : cq ≤ 9223372036854775807 := by unfold maxLen at hmq; exact hmq
  have hcp : cp ≤ 9223372036854775807 := by unfold maxLen at hmp; exact hmp
  have HW := Lib.hid hw
  have HB := Lib.hid ((((Below.refl W.heap.size W).alloc (Nat.le_refl _) (.cells #[.int .i64 w.size, .int .i64 w.room, .int .i64 w.credits, .int .i64 w.next, .slice aa w.ahead.length ca, .slice aq w.queue.length cq, .slice ap w.pk.length cp] 56)).alloc (by simp) (.cells #[.int .u8 x.kind, .int .i64 x.n, .int .i64 x.el.kind, .int .i64 x.el.n, .int .i64 x.el.time, .slice ax x.el.row.length cx, .int .i64 x.el.cn] 44)).alloc (by simp; omega) (.cells #[.int .i64 0, .int .i64 0, .int .i64 0, .int .i64 0, .slice none 0 0, .slice none 0 0, .slice none 0 0] 56))
  have y4 : (((W.alloc (.cells #[.int .i64 w.size, .int .i64 w.room, .int .i64 w.credits, .int .i64 w.next, .slice aa w.ahead.length ca, .slice aq w.queue.length cq, .slice ap w.pk.length cp] 56)).alloc (.cells #[.int .u8 x.kind, .int .i64 x.n, .int .i64 x.el.kind, .int .i64 x.el.n, .int .i64 x.el.time, .slice ax x.el.row.length cx, .int .i64 x.el.cn] 44)).alloc (.cells #[.int .i64 0, .int .i64 0, .int .i64 0, .int .i64 0, .slice none 0 0, .slice none 0 0, .slice none 0 0] 56)).heap[W.heap.size]? = some (.cells #[.int .i64 w.size, .int .i64 w.room, .int .i64 w.credits, .int .i64 w.next, .slice aa w.ahead.length ca, .slice aq w.queue.length cq, .slice ap w.pk.length cp] 56 (0, 0)) := alloc_block (alloc_block (heap_alloc_new W _) _) _
  have y5 : (((W.alloc (.cells #[.int .i64 w.size, .int .i64 w.room, .int .i64 w.credits, .int .i64 w.next, .slice aa w.ahead.length ca, .slice aq w.queue.length cq, .slice ap w.pk.length cp] 56)).alloc (.cells #[.int .u8 x.kind, .int .i64 x.n, .int .i64 x.el.kind, .int .i64 x.el.n, .int .i64 x.el.time, .slice ax x.el.row.length cx, .int .i64 x.el.cn] 44)).alloc (.cells #[.int .i64 0, .int .i64 0, .int .i64 0, .int .i64 0, .slice none 0 0, .slice none 0 0, .slice none 0 0] 56)).heap[W.heap.size + 1]? = some (.cells #[.int .u8 x.kind, .int .i64 x.n, .int .i64 x.el.kind, .int .i64 x.el.n, .int .i64 x.el.time, .slice ax x.el.row.length cx, .int .i64 x.el.cn] 44 (0, 0)) := alloc_block (by have h := heap_alloc_new (W.alloc (.cells #[.int .i64 w.size, .int .i64 w.room, .int .i64 w.credits, .int .i64 w.next, .slice aa w.ahead.length ca, .slice aq w.queue.length cq, .slice ap w.pk.length cp] 56)) (.cells #[.int .u8 x.kind, .int .i64 x.n, .int .i64 x.el.kind, .int .i64 x.el.n, .int .i64 x.el.time, .slice ax x.el.row.length cx, .int .i64 x.el.cn] 44); rwa [World.size_alloc] at h) _
  have yR : (((W.alloc (.cells #[.int .i64 w.size, .int .i64 w.room, .int .i64 w.credits, .int .i64 w.next, .slice aa w.ahead.length ca, .slice aq w.queue.length cq, .slice ap w.pk.length cp] 56)).alloc (.cells #[.int .u8 x.kind, .int .i64 x.n, .int .i64 x.el.kind, .int .i64 x.el.n, .int .i64 x.el.time, .slice ax x.el.row.length cx, .int .i64 x.el.cn] 44)).alloc (.cells #[.int .i64 0, .int .i64 0, .int .i64 0, .int .i64 0, .slice none 0 0, .slice none 0 0, .slice none 0 0] 56)).heap[W.heap.size + 1 + 1]? = some (.cells #[.int .i64 0, .int .i64 0, .int .i64 0, .int .i64 0, .slice none 0 0, .slice none 0 0, .slice none 0 0] 56 (0, 0)) := by have h := heap_alloc_new ((W.alloc (.cells #[.int .i64 w.size, .int .i64 w.room, .int .i64 w.credits, .int .i64 w.next, .slice aa w.ahead.length ca, .slice aq w.queue.length cq, .slice ap w.pk.length cp] 56)).alloc (.cells #[.int .u8 x.kind, .int .i64 x.n, .int .i64 x.el.kind, .int .i64 x.el.n, .int .i64 x.el.time, .slice ax x.el.row.length cx, .int .i64 x.el.cn] 44)) (.cells #[.int .i64 0, .int .i64 0, .int .i64 0, .int .i64 0, .slice none 0 0, .slice none 0 0, .slice none 0 0] 56); simpa only [World.size_alloc] using h
  obtain ⟨M1, hMid, hM1, hnew1⟩ := h.start HB.out (R := W.heap.size + 1 + 1) (by omega) yR
  have HRF := Lib.hid (hrf.mono hM1)
  have HHS := Lib.hid (tRow.mono _ _ _ _ hM1 hs)
  have HX := Lib.hid hx
  have HM1 := Lib.hid hM1
  have HSO := Lib.hid hRun.so
  have HF := Lib.hid hfine
  have HC4 := Lib.hid (fun (wq : World) (hq : M1.le (mem wq)) => (show wq.cell? ⟨W.heap.size, 0, none⟩ = some (.int .i64 w.size) ∧ wq.cell? ⟨W.heap.size, 1, none⟩ = some (.int .i64 w.room) ∧ wq.cell? ⟨W.heap.size, 2, none⟩ = some (.int .i64 w.credits) ∧ wq.cell? ⟨W.heap.size, 3, none⟩ = some (.int .i64 w.next) ∧ wq.cell? ⟨W.heap.size, 4, none⟩ = some (.slice aa w.ahead.length ca) ∧ wq.cell? ⟨W.heap.size, 5, none⟩ = some (.slice aq w.queue.length cq) ∧ wq.cell? ⟨W.heap.size, 6, none⟩ = some (.slice ap w.pk.length cp) from ⟨hq _ _ _ (hnew1 _ _ _ (Mem.on_some (mem_cells y4 0) ⟨by omega, by omega⟩)), hq _ _ _ (hnew1 _ _ _ (Mem.on_some (mem_cells y4 1) ⟨by omega, by omega⟩)), hq _ _ _ (hnew1 _ _ _ (Mem.on_some (mem_cells y4 2) ⟨by omega, by omega⟩)), hq _ _ _ (hnew1 _ _ _ (Mem.on_some (mem_cells y4 3) ⟨by omega, by omega⟩)), hq _ _ _ (hnew1 _ _ _ (Mem.on_some (mem_cells y4 4) ⟨by omega, by omega⟩)), hq _ _ _ (hnew1 _ _ _ (Mem.on_some (mem_cells y4 5) ⟨by omega, by omega⟩)), hq _ _ _ (hnew1 _ _ _ (Mem.on_some (mem_cells y4 6) ⟨by omega, by omega⟩))⟩))
  have HC5 := Lib.hid (fun (wq : World) (hq : M1.le (mem wq)) => (show wq.cell? ⟨W.heap.size + 1, 0, none⟩ = some (.int .u8 x.kind) ∧ wq.cell? ⟨W.heap.size + 1, 1, none⟩ = some (.int .i64 x.n) ∧ wq.cell? ⟨W.heap.size + 1, 2, none⟩ = some (.int .i64 x.el.kind) ∧ wq.cell? ⟨W.heap.size + 1, 3, none⟩ = some (.int .i64 x.el.n) ∧ wq.cell? ⟨W.heap.size + 1, 4, none⟩ = some (.int .i64 x.el.time) ∧ wq.cell? ⟨W.heap.size + 1, 5, none⟩ = some (.slice ax x.el.row.length cx) ∧ wq.cell? ⟨W.heap.size + 1, 6, none⟩ = some (.int .i64 x.el.cn) from ⟨hq _ _ _ (hnew1 _ _ _ (Mem.on_some (mem_cells y5 0) ⟨by omega, by omega⟩)), hq _ _ _ (hnew1 _ _ _ (Mem.on_some (mem_cells y5 1) ⟨by omega, by omega⟩)), hq _ _ _ (hnew1 _ _ _ (Mem.on_some (mem_cells y5 2) ⟨by omega, by omega⟩)), hq _ _ _ (hnew1 _ _ _ (Mem.on_some (mem_cells y5 3) ⟨by omega, by omega⟩)), hq _ _ _ (hnew1 _ _ _ (Mem.on_some (mem_cells y5 4) ⟨by omega, by omega⟩)), hq _ _ _ (hnew1 _ _ _ (Mem.on_some (mem_cells y5 5) ⟨by omega, by omega⟩)), hq _ _ _ (hnew1 _ _ _ (Mem.on_some (mem_cells y5 6) ⟨by omega, by omega⟩))⟩))
  clear y4 y5 yR hnew1 hra hrq hrp hma hmq hmp hmx hs h hrf hw hx hRun hfine hM1
  go_enter Try.func25, Try.ntmps25
  go_upto_region 1 with fail
  generalize ((W.alloc (.cells #[.int .i64 w.size, .int .i64 w.room, .int .i64 w.credits, .int .i64 w.next, .slice aa w.ahead.length ca, .slice aq w.queue.length cq, .slice ap w.pk.length cp] 56)).alloc (.cells #[.int .u8 x.kind, .int .i64 x.n, .int .i64 x.el.kind, .int .i64 x.el.n, .int .i64 x.el.time, .slice ax x.el.row.length cx, .int .i64 x.el.cn] 44)).alloc (.cells #[.int .i64 0, .int .i64 0, .int .i64 0, .int .i64 0, .slice none 0 0, .slice none 0 0, .slice none 0 0] 56) = Y at HB hMid ⊢
  have HMid := Lib.hid hMid
  obtain ⟨c0, c1, c2, c3, c4, c5, c6⟩ := HC4.out Y hMid.mem
  obtain ⟨d0, d1, d2, d3, d4, d5, d6⟩ := HC5.out Y hMid.mem
  clear hMid
  go_upto_region 2 with fail
  rw [hkd]
  have HQC := Lib.hid (show w.queue = r.queue ∧ w.credits = r.credits ∧ w.next = r.next by rw [← HW.out]; exact ⟨rfl, rfl, rfl⟩)
  have HNUM := Lib.hid (show (1 ≤ w.size ∧ w.size ≤ 100) ∧ (0 ≤ w.next ∧ w.next ≤ 1000000) ∧ (0 ≤ w.credits ∧ w.credits ≤ 1000) by rw [← HW.out]; exact ⟨⟨HF.out.s1, HF.out.s2⟩, ⟨HF.out.n0, HF.out.n1⟩, HF.out.c0, HF.out.c1⟩)
  have hqb : w.queue.length ≤ 2000 := by unfold rcont at hl; simp only [List.length_append] at hl; omega
  go_wp2_with fail
  refine (st_send HMid.out.st HF.out (by omega)).mono ?_
  rintro e w1 hp
  clear c0 c1 c2 c3 c4 c5 c6 d0 d1 d2 d3 d4 d5 d6
  rcases hp with ⟨q1, rfl, hS⟩ | ⟨q1, q2, rfl, hS⟩ | ⟨q1, q2, he, ad, had, hS⟩
  · skip
    have HMA := Lib.hid (Mem.le_refl M1)
    have HMidA := Lib.hid (HMid.out.step (Mem.le_refl M1) hS (HSO.out.mono (Nat.le_succ N)))
    clear hS
    obtain ⟨M1a, hM1a⟩ : ∃ M1a, M1a = M1 := ⟨M1, rfl⟩
    rw [← hM1a] at HMidA
    have HMA : Hid (M1.le M1a) := Lib.hid (by rw [hM1a]; exact Mem.le_refl _)
    clear hM1a
    obtain ⟨c0, c1, c2, c3, c4, c5, c6⟩ := HC4.out w1 (Mem.le_trans HMA.out HMidA.out.mem)
    go_wp2_with fail
    refine (refSend_any w _ _ _ M1a w1 HMidA.out.mem (HRF.out.mono HMA.out) (by omega) (by omega) HNUM.out.1 HNUM.out.2.1 HNUM.out.2.2).mono ?_
    rintro e w3 ⟨hp2, hb3⟩
    rcases hp2 with ⟨g1, rfl⟩ | ⟨g1, g2, rfl⟩ | ⟨g1, g2, _⟩
    rotate_left
    · exfalso; exact g1 (HQC.out.1.trans q1)
    · exfalso; exact g1 (HQC.out.1.trans q1)
    obtain ⟨wd, hwd⟩ : ∃ wd, wd = w := ⟨_, rfl⟩
    have hrw2 := HRF.out.mono HMA.out
    rw [← hwd] at hrw2 ⊢
    have hbA3 : Below w1.heap.size w1 (w3.alloc (.cells #[.int .i64 wd.size, .int .i64 wd.room, .int .i64 wd.credits, .int .i64 wd.next, .slice aa wd.ahead.length ca, .slice aq wd.queue.length cq, .slice ap wd.pk.length cp] 56)) := hb3.alloc hb3.size _
    obtain ⟨M3, hMid3, hM3, hn3⟩ := HMidA.out.grow hbA3
    have HN3 := Lib.hid (show ((mem w3).on (w1.heap.size ≤ ·)).le M3 from fun i o v e => hn3 _ _ _ (let ⟨hs, e⟩ := Mem.of_on e; Mem.on_some (below_mem ((Below.refl w3.heap.size w3).alloc (Nat.le_refl _) _) _ _ _ e) hs))
    have HC83 := Lib.hid (fun (wq : World) (hq : M3.le (mem wq)) => (show wq.cell? ⟨w3.heap.size, 0, none⟩ = some (.int .i64 wd.size) ∧ wq.cell? ⟨w3.heap.size, 1, none⟩ = some (.int .i64 wd.room) ∧ wq.cell? ⟨w3.heap.size, 2, none⟩ = some (.int .i64 wd.credits) ∧ wq.cell? ⟨w3.heap.size, 3, none⟩ = some (.int .i64 wd.next) ∧ wq.cell? ⟨w3.heap.size, 4, none⟩ = some (.slice aa wd.ahead.length ca) ∧ wq.cell? ⟨w3.heap.size, 5, none⟩ = some (.slice aq wd.queue.length cq) ∧ wq.cell? ⟨w3.heap.size, 6, none⟩ = some (.slice ap wd.pk.length cp) from ⟨hq _ _ _ (hn3 _ _ _ (Mem.on_some (cell_new 0 rfl) hb3.size)), hq _ _ _ (hn3 _ _ _ (Mem.on_some (cell_new 1 rfl) hb3.size)), hq _ _ _ (hn3 _ _ _ (Mem.on_some (cell_new 2 rfl) hb3.size)), hq _ _ _ (hn3 _ _ _ (Mem.on_some (cell_new 3 rfl) hb3.size)), hq _ _ _ (hn3 _ _ _ (Mem.on_some (cell_new 4 rfl) hb3.size)), hq _ _ _ (hn3 _ _ _ (Mem.on_some (cell_new 5 rfl) hb3.size)), hq _ _ _ (hn3 _ _ _ (Mem.on_some (cell_new 6 rfl) hb3.size))⟩))
    have HM3 := Lib.hid hM3
    have HMid3 := Lib.hid hMid3
    have HRF4 := Lib.hid (hrw2.mono hM3)
    have HWD := Lib.hid hwd
    clear hrw2 hwd
    clear hn3 hM3 hMid3 hbA3 hb3 c0 c1 c2 c3 c4 c5 c6
    go_upto_region 8 with fail
    generalize (w3.alloc (.cells #[.int .i64 wd.size, .int .i64 wd.room, .int .i64 wd.credits, .int .i64 wd.next, .slice aa wd.ahead.length ca, .slice aq wd.queue.length cq, .slice ap wd.pk.length cp] 56)) = X3 at HMid3 ⊢
    generalize w3.heap.size = nd at HC83 ⊢
    have HMD := Lib.hid (HMid3.out)
    obtain ⟨b0, b1, b2, b3, b4, b5, b6⟩ := HC83.out X3 HMD.out.mem
    obtain ⟨f5, z5⟩ := HMD.out.cells
    have z0 := z5 0
    have z1 := z5 1
    have z2 := z5 2
    have z3 := z5 3
    have z4 := z5 4
    have z55 := z5 5
    have z6 := z5 6
    clear z5
    go_wp2
    have r1 := store7_block HMD.out.hR (.int .i64 wd.size) (.int .i64 wd.room) (.int .i64 wd.credits) (.int .i64 wd.next) (.slice aa wd.ahead.length ca) (.slice aq wd.queue.length cq) (.slice ap wd.pk.length cp)
    have hk := store7_keeps (X3) (W.heap.size + 1 + 1) (.int .i64 wd.size) (.int .i64 wd.room) (.int .i64 wd.credits) (.int .i64 wd.next) (.slice aa wd.ahead.length ca) (.slice aq wd.queue.length cq) (.slice ap wd.pk.length cp)
    show bodyPost _ _ _ _ _ (store7 (X3) (W.heap.size + 1 + 1) (.int .i64 wd.size) (.int .i64 wd.room) (.int .i64 wd.credits) (.int .i64 wd.next) (.slice aa wd.ahead.length ca) (.slice aq wd.queue.length cq) (.slice ap wd.pk.length cp))
    generalize store7 (X3) (W.heap.size + 1 + 1) (.int .i64 wd.size) (.int .i64 wd.room) (.int .i64 wd.credits) (.int .i64 wd.next) (.slice aa wd.ahead.length ca) (.slice aq wd.queue.length cq) (.slice ap wd.pk.length cp) = w2 at r1 hk ⊢
    have g0 : w2.cell? ⟨W.heap.size + 1 + 1, 0, none⟩ = some (.int .i64 wd.size) := mem_cells r1 0
    have g1 : w2.cell? ⟨W.heap.size + 1 + 1, 1, none⟩ = some (.int .i64 wd.room) := mem_cells r1 1
    have g2 : w2.cell? ⟨W.heap.size + 1 + 1, 2, none⟩ = some (.int .i64 wd.credits) := mem_cells r1 2
    have g3 : w2.cell? ⟨W.heap.size + 1 + 1, 3, none⟩ = some (.int .i64 wd.next) := mem_cells r1 3
    have g4 : w2.cell? ⟨W.heap.size + 1 + 1, 4, none⟩ = some (.slice aa wd.ahead.length ca) := mem_cells r1 4
    have g5 : w2.cell? ⟨W.heap.size + 1 + 1, 5, none⟩ = some (.slice aq wd.queue.length cq) := mem_cells r1 5
    have g6 : w2.cell? ⟨W.heap.size + 1 + 1, 6, none⟩ = some (.slice ap wd.pk.length cp) := mem_cells r1 6
    refine bodyPost_ret (v := .tuple #[.agg #[.int .i64 wd.size, .int .i64 wd.room, .int .i64 wd.credits, .int .i64 wd.next, .slice aa wd.ahead.length ca, .slice aq wd.queue.length cq, .slice ap wd.pk.length cp], .bool true]) (by simp [results, Try.results25, go_sem, g0, g1, g2, g3, g4, g5, g6]) rfl ?_
    have hE : refOf r ah ps = wd := by rw [HWD.out]; exact HW.out
    exact ⟨_, _, _, _, M3, _, _, _, by rw [hE], HMD.out.finish hk (by rw [hE]; exact HRF4.out), Mem.le_trans HM1.out (Mem.le_trans HMA.out HM3.out), by omega⟩
  · skip
    have HMA := Lib.hid (Mem.le_refl M1)
    have HMidA := Lib.hid (HMid.out.step (Mem.le_refl M1) hS (HSO.out.mono (Nat.le_succ N)))
    clear hS
    obtain ⟨M1a, hM1a⟩ : ∃ M1a, M1a = M1 := ⟨M1, rfl⟩
    rw [← hM1a] at HMidA
    have HMA : Hid (M1.le M1a) := Lib.hid (by rw [hM1a]; exact Mem.le_refl _)
    clear hM1a
    obtain ⟨c0, c1, c2, c3, c4, c5, c6⟩ := HC4.out w1 (Mem.le_trans HMA.out HMidA.out.mem)
    go_wp2_with fail
    refine (refSend_any w _ _ _ M1a w1 HMidA.out.mem (HRF.out.mono HMA.out) (by omega) (by omega) HNUM.out.1 HNUM.out.2.1 HNUM.out.2.2).mono ?_
    rintro e w3 ⟨hp2, hb3⟩
    rcases hp2 with ⟨g1, rfl⟩ | ⟨g1, g2, rfl⟩ | ⟨g1, g2, _⟩
    · exfalso; exact q1 (HQC.out.1.symm.trans g1)
    rotate_left
    · exfalso; exact g2 (HQC.out.2.1.trans q2)
    obtain ⟨wd, hwd⟩ : ∃ wd, wd = w := ⟨_, rfl⟩
    have hrw2 := HRF.out.mono HMA.out
    rw [← hwd] at hrw2 ⊢
    have hbA3 : Below w1.heap.size w1 (w3.alloc (.cells #[.int .i64 wd.size, .int .i64 wd.room, .int .i64 wd.credits, .int .i64 wd.next, .slice aa wd.ahead.length ca, .slice aq wd.queue.length cq, .slice ap wd.pk.length cp] 56)) := hb3.alloc hb3.size _
    obtain ⟨M3, hMid3, hM3, hn3⟩ := HMidA.out.grow hbA3
    have HN3 := Lib.hid (show ((mem w3).on (w1.heap.size ≤ ·)).le M3 from fun i o v e => hn3 _ _ _ (let ⟨hs, e⟩ := Mem.of_on e; Mem.on_some (below_mem ((Below.refl w3.heap.size w3).alloc (Nat.le_refl _) _) _ _ _ e) hs))
    have HC83 := Lib.hid (fun (wq : World) (hq : M3.le (mem wq)) => (show wq.cell? ⟨w3.heap.size, 0, none⟩ = some (.int .i64 wd.size) ∧ wq.cell? ⟨w3.heap.size, 1, none⟩ = some (.int .i64 wd.room) ∧ wq.cell? ⟨w3.heap.size, 2, none⟩ = some (.int .i64 wd.credits) ∧ wq.cell? ⟨w3.heap.size, 3, none⟩ = some (.int .i64 wd.next) ∧ wq.cell? ⟨w3.heap.size, 4, none⟩ = some (.slice aa wd.ahead.length ca) ∧ wq.cell? ⟨w3.heap.size, 5, none⟩ = some (.slice aq wd.queue.length cq) ∧ wq.cell? ⟨w3.heap.size, 6, none⟩ = some (.slice ap wd.pk.length cp) from ⟨hq _ _ _ (hn3 _ _ _ (Mem.on_some (cell_new 0 rfl) hb3.size)), hq _ _ _ (hn3 _ _ _ (Mem.on_some (cell_new 1 rfl) hb3.size)), hq _ _ _ (hn3 _ _ _ (Mem.on_some (cell_new 2 rfl) hb3.size)), hq _ _ _ (hn3 _ _ _ (Mem.on_some (cell_new 3 rfl) hb3.size)), hq _ _ _ (hn3 _ _ _ (Mem.on_some (cell_new 4 rfl) hb3.size)), hq _ _ _ (hn3 _ _ _ (Mem.on_some (cell_new 5 rfl) hb3.size)), hq _ _ _ (hn3 _ _ _ (Mem.on_some (cell_new 6 rfl) hb3.size))⟩))
    have HM3 := Lib.hid hM3
    have HMid3 := Lib.hid hMid3
    have HRF4 := Lib.hid (hrw2.mono hM3)
    have HWD := Lib.hid hwd
    clear hrw2 hwd
    clear hn3 hM3 hMid3 hbA3 hb3 c0 c1 c2 c3 c4 c5 c6
    go_upto_region 8 with fail
    generalize (w3.alloc (.cells #[.int .i64 wd.size, .int .i64 wd.room, .int .i64 wd.credits, .int .i64 wd.next, .slice aa wd.ahead.length ca, .slice aq wd.queue.length cq, .slice ap wd.pk.length cp] 56)) = X3 at HMid3 ⊢
    generalize w3.heap.size = nd at HC83 ⊢
    have HMD := Lib.hid (HMid3.out)
    obtain ⟨b0, b1, b2, b3, b4, b5, b6⟩ := HC83.out X3 HMD.out.mem
    obtain ⟨f5, z5⟩ := HMD.out.cells
    have z0 := z5 0
    have z1 := z5 1
    have z2 := z5 2
    have z3 := z5 3
    have z4 := z5 4
    have z55 := z5 5
    have z6 := z5 6
    clear z5
    go_wp2
    have r1 := store7_block HMD.out.hR (.int .i64 wd.size) (.int .i64 wd.room) (.int .i64 wd.credits) (.int .i64 wd.next) (.slice aa wd.ahead.length ca) (.slice aq wd.queue.length cq) (.slice ap wd.pk.length cp)
    have hk := store7_keeps (X3) (W.heap.size + 1 + 1) (.int .i64 wd.size) (.int .i64 wd.room) (.int .i64 wd.credits) (.int .i64 wd.next) (.slice aa wd.ahead.length ca) (.slice aq wd.queue.length cq) (.slice ap wd.pk.length cp)
    show bodyPost _ _ _ _ _ (store7 (X3) (W.heap.size + 1 + 1) (.int .i64 wd.size) (.int .i64 wd.room) (.int .i64 wd.credits) (.int .i64 wd.next) (.slice aa wd.ahead.length ca) (.slice aq wd.queue.length cq) (.slice ap wd.pk.length cp))
    generalize store7 (X3) (W.heap.size + 1 + 1) (.int .i64 wd.size) (.int .i64 wd.room) (.int .i64 wd.credits) (.int .i64 wd.next) (.slice aa wd.ahead.length ca) (.slice aq wd.queue.length cq) (.slice ap wd.pk.length cp) = w2 at r1 hk ⊢
    have g0 : w2.cell? ⟨W.heap.size + 1 + 1, 0, none⟩ = some (.int .i64 wd.size) := mem_cells r1 0
    have g1 : w2.cell? ⟨W.heap.size + 1 + 1, 1, none⟩ = some (.int .i64 wd.room) := mem_cells r1 1
    have g2 : w2.cell? ⟨W.heap.size + 1 + 1, 2, none⟩ = some (.int .i64 wd.credits) := mem_cells r1 2
    have g3 : w2.cell? ⟨W.heap.size + 1 + 1, 3, none⟩ = some (.int .i64 wd.next) := mem_cells r1 3
    have g4 : w2.cell? ⟨W.heap.size + 1 + 1, 4, none⟩ = some (.slice aa wd.ahead.length ca) := mem_cells r1 4
    have g5 : w2.cell? ⟨W.heap.size + 1 + 1, 5, none⟩ = some (.slice aq wd.queue.length cq) := mem_cells r1 5
    have g6 : w2.cell? ⟨W.heap.size + 1 + 1, 6, none⟩ = some (.slice ap wd.pk.length cp) := mem_cells r1 6
    refine bodyPost_ret (v := .tuple #[.agg #[.int .i64 wd.size, .int .i64 wd.room, .int .i64 wd.credits, .int .i64 wd.next, .slice aa wd.ahead.length ca, .slice aq wd.queue.length cq, .slice ap wd.pk.length cp], .bool true]) (by simp [results, Try.results25, go_sem, g0, g1, g2, g3, g4, g5, g6]) rfl ?_
    have hE : refOf r ah ps = wd := by rw [HWD.out]; exact HW.out
    exact ⟨_, _, _, _, M3, _, _, _, by rw [hE], HMD.out.finish hk (by rw [hE]; exact HRF4.out), Mem.le_trans HM1.out (Mem.le_trans HMA.out HM3.out), by omega⟩
  · rw [← HQC.out.2.2] at he
    subst he
    have HMA := Lib.hid (Mem.le_refl M1)
    have HMidA := Lib.hid (HMid.out.step (Mem.le_refl M1) hS (HSO.out.send q1 q2 had))
    clear hS had
    obtain ⟨M1a, hM1a⟩ : ∃ M1a, M1a = M1 := ⟨M1, rfl⟩
    rw [← hM1a] at HMidA
    have HMA : Hid (M1.le M1a) := Lib.hid (by rw [hM1a]; exact Mem.le_refl _)
    clear hM1a
    obtain ⟨c0, c1, c2, c3, c4, c5, c6⟩ := HC4.out w1 (Mem.le_trans HMA.out HMidA.out.mem)
    go_wp2_with fail
    refine (refSend_any w _ _ _ M1a w1 HMidA.out.mem (HRF.out.mono HMA.out) (by omega) (by omega) HNUM.out.1 HNUM.out.2.1 HNUM.out.2.2).mono ?_
    rintro e w3 ⟨hp2, hb3⟩
    rcases hp2 with ⟨g1, rfl⟩ | ⟨g1, g2, rfl⟩ | ⟨g1, g2, q2v, p2v, rfl, hrw2⟩
    · exfalso; exact q1 (HQC.out.1.symm.trans g1)
    · exfalso; exact q2 (HQC.out.2.1.symm.trans g2)
    obtain ⟨wd, hwd⟩ : ∃ wd, wd = sendW w := ⟨_, rfl⟩
    rw [← hwd] at hrw2 ⊢
    have hal2 : wd.ahead.length = w.ahead.length := by rw [hwd]; rfl
    rw [← hal2] at hrw2 ⊢
    obtain ⟨q2a, q2c, rfl, _, hz1, _⟩ := slice_form hrw2.hq
    obtain ⟨p2a, p2c, rfl, _, hz2, _⟩ := slice_form hrw2.hp
    clear hz1 hz2 hal2
    have hbA3 : Below w1.heap.size w1 (w3.alloc (.cells #[.int .i64 wd.size, .int .i64 wd.room, .int .i64 wd.credits, .int .i64 wd.next, .slice aa wd.ahead.length ca, .slice q2a wd.queue.length q2c, .slice p2a wd.pk.length p2c] 56)) := hb3.alloc hb3.size _
    obtain ⟨M3, hMid3, hM3, hn3⟩ := HMidA.out.grow hbA3
    have HN3 := Lib.hid (show ((mem w3).on (w1.heap.size ≤ ·)).le M3 from fun i o v e => hn3 _ _ _ (let ⟨hs, e⟩ := Mem.of_on e; Mem.on_some (below_mem ((Below.refl w3.heap.size w3).alloc (Nat.le_refl _) _) _ _ _ e) hs))
    have HC83 := Lib.hid (fun (wq : World) (hq : M3.le (mem wq)) => (show wq.cell? ⟨w3.heap.size, 0, none⟩ = some (.int .i64 wd.size) ∧ wq.cell? ⟨w3.heap.size, 1, none⟩ = some (.int .i64 wd.room) ∧ wq.cell? ⟨w3.heap.size, 2, none⟩ = some (.int .i64 wd.credits) ∧ wq.cell? ⟨w3.heap.size, 3, none⟩ = some (.int .i64 wd.next) ∧ wq.cell? ⟨w3.heap.size, 4, none⟩ = some (.slice aa wd.ahead.length ca) ∧ wq.cell? ⟨w3.heap.size, 5, none⟩ = some (.slice q2a wd.queue.length q2c) ∧ wq.cell? ⟨w3.heap.size, 6, none⟩ = some (.slice p2a wd.pk.length p2c) from ⟨hq _ _ _ (hn3 _ _ _ (Mem.on_some (cell_new 0 rfl) hb3.size)), hq _ _ _ (hn3 _ _ _ (Mem.on_some (cell_new 1 rfl) hb3.size)), hq _ _ _ (hn3 _ _ _ (Mem.on_some (cell_new 2 rfl) hb3.size)), hq _ _ _ (hn3 _ _ _ (Mem.on_some (cell_new 3 rfl) hb3.size)), hq _ _ _ (hn3 _ _ _ (Mem.on_some (cell_new 4 rfl) hb3.size)), hq _ _ _ (hn3 _ _ _ (Mem.on_some (cell_new 5 rfl) hb3.size)), hq _ _ _ (hn3 _ _ _ (Mem.on_some (cell_new 6 rfl) hb3.size))⟩))
    have HM3 := Lib.hid hM3
    have HMid3 := Lib.hid hMid3
    have HRF4 := Lib.hid (hrw2.mono (joinM_to hM3 HN3.out))
    have HWD := Lib.hid hwd
    clear hrw2 hwd
    clear hn3 hM3 hMid3 hbA3 hb3 c0 c1 c2 c3 c4 c5 c6
    go_upto_region 8 with fail
    generalize (w3.alloc (.cells #[.int .i64 wd.size, .int .i64 wd.room, .int .i64 wd.credits, .int .i64 wd.next, .slice aa wd.ahead.length ca, .slice q2a wd.queue.length q2c, .slice p2a wd.pk.length p2c] 56)) = X3 at HMid3 ⊢
    generalize w3.heap.size = nd at HC83 ⊢
    have HMD := Lib.hid (HMid3.out)
    obtain ⟨b0, b1, b2, b3, b4, b5, b6⟩ := HC83.out X3 HMD.out.mem
    obtain ⟨f5, z5⟩ := HMD.out.cells
    have z0 := z5 0
    have z1 := z5 1
    have z2 := z5 2
    have z3 := z5 3
    have z4 := z5 4
    have z55 := z5 5
    have z6 := z5 6
    clear z5
    go_wp2
    have r1 := store7_block HMD.out.hR (.int .i64 wd.size) (.int .i64 wd.room) (.int .i64 wd.credits) (.int .i64 wd.next) (.slice aa wd.ahead.length ca) (.slice q2a wd.queue.length q2c) (.slice p2a wd.pk.length p2c)
    have hk := store7_keeps (X3) (W.heap.size + 1 + 1) (.int .i64 wd.size) (.int .i64 wd.room) (.int .i64 wd.credits) (.int .i64 wd.next) (.slice aa wd.ahead.length ca) (.slice q2a wd.queue.length q2c) (.slice p2a wd.pk.length p2c)
    show bodyPost _ _ _ _ _ (store7 (X3) (W.heap.size + 1 + 1) (.int .i64 wd.size) (.int .i64 wd.room) (.int .i64 wd.credits) (.int .i64 wd.next) (.slice aa wd.ahead.length ca) (.slice q2a wd.queue.length q2c) (.slice p2a wd.pk.length p2c))
    generalize store7 (X3) (W.heap.size + 1 + 1) (.int .i64 wd.size) (.int .i64 wd.room) (.int .i64 wd.credits) (.int .i64 wd.next) (.slice aa wd.ahead.length ca) (.slice q2a wd.queue.length q2c) (.slice p2a wd.pk.length p2c) = w2 at r1 hk ⊢
    have g0 : w2.cell? ⟨W.heap.size + 1 + 1, 0, none⟩ = some (.int .i64 wd.size) := mem_cells r1 0
    have g1 : w2.cell? ⟨W.heap.size + 1 + 1, 1, none⟩ = some (.int .i64 wd.room) := mem_cells r1 1
    have g2 : w2.cell? ⟨W.heap.size + 1 + 1, 2, none⟩ = some (.int .i64 wd.credits) := mem_cells r1 2
    have g3 : w2.cell? ⟨W.heap.size + 1 + 1, 3, none⟩ = some (.int .i64 wd.next) := mem_cells r1 3
    have g4 : w2.cell? ⟨W.heap.size + 1 + 1, 4, none⟩ = some (.slice aa wd.ahead.length ca) := mem_cells r1 4
    have g5 : w2.cell? ⟨W.heap.size + 1 + 1, 5, none⟩ = some (.slice q2a wd.queue.length q2c) := mem_cells r1 5
    have g6 : w2.cell? ⟨W.heap.size + 1 + 1, 6, none⟩ = some (.slice p2a wd.pk.length p2c) := mem_cells r1 6
    refine bodyPost_ret (v := .tuple #[.agg #[.int .i64 wd.size, .int .i64 wd.room, .int .i64 wd.credits, .int .i64 wd.next, .slice aa wd.ahead.length ca, .slice q2a wd.queue.length q2c, .slice p2a wd.pk.length p2c], .bool true]) (by simp [results, Try.results25, go_sem, g0, g1, g2, g3, g4, g5, g6]) rfl ?_
    have hE : refOf (sendR r ad) ah (ps ++ [⟨r.next, ad, r.queue.take (sendN r), false⟩]) = wd := by rw [HWD.out]; exact send_ref HW.out HNUM.out.1.1
    exact ⟨_, _, _, _, M3, _, _, _, by rw [hE], HMD.out.finish hk (by rw [hE]; exact HRF4.out), Mem.le_trans HM1.out (Mem.le_trans HMA.out HM3.out), by show r.count ≤ _; omega⟩
end Go.Proofs.Ytfkphdmnelchmaa
