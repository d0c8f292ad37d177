/- Part 8 of the texts that the law's proof stands on, merged. -/
import Derived.Deep.RegionLaw
import Derived.Deep.RegionHeld3
import Derived.Test.YtfkphdmnelchmaaWc07
set_option linter.unusedVariables false
set_option linter.unusedSimpArgs false
/- does: deliver. -/
namespace Go.Proofs.Ytfkphdmnelchmaa
open Go.RowKit Go.Maps

theorem setDl_ref {r : Raw} {ah : List El} {ps : List PK} {m : Nat} (h : SimX r ah ps m) {k : Nat} (hk : k < ps.length) : (setDl ps[k].num ps).map (fun p => (⟨p.num, p.els, p.dl⟩ : RP)) = (ps.map fun p => (⟨p.num, p.els, p.dl⟩ : RP)).set k ⟨ps[k].num, ps[k].els, true⟩ := by
  refine List.ext_getElem (by simp [setDl_len]) fun i h1 h2 => ?_
  have hi : i < ps.length := by simpa [setDl_len] using h1
  rw [List.getElem_map, setDl_get]
  by_cases e : i = k
  · subst e; simp
  · rw [List.getElem_set_ne (Ne.symm e), List.getElem_map, if_neg (fun hn => e (by have := h.num i hi; have := h.num k hk; omega))]

set_option maxRecDepth 100000 in
set_option maxHeartbeats 8000000 in
theorem does_deliver (c : Int) (base b : Nat) (M0 : Mem) (w0 : World) (F : Nat → Prop) (W : World) (r : Raw) (ah : List El) (ps : List PK) (m N kk : Nat) (M : Mem) (a q p s : Value) (x : Act20) (h : Run c base b M0 w0 F W r ah ps m N M a q p) (hx : x.el.ok) (hxn : inI64 x.n) (hx8 : 0 ≤ x.kind ∧ x.kind ≤ 255) (hs : tRow.rv M [s] x.el.row) (hkd : x.kind % 8 = 2) (hN : N ≤ 500000) (hcnt : r.count ≤ kk) (hkk : kk ≤ 2000) :
    Calls Try.prog 25 #[.pointer (some ⟨b, 0, none⟩), wV (refOf r ah ps) a q p, actV x s] W (DoesOut c base b M0 w0 F N M (kk + 1)) := by
  have hfine := h.so.fine (by omega)
  have hcn0 := h.so.cnt0
  have hl : (rcont (refOf r ah ps)).length ≤ 2000 := by rw [h.so.rcnt]; omega
  have hpl : (refOf r ah ps).pk.length ≤ 2000 := by
    have h1 := h.so.cr; have h2 := h.so.c0; have h3 := h.so.c1
    show (ps.map _).length ≤ 2000
    rw [List.length_map]; omega
  generalize hw : refOf r ah ps = w at *
  have hRun := h
  have hrf := h.rf
  rw [hw] at hrf
  obtain ⟨aa, ca, rfl, hla, hma, hra⟩ := slice_form hrf.ha
  obtain ⟨aq, cq, rfl, hlq, hmq, hrq⟩ := slice_form hrf.hq
  obtain ⟨ap, cp, rfl, hlp, hmp, hrp⟩ := slice_form hrf.hp
  obtain ⟨ax, cx, rfl, _, hmx, hs⟩ := slice_form hs
  have hca : ca ≤ 9223372036854775807 := by unfold maxLen at hma; exact hma
  have hcq : cq ≤ 9223372036854775807 := by unfold maxLen at hmq; exact hmq
  have hcp : cp ≤ 9223372036854775807 := by unfold maxLen at hmp; exact hmp
  have HW := Lib.hid hw
  have HB := Lib.hid ((((Below.refl W.heap.size W).alloc (Nat.le_refl _) (.cells #[.int .i64 w.size, .int .i64 w.room, .int .i64 w.credits, .int .i64 w.next, .slice aa w.ahead.length ca, .slice aq w.queue.length cq, .slice ap w.pk.length cp] 56)).alloc (by simp) (.cells #[.int .u8 x.kind, .int .i64 x.n, .int .i64 x.el.kind, .int .i64 x.el.n, .int .i64 x.el.time, .slice ax x.el.row.length cx, .int .i64 x.el.cn] 44)).alloc (by simp; omega) (.cells #[.int .i64 0, .int .i64 0, .int .i64 0, .int .i64 0, .slice none 0 0, .slice none 0 0, .slice none 0 0] 56))
  have y4 : (((W.alloc (.cells #[.int .i64 w.size, .int .i64 w.room, .int .i64 w.credits, .int .i64 w.next, .slice aa w.ahead.length ca, .slice aq w.queue.length cq, .slice ap w.pk.length cp] 56)).alloc (.cells #[.int .u8 x.kind, .int .i64 x.n, .int .i64 x.el.kind, .int .i64 x.el.n, .int .i64 x.el.time, .slice ax x.el.row.length cx, .int .i64 x.el.cn] 44)).alloc (.cells #[.int .i64 0, .int .i64 0, .int .i64 0, .int .i64 0, .slice none 0 0, .slice none 0 0, .slice none 0 0] 56)).heap[W.heap.size]? = some (.cells #[.int .i64 w.size, .int .i64 w.room, .int .i64 w.credits, .int .i64 w.next, .slice aa w.ahead.length ca, .slice aq w.queue.length cq, .slice ap w.pk.length cp] 56 (0, 0)) := alloc_block (alloc_block (heap_alloc_new W _) _) _
  have y5 : (((W.alloc (.cells #[.int .i64 w.size, .int .i64 w.room, .int .i64 w.credits, .int .i64 w.next, .slice aa w.ahead.length ca, .slice aq w.queue.length cq, .slice ap w.pk.length cp] 56)).alloc (.cells #[.int .u8 x.kind, .int .i64 x.n, .int .i64 x.el.kind, .int .i64 x.el.n, .int .i64 x.el.time, .slice ax x.el.row.length cx, .int .i64 x.el.cn] 44)).alloc (.cells #[.int .i64 0, .int .i64 0, .int .i64 0, .int .i64 0, .slice none 0 0, .slice none 0 0, .slice none 0 0] 56)).heap[W.heap.size + 1]? = some (.cells #[.int .u8 x.kind, .int .i64 x.n, .int .i64 x.el.kind, .int .i64 x.el.n, .int .i64 x.el.time, .slice ax x.el.row.length cx, .int .i64 x.el.cn] 44 (0, 0)) := alloc_block (by have h := heap_alloc_new (W.alloc (.cells #[.int .i64 w.size, .int .i64 w.room, .int .i64 w.credits, .int .i64 w.next, .slice aa w.ahead.length ca, .slice aq w.queue.length cq, .slice ap w.pk.length cp] 56)) (.cells #[.int .u8 x.kind, .int .i64 x.n, .int .i64 x.el.kind, .int .i64 x.el.n, .int .i64 x.el.time, .slice ax x.el.row.length cx, .int .i64 x.el.cn] 44); rwa [World.size_alloc] at h) _
  have yR : (((W.alloc (.cells #[.int .i64 w.size, .int .i64 w.room, .int .i64 w.credits, .int .i64 w.next, .slice aa w.ahead.length ca, .slice aq w.queue.length cq, .slice ap w.pk.length cp] 56)).alloc (.cells #[.int .u8 x.kind, .int .i64 x.n, .int .i64 x.el.kind, .int .i64 x.el.n, .int .i64 x.el.time, .slice ax x.el.row.length cx, .int .i64 x.el.cn] 44)).alloc (.cells #[.int .i64 0, .int .i64 0, .int .i64 0, .int .i64 0, .slice none 0 0, .slice none 0 0, .slice none 0 0] 56)).heap[W.heap.size + 1 + 1]? = some (.cells #[.int .i64 0, .int .i64 0, .int .i64 0, .int .i64 0, .slice none 0 0, .slice none 0 0, .slice none 0 0] 56 (0, 0)) := by have h := heap_alloc_new ((W.alloc (.cells #[.int .i64 w.size, .int .i64 w.room, .int .i64 w.credits, .int .i64 w.next, .slice aa w.ahead.length ca, .slice aq w.queue.length cq, .slice ap w.pk.length cp] 56)).alloc (.cells #[.int .u8 x.kind, .int .i64 x.n, .int .i64 x.el.kind, .int .i64 x.el.n, .int .i64 x.el.time, .slice ax x.el.row.length cx, .int .i64 x.el.cn] 44)) (.cells #[.int .i64 0, .int .i64 0, .int .i64 0, .int .i64 0, .slice none 0 0, .slice none 0 0, .slice none 0 0] 56); simpa only [World.size_alloc] using h
  obtain ⟨M1, hMid, hM1, hnew1⟩ := h.start HB.out (R := W.heap.size + 1 + 1) (by omega) yR
  have HRF := Lib.hid (hrf.mono hM1)
  have HHS := Lib.hid (tRow.mono _ _ _ _ hM1 hs)
  have HX := Lib.hid hx
  have HM1 := Lib.hid hM1
  have HSO := Lib.hid hRun.so
  have HF := Lib.hid hfine
  have HC4 := Lib.hid (fun (wq : World) (hq : M1.le (mem wq)) => (show wq.cell? ⟨W.heap.size, 0, none⟩ = some (.int .i64 w.size) ∧ wq.cell? ⟨W.heap.size, 1, none⟩ = some (.int .i64 w.room) ∧ wq.cell? ⟨W.heap.size, 2, none⟩ = some (.int .i64 w.credits) ∧ wq.cell? ⟨W.heap.size, 3, none⟩ = some (.int .i64 w.next) ∧ wq.cell? ⟨W.heap.size, 4, none⟩ = some (.slice aa w.ahead.length ca) ∧ wq.cell? ⟨W.heap.size, 5, none⟩ = some (.slice aq w.queue.length cq) ∧ wq.cell? ⟨W.heap.size, 6, none⟩ = some (.slice ap w.pk.length cp) from ⟨hq _ _ _ (hnew1 _ _ _ (Mem.on_some (mem_cells y4 0) ⟨by omega, by omega⟩)), hq _ _ _ (hnew1 _ _ _ (Mem.on_some (mem_cells y4 1) ⟨by omega, by omega⟩)), hq _ _ _ (hnew1 _ _ _ (Mem.on_some (mem_cells y4 2) ⟨by omega, by omega⟩)), hq _ _ _ (hnew1 _ _ _ (Mem.on_some (mem_cells y4 3) ⟨by omega, by omega⟩)), hq _ _ _ (hnew1 _ _ _ (Mem.on_some (mem_cells y4 4) ⟨by omega, by omega⟩)), hq _ _ _ (hnew1 _ _ _ (Mem.on_some (mem_cells y4 5) ⟨by omega, by omega⟩)), hq _ _ _ (hnew1 _ _ _ (Mem.on_some (mem_cells y4 6) ⟨by omega, by omega⟩))⟩))
  have HC5 := Lib.hid (fun (wq : World) (hq : M1.le (mem wq)) => (show wq.cell? ⟨W.heap.size + 1, 0, none⟩ = some (.int .u8 x.kind) ∧ wq.cell? ⟨W.heap.size + 1, 1, none⟩ = some (.int .i64 x.n) ∧ wq.cell? ⟨W.heap.size + 1, 2, none⟩ = some (.int .i64 x.el.kind) ∧ wq.cell? ⟨W.heap.size + 1, 3, none⟩ = some (.int .i64 x.el.n) ∧ wq.cell? ⟨W.heap.size + 1, 4, none⟩ = some (.int .i64 x.el.time) ∧ wq.cell? ⟨W.heap.size + 1, 5, none⟩ = some (.slice ax x.el.row.length cx) ∧ wq.cell? ⟨W.heap.size + 1, 6, none⟩ = some (.int .i64 x.el.cn) from ⟨hq _ _ _ (hnew1 _ _ _ (Mem.on_some (mem_cells y5 0) ⟨by omega, by omega⟩)), hq _ _ _ (hnew1 _ _ _ (Mem.on_some (mem_cells y5 1) ⟨by omega, by omega⟩)), hq _ _ _ (hnew1 _ _ _ (Mem.on_some (mem_cells y5 2) ⟨by omega, by omega⟩)), hq _ _ _ (hnew1 _ _ _ (Mem.on_some (mem_cells y5 3) ⟨by omega, by omega⟩)), hq _ _ _ (hnew1 _ _ _ (Mem.on_some (mem_cells y5 4) ⟨by omega, by omega⟩)), hq _ _ _ (hnew1 _ _ _ (Mem.on_some (mem_cells y5 5) ⟨by omega, by omega⟩)), hq _ _ _ (hnew1 _ _ _ (Mem.on_some (mem_cells y5 6) ⟨by omega, by omega⟩))⟩))
  clear y4 y5 yR hnew1 hra hrq hrp hma hmq hmp hmx hs h hrf hw hx hRun hfine hM1
  go_enter Try.func25, Try.ntmps25
  go_upto_region 1 with fail
  generalize ((W.alloc (.cells #[.int .i64 w.size, .int .i64 w.room, .int .i64 w.credits, .int .i64 w.next, .slice aa w.ahead.length ca, .slice aq w.queue.length cq, .slice ap w.pk.length cp] 56)).alloc (.cells #[.int .u8 x.kind, .int .i64 x.n, .int .i64 x.el.kind, .int .i64 x.el.n, .int .i64 x.el.time, .slice ax x.el.row.length cx, .int .i64 x.el.cn] 44)).alloc (.cells #[.int .i64 0, .int .i64 0, .int .i64 0, .int .i64 0, .slice none 0 0, .slice none 0 0, .slice none 0 0] 56) = Y at HB hMid ⊢
  have HMid := Lib.hid hMid
  obtain ⟨c0, c1, c2, c3, c4, c5, c6⟩ := HC4.out Y hMid.mem
  obtain ⟨d0, d1, d2, d3, d4, d5, d6⟩ := HC5.out Y hMid.mem
  clear hMid
  go_upto_region 2 with fail
  rw [hkd]
  have HNX := Lib.hid (show w.next = r.next by rw [← HW.out]; rfl)
  have HPK := Lib.hid (show w.pk = ps.map (fun p => (⟨p.num, p.els, p.dl⟩ : RP)) by rw [← HW.out]; rfl)
  go_wp2_with fail
  refine (refDeliver_any w _ _ _ M1 Y HMid.out.mem HRF.out x.n hxn (by omega)).mono ?_
  rintro e w1 ⟨hd, hb1⟩
  rcases hd with ⟨hn, rfl⟩ | ⟨hn, hall, rfl⟩ | ⟨hn, k, hk, hkn, hk2, p', rfl, hr⟩
  · have HNN := Lib.hid hn
    clear hn
    have hbA2 : Below Y.heap.size Y (w1.alloc (.cells #[.int .i64 w.size, .int .i64 w.room, .int .i64 w.credits, .int .i64 w.next, .slice aa w.ahead.length ca, .slice aq w.queue.length cq, .slice ap w.pk.length cp] 56)) := hb1.alloc hb1.size _
    obtain ⟨M2, hMid2, hM2, hn2⟩ := HMid.out.grow hbA2
    have HN2 := Lib.hid (show ((mem w1).on (Y.heap.size ≤ ·)).le M2 from fun i o v e => hn2 _ _ _ (let ⟨hs, e⟩ := Mem.of_on e; Mem.on_some (below_mem ((Below.refl w1.heap.size w1).alloc (Nat.le_refl _) _) _ _ _ e) hs))
    have HC82 := Lib.hid (fun (wq : World) (hq : M2.le (mem wq)) => (show wq.cell? ⟨w1.heap.size, 0, none⟩ = some (.int .i64 w.size) ∧ wq.cell? ⟨w1.heap.size, 1, none⟩ = some (.int .i64 w.room) ∧ wq.cell? ⟨w1.heap.size, 2, none⟩ = some (.int .i64 w.credits) ∧ wq.cell? ⟨w1.heap.size, 3, none⟩ = some (.int .i64 w.next) ∧ wq.cell? ⟨w1.heap.size, 4, none⟩ = some (.slice aa w.ahead.length ca) ∧ wq.cell? ⟨w1.heap.size, 5, none⟩ = some (.slice aq w.queue.length cq) ∧ wq.cell? ⟨w1.heap.size, 6, none⟩ = some (.slice ap w.pk.length cp) from ⟨hq _ _ _ (hn2 _ _ _ (Mem.on_some (cell_new 0 rfl) hb1.size)), hq _ _ _ (hn2 _ _ _ (Mem.on_some (cell_new 1 rfl) hb1.size)), hq _ _ _ (hn2 _ _ _ (Mem.on_some (cell_new 2 rfl) hb1.size)), hq _ _ _ (hn2 _ _ _ (Mem.on_some (cell_new 3 rfl) hb1.size)), hq _ _ _ (hn2 _ _ _ (Mem.on_some (cell_new 4 rfl) hb1.size)), hq _ _ _ (hn2 _ _ _ (Mem.on_some (cell_new 5 rfl) hb1.size)), hq _ _ _ (hn2 _ _ _ (Mem.on_some (cell_new 6 rfl) hb1.size))⟩))
    have HM2 := Lib.hid hM2
    have HMid2 := Lib.hid hMid2
    have HRF2 := Lib.hid (HRF.out.mono hM2)
    have HMD := Lib.hid (hMid2.pure (Below.refl _ _).drew)
    have HP := Lib.hid (show Calls Try.prog 18 #[.pointer (some ⟨b, 0, none⟩), .int .i64 x.n] (w1.alloc (.cells #[.int .i64 w.size, .int .i64 w.room, .int .i64 w.credits, .int .i64 w.next, .slice aa w.ahead.length ca, .slice aq w.queue.length cq, .slice ap w.pk.length cp] 56)).drew (fun e W' => e = .returned (.int .i64 8) ∧ Stp base b N M2 (fun k => F k ∨ k = W.heap.size + 1 + 1) (w1.alloc (.cells #[.int .i64 w.size, .int .i64 w.room, .int .i64 w.credits, .int .i64 w.next, .slice aa w.ahead.length ca, .slice aq w.queue.length cq, .slice ap w.pk.length cp] 56)).drew W' (r)) from (st_deliv HMD.out.st HF.out (by omega) hxn).mono (fun e W' hs => by
      have hn := HNN.out
      rw [HNX.out] at hn
      rcases hs with ⟨a1, a2, a3⟩ | ⟨a1, a2, a3, a4⟩ | ⟨a1, a', a2, a3, r', a4, a5⟩
      · exact ⟨a2, a3⟩
      · omega
      · omega))
    clear hn2 hM2 hMid2 hbA2 hb1 c0 c1 c2 c3 c4 c5 c6 d0 d1 d2 d3 d4 d5 d6
    go_upto_region 11 with fail
    generalize (w1.alloc (.cells #[.int .i64 w.size, .int .i64 w.room, .int .i64 w.credits, .int .i64 w.next, .slice aa w.ahead.length ca, .slice aq w.queue.length cq, .slice ap w.pk.length cp] 56)) = X at HMid2 HMD HP ⊢
    generalize w1.heap.size = nb at HC82 ⊢
    obtain ⟨c0, c1, c2, c3, c4, c5, c6⟩ := HC82.out X.drew HMD.out.mem
    obtain ⟨d0, d1, d2, d3, d4, d5, d6⟩ := HC5.out X.drew (Mem.le_trans HM2.out HMD.out.mem)
    go_region_law (go_simp; go_at_call 18; refine HP.out.mono ?_; rintro e w5 ⟨rfl, hS⟩; have hMid5 := HMD.out.step (Mem.le_refl _) hS (HSO.out.mono (Nat.le_succ N)); have HMid5 := Lib.hid hMid5; obtain ⟨b0, b1, b2, b3, b4, b5, b6⟩ := HC82.out w5 hMid5.mem; obtain ⟨f5, z5⟩ := hMid5.cells; have z0 := z5 0; have z1 := z5 1; have z2 := z5 2; have z3 := z5 3; have z4 := z5 4; have z55 := z5 5; have z6 := z5 6; clear hS hMid5 z5)
    all_goals
      go_wp2
      have r1 := store7_block HMid5.out.hR (.int .i64 w.size) (.int .i64 w.room) (.int .i64 w.credits) (.int .i64 w.next) (.slice aa w.ahead.length ca) (.slice aq w.queue.length cq) (.slice ap w.pk.length cp)
      have hk := store7_keeps (w5) (W.heap.size + 1 + 1) (.int .i64 w.size) (.int .i64 w.room) (.int .i64 w.credits) (.int .i64 w.next) (.slice aa w.ahead.length ca) (.slice aq w.queue.length cq) (.slice ap w.pk.length cp)
      show bodyPost _ _ _ _ _ (store7 (w5) (W.heap.size + 1 + 1) (.int .i64 w.size) (.int .i64 w.room) (.int .i64 w.credits) (.int .i64 w.next) (.slice aa w.ahead.length ca) (.slice aq w.queue.length cq) (.slice ap w.pk.length cp))
      generalize store7 (w5) (W.heap.size + 1 + 1) (.int .i64 w.size) (.int .i64 w.room) (.int .i64 w.credits) (.int .i64 w.next) (.slice aa w.ahead.length ca) (.slice aq w.queue.length cq) (.slice ap w.pk.length cp) = w2 at r1 hk ⊢
      have g0 : w2.cell? ⟨W.heap.size + 1 + 1, 0, none⟩ = some (.int .i64 w.size) := mem_cells r1 0
      have g1 : w2.cell? ⟨W.heap.size + 1 + 1, 1, none⟩ = some (.int .i64 w.room) := mem_cells r1 1
      have g2 : w2.cell? ⟨W.heap.size + 1 + 1, 2, none⟩ = some (.int .i64 w.credits) := mem_cells r1 2
      have g3 : w2.cell? ⟨W.heap.size + 1 + 1, 3, none⟩ = some (.int .i64 w.next) := mem_cells r1 3
      have g4 : w2.cell? ⟨W.heap.size + 1 + 1, 4, none⟩ = some (.slice aa w.ahead.length ca) := mem_cells r1 4
      have g5 : w2.cell? ⟨W.heap.size + 1 + 1, 5, none⟩ = some (.slice aq w.queue.length cq) := mem_cells r1 5
      have g6 : w2.cell? ⟨W.heap.size + 1 + 1, 6, none⟩ = some (.slice ap w.pk.length cp) := mem_cells r1 6
      refine bodyPost_ret (v := .tuple #[.agg #[.int .i64 w.size, .int .i64 w.room, .int .i64 w.credits, .int .i64 w.next, .slice aa w.ahead.length ca, .slice aq w.queue.length cq, .slice ap w.pk.length cp], .bool true]) (by simp [results, Try.results25, go_sem, g0, g1, g2, g3, g4, g5, g6]) rfl ?_
      have hE : refOf r ah ps = w := HW.out
      exact ⟨_, _, _, _, M2, _, _, _, by rw [hE], HMid5.out.finish hk (by rw [hE]; exact HRF2.out), Mem.le_trans HM1.out HM2.out, by omega⟩
  · have HNN := Lib.hid (And.intro hn hall)
    clear hn hall
    have hbA2 : Below Y.heap.size Y (w1.alloc (.cells #[.int .i64 w.size, .int .i64 w.room, .int .i64 w.credits, .int .i64 w.next, .slice aa w.ahead.length ca, .slice aq w.queue.length cq, .slice ap w.pk.length cp] 56)) := hb1.alloc hb1.size _
    obtain ⟨M2, hMid2, hM2, hn2⟩ := HMid.out.grow hbA2
    have HN2 := Lib.hid (show ((mem w1).on (Y.heap.size ≤ ·)).le M2 from fun i o v e => hn2 _ _ _ (let ⟨hs, e⟩ := Mem.of_on e; Mem.on_some (below_mem ((Below.refl w1.heap.size w1).alloc (Nat.le_refl _) _) _ _ _ e) hs))
    have HC82 := Lib.hid (fun (wq : World) (hq : M2.le (mem wq)) => (show wq.cell? ⟨w1.heap.size, 0, none⟩ = some (.int .i64 w.size) ∧ wq.cell? ⟨w1.heap.size, 1, none⟩ = some (.int .i64 w.room) ∧ wq.cell? ⟨w1.heap.size, 2, none⟩ = some (.int .i64 w.credits) ∧ wq.cell? ⟨w1.heap.size, 3, none⟩ = some (.int .i64 w.next) ∧ wq.cell? ⟨w1.heap.size, 4, none⟩ = some (.slice aa w.ahead.length ca) ∧ wq.cell? ⟨w1.heap.size, 5, none⟩ = some (.slice aq w.queue.length cq) ∧ wq.cell? ⟨w1.heap.size, 6, none⟩ = some (.slice ap w.pk.length cp) from ⟨hq _ _ _ (hn2 _ _ _ (Mem.on_some (cell_new 0 rfl) hb1.size)), hq _ _ _ (hn2 _ _ _ (Mem.on_some (cell_new 1 rfl) hb1.size)), hq _ _ _ (hn2 _ _ _ (Mem.on_some (cell_new 2 rfl) hb1.size)), hq _ _ _ (hn2 _ _ _ (Mem.on_some (cell_new 3 rfl) hb1.size)), hq _ _ _ (hn2 _ _ _ (Mem.on_some (cell_new 4 rfl) hb1.size)), hq _ _ _ (hn2 _ _ _ (Mem.on_some (cell_new 5 rfl) hb1.size)), hq _ _ _ (hn2 _ _ _ (Mem.on_some (cell_new 6 rfl) hb1.size))⟩))
    have HM2 := Lib.hid hM2
    have HMid2 := Lib.hid hMid2
    have HRF2 := Lib.hid (HRF.out.mono hM2)
    have HMD := Lib.hid (hMid2.pure (Below.refl _ _).drew)
    have HP := Lib.hid (show Calls Try.prog 18 #[.pointer (some ⟨b, 0, none⟩), .int .i64 x.n] (w1.alloc (.cells #[.int .i64 w.size, .int .i64 w.room, .int .i64 w.credits, .int .i64 w.next, .slice aa w.ahead.length ca, .slice aq w.queue.length cq, .slice ap w.pk.length cp] 56)).drew (fun e W' => e = .returned (.int .i64 0) ∧ Stp base b N M2 (fun k => F k ∨ k = W.heap.size + 1 + 1) (w1.alloc (.cells #[.int .i64 w.size, .int .i64 w.room, .int .i64 w.credits, .int .i64 w.next, .slice aa w.ahead.length ca, .slice aq w.queue.length cq, .slice ap w.pk.length cp] 56)).drew W' (r)) from (st_deliv HMD.out.st HF.out (by omega) hxn).mono (fun e W' hs => by
      have hn := HNN.out.1
      have hall := HNN.out.2
      rw [HNX.out] at hn
      rw [HPK.out] at hall
      rcases hs with ⟨a1, a2, a3⟩ | ⟨a1, a2, a3, a4⟩ | ⟨a1, a', a2, a3, r', a4, a5⟩
      · omega
      · exact ⟨a3, a4⟩
      · obtain ⟨p, hp, h1, _⟩ := (HSO.out.way _ _).1 a2
        exact absurd h1 (hall _ (List.mem_map.2 ⟨p, hp, rfl⟩))))
    clear hn2 hM2 hMid2 hbA2 hb1 c0 c1 c2 c3 c4 c5 c6 d0 d1 d2 d3 d4 d5 d6
    go_upto_region 11 with fail
    generalize (w1.alloc (.cells #[.int .i64 w.size, .int .i64 w.room, .int .i64 w.credits, .int .i64 w.next, .slice aa w.ahead.length ca, .slice aq w.queue.length cq, .slice ap w.pk.length cp] 56)) = X at HMid2 HMD HP ⊢
    generalize w1.heap.size = nb at HC82 ⊢
    obtain ⟨c0, c1, c2, c3, c4, c5, c6⟩ := HC82.out X.drew HMD.out.mem
    obtain ⟨d0, d1, d2, d3, d4, d5, d6⟩ := HC5.out X.drew (Mem.le_trans HM2.out HMD.out.mem)
    go_region_law (go_simp; go_at_call 18; refine HP.out.mono ?_; rintro e w5 ⟨rfl, hS⟩; have hMid5 := HMD.out.step (Mem.le_refl _) hS (HSO.out.mono (Nat.le_succ N)); have HMid5 := Lib.hid hMid5; obtain ⟨b0, b1, b2, b3, b4, b5, b6⟩ := HC82.out w5 hMid5.mem; obtain ⟨f5, z5⟩ := hMid5.cells; have z0 := z5 0; have z1 := z5 1; have z2 := z5 2; have z3 := z5 3; have z4 := z5 4; have z55 := z5 5; have z6 := z5 6; clear hS hMid5 z5)
    all_goals
      go_wp2
      have r1 := store7_block HMid5.out.hR (.int .i64 w.size) (.int .i64 w.room) (.int .i64 w.credits) (.int .i64 w.next) (.slice aa w.ahead.length ca) (.slice aq w.queue.length cq) (.slice ap w.pk.length cp)
      have hk := store7_keeps (w5) (W.heap.size + 1 + 1) (.int .i64 w.size) (.int .i64 w.room) (.int .i64 w.credits) (.int .i64 w.next) (.slice aa w.ahead.length ca) (.slice aq w.queue.length cq) (.slice ap w.pk.length cp)
      show bodyPost _ _ _ _ _ (store7 (w5) (W.heap.size + 1 + 1) (.int .i64 w.size) (.int .i64 w.room) (.int .i64 w.credits) (.int .i64 w.next) (.slice aa w.ahead.length ca) (.slice aq w.queue.length cq) (.slice ap w.pk.length cp))
      generalize store7 (w5) (W.heap.size + 1 + 1) (.int .i64 w.size) (.int .i64 w.room) (.int .i64 w.credits) (.int .i64 w.next) (.slice aa w.ahead.length ca) (.slice aq w.queue.length cq) (.slice ap w.pk.length cp) = w2 at r1 hk ⊢
      have g0 : w2.cell? ⟨W.heap.size + 1 + 1, 0, none⟩ = some (.int .i64 w.size) := mem_cells r1 0
      have g1 : w2.cell? ⟨W.heap.size + 1 + 1, 1, none⟩ = some (.int .i64 w.room) := mem_cells r1 1
      have g2 : w2.cell? ⟨W.heap.size + 1 + 1, 2, none⟩ = some (.int .i64 w.credits) := mem_cells r1 2
      have g3 : w2.cell? ⟨W.heap.size + 1 + 1, 3, none⟩ = some (.int .i64 w.next) := mem_cells r1 3
      have g4 : w2.cell? ⟨W.heap.size + 1 + 1, 4, none⟩ = some (.slice aa w.ahead.length ca) := mem_cells r1 4
      have g5 : w2.cell? ⟨W.heap.size + 1 + 1, 5, none⟩ = some (.slice aq w.queue.length cq) := mem_cells r1 5
      have g6 : w2.cell? ⟨W.heap.size + 1 + 1, 6, none⟩ = some (.slice ap w.pk.length cp) := mem_cells r1 6
      refine bodyPost_ret (v := .tuple #[.agg #[.int .i64 w.size, .int .i64 w.room, .int .i64 w.credits, .int .i64 w.next, .slice aa w.ahead.length ca, .slice aq w.queue.length cq, .slice ap w.pk.length cp], .bool true]) (by simp [results, Try.results25, go_sem, g0, g1, g2, g3, g4, g5, g6]) rfl ?_
      have hE : refOf r ah ps = w := HW.out
      exact ⟨_, _, _, _, M2, _, _, _, by rw [hE], HMid5.out.finish hk (by rw [hE]; exact HRF2.out), Mem.le_trans HM1.out HM2.out, by omega⟩
  · obtain ⟨app, cpp, rfl, _, hmp, _⟩ := slice_form hr.hp
    have hcp' : cpp ≤ 9223372036854775807 := by unfold maxLen at hmp; exact hmp
    have hlen2 : (setPk w k { w.pk[k] with dl := true }).pk.length = w.pk.length := by show (w.pk.set _ _).length = _; rw [List.length_set]
    rw [hlen2] at hr ⊢
    have hkp : k < ps.length := by have := hk; rw [HPK.out] at this; simpa using this
    have hpkk : w.pk[k] = ⟨ps[k].num, ps[k].els, ps[k].dl⟩ := by
      have : ∀ (l : List RP) (h1 : k < l.length), w.pk = l → w.pk[k] = l[k] := fun l h1 e => by subst e; rfl
      rw [this _ (by simpa using hkp) HPK.out, List.getElem_map]
    have hnum : ps[k].num = x.n := by rw [hpkk] at hkn; exact hkn
    have HKK := Lib.hid (And.intro hnum (And.intro hpkk hn))
    have HEQ := Lib.hid (show setPk w k { w.pk[k] with dl := true } = refOf r ah (setDl x.n ps) from by
      unfold setPk
      rw [hpkk]
      have h := setDl_ref HSO.out.toSimX hkp
      rw [hnum] at h
      rw [← HW.out]
      unfold refOf
      simp only
      rw [h, hnum])
    have HDS := Lib.hid (fun (hdt : ps[k].dl = true) => (show setPk w k { w.pk[k] with dl := true } = w from by
      unfold setPk
      have : ({ w.pk[k] with dl := true } : RP) = w.pk[k] := by rw [hpkk, hdt]
      rw [this, List.set_getElem_self]))
    clear hn hk2 hmp hlen2 hkn
    generalize setPk w k { w.pk[k] with dl := true } = wd at *
    cases hway : r.way x.n with
    | none =>
      have hdt : ps[k].dl = true := by
        cases e : ps[k].dl with
        | true => rfl
        | false => have := (HSO.out.way x.n ps[k].ad).2 ⟨ps[k], List.getElem_mem hkp, hnum, rfl, e⟩; rw [hway] at this; cases this
      have HDT := Lib.hid hdt
      have HWY := Lib.hid hway
      clear hdt hway hpkk hnum
      have hbA2 : Below Y.heap.size Y (w1.alloc (.cells #[.int .i64 wd.size, .int .i64 wd.room, .int .i64 wd.credits, .int .i64 wd.next, .slice aa w.ahead.length ca, .slice aq w.queue.length cq, .slice app w.pk.length cpp] 56)) := hb1.alloc hb1.size _
      obtain ⟨M2, hMid2, hM2, hn2⟩ := HMid.out.grow hbA2
      have HN2 := Lib.hid (show ((mem w1).on (Y.heap.size ≤ ·)).le M2 from fun i o v e => hn2 _ _ _ (let ⟨hs, e⟩ := Mem.of_on e; Mem.on_some (below_mem ((Below.refl w1.heap.size w1).alloc (Nat.le_refl _) _) _ _ _ e) hs))
      have HC82 := Lib.hid (fun (wq : World) (hq : M2.le (mem wq)) => (show wq.cell? ⟨w1.heap.size, 0, none⟩ = some (.int .i64 wd.size) ∧ wq.cell? ⟨w1.heap.size, 1, none⟩ = some (.int .i64 wd.room) ∧ wq.cell? ⟨w1.heap.size, 2, none⟩ = some (.int .i64 wd.credits) ∧ wq.cell? ⟨w1.heap.size, 3, none⟩ = some (.int .i64 wd.next) ∧ wq.cell? ⟨w1.heap.size, 4, none⟩ = some (.slice aa w.ahead.length ca) ∧ wq.cell? ⟨w1.heap.size, 5, none⟩ = some (.slice aq w.queue.length cq) ∧ wq.cell? ⟨w1.heap.size, 6, none⟩ = some (.slice app w.pk.length cpp) from ⟨hq _ _ _ (hn2 _ _ _ (Mem.on_some (cell_new 0 rfl) hb1.size)), hq _ _ _ (hn2 _ _ _ (Mem.on_some (cell_new 1 rfl) hb1.size)), hq _ _ _ (hn2 _ _ _ (Mem.on_some (cell_new 2 rfl) hb1.size)), hq _ _ _ (hn2 _ _ _ (Mem.on_some (cell_new 3 rfl) hb1.size)), hq _ _ _ (hn2 _ _ _ (Mem.on_some (cell_new 4 rfl) hb1.size)), hq _ _ _ (hn2 _ _ _ (Mem.on_some (cell_new 5 rfl) hb1.size)), hq _ _ _ (hn2 _ _ _ (Mem.on_some (cell_new 6 rfl) hb1.size))⟩))
      have HM2 := Lib.hid hM2
      have HMid2 := Lib.hid hMid2
      have HRF2 := Lib.hid (hr.mono (joinM_to hM2 HN2.out))
      have HMD := Lib.hid (hMid2.pure (Below.refl _ _).drew)
      have HP := Lib.hid (show Calls Try.prog 18 #[.pointer (some ⟨b, 0, none⟩), .int .i64 x.n] (w1.alloc (.cells #[.int .i64 wd.size, .int .i64 wd.room, .int .i64 wd.credits, .int .i64 wd.next, .slice aa w.ahead.length ca, .slice aq w.queue.length cq, .slice app w.pk.length cpp] 56)).drew (fun e W' => e = .returned (.int .i64 0) ∧ Stp base b N M2 (fun k => F k ∨ k = W.heap.size + 1 + 1) (w1.alloc (.cells #[.int .i64 wd.size, .int .i64 wd.room, .int .i64 wd.credits, .int .i64 wd.next, .slice aa w.ahead.length ca, .slice aq w.queue.length cq, .slice app w.pk.length cpp] 56)).drew W' (r)) from (st_deliv HMD.out.st HF.out (by omega) hxn).mono (fun e W' hs => by
        have hn := HKK.out.2.2
        rw [HNX.out] at hn
        rcases hs with ⟨a1, a2, a3⟩ | ⟨a1, a2, a3, a4⟩ | ⟨a1, a', a2, a3, r', a4, a5⟩
        · omega
        · exact ⟨a3, a4⟩
        · rw [HWY.out] at a2; cases a2))
      clear hn2 hM2 hMid2 hbA2 hb1 c0 c1 c2 c3 c4 c5 c6 d0 d1 d2 d3 d4 d5 d6
      go_upto_region 11 with fail
      generalize (w1.alloc (.cells #[.int .i64 wd.size, .int .i64 wd.room, .int .i64 wd.credits, .int .i64 wd.next, .slice aa w.ahead.length ca, .slice aq w.queue.length cq, .slice app w.pk.length cpp] 56)) = X at HMid2 HMD HP ⊢
      generalize w1.heap.size = nb at HC82 ⊢
      obtain ⟨c0, c1, c2, c3, c4, c5, c6⟩ := HC82.out X.drew HMD.out.mem
      obtain ⟨d0, d1, d2, d3, d4, d5, d6⟩ := HC5.out X.drew (Mem.le_trans HM2.out HMD.out.mem)
      go_region_law (go_simp; go_at_call 18; refine HP.out.mono ?_; rintro e w5 ⟨rfl, hS⟩; have hMid5 := HMD.out.step (Mem.le_refl _) hS (HSO.out.mono (Nat.le_succ N)); have HMid5 := Lib.hid hMid5; obtain ⟨b0, b1, b2, b3, b4, b5, b6⟩ := HC82.out w5 hMid5.mem; obtain ⟨f5, z5⟩ := hMid5.cells; have z0 := z5 0; have z1 := z5 1; have z2 := z5 2; have z3 := z5 3; have z4 := z5 4; have z55 := z5 5; have z6 := z5 6; clear hS hMid5 z5)
      all_goals
        go_wp2
        have r1 := store7_block HMid5.out.hR (.int .i64 wd.size) (.int .i64 wd.room) (.int .i64 wd.credits) (.int .i64 wd.next) (.slice aa w.ahead.length ca) (.slice aq w.queue.length cq) (.slice app w.pk.length cpp)
        have hk := store7_keeps (w5) (W.heap.size + 1 + 1) (.int .i64 wd.size) (.int .i64 wd.room) (.int .i64 wd.credits) (.int .i64 wd.next) (.slice aa w.ahead.length ca) (.slice aq w.queue.length cq) (.slice app w.pk.length cpp)
        show bodyPost _ _ _ _ _ (store7 (w5) (W.heap.size + 1 + 1) (.int .i64 wd.size) (.int .i64 wd.room) (.int .i64 wd.credits) (.int .i64 wd.next) (.slice aa w.ahead.length ca) (.slice aq w.queue.length cq) (.slice app w.pk.length cpp))
        generalize store7 (w5) (W.heap.size + 1 + 1) (.int .i64 wd.size) (.int .i64 wd.room) (.int .i64 wd.credits) (.int .i64 wd.next) (.slice aa w.ahead.length ca) (.slice aq w.queue.length cq) (.slice app w.pk.length cpp) = w2 at r1 hk ⊢
        have g0 : w2.cell? ⟨W.heap.size + 1 + 1, 0, none⟩ = some (.int .i64 wd.size) := mem_cells r1 0
        have g1 : w2.cell? ⟨W.heap.size + 1 + 1, 1, none⟩ = some (.int .i64 wd.room) := mem_cells r1 1
        have g2 : w2.cell? ⟨W.heap.size + 1 + 1, 2, none⟩ = some (.int .i64 wd.credits) := mem_cells r1 2
        have g3 : w2.cell? ⟨W.heap.size + 1 + 1, 3, none⟩ = some (.int .i64 wd.next) := mem_cells r1 3
        have g4 : w2.cell? ⟨W.heap.size + 1 + 1, 4, none⟩ = some (.slice aa w.ahead.length ca) := mem_cells r1 4
        have g5 : w2.cell? ⟨W.heap.size + 1 + 1, 5, none⟩ = some (.slice aq w.queue.length cq) := mem_cells r1 5
        have g6 : w2.cell? ⟨W.heap.size + 1 + 1, 6, none⟩ = some (.slice app w.pk.length cpp) := mem_cells r1 6
        refine bodyPost_ret (v := .tuple #[.agg #[.int .i64 wd.size, .int .i64 wd.room, .int .i64 wd.credits, .int .i64 wd.next, .slice aa w.ahead.length ca, .slice aq w.queue.length cq, .slice app w.pk.length cpp], .bool true]) (by simp [results, Try.results25, go_sem, g0, g1, g2, g3, g4, g5, g6]) rfl ?_
        have hE : refOf r ah ps = wd := by rw [HDS.out HDT.out]; exact HW.out
        exact ⟨_, _, _, _, M2, _, _, _, by rw [hE], HMid5.out.finish hk (by rw [hE]; exact HRF2.out), Mem.le_trans HM1.out HM2.out, by omega⟩
    | some ad =>
      have HWY := Lib.hid hway
      clear hway hpkk hnum
      have hbA2 : Below Y.heap.size Y (w1.alloc (.cells #[.int .i64 wd.size, .int .i64 wd.room, .int .i64 wd.credits, .int .i64 wd.next, .slice aa w.ahead.length ca, .slice aq w.queue.length cq, .slice app w.pk.length cpp] 56)) := hb1.alloc hb1.size _
      obtain ⟨M2, hMid2, hM2, hn2⟩ := HMid.out.grow hbA2
      have HN2 := Lib.hid (show ((mem w1).on (Y.heap.size ≤ ·)).le M2 from fun i o v e => hn2 _ _ _ (let ⟨hs, e⟩ := Mem.of_on e; Mem.on_some (below_mem ((Below.refl w1.heap.size w1).alloc (Nat.le_refl _) _) _ _ _ e) hs))
      have HC82 := Lib.hid (fun (wq : World) (hq : M2.le (mem wq)) => (show wq.cell? ⟨w1.heap.size, 0, none⟩ = some (.int .i64 wd.size) ∧ wq.cell? ⟨w1.heap.size, 1, none⟩ = some (.int .i64 wd.room) ∧ wq.cell? ⟨w1.heap.size, 2, none⟩ = some (.int .i64 wd.credits) ∧ wq.cell? ⟨w1.heap.size, 3, none⟩ = some (.int .i64 wd.next) ∧ wq.cell? ⟨w1.heap.size, 4, none⟩ = some (.slice aa w.ahead.length ca) ∧ wq.cell? ⟨w1.heap.size, 5, none⟩ = some (.slice aq w.queue.length cq) ∧ wq.cell? ⟨w1.heap.size, 6, none⟩ = some (.slice app w.pk.length cpp) from ⟨hq _ _ _ (hn2 _ _ _ (Mem.on_some (cell_new 0 rfl) hb1.size)), hq _ _ _ (hn2 _ _ _ (Mem.on_some (cell_new 1 rfl) hb1.size)), hq _ _ _ (hn2 _ _ _ (Mem.on_some (cell_new 2 rfl) hb1.size)), hq _ _ _ (hn2 _ _ _ (Mem.on_some (cell_new 3 rfl) hb1.size)), hq _ _ _ (hn2 _ _ _ (Mem.on_some (cell_new 4 rfl) hb1.size)), hq _ _ _ (hn2 _ _ _ (Mem.on_some (cell_new 5 rfl) hb1.size)), hq _ _ _ (hn2 _ _ _ (Mem.on_some (cell_new 6 rfl) hb1.size))⟩))
      have HM2 := Lib.hid hM2
      have HMid2 := Lib.hid hMid2
      have HRF2 := Lib.hid (hr.mono (joinM_to hM2 HN2.out))
      have HMD := Lib.hid (hMid2.pure (Below.refl _ _).drew)
      have HP := Lib.hid (show Calls Try.prog 18 #[.pointer (some ⟨b, 0, none⟩), .int .i64 x.n] (w1.alloc (.cells #[.int .i64 wd.size, .int .i64 wd.room, .int .i64 wd.credits, .int .i64 wd.next, .slice aa w.ahead.length ca, .slice aq w.queue.length cq, .slice app w.pk.length cpp] 56)).drew (fun e W' => e = .returned (.int .i64 0) ∧ ∃ r' m', Sound c (N + 1) r' ah (setDl x.n ps) m' ∧ Alike r r' ∧ Stp base b N M2 (fun k => F k ∨ k = W.heap.size + 1 + 1) (w1.alloc (.cells #[.int .i64 wd.size, .int .i64 wd.room, .int .i64 wd.credits, .int .i64 wd.next, .slice aa w.ahead.length ca, .slice aq w.queue.length cq, .slice app w.pk.length cpp] 56)).drew W' r') from (st_deliv HMD.out.st HF.out (by omega) hxn).mono (fun e W' hs => by
        have hn := HKK.out.2.2
        rw [HNX.out] at hn
        rcases hs with ⟨a1, a2, a3⟩ | ⟨a1, a2, a3, a4⟩ | ⟨a1, a', a2, a3, r', a4, a5⟩
        · omega
        · rw [HWY.out] at a2; cases a2
        · obtain ⟨m', _, hs', _, al⟩ := HSO.out.deliv a2 a4
          exact ⟨a3, r', m', hs'.mono (Nat.le_succ N), al, a5⟩))
      clear hn2 hM2 hMid2 hbA2 hb1 c0 c1 c2 c3 c4 c5 c6 d0 d1 d2 d3 d4 d5 d6
      go_upto_region 11 with fail
      generalize (w1.alloc (.cells #[.int .i64 wd.size, .int .i64 wd.room, .int .i64 wd.credits, .int .i64 wd.next, .slice aa w.ahead.length ca, .slice aq w.queue.length cq, .slice app w.pk.length cpp] 56)) = X at HMid2 HMD HP ⊢
      generalize w1.heap.size = nb at HC82 ⊢
      obtain ⟨c0, c1, c2, c3, c4, c5, c6⟩ := HC82.out X.drew HMD.out.mem
      obtain ⟨d0, d1, d2, d3, d4, d5, d6⟩ := HC5.out X.drew (Mem.le_trans HM2.out HMD.out.mem)
      go_region_law (go_simp; go_at_call 18; refine HP.out.mono ?_; rintro e w5 ⟨rfl, r5, m5, hso5, hal5, hS⟩; have hMid5 := HMD.out.step (Mem.le_refl _) hS (hso5); have HMid5 := Lib.hid hMid5; obtain ⟨b0, b1, b2, b3, b4, b5, b6⟩ := HC82.out w5 hMid5.mem; obtain ⟨f5, z5⟩ := hMid5.cells; have z0 := z5 0; have z1 := z5 1; have z2 := z5 2; have z3 := z5 3; have z4 := z5 4; have z55 := z5 5; have z6 := z5 6; clear hS hMid5 z5)
      all_goals
        go_wp2
        have r1 := store7_block HMid5.out.hR (.int .i64 wd.size) (.int .i64 wd.room) (.int .i64 wd.credits) (.int .i64 wd.next) (.slice aa w.ahead.length ca) (.slice aq w.queue.length cq) (.slice app w.pk.length cpp)
        have hk := store7_keeps (w5) (W.heap.size + 1 + 1) (.int .i64 wd.size) (.int .i64 wd.room) (.int .i64 wd.credits) (.int .i64 wd.next) (.slice aa w.ahead.length ca) (.slice aq w.queue.length cq) (.slice app w.pk.length cpp)
        show bodyPost _ _ _ _ _ (store7 (w5) (W.heap.size + 1 + 1) (.int .i64 wd.size) (.int .i64 wd.room) (.int .i64 wd.credits) (.int .i64 wd.next) (.slice aa w.ahead.length ca) (.slice aq w.queue.length cq) (.slice app w.pk.length cpp))
        generalize store7 (w5) (W.heap.size + 1 + 1) (.int .i64 wd.size) (.int .i64 wd.room) (.int .i64 wd.credits) (.int .i64 wd.next) (.slice aa w.ahead.length ca) (.slice aq w.queue.length cq) (.slice app w.pk.length cpp) = w2 at r1 hk ⊢
        have g0 : w2.cell? ⟨W.heap.size + 1 + 1, 0, none⟩ = some (.int .i64 wd.size) := mem_cells r1 0
        have g1 : w2.cell? ⟨W.heap.size + 1 + 1, 1, none⟩ = some (.int .i64 wd.room) := mem_cells r1 1
        have g2 : w2.cell? ⟨W.heap.size + 1 + 1, 2, none⟩ = some (.int .i64 wd.credits) := mem_cells r1 2
        have g3 : w2.cell? ⟨W.heap.size + 1 + 1, 3, none⟩ = some (.int .i64 wd.next) := mem_cells r1 3
        have g4 : w2.cell? ⟨W.heap.size + 1 + 1, 4, none⟩ = some (.slice aa w.ahead.length ca) := mem_cells r1 4
        have g5 : w2.cell? ⟨W.heap.size + 1 + 1, 5, none⟩ = some (.slice aq w.queue.length cq) := mem_cells r1 5
        have g6 : w2.cell? ⟨W.heap.size + 1 + 1, 6, none⟩ = some (.slice app w.pk.length cpp) := mem_cells r1 6
        refine bodyPost_ret (v := .tuple #[.agg #[.int .i64 wd.size, .int .i64 wd.room, .int .i64 wd.credits, .int .i64 wd.next, .slice aa w.ahead.length ca, .slice aq w.queue.length cq, .slice app w.pk.length cpp], .bool true]) (by simp [results, Try.results25, go_sem, g0, g1, g2, g3, g4, g5, g6]) rfl ?_
        have hE : refOf r5 ah (setDl x.n ps) = wd := by rw [HEQ.out]; unfold refOf; rw [hal5.size, hal5.room, hal5.credits, hal5.next, hal5.queue]
        exact ⟨_, _, _, _, M2, _, _, _, by rw [hE], HMid5.out.finish hk (by rw [hE]; exact HRF2.out), Mem.le_trans HM1.out HM2.out, by rw [hal5.count]; omega⟩
end Go.Proofs.Ytfkphdmnelchmaa
/- does: lose. -/
namespace Go.Proofs.Ytfkphdmnelchmaa
open Go.RowKit Go.Maps

set_option maxRecDepth 100000 in
set_option maxHeartbeats 8000000 in
theorem does_lose (c : Int) (base b : Nat) (M0 : Mem) (w0 : World) (F : Nat → Prop) (W : World) (r : Raw) (ah : List El) (ps : List PK) (m N kk : Nat) (M : Mem) (a q p s : Value) (x : Act20) (h : Run c base b M0 w0 F W r ah ps m N M a q p) (hx : x.el.ok) (hxn : inI64 x.n) (hx8 : 0 ≤ x.kind ∧ x.kind ≤ 255) (hs : tRow.rv M [s] x.el.row) (hkd : x.kind % 8 = 3) (hN : N ≤ 500000) (hcnt : r.count ≤ kk) (hkk : kk ≤ 2000) :
    Calls Try.prog 25 #[.pointer (some ⟨b, 0, none⟩), wV (refOf r ah ps) a q p, actV x s] W (DoesOut c base b M0 w0 F N M (kk + 1)) := by
  have hfine := h.so.fine (by omega)
  have hcn0 := h.so.cnt0
  have hl : (rcont (refOf r ah ps)).length ≤ 2000 := by rw [h.so.rcnt]; omega
  have hpl : (refOf r ah ps).pk.length ≤ 2000 := by
    have h1 := h.so.cr; have h2 := h.so.c0; have h3 := h.so.c1
    show (ps.map _).length ≤ 2000
    rw [List.length_map]; omega
  generalize hw : refOf r ah ps = w at *
  have hRun := h
  have hrf := h.rf
  rw [hw] at hrf
  obtain ⟨aa, ca, rfl, hla, hma, hra⟩ := slice_form hrf.ha
  obtain ⟨aq, cq, rfl, hlq, hmq, hrq⟩ := slice_form hrf.hq
  obtain ⟨ap, cp, rfl, hlp, hmp, hrp⟩ := slice_form hrf.hp
  obtain ⟨ax, cx, rfl, _, hmx, hs⟩ := slice_form hs
  have hca : ca ≤ 9223372036854775807 := by unfold maxLen at hma; exact hma
  have hcq : cq ≤ 9223372036854775807 := by unfold maxLen at hmq; exact hmq
  have hcp : cp ≤ 9223372036854775807 := by unfold maxLen at hmp; exact hmp
  have HW := Lib.hid hw
  have HB := Lib.hid ((((Below.refl W.heap.size W).alloc (Nat.le_refl _) (.cells #[.int .i64 w.size, .int .i64 w.room, .int .i64 w.credits, .int .i64 w.next, .slice aa w.ahead.length ca, .slice aq w.queue.length cq, .slice ap w.pk.length cp] 56)).alloc (by simp) (.cells #[.int .u8 x.kind, .int .i64 x.n, .int .i64 x.el.kind, .int .i64 x.el.n, .int .i64 x.el.time, .slice ax x.el.row.length cx, .int .i64 x.el.cn] 44)).alloc (by simp; omega) (.cells #[.int .i64 0, .int .i64 0, .int .i64 0, .int .i64 0, .slice none 0 0, .slice none 0 0, .slice none 0 0] 56))
  have y4 : (((W.alloc (.cells #[.int .i64 w.size, .int .i64 w.room, .int .i64 w.credits, .int .i64 w.next, .slice aa w.ahead.length ca, .slice aq w.queue.length cq, .slice ap w.pk.length cp] 56)).alloc (.cells #[.int .u8 x.kind, .int .i64 x.n, .int .i64 x.el.kind, .int .i64 x.el.n, .int .i64 x.el.time, .slice ax x.el.row.length cx, .int .i64 x.el.cn] 44)).alloc (.cells #[.int .i64 0, .int .i64 0, .int .i64 0, .int .i64 0, .slice none 0 0, .slice none 0 0, .slice none 0 0] 56)).heap[W.heap.size]? = some (.cells #[.int .i64 w.size, .int .i64 w.room, .int .i64 w.credits, .int .i64 w.next, .slice aa w.ahead.length ca, .slice aq w.queue.length cq, .slice ap w.pk.length cp] 56 (0, 0)) := alloc_block (alloc_block (heap_alloc_new W _) _) _
  have y5 : (((W.alloc (.cells #[.int .i64 w.size, .int .i64 w.room, .int .i64 w.credits, .int .i64 w.next, .slice aa w.ahead.length ca, .slice aq w.queue.length cq, .slice ap w.pk.length cp] 56)).alloc (.cells #[.int .u8 x.kind, .int .i64 x.n, .int .i64 x.el.kind, .int .i64 x.el.n, .int .i64 x.el.time, .slice ax x.el.row.length cx, .int .i64 x.el.cn] 44)).alloc (.cells #[.int .i64 0, .int .i64 0, .int .i64 0, .int .i64 0, .slice none 0 0, .slice none 0 0, .slice none 0 0] 56)).heap[W.heap.size + 1]? = some (.cells #[.int .u8 x.kind, .int .i64 x.n, .int .i64 x.el.kind, .int .i64 x.el.n, .int .i64 x.el.time, .slice ax x.el.row.length cx, .int .i64 x.el.cn] 44 (0, 0)) := alloc_block (by have h := heap_alloc_new (W.alloc (.cells #[.int .i64 w.size, .int .i64 w.room, .int .i64 w.credits, .int .i64 w.next, .slice aa w.ahead.length ca, .slice aq w.queue.length cq, .slice ap w.pk.length cp] 56)) (.cells #[.int .u8 x.kind, .int .i64 x.n, .int .i64 x.el.kind, .int .i64 x.el.n, .int .i64 x.el.time, .slice ax x.el.row.length cx, .int .i64 x.el.cn] 44); rwa [World.size_alloc] at h) _
  have yR : (((W.alloc (.cells #[.int .i64 w.size, .int .i64 w.room, .int .i64 w.credits, .int .i64 w.next, .slice aa w.ahead.length ca, .slice aq w.queue.length cq, .slice ap w.pk.length cp] 56)).alloc (.cells #[.int .u8 x.kind, .int .i64 x.n, .int .i64 x.el.kind, .int .i64 x.el.n, .int .i64 x.el.time, .slice ax x.el.row.length cx, .int .i64 x.el.cn] 44)).alloc (.cells #[.int .i64 0, .int .i64 0, .int .i64 0, .int .i64 0, .slice none 0 0, .slice none 0 0, .slice none 0 0] 56)).heap[W.heap.size + 1 + 1]? = some (.cells #[.int .i64 0, .int .i64 0, .int .i64 0, .int .i64 0, .slice none 0 0, .slice none 0 0, .slice none 0 0] 56 (0, 0)) := by have h := heap_alloc_new ((W.alloc (.cells #[.int .i64 w.size, .int .i64 w.room, .int .i64 w.credits, .int .i64 w.next, .slice aa w.ahead.length ca, .slice aq w.queue.length cq, .slice ap w.pk.length cp] 56)).alloc (.cells #[.int .u8 x.kind, .int .i64 x.n, .int .i64 x.el.kind, .int .i64 x.el.n, .int .i64 x.el.time, .slice ax x.el.row.length cx, .int .i64 x.el.cn] 44)) (.cells #[.int .i64 0, .int .i64 0, .int .i64 0, .int .i64 0, .slice none 0 0, .slice none 0 0, .slice none 0 0] 56); simpa only [World.size_alloc] using h
  obtain ⟨M1, hMid, hM1, hnew1⟩ := h.start HB.out (R := W.heap.size + 1 + 1) (by omega) yR
  have HRF := Lib.hid (hrf.mono hM1)
  have HHS := Lib.hid (tRow.mono _ _ _ _ hM1 hs)
  have HX := Lib.hid hx
  have HM1 := Lib.hid hM1
  have HSO := Lib.hid hRun.so
  have HF := Lib.hid hfine
  have HC4 := Lib.hid (fun (wq : World) (hq : M1.le (mem wq)) => (show wq.cell? ⟨W.heap.size, 0, none⟩ = some (.int .i64 w.size) ∧ wq.cell? ⟨W.heap.size, 1, none⟩ = some (.int .i64 w.room) ∧ wq.cell? ⟨W.heap.size, 2, none⟩ = some (.int .i64 w.credits) ∧ wq.cell? ⟨W.heap.size, 3, none⟩ = some (.int .i64 w.next) ∧ wq.cell? ⟨W.heap.size, 4, none⟩ = some (.slice aa w.ahead.length ca) ∧ wq.cell? ⟨W.heap.size, 5, none⟩ = some (.slice aq w.queue.length cq) ∧ wq.cell? ⟨W.heap.size, 6, none⟩ = some (.slice ap w.pk.length cp) from ⟨hq _ _ _ (hnew1 _ _ _ (Mem.on_some (mem_cells y4 0) ⟨by omega, by omega⟩)), hq _ _ _ (hnew1 _ _ _ (Mem.on_some (mem_cells y4 1) ⟨by omega, by omega⟩)), hq _ _ _ (hnew1 _ _ _ (Mem.on_some (mem_cells y4 2) ⟨by omega, by omega⟩)), hq _ _ _ (hnew1 _ _ _ (Mem.on_some (mem_cells y4 3) ⟨by omega, by omega⟩)), hq _ _ _ (hnew1 _ _ _ (Mem.on_some (mem_cells y4 4) ⟨by omega, by omega⟩)), hq _ _ _ (hnew1 _ _ _ (Mem.on_some (mem_cells y4 5) ⟨by omega, by omega⟩)), hq _ _ _ (hnew1 _ _ _ (Mem.on_some (mem_cells y4 6) ⟨by omega, by omega⟩))⟩))
  have HC5 := Lib.hid (fun (wq : World) (hq : M1.le (mem wq)) => (show wq.cell? ⟨W.heap.size + 1, 0, none⟩ = some (.int .u8 x.kind) ∧ wq.cell? ⟨W.heap.size + 1, 1, none⟩ = some (.int .i64 x.n) ∧ wq.cell? ⟨W.heap.size + 1, 2, none⟩ = some (.int .i64 x.el.kind) ∧ wq.cell? ⟨W.heap.size + 1, 3, none⟩ = some (.int .i64 x.el.n) ∧ wq.cell? ⟨W.heap.size + 1, 4, none⟩ = some (.int .i64 x.el.time) ∧ wq.cell? ⟨W.heap.size + 1, 5, none⟩ = some (.slice ax x.el.row.length cx) ∧ wq.cell? ⟨W.heap.size + 1, 6, none⟩ = some (.int .i64 x.el.cn) from ⟨hq _ _ _ (hnew1 _ _ _ (Mem.on_some (mem_cells y5 0) ⟨by omega, by omega⟩)), hq _ _ _ (hnew1 _ _ _ (Mem.on_some (mem_cells y5 1) ⟨by omega, by omega⟩)), hq _ _ _ (hnew1 _ _ _ (Mem.on_some (mem_cells y5 2) ⟨by omega, by omega⟩)), hq _ _ _ (hnew1 _ _ _ (Mem.on_some (mem_cells y5 3) ⟨by omega, by omega⟩)), hq _ _ _ (hnew1 _ _ _ (Mem.on_some (mem_cells y5 4) ⟨by omega, by omega⟩)), hq _ _ _ (hnew1 _ _ _ (Mem.on_some (mem_cells y5 5) ⟨by omega, by omega⟩)), hq _ _ _ (hnew1 _ _ _ (Mem.on_some (mem_cells y5 6) ⟨by omega, by omega⟩))⟩))
  clear y4 y5 yR hnew1 hra hrq hrp hma hmq hmp hmx hs h hrf hw hx hRun hfine hM1
  go_enter Try.func25, Try.ntmps25
  go_upto_region 1 with fail
  generalize ((W.alloc (.cells #[.int .i64 w.size, .int .i64 w.room, .int .i64 w.credits, .int .i64 w.next, .slice aa w.ahead.length ca, .slice aq w.queue.length cq, .slice ap w.pk.length cp] 56)).alloc (.cells #[.int .u8 x.kind, .int .i64 x.n, .int .i64 x.el.kind, .int .i64 x.el.n, .int .i64 x.el.time, .slice ax x.el.row.length cx, .int .i64 x.el.cn] 44)).alloc (.cells #[.int .i64 0, .int .i64 0, .int .i64 0, .int .i64 0, .slice none 0 0, .slice none 0 0, .slice none 0 0] 56) = Y at HB hMid ⊢
  have HMid := Lib.hid hMid
  obtain ⟨c0, c1, c2, c3, c4, c5, c6⟩ := HC4.out Y hMid.mem
  obtain ⟨d0, d1, d2, d3, d4, d5, d6⟩ := HC5.out Y hMid.mem
  clear hMid
  go_upto_region 2 with fail
  rw [hkd]
  have HPK := Lib.hid (show w.pk = ps.map (fun p => (⟨p.num, p.els, p.dl⟩ : RP)) by rw [← HW.out]; rfl)
  obtain ⟨lk, hlk⟩ : ∃ lk : Int, (if (r.way x.n).isSome = true then 0 else 8) = lk := ⟨_, rfl⟩
  have HLR := Lib.hid (fun (wq : World) (hq : M1.le (mem wq)) => (show Calls Try.prog 51 #[wV w (.slice aa w.ahead.length ca) (.slice aq w.queue.length cq) (.slice ap w.pk.length cp), .int .i64 x.n] wq (fun e W' => e = .returned (.int .i64 lk) ∧ Below wq.heap.size wq W') from
    (refLose_any w _ _ _ M1 wq hq HRF.out x.n (by omega)).mono (fun e W' ⟨⟨i, k, he, hf, hik⟩, hb⟩ => ⟨by
      rw [he, ← hlk]
      have hno : (∀ p ∈ w.pk, p.num = x.n → p.dl = true) → r.way x.n = none := fun hall => by
        cases hw : r.way x.n with
        | none => rfl
        | some ad =>
          obtain ⟨p, hp, h1, _, h3⟩ := (HSO.out.way _ _).1 hw
          have := hall ⟨p.num, p.els, p.dl⟩ (by rw [HPK.out]; exact List.mem_map.2 ⟨p, hp, rfl⟩) h1
          rw [show p.dl = true from this] at h3; cases h3
      rcases hik with ⟨rfl, rfl⟩ | ⟨j, hj, rfl, rfl⟩
      · rcases hf with ⟨k2, hk2, e2, _⟩ | ⟨_, hall⟩
        · exfalso; omega
        · rw [hno (fun p hp e => absurd e (hall p hp))]; rfl
      · rcases hf with ⟨k2, hk2, e2, hn2, _⟩ | ⟨e2, _⟩
        · obtain rfl : j = k2 := by omega
          have hjp : j < ps.length := by have := hj; rw [HPK.out] at this; simpa using this
          have hpj : w.pk[j] = ⟨ps[j].num, ps[j].els, ps[j].dl⟩ := by
            have : ∀ (l : List RP) (h1 : j < l.length), w.pk = l → w.pk[j] = l[j] := fun l h1 e => by subst e; rfl
            rw [this _ (by simpa using hjp) HPK.out, List.getElem_map]
          rw [hpj] at hn2 ⊢
          cases hd : ps[j].dl with
          | true =>
            rw [hno (fun p hp e => by
              rw [HPK.out] at hp
              obtain ⟨p0, hp0, rfl⟩ := List.mem_map.1 hp
              have := HSO.out.toSimX.inj hp0 (List.getElem_mem hjp) (e.trans hn2.symm)
              show p0.dl = true
              rw [this, hd])]
            rfl
          | false =>
            rw [(HSO.out.way x.n ps[j].ad).2 ⟨ps[j], List.getElem_mem hjp, hn2, rfl, hd⟩]; rfl
        · exfalso; omega, hb⟩)))
  have HLW := Lib.hid (fun (wq : World) (hq : Mid c base b M0 w0 F (W.heap.size + 1 + 1) wq r ah ps m N M1) => (show Calls Try.prog 19 #[.pointer (some ⟨b, 0, none⟩), .int .i64 x.n] wq (fun e W' => e = .returned (.int .i64 lk) ∧ Mid c base b M0 w0 F (W.heap.size + 1 + 1) W' r ah ps m (N + 1) M1) from
    (st_lose hq.st x.n hxn).mono (fun e W' ⟨h1, h2⟩ => ⟨by rw [h1, hlk], hq.step (Mem.le_refl _) h2 (HSO.out.mono (Nat.le_succ N))⟩)))
  have HS := Lib.hid (fun (w' : World) (hq : M1.le (mem w')) => (show w'.cell? ⟨W.heap.size, 0, none⟩ = some (.int .i64 w.size) ∧ w'.cell? ⟨W.heap.size, 1, none⟩ = some (.int .i64 w.room) ∧ w'.cell? ⟨W.heap.size, 2, none⟩ = some (.int .i64 w.credits) ∧ w'.cell? ⟨W.heap.size, 3, none⟩ = some (.int .i64 w.next) ∧ w'.cell? ⟨W.heap.size, 4, none⟩ = some (.slice aa w.ahead.length ca) ∧ w'.cell? ⟨W.heap.size, 5, none⟩ = some (.slice aq w.queue.length cq) ∧ w'.cell? ⟨W.heap.size, 6, none⟩ = some (.slice ap w.pk.length cp) ∧ w'.cell? ⟨W.heap.size + 1, 1, none⟩ = some (.int .i64 x.n) from ⟨(HC4.out w' hq).1, (HC4.out w' hq).2.1, (HC4.out w' hq).2.2.1, (HC4.out w' hq).2.2.2.1, (HC4.out w' hq).2.2.2.2.1, (HC4.out w' hq).2.2.2.2.2.1, (HC4.out w' hq).2.2.2.2.2.2, (HC5.out w' hq).2.1⟩))
  have HMD := Lib.hid (HMid.out.pure (Below.refl _ _).drew)
  clear hlk c0 c1 c2 c3 c4 c5 c6 d0 d1 d2 d3 d4 d5 d6
  go_upto_region 13 with fail
  have s0 := HS.out Y.drew HMD.out.mem
  have HSR := Lib.hid (fun (wq : World) (hq : Mid c base b M0 w0 F (W.heap.size + 1 + 1) wq r ah ps m (N + 1) M1) => (show (((((((wq.setCell ⟨W.heap.size + 1 + 1, 0, none⟩ (.int .i64 w.size)).setCell ⟨W.heap.size + 1 + 1, 1, none⟩ (.int .i64 w.room)).setCell ⟨W.heap.size + 1 + 1, 2, none⟩ (.int .i64 w.credits)).setCell ⟨W.heap.size + 1 + 1, 3, none⟩ (.int .i64 w.next)).setCell ⟨W.heap.size + 1 + 1, 4, none⟩ (.slice aa w.ahead.length ca)).setCell ⟨W.heap.size + 1 + 1, 5, none⟩ (.slice aq w.queue.length cq)).setCell ⟨W.heap.size + 1 + 1, 6, none⟩ (.slice ap w.pk.length cp)).cell? ⟨W.heap.size, 0, none⟩ = some (.int .i64 w.size) ∧ (((((((wq.setCell ⟨W.heap.size + 1 + 1, 0, none⟩ (.int .i64 w.size)).setCell ⟨W.heap.size + 1 + 1, 1, none⟩ (.int .i64 w.room)).setCell ⟨W.heap.size + 1 + 1, 2, none⟩ (.int .i64 w.credits)).setCell ⟨W.heap.size + 1 + 1, 3, none⟩ (.int .i64 w.next)).setCell ⟨W.heap.size + 1 + 1, 4, none⟩ (.slice aa w.ahead.length ca)).setCell ⟨W.heap.size + 1 + 1, 5, none⟩ (.slice aq w.queue.length cq)).setCell ⟨W.heap.size + 1 + 1, 6, none⟩ (.slice ap w.pk.length cp)).cell? ⟨W.heap.size, 1, none⟩ = some (.int .i64 w.room) ∧ (((((((wq.setCell ⟨W.heap.size + 1 + 1, 0, none⟩ (.int .i64 w.size)).setCell ⟨W.heap.size + 1 + 1, 1, none⟩ (.int .i64 w.room)).setCell ⟨W.heap.size + 1 + 1, 2, none⟩ (.int .i64 w.credits)).setCell ⟨W.heap.size + 1 + 1, 3, none⟩ (.int .i64 w.next)).setCell ⟨W.heap.size + 1 + 1, 4, none⟩ (.slice aa w.ahead.length ca)).setCell ⟨W.heap.size + 1 + 1, 5, none⟩ (.slice aq w.queue.length cq)).setCell ⟨W.heap.size + 1 + 1, 6, none⟩ (.slice ap w.pk.length cp)).cell? ⟨W.heap.size, 2, none⟩ = some (.int .i64 w.credits) ∧ (((((((wq.setCell ⟨W.heap.size + 1 + 1, 0, none⟩ (.int .i64 w.size)).setCell ⟨W.heap.size + 1 + 1, 1, none⟩ (.int .i64 w.room)).setCell ⟨W.heap.size + 1 + 1, 2, none⟩ (.int .i64 w.credits)).setCell ⟨W.heap.size + 1 + 1, 3, none⟩ (.int .i64 w.next)).setCell ⟨W.heap.size + 1 + 1, 4, none⟩ (.slice aa w.ahead.length ca)).setCell ⟨W.heap.size + 1 + 1, 5, none⟩ (.slice aq w.queue.length cq)).setCell ⟨W.heap.size + 1 + 1, 6, none⟩ (.slice ap w.pk.length cp)).cell? ⟨W.heap.size, 3, none⟩ = some (.int .i64 w.next) ∧ (((((((wq.setCell ⟨W.heap.size + 1 + 1, 0, none⟩ (.int .i64 w.size)).setCell ⟨W.heap.size + 1 + 1, 1, none⟩ (.int .i64 w.room)).setCell ⟨W.heap.size + 1 + 1, 2, none⟩ (.int .i64 w.credits)).setCell ⟨W.heap.size + 1 + 1, 3, none⟩ (.int .i64 w.next)).setCell ⟨W.heap.size + 1 + 1, 4, none⟩ (.slice aa w.ahead.length ca)).setCell ⟨W.heap.size + 1 + 1, 5, none⟩ (.slice aq w.queue.length cq)).setCell ⟨W.heap.size + 1 + 1, 6, none⟩ (.slice ap w.pk.length cp)).cell? ⟨W.heap.size, 4, none⟩ = some (.slice aa w.ahead.length ca) ∧ (((((((wq.setCell ⟨W.heap.size + 1 + 1, 0, none⟩ (.int .i64 w.size)).setCell ⟨W.heap.size + 1 + 1, 1, none⟩ (.int .i64 w.room)).setCell ⟨W.heap.size + 1 + 1, 2, none⟩ (.int .i64 w.credits)).setCell ⟨W.heap.size + 1 + 1, 3, none⟩ (.int .i64 w.next)).setCell ⟨W.heap.size + 1 + 1, 4, none⟩ (.slice aa w.ahead.length ca)).setCell ⟨W.heap.size + 1 + 1, 5, none⟩ (.slice aq w.queue.length cq)).setCell ⟨W.heap.size + 1 + 1, 6, none⟩ (.slice ap w.pk.length cp)).cell? ⟨W.heap.size, 5, none⟩ = some (.slice aq w.queue.length cq) ∧ (((((((wq.setCell ⟨W.heap.size + 1 + 1, 0, none⟩ (.int .i64 w.size)).setCell ⟨W.heap.size + 1 + 1, 1, none⟩ (.int .i64 w.room)).setCell ⟨W.heap.size + 1 + 1, 2, none⟩ (.int .i64 w.credits)).setCell ⟨W.heap.size + 1 + 1, 3, none⟩ (.int .i64 w.next)).setCell ⟨W.heap.size + 1 + 1, 4, none⟩ (.slice aa w.ahead.length ca)).setCell ⟨W.heap.size + 1 + 1, 5, none⟩ (.slice aq w.queue.length cq)).setCell ⟨W.heap.size + 1 + 1, 6, none⟩ (.slice ap w.pk.length cp)).cell? ⟨W.heap.size, 6, none⟩ = some (.slice ap w.pk.length cp) ∧ (((((((wq.setCell ⟨W.heap.size + 1 + 1, 0, none⟩ (.int .i64 w.size)).setCell ⟨W.heap.size + 1 + 1, 1, none⟩ (.int .i64 w.room)).setCell ⟨W.heap.size + 1 + 1, 2, none⟩ (.int .i64 w.credits)).setCell ⟨W.heap.size + 1 + 1, 3, none⟩ (.int .i64 w.next)).setCell ⟨W.heap.size + 1 + 1, 4, none⟩ (.slice aa w.ahead.length ca)).setCell ⟨W.heap.size + 1 + 1, 5, none⟩ (.slice aq w.queue.length cq)).setCell ⟨W.heap.size + 1 + 1, 6, none⟩ (.slice ap w.pk.length cp)).cell? ⟨W.heap.size + 1, 1, none⟩ = some (.int .i64 x.n) from HS.out _ (hq.stored (store7_keeps wq (W.heap.size + 1 + 1) (.int .i64 w.size) (.int .i64 w.room) (.int .i64 w.credits) (.int .i64 w.next) (.slice aa w.ahead.length ca) (.slice aq w.queue.length cq) (.slice ap w.pk.length cp)))))
  have HLW1 := Lib.hid (HLW.out Y.drew HMD.out)
  have HLR1 := Lib.hid (HLR.out Y.drew HMD.out.mem)
  go_region_held3 (fun w' => w'.cell? ⟨W.heap.size, 0, none⟩ = some (.int .i64 w.size) ∧ w'.cell? ⟨W.heap.size, 1, none⟩ = some (.int .i64 w.room) ∧ w'.cell? ⟨W.heap.size, 2, none⟩ = some (.int .i64 w.credits) ∧ w'.cell? ⟨W.heap.size, 3, none⟩ = some (.int .i64 w.next) ∧ w'.cell? ⟨W.heap.size, 4, none⟩ = some (.slice aa w.ahead.length ca) ∧ w'.cell? ⟨W.heap.size, 5, none⟩ = some (.slice aq w.queue.length cq) ∧ w'.cell? ⟨W.heap.size, 6, none⟩ = some (.slice ap w.pk.length cp) ∧ w'.cell? ⟨W.heap.size + 1, 1, none⟩ = some (.int .i64 x.n)) (first | with_reducible exact s0 | with_reducible exact HS.out w5 hm5 | with_reducible exact HS.out w6 hm6 | with_reducible exact HSR.out w6 HMid6.out | with_reducible exact HSR.out w5 HMid5.out | go_keep)
    ((first
      | (go_at_call 19; (first | refine (HLW.out w6 (HMD.out.pure hb6)).mono ?_ | refine HLW1.out.mono ?_); rintro e w5 ⟨rfl, hMid5⟩; have hm5 := hMid5.mem; have HMid5 := Lib.hid hMid5; obtain ⟨f5, z5⟩ := hMid5.cells; have z0 := z5 0; have z1 := z5 1; have z2 := z5 2; have z3 := z5 3; have z4 := z5 4; have z55 := z5 5; have z6 := z5 6; clear hMid5 z5)
      | (go_at_call 51; (first | refine (HLR.out w5 HMid5.out.mem).mono ?_ | refine HLR1.out.mono ?_); rintro e w6 ⟨rfl, hb6⟩; (first | (have hMid6 := HMid5.out.pure hb6; have hm6 := hMid6.mem; have HMid6 := Lib.hid hMid6; obtain ⟨f6, z6x⟩ := hMid6.cells; have q0 := z6x 0; have q1 := z6x 1; have q2 := z6x 2; have q3 := z6x 3; have q4 := z6x 4; have q5 := z6x 5; have q6 := z6x 6; clear hMid6 z6x) | (have hm6 := (HMD.out.pure hb6).mem)))))
  all_goals
    first
      | (go_wp2
         have r1 := store7_block HMid6.out.hR (.int .i64 w.size) (.int .i64 w.room) (.int .i64 w.credits) (.int .i64 w.next) (.slice aa w.ahead.length ca) (.slice aq w.queue.length cq) (.slice ap w.pk.length cp)
         have hk := store7_keeps (w6) (W.heap.size + 1 + 1) (.int .i64 w.size) (.int .i64 w.room) (.int .i64 w.credits) (.int .i64 w.next) (.slice aa w.ahead.length ca) (.slice aq w.queue.length cq) (.slice ap w.pk.length cp)
         show bodyPost _ _ _ _ _ (store7 (w6) (W.heap.size + 1 + 1) (.int .i64 w.size) (.int .i64 w.room) (.int .i64 w.credits) (.int .i64 w.next) (.slice aa w.ahead.length ca) (.slice aq w.queue.length cq) (.slice ap w.pk.length cp))
         generalize store7 (w6) (W.heap.size + 1 + 1) (.int .i64 w.size) (.int .i64 w.room) (.int .i64 w.credits) (.int .i64 w.next) (.slice aa w.ahead.length ca) (.slice aq w.queue.length cq) (.slice ap w.pk.length cp) = w2 at r1 hk ⊢
         have g0 : w2.cell? ⟨W.heap.size + 1 + 1, 0, none⟩ = some (.int .i64 w.size) := mem_cells r1 0
         have g1 : w2.cell? ⟨W.heap.size + 1 + 1, 1, none⟩ = some (.int .i64 w.room) := mem_cells r1 1
         have g2 : w2.cell? ⟨W.heap.size + 1 + 1, 2, none⟩ = some (.int .i64 w.credits) := mem_cells r1 2
         have g3 : w2.cell? ⟨W.heap.size + 1 + 1, 3, none⟩ = some (.int .i64 w.next) := mem_cells r1 3
         have g4 : w2.cell? ⟨W.heap.size + 1 + 1, 4, none⟩ = some (.slice aa w.ahead.length ca) := mem_cells r1 4
         have g5 : w2.cell? ⟨W.heap.size + 1 + 1, 5, none⟩ = some (.slice aq w.queue.length cq) := mem_cells r1 5
         have g6 : w2.cell? ⟨W.heap.size + 1 + 1, 6, none⟩ = some (.slice ap w.pk.length cp) := mem_cells r1 6
         refine bodyPost_ret (v := .tuple #[.agg #[.int .i64 w.size, .int .i64 w.room, .int .i64 w.credits, .int .i64 w.next, .slice aa w.ahead.length ca, .slice aq w.queue.length cq, .slice ap w.pk.length cp], .bool true]) (by simp [results, Try.results25, go_sem, g0, g1, g2, g3, g4, g5, g6]) rfl ?_
         refine ⟨r, ah, ps, m, M1, _, _, _, by rw [HW.out], HMid6.out.finish hk (by rw [HW.out]; exact HRF.out), HM1.out, by omega⟩)
      | (go_wp2
         have r1 := store7_block HMid5.out.hR (.int .i64 w.size) (.int .i64 w.room) (.int .i64 w.credits) (.int .i64 w.next) (.slice aa w.ahead.length ca) (.slice aq w.queue.length cq) (.slice ap w.pk.length cp)
         have hk := store7_keeps (w5) (W.heap.size + 1 + 1) (.int .i64 w.size) (.int .i64 w.room) (.int .i64 w.credits) (.int .i64 w.next) (.slice aa w.ahead.length ca) (.slice aq w.queue.length cq) (.slice ap w.pk.length cp)
         show bodyPost _ _ _ _ _ (store7 (w5) (W.heap.size + 1 + 1) (.int .i64 w.size) (.int .i64 w.room) (.int .i64 w.credits) (.int .i64 w.next) (.slice aa w.ahead.length ca) (.slice aq w.queue.length cq) (.slice ap w.pk.length cp))
         generalize store7 (w5) (W.heap.size + 1 + 1) (.int .i64 w.size) (.int .i64 w.room) (.int .i64 w.credits) (.int .i64 w.next) (.slice aa w.ahead.length ca) (.slice aq w.queue.length cq) (.slice ap w.pk.length cp) = w2 at r1 hk ⊢
         have g0 : w2.cell? ⟨W.heap.size + 1 + 1, 0, none⟩ = some (.int .i64 w.size) := mem_cells r1 0
         have g1 : w2.cell? ⟨W.heap.size + 1 + 1, 1, none⟩ = some (.int .i64 w.room) := mem_cells r1 1
         have g2 : w2.cell? ⟨W.heap.size + 1 + 1, 2, none⟩ = some (.int .i64 w.credits) := mem_cells r1 2
         have g3 : w2.cell? ⟨W.heap.size + 1 + 1, 3, none⟩ = some (.int .i64 w.next) := mem_cells r1 3
         have g4 : w2.cell? ⟨W.heap.size + 1 + 1, 4, none⟩ = some (.slice aa w.ahead.length ca) := mem_cells r1 4
         have g5 : w2.cell? ⟨W.heap.size + 1 + 1, 5, none⟩ = some (.slice aq w.queue.length cq) := mem_cells r1 5
         have g6 : w2.cell? ⟨W.heap.size + 1 + 1, 6, none⟩ = some (.slice ap w.pk.length cp) := mem_cells r1 6
         refine bodyPost_ret (v := .tuple #[.agg #[.int .i64 w.size, .int .i64 w.room, .int .i64 w.credits, .int .i64 w.next, .slice aa w.ahead.length ca, .slice aq w.queue.length cq, .slice ap w.pk.length cp], .bool true]) (by simp [results, Try.results25, go_sem, g0, g1, g2, g3, g4, g5, g6]) rfl ?_
         refine ⟨r, ah, ps, m, M1, _, _, _, by rw [HW.out], HMid5.out.finish hk (by rw [HW.out]; exact HRF.out), HM1.out, by omega⟩)
end Go.Proofs.Ytfkphdmnelchmaa
/- does: peek. -/
namespace Go.Proofs.Ytfkphdmnelchmaa
open Go.RowKit Go.Maps

theorem rbuf_ref {r : Raw} {ah : List El} {ps : List PK} {m : Nat} (h : Sim r ah ps m) : rbuf (refOf r ah ps) = r.buffer.map (·.el) := by
  have hm := h.hm
  have e1 : (refOf r ah ps).pk.takeWhile (·.dl) = (refOf r ah ps).pk.take m := by
    refine takeWhile_take (by show m ≤ (ps.map _).length; rw [List.length_map]; exact hm) (fun j hj hjm => ?_) (fun hj => ?_)
    · have hj' : j < ps.length := by have : j < (ps.map _).length := hj; simpa using this
      show ((ps.map fun p => (⟨p.num, p.els, p.dl⟩ : RP))[j]'(by simpa using hj')).dl = true
      rw [List.getElem_map]
      exact h.dl j hj' hjm
    · have hj' : m < ps.length := by have : m < (ps.map _).length := hj; simpa using this
      show ((ps.map fun p => (⟨p.num, p.els, p.dl⟩ : RP))[m]'(by simpa using hj')).dl = false
      rw [List.getElem_map]
      show ps[m].dl = false
      cases e : ps[m].dl with
      | false => rfl
      | true =>
        have hn := h.num m hj'
        have ht := h.tu
        have := (h.early r.turn ps[m].ad).2 ⟨ps[m], List.getElem_mem hj', by omega, rfl, e, Int.le_refl _⟩
        rw [h.tn] at this; cases this
  unfold rbuf
  rw [e1, h.buf, List.map_append, List.map_map, List.map_flatMap]
  show ah ++ ((ps.map fun p => (⟨p.num, p.els, p.dl⟩ : RP)).take m).flatMap (·.els) = _
  rw [← List.map_take, List.flatMap_map]
  congr 1
  · simp [Function.comp_def]
  · exact flatMap_congr' fun p _ => by simp [pkItems, Function.comp_def]
theorem st_peek {base b N : Nat} {W : World} {r : Raw} {M : Mem} {F : Nat → Prop} (h : St base b W r N M F) (hf : Fine r) : Calls Try.prog 36 #[.pointer (some ⟨b, 0, none⟩)] W (PeekOut W r) := by
  obtain ⟨L, i, h1, h2, hM, hF⟩ := h
  exact peek_any base b L r W i hf.br

set_option maxRecDepth 100000 in
set_option maxHeartbeats 8000000 in
theorem does_peek (c : Int) (base b : Nat) (M0 : Mem) (w0 : World) (F : Nat → Prop) (W : World) (r : Raw) (ah : List El) (ps : List PK) (m N kk : Nat) (M : Mem) (a q p s : Value) (x : Act20) (h : Run c base b M0 w0 F W r ah ps m N M a q p) (hx : x.el.ok) (hxn : inI64 x.n) (hx8 : 0 ≤ x.kind ∧ x.kind ≤ 255) (hs : tRow.rv M [s] x.el.row) (hkd : x.kind % 8 = 5) (hN : N ≤ 500000) (hcnt : r.count ≤ kk) (hkk : kk ≤ 2000) :
    Calls Try.prog 25 #[.pointer (some ⟨b, 0, none⟩), wV (refOf r ah ps) a q p, actV x s] W (DoesOut c base b M0 w0 F N M (kk + 1)) := by
  have hfine := h.so.fine (by omega)
  have hcn0 := h.so.cnt0
  have hl : (rcont (refOf r ah ps)).length ≤ 2000 := by rw [h.so.rcnt]; omega
  have hpl : (refOf r ah ps).pk.length ≤ 2000 := by
    have h1 := h.so.cr; have h2 := h.so.c0; have h3 := h.so.c1
    show (ps.map _).length ≤ 2000
    rw [List.length_map]; omega
  generalize hw : refOf r ah ps = w at *
  have hRun := h
  have hrf := h.rf
  rw [hw] at hrf
  obtain ⟨aa, ca, rfl, hla, hma, hra⟩ := slice_form hrf.ha
  obtain ⟨aq, cq, rfl, hlq, hmq, hrq⟩ := slice_form hrf.hq
  obtain ⟨ap, cp, rfl, hlp, hmp, hrp⟩ := slice_form hrf.hp
  obtain ⟨ax, cx, rfl, _, hmx, hs⟩ := slice_form hs
  have hca : ca ≤ 9223372036854775807 := by unfold maxLen at hma; exact hma
  have hcq : cq ≤ 9223372036854775807 := by unfold maxLen at hmq; exact hmq
  have hcp : cp ≤ 9223372036854775807 := by unfold maxLen at hmp; exact hmp
  have HW := Lib.hid hw
  have HB := Lib.hid ((((Below.refl W.heap.size W).alloc (Nat.le_refl _) (.cells #[.int .i64 w.size, .int .i64 w.room, .int .i64 w.credits, .int .i64 w.next, .slice aa w.ahead.length ca, .slice aq w.queue.length cq, .slice ap w.pk.length cp] 56)).alloc (by simp) (.cells #[.int .u8 x.kind, .int .i64 x.n, .int .i64 x.el.kind, .int .i64 x.el.n, .int .i64 x.el.time, .slice ax x.el.row.length cx, .int .i64 x.el.cn] 44)).alloc (by simp; omega) (.cells #[.int .i64 0, .int .i64 0, .int .i64 0, .int .i64 0, .slice none 0 0, .slice none 0 0, .slice none 0 0] 56))
  have y4 : (((W.alloc (.cells #[.int .i64 w.size, .int .i64 w.room, .int .i64 w.credits, .int .i64 w.next, .slice aa w.ahead.length ca, .slice aq w.queue.length cq, .slice ap w.pk.length cp] 56)).alloc (.cells #[.int .u8 x.kind, .int .i64 x.n, .int .i64 x.el.kind, .int .i64 x.el.n, .int .i64 x.el.time, .slice ax x.el.row.length cx, .int .i64 x.el.cn] 44)).alloc (.cells #[.int .i64 0, .int .i64 0, .int .i64 0, .int .i64 0, .slice none 0 0, .slice none 0 0, .slice none 0 0] 56)).heap[W.heap.size]? = some (.cells #[.int .i64 w.size, .int .i64 w.room, .int .i64 w.credits, .int .i64 w.next, .slice aa w.ahead.length ca, .slice aq w.queue.length cq, .slice ap w.pk.length cp] 56 (0, 0)) := alloc_block (alloc_block (heap_alloc_new W _) _) _
  have y5 : (((W.alloc (.cells #[.int .i64 w.size, .int .i64 w.room, .int .i64 w.credits, .int .i64 w.next, .slice aa w.ahead.length ca, .slice aq w.queue.length cq, .slice ap w.pk.length cp] 56)).alloc (.cells #[.int .u8 x.kind, .int .i64 x.n, .int .i64 x.el.kind, .int .i64 x.el.n, .int .i64 x.el.time, .slice ax x.el.row.length cx, .int .i64 x.el.cn] 44)).alloc (.cells #[.int .i64 0, .int .i64 0, .int .i64 0, .int .i64 0, .slice none 0 0, .slice none 0 0, .slice none 0 0] 56)).heap[W.heap.size + 1]? = some (.cells #[.int .u8 x.kind, .int .i64 x.n, .int .i64 x.el.kind, .int .i64 x.el.n, .int .i64 x.el.time, .slice ax x.el.row.length cx, .int .i64 x.el.cn] 44 (0, 0)) := alloc_block (by have h := heap_alloc_new (W.alloc (.cells #[.int .i64 w.size, .int .i64 w.room, .int .i64 w.credits, .int .i64 w.next, .slice aa w.ahead.length ca, .slice aq w.queue.length cq, .slice ap w.pk.length cp] 56)) (.cells #[.int .u8 x.kind, .int .i64 x.n, .int .i64 x.el.kind, .int .i64 x.el.n, .int .i64 x.el.time, .slice ax x.el.row.length cx, .int .i64 x.el.cn] 44); rwa [World.size_alloc] at h) _
  have yR : (((W.alloc (.cells #[.int .i64 w.size, .int .i64 w.room, .int .i64 w.credits, .int .i64 w.next, .slice aa w.ahead.length ca, .slice aq w.queue.length cq, .slice ap w.pk.length cp] 56)).alloc (.cells #[.int .u8 x.kind, .int .i64 x.n, .int .i64 x.el.kind, .int .i64 x.el.n, .int .i64 x.el.time, .slice ax x.el.row.length cx, .int .i64 x.el.cn] 44)).alloc (.cells #[.int .i64 0, .int .i64 0, .int .i64 0, .int .i64 0, .slice none 0 0, .slice none 0 0, .slice none 0 0] 56)).heap[W.heap.size + 1 + 1]? = some (.cells #[.int .i64 0, .int .i64 0, .int .i64 0, .int .i64 0, .slice none 0 0, .slice none 0 0, .slice none 0 0] 56 (0, 0)) := by have h := heap_alloc_new ((W.alloc (.cells #[.int .i64 w.size, .int .i64 w.room, .int .i64 w.credits, .int .i64 w.next, .slice aa w.ahead.length ca, .slice aq w.queue.length cq, .slice ap w.pk.length cp] 56)).alloc (.cells #[.int .u8 x.kind, .int .i64 x.n, .int .i64 x.el.kind, .int .i64 x.el.n, .int .i64 x.el.time, .slice ax x.el.row.length cx, .int .i64 x.el.cn] 44)) (.cells #[.int .i64 0, .int .i64 0, .int .i64 0, .int .i64 0, .slice none 0 0, .slice none 0 0, .slice none 0 0] 56); simpa only [World.size_alloc] using h
  obtain ⟨M1, hMid, hM1, hnew1⟩ := h.start HB.out (R := W.heap.size + 1 + 1) (by omega) yR
  have HRF := Lib.hid (hrf.mono hM1)
  have HHS := Lib.hid (tRow.mono _ _ _ _ hM1 hs)
  have HX := Lib.hid hx
  have HM1 := Lib.hid hM1
  have HSO := Lib.hid hRun.so
  have HF := Lib.hid hfine
  have HC4 := Lib.hid (fun (wq : World) (hq : M1.le (mem wq)) => (show wq.cell? ⟨W.heap.size, 0, none⟩ = some (.int .i64 w.size) ∧ wq.cell? ⟨W.heap.size, 1, none⟩ = some (.int .i64 w.room) ∧ wq.cell? ⟨W.heap.size, 2, none⟩ = some (.int .i64 w.credits) ∧ wq.cell? ⟨W.heap.size, 3, none⟩ = some (.int .i64 w.next) ∧ wq.cell? ⟨W.heap.size, 4, none⟩ = some (.slice aa w.ahead.length ca) ∧ wq.cell? ⟨W.heap.size, 5, none⟩ = some (.slice aq w.queue.length cq) ∧ wq.cell? ⟨W.heap.size, 6, none⟩ = some (.slice ap w.pk.length cp) from ⟨hq _ _ _ (hnew1 _ _ _ (Mem.on_some (mem_cells y4 0) ⟨by omega, by omega⟩)), hq _ _ _ (hnew1 _ _ _ (Mem.on_some (mem_cells y4 1) ⟨by omega, by omega⟩)), hq _ _ _ (hnew1 _ _ _ (Mem.on_some (mem_cells y4 2) ⟨by omega, by omega⟩)), hq _ _ _ (hnew1 _ _ _ (Mem.on_some (mem_cells y4 3) ⟨by omega, by omega⟩)), hq _ _ _ (hnew1 _ _ _ (Mem.on_some (mem_cells y4 4) ⟨by omega, by omega⟩)), hq _ _ _ (hnew1 _ _ _ (Mem.on_some (mem_cells y4 5) ⟨by omega, by omega⟩)), hq _ _ _ (hnew1 _ _ _ (Mem.on_some (mem_cells y4 6) ⟨by omega, by omega⟩))⟩))
  have HC5 := Lib.hid (fun (wq : World) (hq : M1.le (mem wq)) => (show wq.cell? ⟨W.heap.size + 1, 0, none⟩ = some (.int .u8 x.kind) ∧ wq.cell? ⟨W.heap.size + 1, 1, none⟩ = some (.int .i64 x.n) ∧ wq.cell? ⟨W.heap.size + 1, 2, none⟩ = some (.int .i64 x.el.kind) ∧ wq.cell? ⟨W.heap.size + 1, 3, none⟩ = some (.int .i64 x.el.n) ∧ wq.cell? ⟨W.heap.size + 1, 4, none⟩ = some (.int .i64 x.el.time) ∧ wq.cell? ⟨W.heap.size + 1, 5, none⟩ = some (.slice ax x.el.row.length cx) ∧ wq.cell? ⟨W.heap.size + 1, 6, none⟩ = some (.int .i64 x.el.cn) from ⟨hq _ _ _ (hnew1 _ _ _ (Mem.on_some (mem_cells y5 0) ⟨by omega, by omega⟩)), hq _ _ _ (hnew1 _ _ _ (Mem.on_some (mem_cells y5 1) ⟨by omega, by omega⟩)), hq _ _ _ (hnew1 _ _ _ (Mem.on_some (mem_cells y5 2) ⟨by omega, by omega⟩)), hq _ _ _ (hnew1 _ _ _ (Mem.on_some (mem_cells y5 3) ⟨by omega, by omega⟩)), hq _ _ _ (hnew1 _ _ _ (Mem.on_some (mem_cells y5 4) ⟨by omega, by omega⟩)), hq _ _ _ (hnew1 _ _ _ (Mem.on_some (mem_cells y5 5) ⟨by omega, by omega⟩)), hq _ _ _ (hnew1 _ _ _ (Mem.on_some (mem_cells y5 6) ⟨by omega, by omega⟩))⟩))
  clear y4 y5 yR hnew1 hra hrq hrp hma hmq hmp hmx hs h hrf hw hx hRun hfine hM1
  go_enter Try.func25, Try.ntmps25
  go_upto_region 1 with fail
  generalize ((W.alloc (.cells #[.int .i64 w.size, .int .i64 w.room, .int .i64 w.credits, .int .i64 w.next, .slice aa w.ahead.length ca, .slice aq w.queue.length cq, .slice ap w.pk.length cp] 56)).alloc (.cells #[.int .u8 x.kind, .int .i64 x.n, .int .i64 x.el.kind, .int .i64 x.el.n, .int .i64 x.el.time, .slice ax x.el.row.length cx, .int .i64 x.el.cn] 44)).alloc (.cells #[.int .i64 0, .int .i64 0, .int .i64 0, .int .i64 0, .slice none 0 0, .slice none 0 0, .slice none 0 0] 56) = Y at HB hMid ⊢
  have HMid := Lib.hid hMid
  obtain ⟨c0, c1, c2, c3, c4, c5, c6⟩ := HC4.out Y hMid.mem
  obtain ⟨d0, d1, d2, d3, d4, d5, d6⟩ := HC5.out Y hMid.mem
  clear hMid
  go_upto_region 2 with fail
  rw [hkd]
  have HBUF := Lib.hid (show rbuf w = r.buffer.map (·.el) by rw [← HW.out]; exact rbuf_ref HSO.out.toSim)
  go_wp2_with fail
  refine (st_peek HMid.out.st HF.out).mono ?_
  rintro e w1 ⟨hb1, hp⟩
  rcases hp with ⟨hbuf, rfl⟩ | ⟨i, is, a1, c1x, hbuf, rfl, hr1⟩
  · have hrb : rbuf w = [] := by rw [HBUF.out, hbuf]; rfl
    clear c0 c1 c2 c3 c4 c5 c6 d0 d1 d2 d3 d4 d5 d6
    have hbA2 : Below Y.heap.size Y (w1.alloc (.cells #[.int .i64 noEl.kind, .int .i64 noEl.n, .int .i64 noEl.time, .slice none 0 0, .int .i64 noEl.cn] 42)) := hb1.alloc hb1.size _
    obtain ⟨M2, hMid2, hM2, hn2⟩ := HMid.out.grow hbA2
    have HN2 := Lib.hid (show ((mem w1).on (Y.heap.size ≤ ·)).le M2 from fun i o v e => hn2 _ _ _ (let ⟨hs, e⟩ := Mem.of_on e; Mem.on_some (below_mem ((Below.refl w1.heap.size w1).alloc (Nat.le_refl _) _) _ _ _ e) hs))
    have HC82 := Lib.hid (fun (wq : World) (hq : M2.le (mem wq)) => (show wq.cell? ⟨w1.heap.size, 0, none⟩ = some (.int .i64 noEl.kind) ∧ wq.cell? ⟨w1.heap.size, 1, none⟩ = some (.int .i64 noEl.n) ∧ wq.cell? ⟨w1.heap.size, 2, none⟩ = some (.int .i64 noEl.time) ∧ wq.cell? ⟨w1.heap.size, 3, none⟩ = some (.slice none 0 0) ∧ wq.cell? ⟨w1.heap.size, 4, none⟩ = some (.int .i64 noEl.cn) from ⟨hq _ _ _ (hn2 _ _ _ (Mem.on_some (cell_new 0 rfl) hb1.size)), hq _ _ _ (hn2 _ _ _ (Mem.on_some (cell_new 1 rfl) hb1.size)), hq _ _ _ (hn2 _ _ _ (Mem.on_some (cell_new 2 rfl) hb1.size)), hq _ _ _ (hn2 _ _ _ (Mem.on_some (cell_new 3 rfl) hb1.size)), hq _ _ _ (hn2 _ _ _ (Mem.on_some (cell_new 4 rfl) hb1.size))⟩))
    have HM2 := Lib.hid hM2
    have HMid2 := Lib.hid hMid2
    have HR1 := Lib.hid (show tRow.rv M2 [.slice none 0 0] noEl.row from slice_nil _ _)
    clear hn2 hM2 hMid2 hbA2 hb1
    simp only [elV]
    go_upto_region 20 with fail
    generalize (w1.alloc (.cells #[.int .i64 noEl.kind, .int .i64 noEl.n, .int .i64 noEl.time, .slice none 0 0, .int .i64 noEl.cn] 42)) = X at HMid2 ⊢
    generalize w1.heap.size = nb at HC82 ⊢
    obtain ⟨c0, c1, c2, c3, c4, c5, c6⟩ := HC4.out X (Mem.le_trans HM2.out HMid2.out.mem)
    go_wp2_with fail
    refine (refPeek_any w _ _ _ M2 X HMid2.out.mem (HRF.out.mono HM2.out) (by omega)).mono ?_
    rintro e w3 ⟨hp2, hb3⟩
    rcases hp2 with ⟨_, rfl⟩ | ⟨x2, xs2, a2, c2x, hb2, _⟩
    rotate_left
    · rw [hrb] at hb2; cases hb2
    have hbA3 : Below X.heap.size X (w3.alloc (.cells #[.int .i64 noEl.kind, .int .i64 noEl.n, .int .i64 noEl.time, .slice none 0 0, .int .i64 noEl.cn] 42)) := hb3.alloc hb3.size _
    obtain ⟨M3, hMid3, hM3, hn3⟩ := HMid2.out.grow hbA3
    have HN3 := Lib.hid (show ((mem w3).on (X.heap.size ≤ ·)).le M3 from fun i o v e => hn3 _ _ _ (let ⟨hs, e⟩ := Mem.of_on e; Mem.on_some (below_mem ((Below.refl w3.heap.size w3).alloc (Nat.le_refl _) _) _ _ _ e) hs))
    have HC83 := Lib.hid (fun (wq : World) (hq : M3.le (mem wq)) => (show wq.cell? ⟨w3.heap.size, 0, none⟩ = some (.int .i64 noEl.kind) ∧ wq.cell? ⟨w3.heap.size, 1, none⟩ = some (.int .i64 noEl.n) ∧ wq.cell? ⟨w3.heap.size, 2, none⟩ = some (.int .i64 noEl.time) ∧ wq.cell? ⟨w3.heap.size, 3, none⟩ = some (.slice none 0 0) ∧ wq.cell? ⟨w3.heap.size, 4, none⟩ = some (.int .i64 noEl.cn) from ⟨hq _ _ _ (hn3 _ _ _ (Mem.on_some (cell_new 0 rfl) hb3.size)), hq _ _ _ (hn3 _ _ _ (Mem.on_some (cell_new 1 rfl) hb3.size)), hq _ _ _ (hn3 _ _ _ (Mem.on_some (cell_new 2 rfl) hb3.size)), hq _ _ _ (hn3 _ _ _ (Mem.on_some (cell_new 3 rfl) hb3.size)), hq _ _ _ (hn3 _ _ _ (Mem.on_some (cell_new 4 rfl) hb3.size))⟩))
    have HM3 := Lib.hid hM3
    have HMid3 := Lib.hid hMid3
    have HR2 := Lib.hid (show tRow.rv M3 [.slice none 0 0] noEl.row from slice_nil _ _)
    clear hn3 hM3 hMid3 hbA3 hb3 c0 c1 c2 c3 c4 c5 c6
    simp only [elV]
    go_upto_region 21 with fail
    generalize (w3.alloc (.cells #[.int .i64 noEl.kind, .int .i64 noEl.n, .int .i64 noEl.time, .slice none 0 0, .int .i64 noEl.cn] 42)) = X3 at HMid3 ⊢
    generalize w3.heap.size = nc at HC83 ⊢
    have HMD := Lib.hid (HMid3.out.pure (Below.refl _ _).drew)
    have HS := Lib.hid (fun (w' : World) (hq : M3.le (mem w')) => (show w'.cell? ⟨W.heap.size, 0, none⟩ = some (.int .i64 w.size) ∧ w'.cell? ⟨W.heap.size, 1, none⟩ = some (.int .i64 w.room) ∧ w'.cell? ⟨W.heap.size, 2, none⟩ = some (.int .i64 w.credits) ∧ w'.cell? ⟨W.heap.size, 3, none⟩ = some (.int .i64 w.next) ∧ w'.cell? ⟨W.heap.size, 4, none⟩ = some (.slice aa w.ahead.length ca) ∧ w'.cell? ⟨W.heap.size, 5, none⟩ = some (.slice aq w.queue.length cq) ∧ w'.cell? ⟨W.heap.size, 6, none⟩ = some (.slice ap w.pk.length cp) ∧ w'.cell? ⟨nb, 0, none⟩ = some (.int .i64 noEl.kind) ∧ w'.cell? ⟨nb, 1, none⟩ = some (.int .i64 noEl.n) ∧ w'.cell? ⟨nb, 2, none⟩ = some (.int .i64 noEl.time) ∧ w'.cell? ⟨nb, 3, none⟩ = some (.slice none 0 0) ∧ w'.cell? ⟨nb, 4, none⟩ = some (.int .i64 noEl.cn) ∧ w'.cell? ⟨nc, 0, none⟩ = some (.int .i64 noEl.kind) ∧ w'.cell? ⟨nc, 1, none⟩ = some (.int .i64 noEl.n) ∧ w'.cell? ⟨nc, 2, none⟩ = some (.int .i64 noEl.time) ∧ w'.cell? ⟨nc, 3, none⟩ = some (.slice none 0 0) ∧ w'.cell? ⟨nc, 4, none⟩ = some (.int .i64 noEl.cn) from ⟨(HC4.out w' (Mem.le_trans HM2.out (Mem.le_trans HM3.out hq))).1, (HC4.out w' (Mem.le_trans HM2.out (Mem.le_trans HM3.out hq))).2.1, (HC4.out w' (Mem.le_trans HM2.out (Mem.le_trans HM3.out hq))).2.2.1, (HC4.out w' (Mem.le_trans HM2.out (Mem.le_trans HM3.out hq))).2.2.2.1, (HC4.out w' (Mem.le_trans HM2.out (Mem.le_trans HM3.out hq))).2.2.2.2.1, (HC4.out w' (Mem.le_trans HM2.out (Mem.le_trans HM3.out hq))).2.2.2.2.2.1, (HC4.out w' (Mem.le_trans HM2.out (Mem.le_trans HM3.out hq))).2.2.2.2.2.2, (HC82.out w' (Mem.le_trans HM3.out hq)).1, (HC82.out w' (Mem.le_trans HM3.out hq)).2.1, (HC82.out w' (Mem.le_trans HM3.out hq)).2.2.1, (HC82.out w' (Mem.le_trans HM3.out hq)).2.2.2.1, (HC82.out w' (Mem.le_trans HM3.out hq)).2.2.2.2, (HC83.out w' hq).1, (HC83.out w' hq).2.1, (HC83.out w' hq).2.2.1, (HC83.out w' hq).2.2.2.1, (HC83.out w' hq).2.2.2.2⟩))
    have HSR := Lib.hid (fun (wq : World) (hq : Mid c base b M0 w0 F (W.heap.size + 1 + 1) wq r ah ps m N M3) => (show (((((((wq.setCell ⟨W.heap.size + 1 + 1, 0, none⟩ (.int .i64 w.size)).setCell ⟨W.heap.size + 1 + 1, 1, none⟩ (.int .i64 w.room)).setCell ⟨W.heap.size + 1 + 1, 2, none⟩ (.int .i64 w.credits)).setCell ⟨W.heap.size + 1 + 1, 3, none⟩ (.int .i64 w.next)).setCell ⟨W.heap.size + 1 + 1, 4, none⟩ (.slice aa w.ahead.length ca)).setCell ⟨W.heap.size + 1 + 1, 5, none⟩ (.slice aq w.queue.length cq)).setCell ⟨W.heap.size + 1 + 1, 6, none⟩ (.slice ap w.pk.length cp)).cell? ⟨W.heap.size, 0, none⟩ = some (.int .i64 w.size) ∧ (((((((wq.setCell ⟨W.heap.size + 1 + 1, 0, none⟩ (.int .i64 w.size)).setCell ⟨W.heap.size + 1 + 1, 1, none⟩ (.int .i64 w.room)).setCell ⟨W.heap.size + 1 + 1, 2, none⟩ (.int .i64 w.credits)).setCell ⟨W.heap.size + 1 + 1, 3, none⟩ (.int .i64 w.next)).setCell ⟨W.heap.size + 1 + 1, 4, none⟩ (.slice aa w.ahead.length ca)).setCell ⟨W.heap.size + 1 + 1, 5, none⟩ (.slice aq w.queue.length cq)).setCell ⟨W.heap.size + 1 + 1, 6, none⟩ (.slice ap w.pk.length cp)).cell? ⟨W.heap.size, 1, none⟩ = some (.int .i64 w.room) ∧ (((((((wq.setCell ⟨W.heap.size + 1 + 1, 0, none⟩ (.int .i64 w.size)).setCell ⟨W.heap.size + 1 + 1, 1, none⟩ (.int .i64 w.room)).setCell ⟨W.heap.size + 1 + 1, 2, none⟩ (.int .i64 w.credits)).setCell ⟨W.heap.size + 1 + 1, 3, none⟩ (.int .i64 w.next)).setCell ⟨W.heap.size + 1 + 1, 4, none⟩ (.slice aa w.ahead.length ca)).setCell ⟨W.heap.size + 1 + 1, 5, none⟩ (.slice aq w.queue.length cq)).setCell ⟨W.heap.size + 1 + 1, 6, none⟩ (.slice ap w.pk.length cp)).cell? ⟨W.heap.size, 2, none⟩ = some (.int .i64 w.credits) ∧ (((((((wq.setCell ⟨W.heap.size + 1 + 1, 0, none⟩ (.int .i64 w.size)).setCell ⟨W.heap.size + 1 + 1, 1, none⟩ (.int .i64 w.room)).setCell ⟨W.heap.size + 1 + 1, 2, none⟩ (.int .i64 w.credits)).setCell ⟨W.heap.size + 1 + 1, 3, none⟩ (.int .i64 w.next)).setCell ⟨W.heap.size + 1 + 1, 4, none⟩ (.slice aa w.ahead.length ca)).setCell ⟨W.heap.size + 1 + 1, 5, none⟩ (.slice aq w.queue.length cq)).setCell ⟨W.heap.size + 1 + 1, 6, none⟩ (.slice ap w.pk.length cp)).cell? ⟨W.heap.size, 3, none⟩ = some (.int .i64 w.next) ∧ (((((((wq.setCell ⟨W.heap.size + 1 + 1, 0, none⟩ (.int .i64 w.size)).setCell ⟨W.heap.size + 1 + 1, 1, none⟩ (.int .i64 w.room)).setCell ⟨W.heap.size + 1 + 1, 2, none⟩ (.int .i64 w.credits)).setCell ⟨W.heap.size + 1 + 1, 3, none⟩ (.int .i64 w.next)).setCell ⟨W.heap.size + 1 + 1, 4, none⟩ (.slice aa w.ahead.length ca)).setCell ⟨W.heap.size + 1 + 1, 5, none⟩ (.slice aq w.queue.length cq)).setCell ⟨W.heap.size + 1 + 1, 6, none⟩ (.slice ap w.pk.length cp)).cell? ⟨W.heap.size, 4, none⟩ = some (.slice aa w.ahead.length ca) ∧ (((((((wq.setCell ⟨W.heap.size + 1 + 1, 0, none⟩ (.int .i64 w.size)).setCell ⟨W.heap.size + 1 + 1, 1, none⟩ (.int .i64 w.room)).setCell ⟨W.heap.size + 1 + 1, 2, none⟩ (.int .i64 w.credits)).setCell ⟨W.heap.size + 1 + 1, 3, none⟩ (.int .i64 w.next)).setCell ⟨W.heap.size + 1 + 1, 4, none⟩ (.slice aa w.ahead.length ca)).setCell ⟨W.heap.size + 1 + 1, 5, none⟩ (.slice aq w.queue.length cq)).setCell ⟨W.heap.size + 1 + 1, 6, none⟩ (.slice ap w.pk.length cp)).cell? ⟨W.heap.size, 5, none⟩ = some (.slice aq w.queue.length cq) ∧ (((((((wq.setCell ⟨W.heap.size + 1 + 1, 0, none⟩ (.int .i64 w.size)).setCell ⟨W.heap.size + 1 + 1, 1, none⟩ (.int .i64 w.room)).setCell ⟨W.heap.size + 1 + 1, 2, none⟩ (.int .i64 w.credits)).setCell ⟨W.heap.size + 1 + 1, 3, none⟩ (.int .i64 w.next)).setCell ⟨W.heap.size + 1 + 1, 4, none⟩ (.slice aa w.ahead.length ca)).setCell ⟨W.heap.size + 1 + 1, 5, none⟩ (.slice aq w.queue.length cq)).setCell ⟨W.heap.size + 1 + 1, 6, none⟩ (.slice ap w.pk.length cp)).cell? ⟨W.heap.size, 6, none⟩ = some (.slice ap w.pk.length cp) ∧ (((((((wq.setCell ⟨W.heap.size + 1 + 1, 0, none⟩ (.int .i64 w.size)).setCell ⟨W.heap.size + 1 + 1, 1, none⟩ (.int .i64 w.room)).setCell ⟨W.heap.size + 1 + 1, 2, none⟩ (.int .i64 w.credits)).setCell ⟨W.heap.size + 1 + 1, 3, none⟩ (.int .i64 w.next)).setCell ⟨W.heap.size + 1 + 1, 4, none⟩ (.slice aa w.ahead.length ca)).setCell ⟨W.heap.size + 1 + 1, 5, none⟩ (.slice aq w.queue.length cq)).setCell ⟨W.heap.size + 1 + 1, 6, none⟩ (.slice ap w.pk.length cp)).cell? ⟨nb, 0, none⟩ = some (.int .i64 noEl.kind) ∧ (((((((wq.setCell ⟨W.heap.size + 1 + 1, 0, none⟩ (.int .i64 w.size)).setCell ⟨W.heap.size + 1 + 1, 1, none⟩ (.int .i64 w.room)).setCell ⟨W.heap.size + 1 + 1, 2, none⟩ (.int .i64 w.credits)).setCell ⟨W.heap.size + 1 + 1, 3, none⟩ (.int .i64 w.next)).setCell ⟨W.heap.size + 1 + 1, 4, none⟩ (.slice aa w.ahead.length ca)).setCell ⟨W.heap.size + 1 + 1, 5, none⟩ (.slice aq w.queue.length cq)).setCell ⟨W.heap.size + 1 + 1, 6, none⟩ (.slice ap w.pk.length cp)).cell? ⟨nb, 1, none⟩ = some (.int .i64 noEl.n) ∧ (((((((wq.setCell ⟨W.heap.size + 1 + 1, 0, none⟩ (.int .i64 w.size)).setCell ⟨W.heap.size + 1 + 1, 1, none⟩ (.int .i64 w.room)).setCell ⟨W.heap.size + 1 + 1, 2, none⟩ (.int .i64 w.credits)).setCell ⟨W.heap.size + 1 + 1, 3, none⟩ (.int .i64 w.next)).setCell ⟨W.heap.size + 1 + 1, 4, none⟩ (.slice aa w.ahead.length ca)).setCell ⟨W.heap.size + 1 + 1, 5, none⟩ (.slice aq w.queue.length cq)).setCell ⟨W.heap.size + 1 + 1, 6, none⟩ (.slice ap w.pk.length cp)).cell? ⟨nb, 2, none⟩ = some (.int .i64 noEl.time) ∧ (((((((wq.setCell ⟨W.heap.size + 1 + 1, 0, none⟩ (.int .i64 w.size)).setCell ⟨W.heap.size + 1 + 1, 1, none⟩ (.int .i64 w.room)).setCell ⟨W.heap.size + 1 + 1, 2, none⟩ (.int .i64 w.credits)).setCell ⟨W.heap.size + 1 + 1, 3, none⟩ (.int .i64 w.next)).setCell ⟨W.heap.size + 1 + 1, 4, none⟩ (.slice aa w.ahead.length ca)).setCell ⟨W.heap.size + 1 + 1, 5, none⟩ (.slice aq w.queue.length cq)).setCell ⟨W.heap.size + 1 + 1, 6, none⟩ (.slice ap w.pk.length cp)).cell? ⟨nb, 3, none⟩ = some (.slice none 0 0) ∧ (((((((wq.setCell ⟨W.heap.size + 1 + 1, 0, none⟩ (.int .i64 w.size)).setCell ⟨W.heap.size + 1 + 1, 1, none⟩ (.int .i64 w.room)).setCell ⟨W.heap.size + 1 + 1, 2, none⟩ (.int .i64 w.credits)).setCell ⟨W.heap.size + 1 + 1, 3, none⟩ (.int .i64 w.next)).setCell ⟨W.heap.size + 1 + 1, 4, none⟩ (.slice aa w.ahead.length ca)).setCell ⟨W.heap.size + 1 + 1, 5, none⟩ (.slice aq w.queue.length cq)).setCell ⟨W.heap.size + 1 + 1, 6, none⟩ (.slice ap w.pk.length cp)).cell? ⟨nb, 4, none⟩ = some (.int .i64 noEl.cn) ∧ (((((((wq.setCell ⟨W.heap.size + 1 + 1, 0, none⟩ (.int .i64 w.size)).setCell ⟨W.heap.size + 1 + 1, 1, none⟩ (.int .i64 w.room)).setCell ⟨W.heap.size + 1 + 1, 2, none⟩ (.int .i64 w.credits)).setCell ⟨W.heap.size + 1 + 1, 3, none⟩ (.int .i64 w.next)).setCell ⟨W.heap.size + 1 + 1, 4, none⟩ (.slice aa w.ahead.length ca)).setCell ⟨W.heap.size + 1 + 1, 5, none⟩ (.slice aq w.queue.length cq)).setCell ⟨W.heap.size + 1 + 1, 6, none⟩ (.slice ap w.pk.length cp)).cell? ⟨nc, 0, none⟩ = some (.int .i64 noEl.kind) ∧ (((((((wq.setCell ⟨W.heap.size + 1 + 1, 0, none⟩ (.int .i64 w.size)).setCell ⟨W.heap.size + 1 + 1, 1, none⟩ (.int .i64 w.room)).setCell ⟨W.heap.size + 1 + 1, 2, none⟩ (.int .i64 w.credits)).setCell ⟨W.heap.size + 1 + 1, 3, none⟩ (.int .i64 w.next)).setCell ⟨W.heap.size + 1 + 1, 4, none⟩ (.slice aa w.ahead.length ca)).setCell ⟨W.heap.size + 1 + 1, 5, none⟩ (.slice aq w.queue.length cq)).setCell ⟨W.heap.size + 1 + 1, 6, none⟩ (.slice ap w.pk.length cp)).cell? ⟨nc, 1, none⟩ = some (.int .i64 noEl.n) ∧ (((((((wq.setCell ⟨W.heap.size + 1 + 1, 0, none⟩ (.int .i64 w.size)).setCell ⟨W.heap.size + 1 + 1, 1, none⟩ (.int .i64 w.room)).setCell ⟨W.heap.size + 1 + 1, 2, none⟩ (.int .i64 w.credits)).setCell ⟨W.heap.size + 1 + 1, 3, none⟩ (.int .i64 w.next)).setCell ⟨W.heap.size + 1 + 1, 4, none⟩ (.slice aa w.ahead.length ca)).setCell ⟨W.heap.size + 1 + 1, 5, none⟩ (.slice aq w.queue.length cq)).setCell ⟨W.heap.size + 1 + 1, 6, none⟩ (.slice ap w.pk.length cp)).cell? ⟨nc, 2, none⟩ = some (.int .i64 noEl.time) ∧ (((((((wq.setCell ⟨W.heap.size + 1 + 1, 0, none⟩ (.int .i64 w.size)).setCell ⟨W.heap.size + 1 + 1, 1, none⟩ (.int .i64 w.room)).setCell ⟨W.heap.size + 1 + 1, 2, none⟩ (.int .i64 w.credits)).setCell ⟨W.heap.size + 1 + 1, 3, none⟩ (.int .i64 w.next)).setCell ⟨W.heap.size + 1 + 1, 4, none⟩ (.slice aa w.ahead.length ca)).setCell ⟨W.heap.size + 1 + 1, 5, none⟩ (.slice aq w.queue.length cq)).setCell ⟨W.heap.size + 1 + 1, 6, none⟩ (.slice ap w.pk.length cp)).cell? ⟨nc, 3, none⟩ = some (.slice none 0 0) ∧ (((((((wq.setCell ⟨W.heap.size + 1 + 1, 0, none⟩ (.int .i64 w.size)).setCell ⟨W.heap.size + 1 + 1, 1, none⟩ (.int .i64 w.room)).setCell ⟨W.heap.size + 1 + 1, 2, none⟩ (.int .i64 w.credits)).setCell ⟨W.heap.size + 1 + 1, 3, none⟩ (.int .i64 w.next)).setCell ⟨W.heap.size + 1 + 1, 4, none⟩ (.slice aa w.ahead.length ca)).setCell ⟨W.heap.size + 1 + 1, 5, none⟩ (.slice aq w.queue.length cq)).setCell ⟨W.heap.size + 1 + 1, 6, none⟩ (.slice ap w.pk.length cp)).cell? ⟨nc, 4, none⟩ = some (.int .i64 noEl.cn) from HS.out _ (hq.stored (store7_keeps wq (W.heap.size + 1 + 1) (.int .i64 w.size) (.int .i64 w.room) (.int .i64 w.credits) (.int .i64 w.next) (.slice aa w.ahead.length ca) (.slice aq w.queue.length cq) (.slice ap w.pk.length cp)))))
    have HSE := Lib.hid (same_el noEl _ _ X3.drew (tRow.mono _ _ _ _ (Mem.le_trans HM3.out HMD.out.mem) HR1.out) (tRow.mono _ _ _ _ HMD.out.mem HR2.out))
    have s0 := HS.out X3.drew HMD.out.mem
    go_region_held3 (fun w' => w'.cell? ⟨W.heap.size, 0, none⟩ = some (.int .i64 w.size) ∧ w'.cell? ⟨W.heap.size, 1, none⟩ = some (.int .i64 w.room) ∧ w'.cell? ⟨W.heap.size, 2, none⟩ = some (.int .i64 w.credits) ∧ w'.cell? ⟨W.heap.size, 3, none⟩ = some (.int .i64 w.next) ∧ w'.cell? ⟨W.heap.size, 4, none⟩ = some (.slice aa w.ahead.length ca) ∧ w'.cell? ⟨W.heap.size, 5, none⟩ = some (.slice aq w.queue.length cq) ∧ w'.cell? ⟨W.heap.size, 6, none⟩ = some (.slice ap w.pk.length cp) ∧ w'.cell? ⟨nb, 0, none⟩ = some (.int .i64 noEl.kind) ∧ w'.cell? ⟨nb, 1, none⟩ = some (.int .i64 noEl.n) ∧ w'.cell? ⟨nb, 2, none⟩ = some (.int .i64 noEl.time) ∧ w'.cell? ⟨nb, 3, none⟩ = some (.slice none 0 0) ∧ w'.cell? ⟨nb, 4, none⟩ = some (.int .i64 noEl.cn) ∧ w'.cell? ⟨nc, 0, none⟩ = some (.int .i64 noEl.kind) ∧ w'.cell? ⟨nc, 1, none⟩ = some (.int .i64 noEl.n) ∧ w'.cell? ⟨nc, 2, none⟩ = some (.int .i64 noEl.time) ∧ w'.cell? ⟨nc, 3, none⟩ = some (.slice none 0 0) ∧ w'.cell? ⟨nc, 4, none⟩ = some (.int .i64 noEl.cn)) (first | with_reducible exact s0 | with_reducible exact HS.out w5 hm5 | with_reducible exact HSR.out w5 HMid5.out | go_keep)
      ((first
        | (go_at_call 47; refine HSE.out.mono ?_; rintro e w5 ⟨rfl, hb5⟩; have hMid5 := HMD.out.pure hb5; have hm5 := hMid5.mem; have HMid5 := Lib.hid hMid5; obtain ⟨f5, z5⟩ := hMid5.cells; have z0 := z5 0; have z1 := z5 1; have z2 := z5 2; have z3 := z5 3; have z4 := z5 4; have z55 := z5 5; have z6 := z5 6; clear hMid5 z5)))
    all_goals
      go_wp2
      have r1 := store7_block HMid5.out.hR (.int .i64 w.size) (.int .i64 w.room) (.int .i64 w.credits) (.int .i64 w.next) (.slice aa w.ahead.length ca) (.slice aq w.queue.length cq) (.slice ap w.pk.length cp)
      have hk := store7_keeps (w5) (W.heap.size + 1 + 1) (.int .i64 w.size) (.int .i64 w.room) (.int .i64 w.credits) (.int .i64 w.next) (.slice aa w.ahead.length ca) (.slice aq w.queue.length cq) (.slice ap w.pk.length cp)
      show bodyPost _ _ _ _ _ (store7 (w5) (W.heap.size + 1 + 1) (.int .i64 w.size) (.int .i64 w.room) (.int .i64 w.credits) (.int .i64 w.next) (.slice aa w.ahead.length ca) (.slice aq w.queue.length cq) (.slice ap w.pk.length cp))
      generalize store7 (w5) (W.heap.size + 1 + 1) (.int .i64 w.size) (.int .i64 w.room) (.int .i64 w.credits) (.int .i64 w.next) (.slice aa w.ahead.length ca) (.slice aq w.queue.length cq) (.slice ap w.pk.length cp) = w2 at r1 hk ⊢
      have g0 : w2.cell? ⟨W.heap.size + 1 + 1, 0, none⟩ = some (.int .i64 w.size) := mem_cells r1 0
      have g1 : w2.cell? ⟨W.heap.size + 1 + 1, 1, none⟩ = some (.int .i64 w.room) := mem_cells r1 1
      have g2 : w2.cell? ⟨W.heap.size + 1 + 1, 2, none⟩ = some (.int .i64 w.credits) := mem_cells r1 2
      have g3 : w2.cell? ⟨W.heap.size + 1 + 1, 3, none⟩ = some (.int .i64 w.next) := mem_cells r1 3
      have g4 : w2.cell? ⟨W.heap.size + 1 + 1, 4, none⟩ = some (.slice aa w.ahead.length ca) := mem_cells r1 4
      have g5 : w2.cell? ⟨W.heap.size + 1 + 1, 5, none⟩ = some (.slice aq w.queue.length cq) := mem_cells r1 5
      have g6 : w2.cell? ⟨W.heap.size + 1 + 1, 6, none⟩ = some (.slice ap w.pk.length cp) := mem_cells r1 6
      refine bodyPost_ret (v := .tuple #[.agg #[.int .i64 w.size, .int .i64 w.room, .int .i64 w.credits, .int .i64 w.next, .slice aa w.ahead.length ca, .slice aq w.queue.length cq, .slice ap w.pk.length cp], .bool true]) (by simp [results, Try.results25, go_sem, g0, g1, g2, g3, g4, g5, g6]) rfl ?_
      refine ⟨r, ah, ps, m, M3, _, _, _, by rw [HW.out], ?_, Mem.le_trans HM1.out (Mem.le_trans HM2.out HM3.out), by omega⟩
      have hfin := HMid5.out.finish hk (by rw [HW.out]; exact HRF.out.mono (Mem.le_trans HM2.out HM3.out))
      exact ⟨hfin.st.mono (Nat.le_succ N), hfin.so.mono (Nat.le_succ N), hfin.rf, hfin.bel, hfin.mm, hfin.fk⟩
  · have hrb : rbuf w = i.el :: is.map (·.el) := by rw [HBUF.out, hbuf]; rfl
    obtain ⟨y, of⟩ := i
    simp only at hrb hr1
    clear hbuf
    clear c0 c1 c2 c3 c4 c5 c6 d0 d1 d2 d3 d4 d5 d6
    have hbA2 : Below Y.heap.size Y (w1.alloc (.cells #[.int .i64 y.kind, .int .i64 y.n, .int .i64 y.time, .slice a1 y.row.length c1x, .int .i64 y.cn] 42)) := hb1.alloc hb1.size _
    obtain ⟨M2, hMid2, hM2, hn2⟩ := HMid.out.grow hbA2
    have HN2 := Lib.hid (show ((mem w1).on (Y.heap.size ≤ ·)).le M2 from fun i o v e => hn2 _ _ _ (let ⟨hs, e⟩ := Mem.of_on e; Mem.on_some (below_mem ((Below.refl w1.heap.size w1).alloc (Nat.le_refl _) _) _ _ _ e) hs))
    have HC82 := Lib.hid (fun (wq : World) (hq : M2.le (mem wq)) => (show wq.cell? ⟨w1.heap.size, 0, none⟩ = some (.int .i64 y.kind) ∧ wq.cell? ⟨w1.heap.size, 1, none⟩ = some (.int .i64 y.n) ∧ wq.cell? ⟨w1.heap.size, 2, none⟩ = some (.int .i64 y.time) ∧ wq.cell? ⟨w1.heap.size, 3, none⟩ = some (.slice a1 y.row.length c1x) ∧ wq.cell? ⟨w1.heap.size, 4, none⟩ = some (.int .i64 y.cn) from ⟨hq _ _ _ (hn2 _ _ _ (Mem.on_some (cell_new 0 rfl) hb1.size)), hq _ _ _ (hn2 _ _ _ (Mem.on_some (cell_new 1 rfl) hb1.size)), hq _ _ _ (hn2 _ _ _ (Mem.on_some (cell_new 2 rfl) hb1.size)), hq _ _ _ (hn2 _ _ _ (Mem.on_some (cell_new 3 rfl) hb1.size)), hq _ _ _ (hn2 _ _ _ (Mem.on_some (cell_new 4 rfl) hb1.size))⟩))
    have HM2 := Lib.hid hM2
    have HMid2 := Lib.hid hMid2
    have HR1 := Lib.hid (show tRow.rv M2 [.slice a1 y.row.length c1x] y.row from tRow.mono _ _ _ _ HN2.out hr1)
    clear hr1
    clear hn2 hM2 hMid2 hbA2 hb1
    simp only [elV]
    go_upto_region 20 with fail
    generalize (w1.alloc (.cells #[.int .i64 y.kind, .int .i64 y.n, .int .i64 y.time, .slice a1 y.row.length c1x, .int .i64 y.cn] 42)) = X at HMid2 ⊢
    generalize w1.heap.size = nb at HC82 ⊢
    obtain ⟨c0, c1, c2, c3, c4, c5, c6⟩ := HC4.out X (Mem.le_trans HM2.out HMid2.out.mem)
    go_wp2_with fail
    refine (refPeek_any w _ _ _ M2 X HMid2.out.mem (HRF.out.mono HM2.out) (by omega)).mono ?_
    rintro e w3 ⟨hp2, hb3⟩
    rcases hp2 with ⟨hb2, _⟩ | ⟨x2, xs2, a2, c2x, hb2, rfl, hr2, _⟩
    · rw [hrb] at hb2; cases hb2
    have hxy : y = x2 := by rw [hrb] at hb2; injection hb2
    subst hxy
    have hbA3 : Below X.heap.size X (w3.alloc (.cells #[.int .i64 y.kind, .int .i64 y.n, .int .i64 y.time, .slice a2 y.row.length c2x, .int .i64 y.cn] 42)) := hb3.alloc hb3.size _
    obtain ⟨M3, hMid3, hM3, hn3⟩ := HMid2.out.grow hbA3
    have HN3 := Lib.hid (show ((mem w3).on (X.heap.size ≤ ·)).le M3 from fun i o v e => hn3 _ _ _ (let ⟨hs, e⟩ := Mem.of_on e; Mem.on_some (below_mem ((Below.refl w3.heap.size w3).alloc (Nat.le_refl _) _) _ _ _ e) hs))
    have HC83 := Lib.hid (fun (wq : World) (hq : M3.le (mem wq)) => (show wq.cell? ⟨w3.heap.size, 0, none⟩ = some (.int .i64 y.kind) ∧ wq.cell? ⟨w3.heap.size, 1, none⟩ = some (.int .i64 y.n) ∧ wq.cell? ⟨w3.heap.size, 2, none⟩ = some (.int .i64 y.time) ∧ wq.cell? ⟨w3.heap.size, 3, none⟩ = some (.slice a2 y.row.length c2x) ∧ wq.cell? ⟨w3.heap.size, 4, none⟩ = some (.int .i64 y.cn) from ⟨hq _ _ _ (hn3 _ _ _ (Mem.on_some (cell_new 0 rfl) hb3.size)), hq _ _ _ (hn3 _ _ _ (Mem.on_some (cell_new 1 rfl) hb3.size)), hq _ _ _ (hn3 _ _ _ (Mem.on_some (cell_new 2 rfl) hb3.size)), hq _ _ _ (hn3 _ _ _ (Mem.on_some (cell_new 3 rfl) hb3.size)), hq _ _ _ (hn3 _ _ _ (Mem.on_some (cell_new 4 rfl) hb3.size))⟩))
    have HM3 := Lib.hid hM3
    have HMid3 := Lib.hid hMid3
    have HR2 := Lib.hid (tRow.mono _ _ _ _ hM3 hr2)
    clear hr2 hb2
    clear hn3 hM3 hMid3 hbA3 hb3 c0 c1 c2 c3 c4 c5 c6
    simp only [elV]
    go_upto_region 21 with fail
    generalize (w3.alloc (.cells #[.int .i64 y.kind, .int .i64 y.n, .int .i64 y.time, .slice a2 y.row.length c2x, .int .i64 y.cn] 42)) = X3 at HMid3 ⊢
    generalize w3.heap.size = nc at HC83 ⊢
    have HMD := Lib.hid (HMid3.out.pure (Below.refl _ _).drew)
    have HS := Lib.hid (fun (w' : World) (hq : M3.le (mem w')) => (show w'.cell? ⟨W.heap.size, 0, none⟩ = some (.int .i64 w.size) ∧ w'.cell? ⟨W.heap.size, 1, none⟩ = some (.int .i64 w.room) ∧ w'.cell? ⟨W.heap.size, 2, none⟩ = some (.int .i64 w.credits) ∧ w'.cell? ⟨W.heap.size, 3, none⟩ = some (.int .i64 w.next) ∧ w'.cell? ⟨W.heap.size, 4, none⟩ = some (.slice aa w.ahead.length ca) ∧ w'.cell? ⟨W.heap.size, 5, none⟩ = some (.slice aq w.queue.length cq) ∧ w'.cell? ⟨W.heap.size, 6, none⟩ = some (.slice ap w.pk.length cp) ∧ w'.cell? ⟨nb, 0, none⟩ = some (.int .i64 y.kind) ∧ w'.cell? ⟨nb, 1, none⟩ = some (.int .i64 y.n) ∧ w'.cell? ⟨nb, 2, none⟩ = some (.int .i64 y.time) ∧ w'.cell? ⟨nb, 3, none⟩ = some (.slice a1 y.row.length c1x) ∧ w'.cell? ⟨nb, 4, none⟩ = some (.int .i64 y.cn) ∧ w'.cell? ⟨nc, 0, none⟩ = some (.int .i64 y.kind) ∧ w'.cell? ⟨nc, 1, none⟩ = some (.int .i64 y.n) ∧ w'.cell? ⟨nc, 2, none⟩ = some (.int .i64 y.time) ∧ w'.cell? ⟨nc, 3, none⟩ = some (.slice a2 y.row.length c2x) ∧ w'.cell? ⟨nc, 4, none⟩ = some (.int .i64 y.cn) from ⟨(HC4.out w' (Mem.le_trans HM2.out (Mem.le_trans HM3.out hq))).1, (HC4.out w' (Mem.le_trans HM2.out (Mem.le_trans HM3.out hq))).2.1, (HC4.out w' (Mem.le_trans HM2.out (Mem.le_trans HM3.out hq))).2.2.1, (HC4.out w' (Mem.le_trans HM2.out (Mem.le_trans HM3.out hq))).2.2.2.1, (HC4.out w' (Mem.le_trans HM2.out (Mem.le_trans HM3.out hq))).2.2.2.2.1, (HC4.out w' (Mem.le_trans HM2.out (Mem.le_trans HM3.out hq))).2.2.2.2.2.1, (HC4.out w' (Mem.le_trans HM2.out (Mem.le_trans HM3.out hq))).2.2.2.2.2.2, (HC82.out w' (Mem.le_trans HM3.out hq)).1, (HC82.out w' (Mem.le_trans HM3.out hq)).2.1, (HC82.out w' (Mem.le_trans HM3.out hq)).2.2.1, (HC82.out w' (Mem.le_trans HM3.out hq)).2.2.2.1, (HC82.out w' (Mem.le_trans HM3.out hq)).2.2.2.2, (HC83.out w' hq).1, (HC83.out w' hq).2.1, (HC83.out w' hq).2.2.1, (HC83.out w' hq).2.2.2.1, (HC83.out w' hq).2.2.2.2⟩))
    have HSR := Lib.hid (fun (wq : World) (hq : Mid c base b M0 w0 F (W.heap.size + 1 + 1) wq r ah ps m N M3) => (show (((((((wq.setCell ⟨W.heap.size + 1 + 1, 0, none⟩ (.int .i64 w.size)).setCell ⟨W.heap.size + 1 + 1, 1, none⟩ (.int .i64 w.room)).setCell ⟨W.heap.size + 1 + 1, 2, none⟩ (.int .i64 w.credits)).setCell ⟨W.heap.size + 1 + 1, 3, none⟩ (.int .i64 w.next)).setCell ⟨W.heap.size + 1 + 1, 4, none⟩ (.slice aa w.ahead.length ca)).setCell ⟨W.heap.size + 1 + 1, 5, none⟩ (.slice aq w.queue.length cq)).setCell ⟨W.heap.size + 1 + 1, 6, none⟩ (.slice ap w.pk.length cp)).cell? ⟨W.heap.size, 0, none⟩ = some (.int .i64 w.size) ∧ (((((((wq.setCell ⟨W.heap.size + 1 + 1, 0, none⟩ (.int .i64 w.size)).setCell ⟨W.heap.size + 1 + 1, 1, none⟩ (.int .i64 w.room)).setCell ⟨W.heap.size + 1 + 1, 2, none⟩ (.int .i64 w.credits)).setCell ⟨W.heap.size + 1 + 1, 3, none⟩ (.int .i64 w.next)).setCell ⟨W.heap.size + 1 + 1, 4, none⟩ (.slice aa w.ahead.length ca)).setCell ⟨W.heap.size + 1 + 1, 5, none⟩ (.slice aq w.queue.length cq)).setCell ⟨W.heap.size + 1 + 1, 6, none⟩ (.slice ap w.pk.length cp)).cell? ⟨W.heap.size, 1, none⟩ = some (.int .i64 w.room) ∧ (((((((wq.setCell ⟨W.heap.size + 1 + 1, 0, none⟩ (.int .i64 w.size)).setCell ⟨W.heap.size + 1 + 1, 1, none⟩ (.int .i64 w.room)).setCell ⟨W.heap.size + 1 + 1, 2, none⟩ (.int .i64 w.credits)).setCell ⟨W.heap.size + 1 + 1, 3, none⟩ (.int .i64 w.next)).setCell ⟨W.heap.size + 1 + 1, 4, none⟩ (.slice aa w.ahead.length ca)).setCell ⟨W.heap.size + 1 + 1, 5, none⟩ (.slice aq w.queue.length cq)).setCell ⟨W.heap.size + 1 + 1, 6, none⟩ (.slice ap w.pk.length cp)).cell? ⟨W.heap.size, 2, none⟩ = some (.int .i64 w.credits) ∧ (((((((wq.setCell ⟨W.heap.size + 1 + 1, 0, none⟩ (.int .i64 w.size)).setCell ⟨W.heap.size + 1 + 1, 1, none⟩ (.int .i64 w.room)).setCell ⟨W.heap.size + 1 + 1, 2, none⟩ (.int .i64 w.credits)).setCell ⟨W.heap.size + 1 + 1, 3, none⟩ (.int .i64 w.next)).setCell ⟨W.heap.size + 1 + 1, 4, none⟩ (.slice aa w.ahead.length ca)).setCell ⟨W.heap.size + 1 + 1, 5, none⟩ (.slice aq w.queue.length cq)).setCell ⟨W.heap.size + 1 + 1, 6, none⟩ (.slice ap w.pk.length cp)).cell? ⟨W.heap.size, 3, none⟩ = some (.int .i64 w.next) ∧ (((((((wq.setCell ⟨W.heap.size + 1 + 1, 0, none⟩ (.int .i64 w.size)).setCell ⟨W.heap.size + 1 + 1, 1, none⟩ (.int .i64 w.room)).setCell ⟨W.heap.size + 1 + 1, 2, none⟩ (.int .i64 w.credits)).setCell ⟨W.heap.size + 1 + 1, 3, none⟩ (.int .i64 w.next)).setCell ⟨W.heap.size + 1 + 1, 4, none⟩ (.slice aa w.ahead.length ca)).setCell ⟨W.heap.size + 1 + 1, 5, none⟩ (.slice aq w.queue.length cq)).setCell ⟨W.heap.size + 1 + 1, 6, none⟩ (.slice ap w.pk.length cp)).cell? ⟨W.heap.size, 4, none⟩ = some (.slice aa w.ahead.length ca) ∧ (((((((wq.setCell ⟨W.heap.size + 1 + 1, 0, none⟩ (.int .i64 w.size)).setCell ⟨W.heap.size + 1 + 1, 1, none⟩ (.int .i64 w.room)).setCell ⟨W.heap.size + 1 + 1, 2, none⟩ (.int .i64 w.credits)).setCell ⟨W.heap.size + 1 + 1, 3, none⟩ (.int .i64 w.next)).setCell ⟨W.heap.size + 1 + 1, 4, none⟩ (.slice aa w.ahead.length ca)).setCell ⟨W.heap.size + 1 + 1, 5, none⟩ (.slice aq w.queue.length cq)).setCell ⟨W.heap.size + 1 + 1, 6, none⟩ (.slice ap w.pk.length cp)).cell? ⟨W.heap.size, 5, none⟩ = some (.slice aq w.queue.length cq) ∧ (((((((wq.setCell ⟨W.heap.size + 1 + 1, 0, none⟩ (.int .i64 w.size)).setCell ⟨W.heap.size + 1 + 1, 1, none⟩ (.int .i64 w.room)).setCell ⟨W.heap.size + 1 + 1, 2, none⟩ (.int .i64 w.credits)).setCell ⟨W.heap.size + 1 + 1, 3, none⟩ (.int .i64 w.next)).setCell ⟨W.heap.size + 1 + 1, 4, none⟩ (.slice aa w.ahead.length ca)).setCell ⟨W.heap.size + 1 + 1, 5, none⟩ (.slice aq w.queue.length cq)).setCell ⟨W.heap.size + 1 + 1, 6, none⟩ (.slice ap w.pk.length cp)).cell? ⟨W.heap.size, 6, none⟩ = some (.slice ap w.pk.length cp) ∧ (((((((wq.setCell ⟨W.heap.size + 1 + 1, 0, none⟩ (.int .i64 w.size)).setCell ⟨W.heap.size + 1 + 1, 1, none⟩ (.int .i64 w.room)).setCell ⟨W.heap.size + 1 + 1, 2, none⟩ (.int .i64 w.credits)).setCell ⟨W.heap.size + 1 + 1, 3, none⟩ (.int .i64 w.next)).setCell ⟨W.heap.size + 1 + 1, 4, none⟩ (.slice aa w.ahead.length ca)).setCell ⟨W.heap.size + 1 + 1, 5, none⟩ (.slice aq w.queue.length cq)).setCell ⟨W.heap.size + 1 + 1, 6, none⟩ (.slice ap w.pk.length cp)).cell? ⟨nb, 0, none⟩ = some (.int .i64 y.kind) ∧ (((((((wq.setCell ⟨W.heap.size + 1 + 1, 0, none⟩ (.int .i64 w.size)).setCell ⟨W.heap.size + 1 + 1, 1, none⟩ (.int .i64 w.room)).setCell ⟨W.heap.size + 1 + 1, 2, none⟩ (.int .i64 w.credits)).setCell ⟨W.heap.size + 1 + 1, 3, none⟩ (.int .i64 w.next)).setCell ⟨W.heap.size + 1 + 1, 4, none⟩ (.slice aa w.ahead.length ca)).setCell ⟨W.heap.size + 1 + 1, 5, none⟩ (.slice aq w.queue.length cq)).setCell ⟨W.heap.size + 1 + 1, 6, none⟩ (.slice ap w.pk.length cp)).cell? ⟨nb, 1, none⟩ = some (.int .i64 y.n) ∧ (((((((wq.setCell ⟨W.heap.size + 1 + 1, 0, none⟩ (.int .i64 w.size)).setCell ⟨W.heap.size + 1 + 1, 1, none⟩ (.int .i64 w.room)).setCell ⟨W.heap.size + 1 + 1, 2, none⟩ (.int .i64 w.credits)).setCell ⟨W.heap.size + 1 + 1, 3, none⟩ (.int .i64 w.next)).setCell ⟨W.heap.size + 1 + 1, 4, none⟩ (.slice aa w.ahead.length ca)).setCell ⟨W.heap.size + 1 + 1, 5, none⟩ (.slice aq w.queue.length cq)).setCell ⟨W.heap.size + 1 + 1, 6, none⟩ (.slice ap w.pk.length cp)).cell? ⟨nb, 2, none⟩ = some (.int .i64 y.time) ∧ (((((((wq.setCell ⟨W.heap.size + 1 + 1, 0, none⟩ (.int .i64 w.size)).setCell ⟨W.heap.size + 1 + 1, 1, none⟩ (.int .i64 w.room)).setCell ⟨W.heap.size + 1 + 1, 2, none⟩ (.int .i64 w.credits)).setCell ⟨W.heap.size + 1 + 1, 3, none⟩ (.int .i64 w.next)).setCell ⟨W.heap.size + 1 + 1, 4, none⟩ (.slice aa w.ahead.length ca)).setCell ⟨W.heap.size + 1 + 1, 5, none⟩ (.slice aq w.queue.length cq)).setCell ⟨W.heap.size + 1 + 1, 6, none⟩ (.slice ap w.pk.length cp)).cell? ⟨nb, 3, none⟩ = some (.slice a1 y.row.length c1x) ∧ (((((((wq.setCell ⟨W.heap.size + 1 + 1, 0, none⟩ (.int .i64 w.size)).setCell ⟨W.heap.size + 1 + 1, 1, none⟩ (.int .i64 w.room)).setCell ⟨W.heap.size + 1 + 1, 2, none⟩ (.int .i64 w.credits)).setCell ⟨W.heap.size + 1 + 1, 3, none⟩ (.int .i64 w.next)).setCell ⟨W.heap.size + 1 + 1, 4, none⟩ (.slice aa w.ahead.length ca)).setCell ⟨W.heap.size + 1 + 1, 5, none⟩ (.slice aq w.queue.length cq)).setCell ⟨W.heap.size + 1 + 1, 6, none⟩ (.slice ap w.pk.length cp)).cell? ⟨nb, 4, none⟩ = some (.int .i64 y.cn) ∧ (((((((wq.setCell ⟨W.heap.size + 1 + 1, 0, none⟩ (.int .i64 w.size)).setCell ⟨W.heap.size + 1 + 1, 1, none⟩ (.int .i64 w.room)).setCell ⟨W.heap.size + 1 + 1, 2, none⟩ (.int .i64 w.credits)).setCell ⟨W.heap.size + 1 + 1, 3, none⟩ (.int .i64 w.next)).setCell ⟨W.heap.size + 1 + 1, 4, none⟩ (.slice aa w.ahead.length ca)).setCell ⟨W.heap.size + 1 + 1, 5, none⟩ (.slice aq w.queue.length cq)).setCell ⟨W.heap.size + 1 + 1, 6, none⟩ (.slice ap w.pk.length cp)).cell? ⟨nc, 0, none⟩ = some (.int .i64 y.kind) ∧ (((((((wq.setCell ⟨W.heap.size + 1 + 1, 0, none⟩ (.int .i64 w.size)).setCell ⟨W.heap.size + 1 + 1, 1, none⟩ (.int .i64 w.room)).setCell ⟨W.heap.size + 1 + 1, 2, none⟩ (.int .i64 w.credits)).setCell ⟨W.heap.size + 1 + 1, 3, none⟩ (.int .i64 w.next)).setCell ⟨W.heap.size + 1 + 1, 4, none⟩ (.slice aa w.ahead.length ca)).setCell ⟨W.heap.size + 1 + 1, 5, none⟩ (.slice aq w.queue.length cq)).setCell ⟨W.heap.size + 1 + 1, 6, none⟩ (.slice ap w.pk.length cp)).cell? ⟨nc, 1, none⟩ = some (.int .i64 y.n) ∧ (((((((wq.setCell ⟨W.heap.size + 1 + 1, 0, none⟩ (.int .i64 w.size)).setCell ⟨W.heap.size + 1 + 1, 1, none⟩ (.int .i64 w.room)).setCell ⟨W.heap.size + 1 + 1, 2, none⟩ (.int .i64 w.credits)).setCell ⟨W.heap.size + 1 + 1, 3, none⟩ (.int .i64 w.next)).setCell ⟨W.heap.size + 1 + 1, 4, none⟩ (.slice aa w.ahead.length ca)).setCell ⟨W.heap.size + 1 + 1, 5, none⟩ (.slice aq w.queue.length cq)).setCell ⟨W.heap.size + 1 + 1, 6, none⟩ (.slice ap w.pk.length cp)).cell? ⟨nc, 2, none⟩ = some (.int .i64 y.time) ∧ (((((((wq.setCell ⟨W.heap.size + 1 + 1, 0, none⟩ (.int .i64 w.size)).setCell ⟨W.heap.size + 1 + 1, 1, none⟩ (.int .i64 w.room)).setCell ⟨W.heap.size + 1 + 1, 2, none⟩ (.int .i64 w.credits)).setCell ⟨W.heap.size + 1 + 1, 3, none⟩ (.int .i64 w.next)).setCell ⟨W.heap.size + 1 + 1, 4, none⟩ (.slice aa w.ahead.length ca)).setCell ⟨W.heap.size + 1 + 1, 5, none⟩ (.slice aq w.queue.length cq)).setCell ⟨W.heap.size + 1 + 1, 6, none⟩ (.slice ap w.pk.length cp)).cell? ⟨nc, 3, none⟩ = some (.slice a2 y.row.length c2x) ∧ (((((((wq.setCell ⟨W.heap.size + 1 + 1, 0, none⟩ (.int .i64 w.size)).setCell ⟨W.heap.size + 1 + 1, 1, none⟩ (.int .i64 w.room)).setCell ⟨W.heap.size + 1 + 1, 2, none⟩ (.int .i64 w.credits)).setCell ⟨W.heap.size + 1 + 1, 3, none⟩ (.int .i64 w.next)).setCell ⟨W.heap.size + 1 + 1, 4, none⟩ (.slice aa w.ahead.length ca)).setCell ⟨W.heap.size + 1 + 1, 5, none⟩ (.slice aq w.queue.length cq)).setCell ⟨W.heap.size + 1 + 1, 6, none⟩ (.slice ap w.pk.length cp)).cell? ⟨nc, 4, none⟩ = some (.int .i64 y.cn) from HS.out _ (hq.stored (store7_keeps wq (W.heap.size + 1 + 1) (.int .i64 w.size) (.int .i64 w.room) (.int .i64 w.credits) (.int .i64 w.next) (.slice aa w.ahead.length ca) (.slice aq w.queue.length cq) (.slice ap w.pk.length cp)))))
    have HSE := Lib.hid (same_el y _ _ X3.drew (tRow.mono _ _ _ _ (Mem.le_trans HM3.out HMD.out.mem) HR1.out) (tRow.mono _ _ _ _ HMD.out.mem HR2.out))
    have s0 := HS.out X3.drew HMD.out.mem
    go_region_held3 (fun w' => w'.cell? ⟨W.heap.size, 0, none⟩ = some (.int .i64 w.size) ∧ w'.cell? ⟨W.heap.size, 1, none⟩ = some (.int .i64 w.room) ∧ w'.cell? ⟨W.heap.size, 2, none⟩ = some (.int .i64 w.credits) ∧ w'.cell? ⟨W.heap.size, 3, none⟩ = some (.int .i64 w.next) ∧ w'.cell? ⟨W.heap.size, 4, none⟩ = some (.slice aa w.ahead.length ca) ∧ w'.cell? ⟨W.heap.size, 5, none⟩ = some (.slice aq w.queue.length cq) ∧ w'.cell? ⟨W.heap.size, 6, none⟩ = some (.slice ap w.pk.length cp) ∧ w'.cell? ⟨nb, 0, none⟩ = some (.int .i64 y.kind) ∧ w'.cell? ⟨nb, 1, none⟩ = some (.int .i64 y.n) ∧ w'.cell? ⟨nb, 2, none⟩ = some (.int .i64 y.time) ∧ w'.cell? ⟨nb, 3, none⟩ = some (.slice a1 y.row.length c1x) ∧ w'.cell? ⟨nb, 4, none⟩ = some (.int .i64 y.cn) ∧ w'.cell? ⟨nc, 0, none⟩ = some (.int .i64 y.kind) ∧ w'.cell? ⟨nc, 1, none⟩ = some (.int .i64 y.n) ∧ w'.cell? ⟨nc, 2, none⟩ = some (.int .i64 y.time) ∧ w'.cell? ⟨nc, 3, none⟩ = some (.slice a2 y.row.length c2x) ∧ w'.cell? ⟨nc, 4, none⟩ = some (.int .i64 y.cn)) (first | with_reducible exact s0 | with_reducible exact HS.out w5 hm5 | with_reducible exact HSR.out w5 HMid5.out | go_keep)
      ((first
        | (go_at_call 47; refine HSE.out.mono ?_; rintro e w5 ⟨rfl, hb5⟩; have hMid5 := HMD.out.pure hb5; have hm5 := hMid5.mem; have HMid5 := Lib.hid hMid5; obtain ⟨f5, z5⟩ := hMid5.cells; have z0 := z5 0; have z1 := z5 1; have z2 := z5 2; have z3 := z5 3; have z4 := z5 4; have z55 := z5 5; have z6 := z5 6; clear hMid5 z5)))
    all_goals
      go_wp2
      have r1 := store7_block HMid5.out.hR (.int .i64 w.size) (.int .i64 w.room) (.int .i64 w.credits) (.int .i64 w.next) (.slice aa w.ahead.length ca) (.slice aq w.queue.length cq) (.slice ap w.pk.length cp)
      have hk := store7_keeps (w5) (W.heap.size + 1 + 1) (.int .i64 w.size) (.int .i64 w.room) (.int .i64 w.credits) (.int .i64 w.next) (.slice aa w.ahead.length ca) (.slice aq w.queue.length cq) (.slice ap w.pk.length cp)
      show bodyPost _ _ _ _ _ (store7 (w5) (W.heap.size + 1 + 1) (.int .i64 w.size) (.int .i64 w.room) (.int .i64 w.credits) (.int .i64 w.next) (.slice aa w.ahead.length ca) (.slice aq w.queue.length cq) (.slice ap w.pk.length cp))
      generalize store7 (w5) (W.heap.size + 1 + 1) (.int .i64 w.size) (.int .i64 w.room) (.int .i64 w.credits) (.int .i64 w.next) (.slice aa w.ahead.length ca) (.slice aq w.queue.length cq) (.slice ap w.pk.length cp) = w2 at r1 hk ⊢
      have g0 : w2.cell? ⟨W.heap.size + 1 + 1, 0, none⟩ = some (.int .i64 w.size) := mem_cells r1 0
      have g1 : w2.cell? ⟨W.heap.size + 1 + 1, 1, none⟩ = some (.int .i64 w.room) := mem_cells r1 1
      have g2 : w2.cell? ⟨W.heap.size + 1 + 1, 2, none⟩ = some (.int .i64 w.credits) := mem_cells r1 2
      have g3 : w2.cell? ⟨W.heap.size + 1 + 1, 3, none⟩ = some (.int .i64 w.next) := mem_cells r1 3
      have g4 : w2.cell? ⟨W.heap.size + 1 + 1, 4, none⟩ = some (.slice aa w.ahead.length ca) := mem_cells r1 4
      have g5 : w2.cell? ⟨W.heap.size + 1 + 1, 5, none⟩ = some (.slice aq w.queue.length cq) := mem_cells r1 5
      have g6 : w2.cell? ⟨W.heap.size + 1 + 1, 6, none⟩ = some (.slice ap w.pk.length cp) := mem_cells r1 6
      refine bodyPost_ret (v := .tuple #[.agg #[.int .i64 w.size, .int .i64 w.room, .int .i64 w.credits, .int .i64 w.next, .slice aa w.ahead.length ca, .slice aq w.queue.length cq, .slice ap w.pk.length cp], .bool true]) (by simp [results, Try.results25, go_sem, g0, g1, g2, g3, g4, g5, g6]) rfl ?_
      refine ⟨r, ah, ps, m, M3, _, _, _, by rw [HW.out], ?_, Mem.le_trans HM1.out (Mem.le_trans HM2.out HM3.out), by omega⟩
      have hfin := HMid5.out.finish hk (by rw [HW.out]; exact HRF.out.mono (Mem.le_trans HM2.out HM3.out))
      exact ⟨hfin.st.mono (Nat.le_succ N), hfin.so.mono (Nat.le_succ N), hfin.rf, hfin.bel, hfin.mm, hfin.fk⟩
end Go.Proofs.Ytfkphdmnelchmaa
