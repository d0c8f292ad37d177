/- Part 9 of the texts that the law's proof stands on, merged. -/
import Derived.Deep.RegionLaw
import Derived.Deep.RegionHeld3
import Derived.Test.YtfkphdmnelchmaaWc08
set_option linter.unusedVariables false
set_option linter.unusedSimpArgs false
/- does: receive. -/
namespace Go.Proofs.Ytfkphdmnelchmaa
open Go.RowKit Go.Maps

theorem recv_match {c : Int} {n : Nat} {r : Raw} {ah : List El} {ps : List PK} {m : Nat} {M : Mem} {W W' : World} {w : RW} {a q p : Value} {e : Ending} {i : Item} {is : List Item} (h : Sound c n r ah ps m) (hw : refOf r ah ps = w) (hb : r.buffer = i :: is) (hr : RRecv M W w a q p e W') :
    ∃ ah' ps' m' ar cr a2 q2 p2, Sound c n (recvR r) ah' ps' m' ∧ (recvR r).count = r.count - 1 ∧ e = .returned (.tuple #[wV (refOf (recvR r) ah' ps') a2 q2 p2, elV i.el (.slice ar i.el.row.length cr), .int .i64 0]) ∧ tRow.rv M [.slice ar i.el.row.length cr] i.el.row ∧ RwAt (joinM M W W') (refOf (recvR r) ah' ps') a2 q2 p2 := by
  have hrb : rbuf w = i.el :: is.map (·.el) := by rw [← hw, rbuf_ref h.toSim, hb]; rfl
  have hal : (recvR r).queue = r.queue ∧ (recvR r).size = r.size ∧ (recvR r).room = r.room ∧ (recvR r).next = r.next ∧ (recvR r).count = r.count - 1 ∧ ∀ p ∈ (recvR r).pt, p.els.length ≤ 4000 := by
    have hd : ∀ a, ∀ p ∈ decPt a r.pt, p.els.length ≤ 4000 := fun a p hp => by
      obtain ⟨q, hq, rfl⟩ := List.mem_map.1 hp
      have := h.pe q hq
      split <;> exact this
    obtain ⟨x, of⟩ := i
    unfold recvR
    rw [hb]
    cases of with
    | none => exact ⟨rfl, rfl, rfl, rfl, rfl, h.pe⟩
    | some a => exact ⟨rfl, rfl, rfl, rfl, rfl, hd a⟩
  obtain ⟨a1, a2, a3, a4, a5, a6⟩ := hal
  have hk1 := h.k1
  have hwa : w.ahead = ah := by rw [← hw]; rfl
  have hwp : w.pk = ps.map (fun p => (⟨p.num, p.els, p.dl⟩ : RP)) := by rw [← hw]; rfl
  have hwf : w.size = r.size ∧ w.room = r.room ∧ w.credits = r.credits ∧ w.next = r.next ∧ w.queue = r.queue := by rw [← hw]; exact ⟨rfl, rfl, rfl, rfl, rfl⟩
  rcases hr with ⟨h0, _⟩ | ⟨x0, ls, ar, cr, a', hah, rfl, hrow, hrw⟩ | ⟨hah, y, ys, x0, xs0, ar, cr, p', hpk, hdl, hels, rfl, hrow, hrw⟩
  · rw [hrb] at h0; cases h0
  · have hx0 : x0 = i.el := by unfold rbuf at hrb; rw [hah, List.cons_append] at hrb; injection hrb
    subst hx0
    rw [hwa] at hah
    rcases sim_recv h.toSim hb with ⟨x, ah', rfl, rfl, hc, hs⟩ | ⟨rfl, _⟩
    · injection hah with _ h2
      subst h2
      have ec : contentsOf r (x :: ah') ps = x :: contentsOf (recvR r) ah' ps := by unfold contentsOf; rw [a1]; simp
      have he : refOf (recvR r) ah' ps = { w with ahead := ah' } := by rw [← hw]; unfold refOf; rw [a1, a2, a3, a4, hc]
      rw [← he] at hrw ⊢
      exact ⟨ah', ps, m, ar, cr, a', q, p, ⟨hs, by rw [a2]; exact h.s1, by rw [a3]; exact h.rm, by rw [hc]; exact h.cr, by rw [hc]; exact h.c0, h.c1, by rw [a4]; exact h.nx, by rw [a4]; exact h.n1, by rw [a5]; omega, fun y hy => h.ok y (by rw [ec]; simp [hy]), a6⟩, a5, rfl, hrow, hrw⟩
    · cases hah
  · rw [hwa] at hah
    rcases sim_recv h.toSim hb with ⟨x, ah', rfl, rfl, hc, hs⟩ | ⟨_, hm, p0, ps', x, rfl, rfl, hcase⟩
    · cases hah
    · rw [hwp, List.map_cons] at hpk
      injection hpk with hp1 hp2
      subst hp1
      subst hp2
      simp only at hels
      rcases hcase with ⟨hpe, hc, hs⟩ | ⟨y2, xs2, hpe, hc, hs⟩
      · rw [hpe] at hels
        injection hels with e1 e2
        subst e1; subst e2
        subst hah
        have ec : contentsOf r [] (p0 :: ps') = x :: contentsOf (recvR r) [] ps' := by unfold contentsOf; rw [a1]; simp [hpe]
        have h1 := h.cr
        have h2 := h.nx
        have h0 := h.c0
        simp only [List.length_cons] at h1 h2
        push_cast at h1 h2
        have he : refOf (recvR r) [] ps' = recvPk w ⟨p0.num, p0.els, p0.dl⟩ (ps'.map fun p => (⟨p.num, p.els, p.dl⟩ : RP)) [] := by
          unfold recvPk
          rw [if_pos rfl, ← hw]; unfold refOf; rw [a1, a2, a3, a4, hc]
        rw [← he] at hrw ⊢
        exact ⟨[], ps', m - 1, ar, cr, a, q, p', ⟨hs, by rw [a2]; exact h.s1, by rw [a3]; exact h.rm, by rw [hc]; omega, by rw [hc]; omega, h.c1, by rw [a4]; omega, by rw [a4]; exact h.n1, by rw [a5]; omega, fun y hy => h.ok y (by rw [ec]; simp [hy]), a6⟩, a5, rfl, hrow, hrw⟩
      · rw [hpe] at hels
        injection hels with e1 e2
        subst e1; subst e2
        subst hah
        have ec : contentsOf r [] (p0 :: ps') = x :: contentsOf (recvR r) [] ({ p0 with els := y2 :: xs2 } :: ps') := by unfold contentsOf; rw [a1]; simp [hpe]
        have he : refOf (recvR r) [] ({ p0 with els := y2 :: xs2 } :: ps') = recvPk w ⟨p0.num, p0.els, p0.dl⟩ (ps'.map fun p => (⟨p.num, p.els, p.dl⟩ : RP)) (y2 :: xs2) := by
          unfold recvPk
          rw [if_neg (by simp), ← hw]; unfold refOf; rw [a1, a2, a3, a4, hc]; rfl
        rw [← he] at hrw ⊢
        exact ⟨[], _, m, ar, cr, a, q, p', ⟨hs, by rw [a2]; exact h.s1, by rw [a3]; exact h.rm, by rw [hc]; exact h.cr, by rw [hc]; exact h.c0, h.c1, by rw [a4]; exact h.nx, by rw [a4]; exact h.n1, by rw [a5]; omega, fun y hy => h.ok y (by rw [ec]; simp [hy]), a6⟩, a5, rfl, hrow, hrw⟩

set_option maxRecDepth 100000 in
set_option maxHeartbeats 8000000 in
theorem does_recv (c : Int) (base b : Nat) (M0 : Mem) (w0 : World) (F : Nat → Prop) (W : World) (r : Raw) (ah : List El) (ps : List PK) (m N kk : Nat) (M : Mem) (a q p s : Value) (x : Act20) (h : Run c base b M0 w0 F W r ah ps m N M a q p) (hx : x.el.ok) (hxn : inI64 x.n) (hx8 : 0 ≤ x.kind ∧ x.kind ≤ 255) (hs : tRow.rv M [s] x.el.row) (hkd : x.kind % 8 = 4) (hN : N ≤ 500000) (hcnt : r.count ≤ kk) (hkk : kk ≤ 2000) :
    Calls Try.prog 25 #[.pointer (some ⟨b, 0, none⟩), wV (refOf r ah ps) a q p, actV x s] W (DoesOut c base b M0 w0 F N M (kk + 1)) := by
  have hfine := h.so.fine (by omega)
  have hcn0 := h.so.cnt0
  have hl : (rcont (refOf r ah ps)).length ≤ 2000 := by rw [h.so.rcnt]; omega
  have hpl : (refOf r ah ps).pk.length ≤ 2000 := by
    have h1 := h.so.cr; have h2 := h.so.c0; have h3 := h.so.c1
    show (ps.map _).length ≤ 2000
    rw [List.length_map]; omega
  generalize hw : refOf r ah ps = w at *
  have hRun := h
  have hrf := h.rf
  rw [hw] at hrf
  obtain ⟨aa, ca, rfl, hla, hma, hra⟩ := slice_form hrf.ha
  obtain ⟨aq, cq, rfl, hlq, hmq, hrq⟩ := slice_form hrf.hq
  obtain ⟨ap, cp, rfl, hlp, hmp, hrp⟩ := slice_form hrf.hp
  obtain ⟨ax, cx, rfl, _, hmx, hs⟩ := slice_form hs
  have hca : ca ≤ 9223372036854775807 := by unfold maxLen at hma; exact hma
  have hcq : cq ≤ 9223372036854775807 := by unfold maxLen at hmq; exact hmq
  have hcp : cp ≤ 9223372036854775807 := by unfold maxLen at hmp; exact hmp
  have HW := Lib.hid hw
  have HB := Lib.hid ((((Below.refl W.heap.size W).alloc (Nat.le_refl _) (.cells #[.int .i64 w.size, .int .i64 w.room, .int .i64 w.credits, .int .i64 w.next, .slice aa w.ahead.length ca, .slice aq w.queue.length cq, .slice ap w.pk.length cp] 56)).alloc (by simp) (.cells #[.int .u8 x.kind, .int .i64 x.n, .int .i64 x.el.kind, .int .i64 x.el.n, .int .i64 x.el.time, .slice ax x.el.row.length cx, .int .i64 x.el.cn] 44)).alloc (by simp; omega) (.cells #[.int .i64 0, .int .i64 0, .int .i64 0, .int .i64 0, .slice none 0 0, .slice none 0 0, .slice none 0 0] 56))
  have y4 : (((W.alloc (.cells #[.int .i64 w.size, .int .i64 w.room, .int .i64 w.credits, .int .i64 w.next, .slice aa w.ahead.length ca, .slice aq w.queue.length cq, .slice ap w.pk.length cp] 56)).alloc (.cells #[.int .u8 x.kind, .int .i64 x.n, .int .i64 x.el.kind, .int .i64 x.el.n, .int .i64 x.el.time, .slice ax x.el.row.length cx, .int .i64 x.el.cn] 44)).alloc (.cells #[.int .i64 0, .int .i64 0, .int .i64 0, .int .i64 0, .slice none 0 0, .slice none 0 0, .slice none 0 0] 56)).heap[W.heap.size]? = some (.cells #[.int .i64 w.size, .int .i64 w.room, .int .i64 w.credits, .int .i64 w.next, .slice aa w.ahead.length ca, .slice aq w.queue.length cq, .slice ap w.pk.length cp] 56 (0, 0)) := alloc_block (alloc_block (heap_alloc_new W _) _) _
  have y5 : (((W.alloc (.cells #[.int .i64 w.size, .int .i64 w.room, .int .i64 w.credits, .int .i64 w.next, .slice aa w.ahead.length ca, .slice aq w.queue.length cq, .slice ap w.pk.length cp] 56)).alloc (.cells #[.int .u8 x.kind, .int .i64 x.n, .int .i64 x.el.kind, .int .i64 x.el.n, .int .i64 x.el.time, .slice ax x.el.row.length cx, .int .i64 x.el.cn] 44)).alloc (.cells #[.int .i64 0, .int .i64 0, .int .i64 0, .int .i64 0, .slice none 0 0, .slice none 0 0, .slice none 0 0] 56)).heap[W.heap.size + 1]? = some (.cells #[.int .u8 x.kind, .int .i64 x.n, .int .i64 x.el.kind, .int .i64 x.el.n, .int .i64 x.el.time, .slice ax x.el.row.length cx, .int .i64 x.el.cn] 44 (0, 0)) := alloc_block (by have h := heap_alloc_new (W.alloc (.cells #[.int .i64 w.size, .int .i64 w.room, .int .i64 w.credits, .int .i64 w.next, .slice aa w.ahead.length ca, .slice aq w.queue.length cq, .slice ap w.pk.length cp] 56)) (.cells #[.int .u8 x.kind, .int .i64 x.n, .int .i64 x.el.kind, .int .i64 x.el.n, .int .i64 x.el.time, .slice ax x.el.row.length cx, .int .i64 x.el.cn] 44); rwa [World.size_alloc] at h) _
  have yR : (((W.alloc (.cells #[.int .i64 w.size, .int .i64 w.room, .int .i64 w.credits, .int .i64 w.next, .slice aa w.ahead.length ca, .slice aq w.queue.length cq, .slice ap w.pk.length cp] 56)).alloc (.cells #[.int .u8 x.kind, .int .i64 x.n, .int .i64 x.el.kind, .int .i64 x.el.n, .int .i64 x.el.time, .slice ax x.el.row.length cx, .int .i64 x.el.cn] 44)).alloc (.cells #[.int .i64 0, .int .i64 0, .int .i64 0, .int .i64 0, .slice none 0 0, .slice none 0 0, .slice none 0 0] 56)).heap[W.heap.size + 1 + 1]? = some (.cells #[.int .i64 0, .int .i64 0, .int .i64 0, .int .i64 0, .slice none 0 0, .slice none 0 0, .slice none 0 0] 56 (0, 0)) := by have h := heap_alloc_new ((W.alloc (.cells #[.int .i64 w.size, .int .i64 w.room, .int .i64 w.credits, .int .i64 w.next, .slice aa w.ahead.length ca, .slice aq w.queue.length cq, .slice ap w.pk.length cp] 56)).alloc (.cells #[.int .u8 x.kind, .int .i64 x.n, .int .i64 x.el.kind, .int .i64 x.el.n, .int .i64 x.el.time, .slice ax x.el.row.length cx, .int .i64 x.el.cn] 44)) (.cells #[.int .i64 0, .int .i64 0, .int .i64 0, .int .i64 0, .slice none 0 0, .slice none 0 0, .slice none 0 0] 56); simpa only [World.size_alloc] using h
  obtain ⟨M1, hMid, hM1, hnew1⟩ := h.start HB.out (R := W.heap.size + 1 + 1) (by omega) yR
  have HRF := Lib.hid (hrf.mono hM1)
  have HHS := Lib.hid (tRow.mono _ _ _ _ hM1 hs)
  have HX := Lib.hid hx
  have HM1 := Lib.hid hM1
  have HSO := Lib.hid hRun.so
  have HF := Lib.hid hfine
  have HC4 := Lib.hid (fun (wq : World) (hq : M1.le (mem wq)) => (show wq.cell? ⟨W.heap.size, 0, none⟩ = some (.int .i64 w.size) ∧ wq.cell? ⟨W.heap.size, 1, none⟩ = some (.int .i64 w.room) ∧ wq.cell? ⟨W.heap.size, 2, none⟩ = some (.int .i64 w.credits) ∧ wq.cell? ⟨W.heap.size, 3, none⟩ = some (.int .i64 w.next) ∧ wq.cell? ⟨W.heap.size, 4, none⟩ = some (.slice aa w.ahead.length ca) ∧ wq.cell? ⟨W.heap.size, 5, none⟩ = some (.slice aq w.queue.length cq) ∧ wq.cell? ⟨W.heap.size, 6, none⟩ = some (.slice ap w.pk.length cp) from ⟨hq _ _ _ (hnew1 _ _ _ (Mem.on_some (mem_cells y4 0) ⟨by omega, by omega⟩)), hq _ _ _ (hnew1 _ _ _ (Mem.on_some (mem_cells y4 1) ⟨by omega, by omega⟩)), hq _ _ _ (hnew1 _ _ _ (Mem.on_some (mem_cells y4 2) ⟨by omega, by omega⟩)), hq _ _ _ (hnew1 _ _ _ (Mem.on_some (mem_cells y4 3) ⟨by omega, by omega⟩)), hq _ _ _ (hnew1 _ _ _ (Mem.on_some (mem_cells y4 4) ⟨by omega, by omega⟩)), hq _ _ _ (hnew1 _ _ _ (Mem.on_some (mem_cells y4 5) ⟨by omega, by omega⟩)), hq _ _ _ (hnew1 _ _ _ (Mem.on_some (mem_cells y4 6) ⟨by omega, by omega⟩))⟩))
  have HC5 := Lib.hid (fun (wq : World) (hq : M1.le (mem wq)) => (show wq.cell? ⟨W.heap.size + 1, 0, none⟩ = some (.int .u8 x.kind) ∧ wq.cell? ⟨W.heap.size + 1, 1, none⟩ = some (.int .i64 x.n) ∧ wq.cell? ⟨W.heap.size + 1, 2, none⟩ = some (.int .i64 x.el.kind) ∧ wq.cell? ⟨W.heap.size + 1, 3, none⟩ = some (.int .i64 x.el.n) ∧ wq.cell? ⟨W.heap.size + 1, 4, none⟩ = some (.int .i64 x.el.time) ∧ wq.cell? ⟨W.heap.size + 1, 5, none⟩ = some (.slice ax x.el.row.length cx) ∧ wq.cell? ⟨W.heap.size + 1, 6, none⟩ = some (.int .i64 x.el.cn) from ⟨hq _ _ _ (hnew1 _ _ _ (Mem.on_some (mem_cells y5 0) ⟨by omega, by omega⟩)), hq _ _ _ (hnew1 _ _ _ (Mem.on_some (mem_cells y5 1) ⟨by omega, by omega⟩)), hq _ _ _ (hnew1 _ _ _ (Mem.on_some (mem_cells y5 2) ⟨by omega, by omega⟩)), hq _ _ _ (hnew1 _ _ _ (Mem.on_some (mem_cells y5 3) ⟨by omega, by omega⟩)), hq _ _ _ (hnew1 _ _ _ (Mem.on_some (mem_cells y5 4) ⟨by omega, by omega⟩)), hq _ _ _ (hnew1 _ _ _ (Mem.on_some (mem_cells y5 5) ⟨by omega, by omega⟩)), hq _ _ _ (hnew1 _ _ _ (Mem.on_some (mem_cells y5 6) ⟨by omega, by omega⟩))⟩))
  clear y4 y5 yR hnew1 hra hrq hrp hma hmq hmp hmx hs h hrf hw hx hRun hfine hM1
  go_enter Try.func25, Try.ntmps25
  go_upto_region 1 with fail
  generalize ((W.alloc (.cells #[.int .i64 w.size, .int .i64 w.room, .int .i64 w.credits, .int .i64 w.next, .slice aa w.ahead.length ca, .slice aq w.queue.length cq, .slice ap w.pk.length cp] 56)).alloc (.cells #[.int .u8 x.kind, .int .i64 x.n, .int .i64 x.el.kind, .int .i64 x.el.n, .int .i64 x.el.time, .slice ax x.el.row.length cx, .int .i64 x.el.cn] 44)).alloc (.cells #[.int .i64 0, .int .i64 0, .int .i64 0, .int .i64 0, .slice none 0 0, .slice none 0 0, .slice none 0 0] 56) = Y at HB hMid ⊢
  have HMid := Lib.hid hMid
  obtain ⟨c0, c1, c2, c3, c4, c5, c6⟩ := HC4.out Y hMid.mem
  obtain ⟨d0, d1, d2, d3, d4, d5, d6⟩ := HC5.out Y hMid.mem
  clear hMid
  go_upto_region 2 with fail
  rw [hkd]
  have HBUF := Lib.hid (show rbuf w = r.buffer.map (·.el) by rw [← HW.out]; exact rbuf_ref HSO.out.toSim)
  have HNEE := Lib.hid (show ∀ y ∈ w.pk, y.els ≠ [] from fun y hy => by
    rw [← HW.out] at hy
    obtain ⟨p, hp, rfl⟩ := List.mem_map.1 hy
    exact HSO.out.ne p hp)
  have HCRD := Lib.hid (show 0 ≤ w.credits ∧ w.credits ≤ 1000 by rw [← HW.out]; exact ⟨HF.out.c0, HF.out.c1⟩)
  clear c0 c1 c2 c3 c4 c5 c6 d0 d1 d2 d3 d4 d5 d6
  go_wp2_with fail
  refine (st_recv HMid.out.st HF.out).mono ?_
  rintro e w1 ⟨M1a, hMa, hS, hp⟩
  have hb1 : Below w1.heap.size w1 w1 := Below.refl _ _
  have HMA := Lib.hid hMa
  rcases hp with ⟨hbuf, rfl⟩ | ⟨i, is, a1, c1x, hbuf, rfl, hr1⟩
  · have hrb : rbuf w = [] := by rw [HBUF.out, hbuf]; rfl
    have hrr : recvR r = r := by unfold recvR; rw [hbuf]
    rw [hrr] at hS
    have HMidA := Lib.hid (HMid.out.step hMa hS (HSO.out.mono (Nat.le_succ N)))
    clear hS hMa hrr hbuf
    have hbA2 : Below w1.heap.size w1 (w1.alloc (.cells #[.int .i64 noEl.kind, .int .i64 noEl.n, .int .i64 noEl.time, .slice none 0 0, .int .i64 noEl.cn] 42)) := hb1.alloc hb1.size _
    obtain ⟨M2, hMid2, hM2, hn2⟩ := HMidA.out.grow hbA2
    have HN2 := Lib.hid (show ((mem w1).on (w1.heap.size ≤ ·)).le M2 from fun i o v e => hn2 _ _ _ (let ⟨hs, e⟩ := Mem.of_on e; Mem.on_some (below_mem ((Below.refl w1.heap.size w1).alloc (Nat.le_refl _) _) _ _ _ e) hs))
    have HC82 := Lib.hid (fun (wq : World) (hq : M2.le (mem wq)) => (show wq.cell? ⟨w1.heap.size, 0, none⟩ = some (.int .i64 noEl.kind) ∧ wq.cell? ⟨w1.heap.size, 1, none⟩ = some (.int .i64 noEl.n) ∧ wq.cell? ⟨w1.heap.size, 2, none⟩ = some (.int .i64 noEl.time) ∧ wq.cell? ⟨w1.heap.size, 3, none⟩ = some (.slice none 0 0) ∧ wq.cell? ⟨w1.heap.size, 4, none⟩ = some (.int .i64 noEl.cn) from ⟨hq _ _ _ (hn2 _ _ _ (Mem.on_some (cell_new 0 rfl) hb1.size)), hq _ _ _ (hn2 _ _ _ (Mem.on_some (cell_new 1 rfl) hb1.size)), hq _ _ _ (hn2 _ _ _ (Mem.on_some (cell_new 2 rfl) hb1.size)), hq _ _ _ (hn2 _ _ _ (Mem.on_some (cell_new 3 rfl) hb1.size)), hq _ _ _ (hn2 _ _ _ (Mem.on_some (cell_new 4 rfl) hb1.size))⟩))
    have HM2 := Lib.hid hM2
    have HMid2 := Lib.hid hMid2
    have HR1 := Lib.hid (show tRow.rv M2 [.slice none 0 0] noEl.row from slice_nil _ _)
    clear hn2 hM2 hMid2 hbA2
    simp only [elV]
    go_upto_region 16 with fail
    generalize (w1.alloc (.cells #[.int .i64 noEl.kind, .int .i64 noEl.n, .int .i64 noEl.time, .slice none 0 0, .int .i64 noEl.cn] 42)) = X at HMid2 ⊢
    generalize w1.heap.size = nb at HC82 ⊢
    obtain ⟨c0, c1, c2, c3, c4, c5, c6⟩ := HC4.out X (Mem.le_trans HMA.out (Mem.le_trans HM2.out HMid2.out.mem))
    go_wp2_with fail
    refine (refReceive_any w _ _ _ M2 X HMid2.out.mem (HRF.out.mono (Mem.le_trans HMA.out HM2.out)) (by omega) (by omega) HNEE.out HCRD.out).mono ?_
    rintro e w3 ⟨hp2, hb3⟩
    obtain ⟨wd, hwd⟩ : ∃ wd, wd = w := ⟨_, rfl⟩
    rcases hp2 with ⟨_, rfl⟩ | ⟨x2, ls2, _, _, _, hx2, _⟩ | ⟨_, y2, ys2, x2, xs2, _, _, _, hy2, hd2, he2, _⟩
    rotate_left
    · exfalso; unfold rbuf at hrb; rw [hx2] at hrb; cases hrb
    · exfalso; unfold rbuf at hrb; rw [hy2, List.takeWhile_cons_of_pos hd2, List.flatMap_cons, he2] at hrb; simp at hrb
    have hrw2 := HRF.out.mono (Mem.le_trans HMA.out HM2.out)
    rw [← hwd] at hrw2 ⊢
    have hbA3 : Below X.heap.size X (w3.alloc (.cells #[.int .i64 wd.size, .int .i64 wd.room, .int .i64 wd.credits, .int .i64 wd.next, .slice aa wd.ahead.length ca, .slice aq wd.queue.length cq, .slice ap wd.pk.length cp] 56)) := hb3.alloc hb3.size _
    obtain ⟨M3, hMid3, hM3, hn3⟩ := HMid2.out.grow hbA3
    have HN3 := Lib.hid (show ((mem w3).on (X.heap.size ≤ ·)).le M3 from fun i o v e => hn3 _ _ _ (let ⟨hs, e⟩ := Mem.of_on e; Mem.on_some (below_mem ((Below.refl w3.heap.size w3).alloc (Nat.le_refl _) _) _ _ _ e) hs))
    have HC83 := Lib.hid (fun (wq : World) (hq : M3.le (mem wq)) => (show wq.cell? ⟨w3.heap.size, 0, none⟩ = some (.int .i64 wd.size) ∧ wq.cell? ⟨w3.heap.size, 1, none⟩ = some (.int .i64 wd.room) ∧ wq.cell? ⟨w3.heap.size, 2, none⟩ = some (.int .i64 wd.credits) ∧ wq.cell? ⟨w3.heap.size, 3, none⟩ = some (.int .i64 wd.next) ∧ wq.cell? ⟨w3.heap.size, 4, none⟩ = some (.slice aa wd.ahead.length ca) ∧ wq.cell? ⟨w3.heap.size, 5, none⟩ = some (.slice aq wd.queue.length cq) ∧ wq.cell? ⟨w3.heap.size, 6, none⟩ = some (.slice ap wd.pk.length cp) from ⟨hq _ _ _ (hn3 _ _ _ (Mem.on_some (cell_new 0 rfl) hb3.size)), hq _ _ _ (hn3 _ _ _ (Mem.on_some (cell_new 1 rfl) hb3.size)), hq _ _ _ (hn3 _ _ _ (Mem.on_some (cell_new 2 rfl) hb3.size)), hq _ _ _ (hn3 _ _ _ (Mem.on_some (cell_new 3 rfl) hb3.size)), hq _ _ _ (hn3 _ _ _ (Mem.on_some (cell_new 4 rfl) hb3.size)), hq _ _ _ (hn3 _ _ _ (Mem.on_some (cell_new 5 rfl) hb3.size)), hq _ _ _ (hn3 _ _ _ (Mem.on_some (cell_new 6 rfl) hb3.size))⟩))
    have HM3 := Lib.hid hM3
    have HMid3 := Lib.hid hMid3
    have hbA4 : Below (w3.alloc (.cells #[.int .i64 wd.size, .int .i64 wd.room, .int .i64 wd.credits, .int .i64 wd.next, .slice aa wd.ahead.length ca, .slice aq wd.queue.length cq, .slice ap wd.pk.length cp] 56)).heap.size (w3.alloc (.cells #[.int .i64 wd.size, .int .i64 wd.room, .int .i64 wd.credits, .int .i64 wd.next, .slice aa wd.ahead.length ca, .slice aq wd.queue.length cq, .slice ap wd.pk.length cp] 56)) ((w3.alloc (.cells #[.int .i64 wd.size, .int .i64 wd.room, .int .i64 wd.credits, .int .i64 wd.next, .slice aa wd.ahead.length ca, .slice aq wd.queue.length cq, .slice ap wd.pk.length cp] 56)).alloc (.cells #[.int .i64 noEl.kind, .int .i64 noEl.n, .int .i64 noEl.time, .slice none 0 0, .int .i64 noEl.cn] 42)) := (Below.refl (w3.alloc (.cells #[.int .i64 wd.size, .int .i64 wd.room, .int .i64 wd.credits, .int .i64 wd.next, .slice aa wd.ahead.length ca, .slice aq wd.queue.length cq, .slice ap wd.pk.length cp] 56)).heap.size (w3.alloc (.cells #[.int .i64 wd.size, .int .i64 wd.room, .int .i64 wd.credits, .int .i64 wd.next, .slice aa wd.ahead.length ca, .slice aq wd.queue.length cq, .slice ap wd.pk.length cp] 56))).alloc (Below.refl (w3.alloc (.cells #[.int .i64 wd.size, .int .i64 wd.room, .int .i64 wd.credits, .int .i64 wd.next, .slice aa wd.ahead.length ca, .slice aq wd.queue.length cq, .slice ap wd.pk.length cp] 56)).heap.size (w3.alloc (.cells #[.int .i64 wd.size, .int .i64 wd.room, .int .i64 wd.credits, .int .i64 wd.next, .slice aa wd.ahead.length ca, .slice aq wd.queue.length cq, .slice ap wd.pk.length cp] 56))).size _
    obtain ⟨M4, hMid4, hM4, hn4⟩ := HMid3.out.grow hbA4
    have HN4 := Lib.hid (show ((mem (w3.alloc (.cells #[.int .i64 wd.size, .int .i64 wd.room, .int .i64 wd.credits, .int .i64 wd.next, .slice aa wd.ahead.length ca, .slice aq wd.queue.length cq, .slice ap wd.pk.length cp] 56))).on ((w3.alloc (.cells #[.int .i64 wd.size, .int .i64 wd.room, .int .i64 wd.credits, .int .i64 wd.next, .slice aa wd.ahead.length ca, .slice aq wd.queue.length cq, .slice ap wd.pk.length cp] 56)).heap.size ≤ ·)).le M4 from fun i o v e => hn4 _ _ _ (let ⟨hs, e⟩ := Mem.of_on e; Mem.on_some (below_mem ((Below.refl (w3.alloc (.cells #[.int .i64 wd.size, .int .i64 wd.room, .int .i64 wd.credits, .int .i64 wd.next, .slice aa wd.ahead.length ca, .slice aq wd.queue.length cq, .slice ap wd.pk.length cp] 56)).heap.size (w3.alloc (.cells #[.int .i64 wd.size, .int .i64 wd.room, .int .i64 wd.credits, .int .i64 wd.next, .slice aa wd.ahead.length ca, .slice aq wd.queue.length cq, .slice ap wd.pk.length cp] 56))).alloc (Nat.le_refl _) _) _ _ _ e) hs))
    have HC84 := Lib.hid (fun (wq : World) (hq : M4.le (mem wq)) => (show wq.cell? ⟨(w3.alloc (.cells #[.int .i64 wd.size, .int .i64 wd.room, .int .i64 wd.credits, .int .i64 wd.next, .slice aa wd.ahead.length ca, .slice aq wd.queue.length cq, .slice ap wd.pk.length cp] 56)).heap.size, 0, none⟩ = some (.int .i64 noEl.kind) ∧ wq.cell? ⟨(w3.alloc (.cells #[.int .i64 wd.size, .int .i64 wd.room, .int .i64 wd.credits, .int .i64 wd.next, .slice aa wd.ahead.length ca, .slice aq wd.queue.length cq, .slice ap wd.pk.length cp] 56)).heap.size, 1, none⟩ = some (.int .i64 noEl.n) ∧ wq.cell? ⟨(w3.alloc (.cells #[.int .i64 wd.size, .int .i64 wd.room, .int .i64 wd.credits, .int .i64 wd.next, .slice aa wd.ahead.length ca, .slice aq wd.queue.length cq, .slice ap wd.pk.length cp] 56)).heap.size, 2, none⟩ = some (.int .i64 noEl.time) ∧ wq.cell? ⟨(w3.alloc (.cells #[.int .i64 wd.size, .int .i64 wd.room, .int .i64 wd.credits, .int .i64 wd.next, .slice aa wd.ahead.length ca, .slice aq wd.queue.length cq, .slice ap wd.pk.length cp] 56)).heap.size, 3, none⟩ = some (.slice none 0 0) ∧ wq.cell? ⟨(w3.alloc (.cells #[.int .i64 wd.size, .int .i64 wd.room, .int .i64 wd.credits, .int .i64 wd.next, .slice aa wd.ahead.length ca, .slice aq wd.queue.length cq, .slice ap wd.pk.length cp] 56)).heap.size, 4, none⟩ = some (.int .i64 noEl.cn) from ⟨hq _ _ _ (hn4 _ _ _ (Mem.on_some (cell_new 0 rfl) (Below.refl (w3.alloc (.cells #[.int .i64 wd.size, .int .i64 wd.room, .int .i64 wd.credits, .int .i64 wd.next, .slice aa wd.ahead.length ca, .slice aq wd.queue.length cq, .slice ap wd.pk.length cp] 56)).heap.size (w3.alloc (.cells #[.int .i64 wd.size, .int .i64 wd.room, .int .i64 wd.credits, .int .i64 wd.next, .slice aa wd.ahead.length ca, .slice aq wd.queue.length cq, .slice ap wd.pk.length cp] 56))).size)), hq _ _ _ (hn4 _ _ _ (Mem.on_some (cell_new 1 rfl) (Below.refl (w3.alloc (.cells #[.int .i64 wd.size, .int .i64 wd.room, .int .i64 wd.credits, .int .i64 wd.next, .slice aa wd.ahead.length ca, .slice aq wd.queue.length cq, .slice ap wd.pk.length cp] 56)).heap.size (w3.alloc (.cells #[.int .i64 wd.size, .int .i64 wd.room, .int .i64 wd.credits, .int .i64 wd.next, .slice aa wd.ahead.length ca, .slice aq wd.queue.length cq, .slice ap wd.pk.length cp] 56))).size)), hq _ _ _ (hn4 _ _ _ (Mem.on_some (cell_new 2 rfl) (Below.refl (w3.alloc (.cells #[.int .i64 wd.size, .int .i64 wd.room, .int .i64 wd.credits, .int .i64 wd.next, .slice aa wd.ahead.length ca, .slice aq wd.queue.length cq, .slice ap wd.pk.length cp] 56)).heap.size (w3.alloc (.cells #[.int .i64 wd.size, .int .i64 wd.room, .int .i64 wd.credits, .int .i64 wd.next, .slice aa wd.ahead.length ca, .slice aq wd.queue.length cq, .slice ap wd.pk.length cp] 56))).size)), hq _ _ _ (hn4 _ _ _ (Mem.on_some (cell_new 3 rfl) (Below.refl (w3.alloc (.cells #[.int .i64 wd.size, .int .i64 wd.room, .int .i64 wd.credits, .int .i64 wd.next, .slice aa wd.ahead.length ca, .slice aq wd.queue.length cq, .slice ap wd.pk.length cp] 56)).heap.size (w3.alloc (.cells #[.int .i64 wd.size, .int .i64 wd.room, .int .i64 wd.credits, .int .i64 wd.next, .slice aa wd.ahead.length ca, .slice aq wd.queue.length cq, .slice ap wd.pk.length cp] 56))).size)), hq _ _ _ (hn4 _ _ _ (Mem.on_some (cell_new 4 rfl) (Below.refl (w3.alloc (.cells #[.int .i64 wd.size, .int .i64 wd.room, .int .i64 wd.credits, .int .i64 wd.next, .slice aa wd.ahead.length ca, .slice aq wd.queue.length cq, .slice ap wd.pk.length cp] 56)).heap.size (w3.alloc (.cells #[.int .i64 wd.size, .int .i64 wd.room, .int .i64 wd.credits, .int .i64 wd.next, .slice aa wd.ahead.length ca, .slice aq wd.queue.length cq, .slice ap wd.pk.length cp] 56))).size))⟩))
    have HM4 := Lib.hid hM4
    have HMid4 := Lib.hid hMid4
    have HR2 := Lib.hid (show tRow.rv M4 [.slice none 0 0] noEl.row from slice_nil _ _)
    have HRF4 := Lib.hid (hrw2.mono (Mem.le_trans hM3 hM4))
    have HWD := Lib.hid hwd
    clear hrw2 hwd
    clear hn3 hM3 hMid3 hbA3 hb3 c0 c1 c2 c3 c4 c5 c6 hn4 hM4 hMid4 hbA4
    simp only [elV]
    go_upto_region 17 with fail
    have hsz3 : (w3.alloc (.cells #[.int .i64 wd.size, .int .i64 wd.room, .int .i64 wd.credits, .int .i64 wd.next, .slice aa wd.ahead.length ca, .slice aq wd.queue.length cq, .slice ap wd.pk.length cp] 56)).heap.size = w3.heap.size + 1 := by simp
    rw [hsz3] at HC84
    generalize ((w3.alloc (.cells #[.int .i64 wd.size, .int .i64 wd.room, .int .i64 wd.credits, .int .i64 wd.next, .slice aa wd.ahead.length ca, .slice aq wd.queue.length cq, .slice ap wd.pk.length cp] 56)).alloc (.cells #[.int .i64 noEl.kind, .int .i64 noEl.n, .int .i64 noEl.time, .slice none 0 0, .int .i64 noEl.cn] 42)) = X3 at HMid4 ⊢
    clear hsz3 HMid3
    have HC83' := HC83
    generalize hnc : w3.heap.size + 1 = nc at HC84 ⊢
    generalize hnd : w3.heap.size = nd at HC83 ⊢
    have HMD := Lib.hid (HMid4.out.pure (Below.refl _ _).drew)
    have HS := Lib.hid (fun (w' : World) (hq : M4.le (mem w')) => (show w'.cell? ⟨nd, 0, none⟩ = some (.int .i64 wd.size) ∧ w'.cell? ⟨nd, 1, none⟩ = some (.int .i64 wd.room) ∧ w'.cell? ⟨nd, 2, none⟩ = some (.int .i64 wd.credits) ∧ w'.cell? ⟨nd, 3, none⟩ = some (.int .i64 wd.next) ∧ w'.cell? ⟨nd, 4, none⟩ = some (.slice aa wd.ahead.length ca) ∧ w'.cell? ⟨nd, 5, none⟩ = some (.slice aq wd.queue.length cq) ∧ w'.cell? ⟨nd, 6, none⟩ = some (.slice ap wd.pk.length cp) ∧ w'.cell? ⟨nb, 0, none⟩ = some (.int .i64 noEl.kind) ∧ w'.cell? ⟨nb, 1, none⟩ = some (.int .i64 noEl.n) ∧ w'.cell? ⟨nb, 2, none⟩ = some (.int .i64 noEl.time) ∧ w'.cell? ⟨nb, 3, none⟩ = some (.slice none 0 0) ∧ w'.cell? ⟨nb, 4, none⟩ = some (.int .i64 noEl.cn) ∧ w'.cell? ⟨nc, 0, none⟩ = some (.int .i64 noEl.kind) ∧ w'.cell? ⟨nc, 1, none⟩ = some (.int .i64 noEl.n) ∧ w'.cell? ⟨nc, 2, none⟩ = some (.int .i64 noEl.time) ∧ w'.cell? ⟨nc, 3, none⟩ = some (.slice none 0 0) ∧ w'.cell? ⟨nc, 4, none⟩ = some (.int .i64 noEl.cn) from ⟨(HC83.out w' (Mem.le_trans HM4.out hq)).1, (HC83.out w' (Mem.le_trans HM4.out hq)).2.1, (HC83.out w' (Mem.le_trans HM4.out hq)).2.2.1, (HC83.out w' (Mem.le_trans HM4.out hq)).2.2.2.1, (HC83.out w' (Mem.le_trans HM4.out hq)).2.2.2.2.1, (HC83.out w' (Mem.le_trans HM4.out hq)).2.2.2.2.2.1, (HC83.out w' (Mem.le_trans HM4.out hq)).2.2.2.2.2.2, (HC82.out w' (Mem.le_trans HM3.out (Mem.le_trans HM4.out hq))).1, (HC82.out w' (Mem.le_trans HM3.out (Mem.le_trans HM4.out hq))).2.1, (HC82.out w' (Mem.le_trans HM3.out (Mem.le_trans HM4.out hq))).2.2.1, (HC82.out w' (Mem.le_trans HM3.out (Mem.le_trans HM4.out hq))).2.2.2.1, (HC82.out w' (Mem.le_trans HM3.out (Mem.le_trans HM4.out hq))).2.2.2.2, (HC84.out w' hq).1, (HC84.out w' hq).2.1, (HC84.out w' hq).2.2.1, (HC84.out w' hq).2.2.2.1, (HC84.out w' hq).2.2.2.2⟩))
    have HSR := Lib.hid (fun (wq : World) (hq : Mid c base b M0 w0 F (W.heap.size + 1 + 1) wq r ah ps m (N + 1) M4) => (show (((((((wq.setCell ⟨W.heap.size + 1 + 1, 0, none⟩ (.int .i64 wd.size)).setCell ⟨W.heap.size + 1 + 1, 1, none⟩ (.int .i64 wd.room)).setCell ⟨W.heap.size + 1 + 1, 2, none⟩ (.int .i64 wd.credits)).setCell ⟨W.heap.size + 1 + 1, 3, none⟩ (.int .i64 wd.next)).setCell ⟨W.heap.size + 1 + 1, 4, none⟩ (.slice aa wd.ahead.length ca)).setCell ⟨W.heap.size + 1 + 1, 5, none⟩ (.slice aq wd.queue.length cq)).setCell ⟨W.heap.size + 1 + 1, 6, none⟩ (.slice ap wd.pk.length cp)).cell? ⟨nd, 0, none⟩ = some (.int .i64 wd.size) ∧ (((((((wq.setCell ⟨W.heap.size + 1 + 1, 0, none⟩ (.int .i64 wd.size)).setCell ⟨W.heap.size + 1 + 1, 1, none⟩ (.int .i64 wd.room)).setCell ⟨W.heap.size + 1 + 1, 2, none⟩ (.int .i64 wd.credits)).setCell ⟨W.heap.size + 1 + 1, 3, none⟩ (.int .i64 wd.next)).setCell ⟨W.heap.size + 1 + 1, 4, none⟩ (.slice aa wd.ahead.length ca)).setCell ⟨W.heap.size + 1 + 1, 5, none⟩ (.slice aq wd.queue.length cq)).setCell ⟨W.heap.size + 1 + 1, 6, none⟩ (.slice ap wd.pk.length cp)).cell? ⟨nd, 1, none⟩ = some (.int .i64 wd.room) ∧ (((((((wq.setCell ⟨W.heap.size + 1 + 1, 0, none⟩ (.int .i64 wd.size)).setCell ⟨W.heap.size + 1 + 1, 1, none⟩ (.int .i64 wd.room)).setCell ⟨W.heap.size + 1 + 1, 2, none⟩ (.int .i64 wd.credits)).setCell ⟨W.heap.size + 1 + 1, 3, none⟩ (.int .i64 wd.next)).setCell ⟨W.heap.size + 1 + 1, 4, none⟩ (.slice aa wd.ahead.length ca)).setCell ⟨W.heap.size + 1 + 1, 5, none⟩ (.slice aq wd.queue.length cq)).setCell ⟨W.heap.size + 1 + 1, 6, none⟩ (.slice ap wd.pk.length cp)).cell? ⟨nd, 2, none⟩ = some (.int .i64 wd.credits) ∧ (((((((wq.setCell ⟨W.heap.size + 1 + 1, 0, none⟩ (.int .i64 wd.size)).setCell ⟨W.heap.size + 1 + 1, 1, none⟩ (.int .i64 wd.room)).setCell ⟨W.heap.size + 1 + 1, 2, none⟩ (.int .i64 wd.credits)).setCell ⟨W.heap.size + 1 + 1, 3, none⟩ (.int .i64 wd.next)).setCell ⟨W.heap.size + 1 + 1, 4, none⟩ (.slice aa wd.ahead.length ca)).setCell ⟨W.heap.size + 1 + 1, 5, none⟩ (.slice aq wd.queue.length cq)).setCell ⟨W.heap.size + 1 + 1, 6, none⟩ (.slice ap wd.pk.length cp)).cell? ⟨nd, 3, none⟩ = some (.int .i64 wd.next) ∧ (((((((wq.setCell ⟨W.heap.size + 1 + 1, 0, none⟩ (.int .i64 wd.size)).setCell ⟨W.heap.size + 1 + 1, 1, none⟩ (.int .i64 wd.room)).setCell ⟨W.heap.size + 1 + 1, 2, none⟩ (.int .i64 wd.credits)).setCell ⟨W.heap.size + 1 + 1, 3, none⟩ (.int .i64 wd.next)).setCell ⟨W.heap.size + 1 + 1, 4, none⟩ (.slice aa wd.ahead.length ca)).setCell ⟨W.heap.size + 1 + 1, 5, none⟩ (.slice aq wd.queue.length cq)).setCell ⟨W.heap.size + 1 + 1, 6, none⟩ (.slice ap wd.pk.length cp)).cell? ⟨nd, 4, none⟩ = some (.slice aa wd.ahead.length ca) ∧ (((((((wq.setCell ⟨W.heap.size + 1 + 1, 0, none⟩ (.int .i64 wd.size)).setCell ⟨W.heap.size + 1 + 1, 1, none⟩ (.int .i64 wd.room)).setCell ⟨W.heap.size + 1 + 1, 2, none⟩ (.int .i64 wd.credits)).setCell ⟨W.heap.size + 1 + 1, 3, none⟩ (.int .i64 wd.next)).setCell ⟨W.heap.size + 1 + 1, 4, none⟩ (.slice aa wd.ahead.length ca)).setCell ⟨W.heap.size + 1 + 1, 5, none⟩ (.slice aq wd.queue.length cq)).setCell ⟨W.heap.size + 1 + 1, 6, none⟩ (.slice ap wd.pk.length cp)).cell? ⟨nd, 5, none⟩ = some (.slice aq wd.queue.length cq) ∧ (((((((wq.setCell ⟨W.heap.size + 1 + 1, 0, none⟩ (.int .i64 wd.size)).setCell ⟨W.heap.size + 1 + 1, 1, none⟩ (.int .i64 wd.room)).setCell ⟨W.heap.size + 1 + 1, 2, none⟩ (.int .i64 wd.credits)).setCell ⟨W.heap.size + 1 + 1, 3, none⟩ (.int .i64 wd.next)).setCell ⟨W.heap.size + 1 + 1, 4, none⟩ (.slice aa wd.ahead.length ca)).setCell ⟨W.heap.size + 1 + 1, 5, none⟩ (.slice aq wd.queue.length cq)).setCell ⟨W.heap.size + 1 + 1, 6, none⟩ (.slice ap wd.pk.length cp)).cell? ⟨nd, 6, none⟩ = some (.slice ap wd.pk.length cp) ∧ (((((((wq.setCell ⟨W.heap.size + 1 + 1, 0, none⟩ (.int .i64 wd.size)).setCell ⟨W.heap.size + 1 + 1, 1, none⟩ (.int .i64 wd.room)).setCell ⟨W.heap.size + 1 + 1, 2, none⟩ (.int .i64 wd.credits)).setCell ⟨W.heap.size + 1 + 1, 3, none⟩ (.int .i64 wd.next)).setCell ⟨W.heap.size + 1 + 1, 4, none⟩ (.slice aa wd.ahead.length ca)).setCell ⟨W.heap.size + 1 + 1, 5, none⟩ (.slice aq wd.queue.length cq)).setCell ⟨W.heap.size + 1 + 1, 6, none⟩ (.slice ap wd.pk.length cp)).cell? ⟨nb, 0, none⟩ = some (.int .i64 noEl.kind) ∧ (((((((wq.setCell ⟨W.heap.size + 1 + 1, 0, none⟩ (.int .i64 wd.size)).setCell ⟨W.heap.size + 1 + 1, 1, none⟩ (.int .i64 wd.room)).setCell ⟨W.heap.size + 1 + 1, 2, none⟩ (.int .i64 wd.credits)).setCell ⟨W.heap.size + 1 + 1, 3, none⟩ (.int .i64 wd.next)).setCell ⟨W.heap.size + 1 + 1, 4, none⟩ (.slice aa wd.ahead.length ca)).setCell ⟨W.heap.size + 1 + 1, 5, none⟩ (.slice aq wd.queue.length cq)).setCell ⟨W.heap.size + 1 + 1, 6, none⟩ (.slice ap wd.pk.length cp)).cell? ⟨nb, 1, none⟩ = some (.int .i64 noEl.n) ∧ (((((((wq.setCell ⟨W.heap.size + 1 + 1, 0, none⟩ (.int .i64 wd.size)).setCell ⟨W.heap.size + 1 + 1, 1, none⟩ (.int .i64 wd.room)).setCell ⟨W.heap.size + 1 + 1, 2, none⟩ (.int .i64 wd.credits)).setCell ⟨W.heap.size + 1 + 1, 3, none⟩ (.int .i64 wd.next)).setCell ⟨W.heap.size + 1 + 1, 4, none⟩ (.slice aa wd.ahead.length ca)).setCell ⟨W.heap.size + 1 + 1, 5, none⟩ (.slice aq wd.queue.length cq)).setCell ⟨W.heap.size + 1 + 1, 6, none⟩ (.slice ap wd.pk.length cp)).cell? ⟨nb, 2, none⟩ = some (.int .i64 noEl.time) ∧ (((((((wq.setCell ⟨W.heap.size + 1 + 1, 0, none⟩ (.int .i64 wd.size)).setCell ⟨W.heap.size + 1 + 1, 1, none⟩ (.int .i64 wd.room)).setCell ⟨W.heap.size + 1 + 1, 2, none⟩ (.int .i64 wd.credits)).setCell ⟨W.heap.size + 1 + 1, 3, none⟩ (.int .i64 wd.next)).setCell ⟨W.heap.size + 1 + 1, 4, none⟩ (.slice aa wd.ahead.length ca)).setCell ⟨W.heap.size + 1 + 1, 5, none⟩ (.slice aq wd.queue.length cq)).setCell ⟨W.heap.size + 1 + 1, 6, none⟩ (.slice ap wd.pk.length cp)).cell? ⟨nb, 3, none⟩ = some (.slice none 0 0) ∧ (((((((wq.setCell ⟨W.heap.size + 1 + 1, 0, none⟩ (.int .i64 wd.size)).setCell ⟨W.heap.size + 1 + 1, 1, none⟩ (.int .i64 wd.room)).setCell ⟨W.heap.size + 1 + 1, 2, none⟩ (.int .i64 wd.credits)).setCell ⟨W.heap.size + 1 + 1, 3, none⟩ (.int .i64 wd.next)).setCell ⟨W.heap.size + 1 + 1, 4, none⟩ (.slice aa wd.ahead.length ca)).setCell ⟨W.heap.size + 1 + 1, 5, none⟩ (.slice aq wd.queue.length cq)).setCell ⟨W.heap.size + 1 + 1, 6, none⟩ (.slice ap wd.pk.length cp)).cell? ⟨nb, 4, none⟩ = some (.int .i64 noEl.cn) ∧ (((((((wq.setCell ⟨W.heap.size + 1 + 1, 0, none⟩ (.int .i64 wd.size)).setCell ⟨W.heap.size + 1 + 1, 1, none⟩ (.int .i64 wd.room)).setCell ⟨W.heap.size + 1 + 1, 2, none⟩ (.int .i64 wd.credits)).setCell ⟨W.heap.size + 1 + 1, 3, none⟩ (.int .i64 wd.next)).setCell ⟨W.heap.size + 1 + 1, 4, none⟩ (.slice aa wd.ahead.length ca)).setCell ⟨W.heap.size + 1 + 1, 5, none⟩ (.slice aq wd.queue.length cq)).setCell ⟨W.heap.size + 1 + 1, 6, none⟩ (.slice ap wd.pk.length cp)).cell? ⟨nc, 0, none⟩ = some (.int .i64 noEl.kind) ∧ (((((((wq.setCell ⟨W.heap.size + 1 + 1, 0, none⟩ (.int .i64 wd.size)).setCell ⟨W.heap.size + 1 + 1, 1, none⟩ (.int .i64 wd.room)).setCell ⟨W.heap.size + 1 + 1, 2, none⟩ (.int .i64 wd.credits)).setCell ⟨W.heap.size + 1 + 1, 3, none⟩ (.int .i64 wd.next)).setCell ⟨W.heap.size + 1 + 1, 4, none⟩ (.slice aa wd.ahead.length ca)).setCell ⟨W.heap.size + 1 + 1, 5, none⟩ (.slice aq wd.queue.length cq)).setCell ⟨W.heap.size + 1 + 1, 6, none⟩ (.slice ap wd.pk.length cp)).cell? ⟨nc, 1, none⟩ = some (.int .i64 noEl.n) ∧ (((((((wq.setCell ⟨W.heap.size + 1 + 1, 0, none⟩ (.int .i64 wd.size)).setCell ⟨W.heap.size + 1 + 1, 1, none⟩ (.int .i64 wd.room)).setCell ⟨W.heap.size + 1 + 1, 2, none⟩ (.int .i64 wd.credits)).setCell ⟨W.heap.size + 1 + 1, 3, none⟩ (.int .i64 wd.next)).setCell ⟨W.heap.size + 1 + 1, 4, none⟩ (.slice aa wd.ahead.length ca)).setCell ⟨W.heap.size + 1 + 1, 5, none⟩ (.slice aq wd.queue.length cq)).setCell ⟨W.heap.size + 1 + 1, 6, none⟩ (.slice ap wd.pk.length cp)).cell? ⟨nc, 2, none⟩ = some (.int .i64 noEl.time) ∧ (((((((wq.setCell ⟨W.heap.size + 1 + 1, 0, none⟩ (.int .i64 wd.size)).setCell ⟨W.heap.size + 1 + 1, 1, none⟩ (.int .i64 wd.room)).setCell ⟨W.heap.size + 1 + 1, 2, none⟩ (.int .i64 wd.credits)).setCell ⟨W.heap.size + 1 + 1, 3, none⟩ (.int .i64 wd.next)).setCell ⟨W.heap.size + 1 + 1, 4, none⟩ (.slice aa wd.ahead.length ca)).setCell ⟨W.heap.size + 1 + 1, 5, none⟩ (.slice aq wd.queue.length cq)).setCell ⟨W.heap.size + 1 + 1, 6, none⟩ (.slice ap wd.pk.length cp)).cell? ⟨nc, 3, none⟩ = some (.slice none 0 0) ∧ (((((((wq.setCell ⟨W.heap.size + 1 + 1, 0, none⟩ (.int .i64 wd.size)).setCell ⟨W.heap.size + 1 + 1, 1, none⟩ (.int .i64 wd.room)).setCell ⟨W.heap.size + 1 + 1, 2, none⟩ (.int .i64 wd.credits)).setCell ⟨W.heap.size + 1 + 1, 3, none⟩ (.int .i64 wd.next)).setCell ⟨W.heap.size + 1 + 1, 4, none⟩ (.slice aa wd.ahead.length ca)).setCell ⟨W.heap.size + 1 + 1, 5, none⟩ (.slice aq wd.queue.length cq)).setCell ⟨W.heap.size + 1 + 1, 6, none⟩ (.slice ap wd.pk.length cp)).cell? ⟨nc, 4, none⟩ = some (.int .i64 noEl.cn) from HS.out _ (hq.stored (store7_keeps wq (W.heap.size + 1 + 1) (.int .i64 wd.size) (.int .i64 wd.room) (.int .i64 wd.credits) (.int .i64 wd.next) (.slice aa wd.ahead.length ca) (.slice aq wd.queue.length cq) (.slice ap wd.pk.length cp)))))
    have HSE := Lib.hid (same_el noEl _ _ X3.drew (tRow.mono _ _ _ _ (Mem.le_trans HM3.out (Mem.le_trans HM4.out HMD.out.mem)) HR1.out) (tRow.mono _ _ _ _ HMD.out.mem HR2.out))
    have s0 := HS.out X3.drew HMD.out.mem
    go_region_held3 (fun w' => w'.cell? ⟨nd, 0, none⟩ = some (.int .i64 wd.size) ∧ w'.cell? ⟨nd, 1, none⟩ = some (.int .i64 wd.room) ∧ w'.cell? ⟨nd, 2, none⟩ = some (.int .i64 wd.credits) ∧ w'.cell? ⟨nd, 3, none⟩ = some (.int .i64 wd.next) ∧ w'.cell? ⟨nd, 4, none⟩ = some (.slice aa wd.ahead.length ca) ∧ w'.cell? ⟨nd, 5, none⟩ = some (.slice aq wd.queue.length cq) ∧ w'.cell? ⟨nd, 6, none⟩ = some (.slice ap wd.pk.length cp) ∧ w'.cell? ⟨nb, 0, none⟩ = some (.int .i64 noEl.kind) ∧ w'.cell? ⟨nb, 1, none⟩ = some (.int .i64 noEl.n) ∧ w'.cell? ⟨nb, 2, none⟩ = some (.int .i64 noEl.time) ∧ w'.cell? ⟨nb, 3, none⟩ = some (.slice none 0 0) ∧ w'.cell? ⟨nb, 4, none⟩ = some (.int .i64 noEl.cn) ∧ w'.cell? ⟨nc, 0, none⟩ = some (.int .i64 noEl.kind) ∧ w'.cell? ⟨nc, 1, none⟩ = some (.int .i64 noEl.n) ∧ w'.cell? ⟨nc, 2, none⟩ = some (.int .i64 noEl.time) ∧ w'.cell? ⟨nc, 3, none⟩ = some (.slice none 0 0) ∧ w'.cell? ⟨nc, 4, none⟩ = some (.int .i64 noEl.cn)) (first | with_reducible exact s0 | with_reducible exact HS.out w5 hm5 | with_reducible exact HSR.out w5 HMid5.out | go_keep)
      ((first
        | (go_at_call 47; refine HSE.out.mono ?_; rintro e w5 ⟨rfl, hb5⟩; have hMid5 := HMD.out.pure hb5; have hm5 := hMid5.mem; have HMid5 := Lib.hid hMid5; obtain ⟨f5, z5⟩ := hMid5.cells; have z0 := z5 0; have z1 := z5 1; have z2 := z5 2; have z3 := z5 3; have z4 := z5 4; have z55 := z5 5; have z6 := z5 6; clear hMid5 z5)))
    all_goals
      go_wp2
      have r1 := store7_block HMid5.out.hR (.int .i64 wd.size) (.int .i64 wd.room) (.int .i64 wd.credits) (.int .i64 wd.next) (.slice aa wd.ahead.length ca) (.slice aq wd.queue.length cq) (.slice ap wd.pk.length cp)
      have hk := store7_keeps (w5) (W.heap.size + 1 + 1) (.int .i64 wd.size) (.int .i64 wd.room) (.int .i64 wd.credits) (.int .i64 wd.next) (.slice aa wd.ahead.length ca) (.slice aq wd.queue.length cq) (.slice ap wd.pk.length cp)
      show bodyPost _ _ _ _ _ (store7 (w5) (W.heap.size + 1 + 1) (.int .i64 wd.size) (.int .i64 wd.room) (.int .i64 wd.credits) (.int .i64 wd.next) (.slice aa wd.ahead.length ca) (.slice aq wd.queue.length cq) (.slice ap wd.pk.length cp))
      generalize store7 (w5) (W.heap.size + 1 + 1) (.int .i64 wd.size) (.int .i64 wd.room) (.int .i64 wd.credits) (.int .i64 wd.next) (.slice aa wd.ahead.length ca) (.slice aq wd.queue.length cq) (.slice ap wd.pk.length cp) = w2 at r1 hk ⊢
      have g0 : w2.cell? ⟨W.heap.size + 1 + 1, 0, none⟩ = some (.int .i64 wd.size) := mem_cells r1 0
      have g1 : w2.cell? ⟨W.heap.size + 1 + 1, 1, none⟩ = some (.int .i64 wd.room) := mem_cells r1 1
      have g2 : w2.cell? ⟨W.heap.size + 1 + 1, 2, none⟩ = some (.int .i64 wd.credits) := mem_cells r1 2
      have g3 : w2.cell? ⟨W.heap.size + 1 + 1, 3, none⟩ = some (.int .i64 wd.next) := mem_cells r1 3
      have g4 : w2.cell? ⟨W.heap.size + 1 + 1, 4, none⟩ = some (.slice aa wd.ahead.length ca) := mem_cells r1 4
      have g5 : w2.cell? ⟨W.heap.size + 1 + 1, 5, none⟩ = some (.slice aq wd.queue.length cq) := mem_cells r1 5
      have g6 : w2.cell? ⟨W.heap.size + 1 + 1, 6, none⟩ = some (.slice ap wd.pk.length cp) := mem_cells r1 6
      refine bodyPost_ret (v := .tuple #[.agg #[.int .i64 wd.size, .int .i64 wd.room, .int .i64 wd.credits, .int .i64 wd.next, .slice aa wd.ahead.length ca, .slice aq wd.queue.length cq, .slice ap wd.pk.length cp], .bool true]) (by simp [results, Try.results25, go_sem, g0, g1, g2, g3, g4, g5, g6]) rfl ?_
      have hE : refOf r ah ps = wd := by rw [HWD.out]; exact HW.out
      exact ⟨_, _, _, _, M4, _, _, _, by rw [hE], HMid5.out.finish hk (by rw [hE]; exact HRF4.out), Mem.le_trans HM1.out (Mem.le_trans HMA.out (Mem.le_trans HM2.out (Mem.le_trans HM3.out HM4.out))), by omega⟩
  · obtain ⟨ah0, ps0, m0, hso0, _, _, _, _⟩ := HSO.out.recv hbuf
    have HMidA := Lib.hid (HMid.out.step hMa hS (hso0.mono (Nat.le_succ N)))
    obtain ⟨y, of⟩ := i
    simp only at hr1
    clear hS hMa hso0
    have hbA2 : Below w1.heap.size w1 (w1.alloc (.cells #[.int .i64 y.kind, .int .i64 y.n, .int .i64 y.time, .slice a1 y.row.length c1x, .int .i64 y.cn] 42)) := hb1.alloc hb1.size _
    obtain ⟨M2, hMid2, hM2, hn2⟩ := HMidA.out.grow hbA2
    have HN2 := Lib.hid (show ((mem w1).on (w1.heap.size ≤ ·)).le M2 from fun i o v e => hn2 _ _ _ (let ⟨hs, e⟩ := Mem.of_on e; Mem.on_some (below_mem ((Below.refl w1.heap.size w1).alloc (Nat.le_refl _) _) _ _ _ e) hs))
    have HC82 := Lib.hid (fun (wq : World) (hq : M2.le (mem wq)) => (show wq.cell? ⟨w1.heap.size, 0, none⟩ = some (.int .i64 y.kind) ∧ wq.cell? ⟨w1.heap.size, 1, none⟩ = some (.int .i64 y.n) ∧ wq.cell? ⟨w1.heap.size, 2, none⟩ = some (.int .i64 y.time) ∧ wq.cell? ⟨w1.heap.size, 3, none⟩ = some (.slice a1 y.row.length c1x) ∧ wq.cell? ⟨w1.heap.size, 4, none⟩ = some (.int .i64 y.cn) from ⟨hq _ _ _ (hn2 _ _ _ (Mem.on_some (cell_new 0 rfl) hb1.size)), hq _ _ _ (hn2 _ _ _ (Mem.on_some (cell_new 1 rfl) hb1.size)), hq _ _ _ (hn2 _ _ _ (Mem.on_some (cell_new 2 rfl) hb1.size)), hq _ _ _ (hn2 _ _ _ (Mem.on_some (cell_new 3 rfl) hb1.size)), hq _ _ _ (hn2 _ _ _ (Mem.on_some (cell_new 4 rfl) hb1.size))⟩))
    have HM2 := Lib.hid hM2
    have HMid2 := Lib.hid hMid2
    have HR1 := Lib.hid (tRow.mono _ _ _ _ hM2 hr1)
    clear hn2 hM2 hMid2 hbA2
    simp only [elV]
    go_upto_region 16 with fail
    generalize (w1.alloc (.cells #[.int .i64 y.kind, .int .i64 y.n, .int .i64 y.time, .slice a1 y.row.length c1x, .int .i64 y.cn] 42)) = X at HMid2 ⊢
    generalize w1.heap.size = nb at HC82 ⊢
    obtain ⟨c0, c1, c2, c3, c4, c5, c6⟩ := HC4.out X (Mem.le_trans HMA.out (Mem.le_trans HM2.out HMid2.out.mem))
    go_wp2_with fail
    refine (refReceive_any w _ _ _ M2 X HMid2.out.mem (HRF.out.mono (Mem.le_trans HMA.out HM2.out)) (by omega) (by omega) HNEE.out HCRD.out).mono ?_
    rintro e w3 ⟨hp2, hb3⟩
    obtain ⟨ah', ps', m', a2x, c2x, a2, q2, p2, hso2, hct2, rfl, hr2, hrw2⟩ := recv_match HSO.out HW.out hbuf hp2
    have HMid2 := Lib.hid (HMid2.out.re (hso2.mono (Nat.le_succ N)))
    obtain ⟨wd, hwd⟩ : ∃ wd, refOf (recvR r) ah' ps' = wd := ⟨_, rfl⟩
    rw [hwd] at hrw2 ⊢
    simp only at hr2 ⊢
    obtain ⟨a2a, a2c, rfl, _, hz1, _⟩ := slice_form hrw2.ha
    obtain ⟨q2a, q2c, rfl, _, hz2, _⟩ := slice_form hrw2.hq
    obtain ⟨p2a, p2c, rfl, _, hz3, _⟩ := slice_form hrw2.hp
    clear hz1 hz2 hz3
    have hbA3 : Below X.heap.size X (w3.alloc (.cells #[.int .i64 wd.size, .int .i64 wd.room, .int .i64 wd.credits, .int .i64 wd.next, .slice a2a wd.ahead.length a2c, .slice q2a wd.queue.length q2c, .slice p2a wd.pk.length p2c] 56)) := hb3.alloc hb3.size _
    obtain ⟨M3, hMid3, hM3, hn3⟩ := HMid2.out.grow hbA3
    have HN3 := Lib.hid (show ((mem w3).on (X.heap.size ≤ ·)).le M3 from fun i o v e => hn3 _ _ _ (let ⟨hs, e⟩ := Mem.of_on e; Mem.on_some (below_mem ((Below.refl w3.heap.size w3).alloc (Nat.le_refl _) _) _ _ _ e) hs))
    have HC83 := Lib.hid (fun (wq : World) (hq : M3.le (mem wq)) => (show wq.cell? ⟨w3.heap.size, 0, none⟩ = some (.int .i64 wd.size) ∧ wq.cell? ⟨w3.heap.size, 1, none⟩ = some (.int .i64 wd.room) ∧ wq.cell? ⟨w3.heap.size, 2, none⟩ = some (.int .i64 wd.credits) ∧ wq.cell? ⟨w3.heap.size, 3, none⟩ = some (.int .i64 wd.next) ∧ wq.cell? ⟨w3.heap.size, 4, none⟩ = some (.slice a2a wd.ahead.length a2c) ∧ wq.cell? ⟨w3.heap.size, 5, none⟩ = some (.slice q2a wd.queue.length q2c) ∧ wq.cell? ⟨w3.heap.size, 6, none⟩ = some (.slice p2a wd.pk.length p2c) from ⟨hq _ _ _ (hn3 _ _ _ (Mem.on_some (cell_new 0 rfl) hb3.size)), hq _ _ _ (hn3 _ _ _ (Mem.on_some (cell_new 1 rfl) hb3.size)), hq _ _ _ (hn3 _ _ _ (Mem.on_some (cell_new 2 rfl) hb3.size)), hq _ _ _ (hn3 _ _ _ (Mem.on_some (cell_new 3 rfl) hb3.size)), hq _ _ _ (hn3 _ _ _ (Mem.on_some (cell_new 4 rfl) hb3.size)), hq _ _ _ (hn3 _ _ _ (Mem.on_some (cell_new 5 rfl) hb3.size)), hq _ _ _ (hn3 _ _ _ (Mem.on_some (cell_new 6 rfl) hb3.size))⟩))
    have HM3 := Lib.hid hM3
    have HMid3 := Lib.hid hMid3
    have hbA4 : Below (w3.alloc (.cells #[.int .i64 wd.size, .int .i64 wd.room, .int .i64 wd.credits, .int .i64 wd.next, .slice a2a wd.ahead.length a2c, .slice q2a wd.queue.length q2c, .slice p2a wd.pk.length p2c] 56)).heap.size (w3.alloc (.cells #[.int .i64 wd.size, .int .i64 wd.room, .int .i64 wd.credits, .int .i64 wd.next, .slice a2a wd.ahead.length a2c, .slice q2a wd.queue.length q2c, .slice p2a wd.pk.length p2c] 56)) ((w3.alloc (.cells #[.int .i64 wd.size, .int .i64 wd.room, .int .i64 wd.credits, .int .i64 wd.next, .slice a2a wd.ahead.length a2c, .slice q2a wd.queue.length q2c, .slice p2a wd.pk.length p2c] 56)).alloc (.cells #[.int .i64 y.kind, .int .i64 y.n, .int .i64 y.time, .slice a2x y.row.length c2x, .int .i64 y.cn] 42)) := (Below.refl (w3.alloc (.cells #[.int .i64 wd.size, .int .i64 wd.room, .int .i64 wd.credits, .int .i64 wd.next, .slice a2a wd.ahead.length a2c, .slice q2a wd.queue.length q2c, .slice p2a wd.pk.length p2c] 56)).heap.size (w3.alloc (.cells #[.int .i64 wd.size, .int .i64 wd.room, .int .i64 wd.credits, .int .i64 wd.next, .slice a2a wd.ahead.length a2c, .slice q2a wd.queue.length q2c, .slice p2a wd.pk.length p2c] 56))).alloc (Below.refl (w3.alloc (.cells #[.int .i64 wd.size, .int .i64 wd.room, .int .i64 wd.credits, .int .i64 wd.next, .slice a2a wd.ahead.length a2c, .slice q2a wd.queue.length q2c, .slice p2a wd.pk.length p2c] 56)).heap.size (w3.alloc (.cells #[.int .i64 wd.size, .int .i64 wd.room, .int .i64 wd.credits, .int .i64 wd.next, .slice a2a wd.ahead.length a2c, .slice q2a wd.queue.length q2c, .slice p2a wd.pk.length p2c] 56))).size _
    obtain ⟨M4, hMid4, hM4, hn4⟩ := HMid3.out.grow hbA4
    have HN4 := Lib.hid (show ((mem (w3.alloc (.cells #[.int .i64 wd.size, .int .i64 wd.room, .int .i64 wd.credits, .int .i64 wd.next, .slice a2a wd.ahead.length a2c, .slice q2a wd.queue.length q2c, .slice p2a wd.pk.length p2c] 56))).on ((w3.alloc (.cells #[.int .i64 wd.size, .int .i64 wd.room, .int .i64 wd.credits, .int .i64 wd.next, .slice a2a wd.ahead.length a2c, .slice q2a wd.queue.length q2c, .slice p2a wd.pk.length p2c] 56)).heap.size ≤ ·)).le M4 from fun i o v e => hn4 _ _ _ (let ⟨hs, e⟩ := Mem.of_on e; Mem.on_some (below_mem ((Below.refl (w3.alloc (.cells #[.int .i64 wd.size, .int .i64 wd.room, .int .i64 wd.credits, .int .i64 wd.next, .slice a2a wd.ahead.length a2c, .slice q2a wd.queue.length q2c, .slice p2a wd.pk.length p2c] 56)).heap.size (w3.alloc (.cells #[.int .i64 wd.size, .int .i64 wd.room, .int .i64 wd.credits, .int .i64 wd.next, .slice a2a wd.ahead.length a2c, .slice q2a wd.queue.length q2c, .slice p2a wd.pk.length p2c] 56))).alloc (Nat.le_refl _) _) _ _ _ e) hs))
    have HC84 := Lib.hid (fun (wq : World) (hq : M4.le (mem wq)) => (show wq.cell? ⟨(w3.alloc (.cells #[.int .i64 wd.size, .int .i64 wd.room, .int .i64 wd.credits, .int .i64 wd.next, .slice a2a wd.ahead.length a2c, .slice q2a wd.queue.length q2c, .slice p2a wd.pk.length p2c] 56)).heap.size, 0, none⟩ = some (.int .i64 y.kind) ∧ wq.cell? ⟨(w3.alloc (.cells #[.int .i64 wd.size, .int .i64 wd.room, .int .i64 wd.credits, .int .i64 wd.next, .slice a2a wd.ahead.length a2c, .slice q2a wd.queue.length q2c, .slice p2a wd.pk.length p2c] 56)).heap.size, 1, none⟩ = some (.int .i64 y.n) ∧ wq.cell? ⟨(w3.alloc (.cells #[.int .i64 wd.size, .int .i64 wd.room, .int .i64 wd.credits, .int .i64 wd.next, .slice a2a wd.ahead.length a2c, .slice q2a wd.queue.length q2c, .slice p2a wd.pk.length p2c] 56)).heap.size, 2, none⟩ = some (.int .i64 y.time) ∧ wq.cell? ⟨(w3.alloc (.cells #[.int .i64 wd.size, .int .i64 wd.room, .int .i64 wd.credits, .int .i64 wd.next, .slice a2a wd.ahead.length a2c, .slice q2a wd.queue.length q2c, .slice p2a wd.pk.length p2c] 56)).heap.size, 3, none⟩ = some (.slice a2x y.row.length c2x) ∧ wq.cell? ⟨(w3.alloc (.cells #[.int .i64 wd.size, .int .i64 wd.room, .int .i64 wd.credits, .int .i64 wd.next, .slice a2a wd.ahead.length a2c, .slice q2a wd.queue.length q2c, .slice p2a wd.pk.length p2c] 56)).heap.size, 4, none⟩ = some (.int .i64 y.cn) from ⟨hq _ _ _ (hn4 _ _ _ (Mem.on_some (cell_new 0 rfl) (Below.refl (w3.alloc (.cells #[.int .i64 wd.size, .int .i64 wd.room, .int .i64 wd.credits, .int .i64 wd.next, .slice a2a wd.ahead.length a2c, .slice q2a wd.queue.length q2c, .slice p2a wd.pk.length p2c] 56)).heap.size (w3.alloc (.cells #[.int .i64 wd.size, .int .i64 wd.room, .int .i64 wd.credits, .int .i64 wd.next, .slice a2a wd.ahead.length a2c, .slice q2a wd.queue.length q2c, .slice p2a wd.pk.length p2c] 56))).size)), hq _ _ _ (hn4 _ _ _ (Mem.on_some (cell_new 1 rfl) (Below.refl (w3.alloc (.cells #[.int .i64 wd.size, .int .i64 wd.room, .int .i64 wd.credits, .int .i64 wd.next, .slice a2a wd.ahead.length a2c, .slice q2a wd.queue.length q2c, .slice p2a wd.pk.length p2c] 56)).heap.size (w3.alloc (.cells #[.int .i64 wd.size, .int .i64 wd.room, .int .i64 wd.credits, .int .i64 wd.next, .slice a2a wd.ahead.length a2c, .slice q2a wd.queue.length q2c, .slice p2a wd.pk.length p2c] 56))).size)), hq _ _ _ (hn4 _ _ _ (Mem.on_some (cell_new 2 rfl) (Below.refl (w3.alloc (.cells #[.int .i64 wd.size, .int .i64 wd.room, .int .i64 wd.credits, .int .i64 wd.next, .slice a2a wd.ahead.length a2c, .slice q2a wd.queue.length q2c, .slice p2a wd.pk.length p2c] 56)).heap.size (w3.alloc (.cells #[.int .i64 wd.size, .int .i64 wd.room, .int .i64 wd.credits, .int .i64 wd.next, .slice a2a wd.ahead.length a2c, .slice q2a wd.queue.length q2c, .slice p2a wd.pk.length p2c] 56))).size)), hq _ _ _ (hn4 _ _ _ (Mem.on_some (cell_new 3 rfl) (Below.refl (w3.alloc (.cells #[.int .i64 wd.size, .int .i64 wd.room, .int .i64 wd.credits, .int .i64 wd.next, .slice a2a wd.ahead.length a2c, .slice q2a wd.queue.length q2c, .slice p2a wd.pk.length p2c] 56)).heap.size (w3.alloc (.cells #[.int .i64 wd.size, .int .i64 wd.room, .int .i64 wd.credits, .int .i64 wd.next, .slice a2a wd.ahead.length a2c, .slice q2a wd.queue.length q2c, .slice p2a wd.pk.length p2c] 56))).size)), hq _ _ _ (hn4 _ _ _ (Mem.on_some (cell_new 4 rfl) (Below.refl (w3.alloc (.cells #[.int .i64 wd.size, .int .i64 wd.room, .int .i64 wd.credits, .int .i64 wd.next, .slice a2a wd.ahead.length a2c, .slice q2a wd.queue.length q2c, .slice p2a wd.pk.length p2c] 56)).heap.size (w3.alloc (.cells #[.int .i64 wd.size, .int .i64 wd.room, .int .i64 wd.credits, .int .i64 wd.next, .slice a2a wd.ahead.length a2c, .slice q2a wd.queue.length q2c, .slice p2a wd.pk.length p2c] 56))).size))⟩))
    have HM4 := Lib.hid hM4
    have HMid4 := Lib.hid hMid4
    have HR2 := Lib.hid (tRow.mono _ _ _ _ (Mem.le_trans hM3 hM4) hr2)
    have HRF4 := Lib.hid ((hrw2.mono (joinM_to hM3 HN3.out)).mono hM4)
    have HWD := Lib.hid (And.intro hwd hct2)
    clear hrw2 hwd hr2 hso2 hct2
    clear hn3 hM3 hMid3 hbA3 hb3 c0 c1 c2 c3 c4 c5 c6 hn4 hM4 hMid4 hbA4
    simp only [elV]
    go_upto_region 17 with fail
    have hsz3 : (w3.alloc (.cells #[.int .i64 wd.size, .int .i64 wd.room, .int .i64 wd.credits, .int .i64 wd.next, .slice a2a wd.ahead.length a2c, .slice q2a wd.queue.length q2c, .slice p2a wd.pk.length p2c] 56)).heap.size = w3.heap.size + 1 := by simp
    rw [hsz3] at HC84
    generalize ((w3.alloc (.cells #[.int .i64 wd.size, .int .i64 wd.room, .int .i64 wd.credits, .int .i64 wd.next, .slice a2a wd.ahead.length a2c, .slice q2a wd.queue.length q2c, .slice p2a wd.pk.length p2c] 56)).alloc (.cells #[.int .i64 y.kind, .int .i64 y.n, .int .i64 y.time, .slice a2x y.row.length c2x, .int .i64 y.cn] 42)) = X3 at HMid4 ⊢
    clear hsz3 HMid3
    have HC83' := HC83
    generalize hnc : w3.heap.size + 1 = nc at HC84 ⊢
    generalize hnd : w3.heap.size = nd at HC83 ⊢
    have HMD := Lib.hid (HMid4.out.pure (Below.refl _ _).drew)
    have HS := Lib.hid (fun (w' : World) (hq : M4.le (mem w')) => (show w'.cell? ⟨nd, 0, none⟩ = some (.int .i64 wd.size) ∧ w'.cell? ⟨nd, 1, none⟩ = some (.int .i64 wd.room) ∧ w'.cell? ⟨nd, 2, none⟩ = some (.int .i64 wd.credits) ∧ w'.cell? ⟨nd, 3, none⟩ = some (.int .i64 wd.next) ∧ w'.cell? ⟨nd, 4, none⟩ = some (.slice a2a wd.ahead.length a2c) ∧ w'.cell? ⟨nd, 5, none⟩ = some (.slice q2a wd.queue.length q2c) ∧ w'.cell? ⟨nd, 6, none⟩ = some (.slice p2a wd.pk.length p2c) ∧ w'.cell? ⟨nb, 0, none⟩ = some (.int .i64 y.kind) ∧ w'.cell? ⟨nb, 1, none⟩ = some (.int .i64 y.n) ∧ w'.cell? ⟨nb, 2, none⟩ = some (.int .i64 y.time) ∧ w'.cell? ⟨nb, 3, none⟩ = some (.slice a1 y.row.length c1x) ∧ w'.cell? ⟨nb, 4, none⟩ = some (.int .i64 y.cn) ∧ w'.cell? ⟨nc, 0, none⟩ = some (.int .i64 y.kind) ∧ w'.cell? ⟨nc, 1, none⟩ = some (.int .i64 y.n) ∧ w'.cell? ⟨nc, 2, none⟩ = some (.int .i64 y.time) ∧ w'.cell? ⟨nc, 3, none⟩ = some (.slice a2x y.row.length c2x) ∧ w'.cell? ⟨nc, 4, none⟩ = some (.int .i64 y.cn) from ⟨(HC83.out w' (Mem.le_trans HM4.out hq)).1, (HC83.out w' (Mem.le_trans HM4.out hq)).2.1, (HC83.out w' (Mem.le_trans HM4.out hq)).2.2.1, (HC83.out w' (Mem.le_trans HM4.out hq)).2.2.2.1, (HC83.out w' (Mem.le_trans HM4.out hq)).2.2.2.2.1, (HC83.out w' (Mem.le_trans HM4.out hq)).2.2.2.2.2.1, (HC83.out w' (Mem.le_trans HM4.out hq)).2.2.2.2.2.2, (HC82.out w' (Mem.le_trans HM3.out (Mem.le_trans HM4.out hq))).1, (HC82.out w' (Mem.le_trans HM3.out (Mem.le_trans HM4.out hq))).2.1, (HC82.out w' (Mem.le_trans HM3.out (Mem.le_trans HM4.out hq))).2.2.1, (HC82.out w' (Mem.le_trans HM3.out (Mem.le_trans HM4.out hq))).2.2.2.1, (HC82.out w' (Mem.le_trans HM3.out (Mem.le_trans HM4.out hq))).2.2.2.2, (HC84.out w' hq).1, (HC84.out w' hq).2.1, (HC84.out w' hq).2.2.1, (HC84.out w' hq).2.2.2.1, (HC84.out w' hq).2.2.2.2⟩))
    have HSR := Lib.hid (fun (wq : World) (hq : Mid c base b M0 w0 F (W.heap.size + 1 + 1) wq (recvR r) ah' ps' m' (N + 1) M4) => (show (((((((wq.setCell ⟨W.heap.size + 1 + 1, 0, none⟩ (.int .i64 wd.size)).setCell ⟨W.heap.size + 1 + 1, 1, none⟩ (.int .i64 wd.room)).setCell ⟨W.heap.size + 1 + 1, 2, none⟩ (.int .i64 wd.credits)).setCell ⟨W.heap.size + 1 + 1, 3, none⟩ (.int .i64 wd.next)).setCell ⟨W.heap.size + 1 + 1, 4, none⟩ (.slice a2a wd.ahead.length a2c)).setCell ⟨W.heap.size + 1 + 1, 5, none⟩ (.slice q2a wd.queue.length q2c)).setCell ⟨W.heap.size + 1 + 1, 6, none⟩ (.slice p2a wd.pk.length p2c)).cell? ⟨nd, 0, none⟩ = some (.int .i64 wd.size) ∧ (((((((wq.setCell ⟨W.heap.size + 1 + 1, 0, none⟩ (.int .i64 wd.size)).setCell ⟨W.heap.size + 1 + 1, 1, none⟩ (.int .i64 wd.room)).setCell ⟨W.heap.size + 1 + 1, 2, none⟩ (.int .i64 wd.credits)).setCell ⟨W.heap.size + 1 + 1, 3, none⟩ (.int .i64 wd.next)).setCell ⟨W.heap.size + 1 + 1, 4, none⟩ (.slice a2a wd.ahead.length a2c)).setCell ⟨W.heap.size + 1 + 1, 5, none⟩ (.slice q2a wd.queue.length q2c)).setCell ⟨W.heap.size + 1 + 1, 6, none⟩ (.slice p2a wd.pk.length p2c)).cell? ⟨nd, 1, none⟩ = some (.int .i64 wd.room) ∧ (((((((wq.setCell ⟨W.heap.size + 1 + 1, 0, none⟩ (.int .i64 wd.size)).setCell ⟨W.heap.size + 1 + 1, 1, none⟩ (.int .i64 wd.room)).setCell ⟨W.heap.size + 1 + 1, 2, none⟩ (.int .i64 wd.credits)).setCell ⟨W.heap.size + 1 + 1, 3, none⟩ (.int .i64 wd.next)).setCell ⟨W.heap.size + 1 + 1, 4, none⟩ (.slice a2a wd.ahead.length a2c)).setCell ⟨W.heap.size + 1 + 1, 5, none⟩ (.slice q2a wd.queue.length q2c)).setCell ⟨W.heap.size + 1 + 1, 6, none⟩ (.slice p2a wd.pk.length p2c)).cell? ⟨nd, 2, none⟩ = some (.int .i64 wd.credits) ∧ (((((((wq.setCell ⟨W.heap.size + 1 + 1, 0, none⟩ (.int .i64 wd.size)).setCell ⟨W.heap.size + 1 + 1, 1, none⟩ (.int .i64 wd.room)).setCell ⟨W.heap.size + 1 + 1, 2, none⟩ (.int .i64 wd.credits)).setCell ⟨W.heap.size + 1 + 1, 3, none⟩ (.int .i64 wd.next)).setCell ⟨W.heap.size + 1 + 1, 4, none⟩ (.slice a2a wd.ahead.length a2c)).setCell ⟨W.heap.size + 1 + 1, 5, none⟩ (.slice q2a wd.queue.length q2c)).setCell ⟨W.heap.size + 1 + 1, 6, none⟩ (.slice p2a wd.pk.length p2c)).cell? ⟨nd, 3, none⟩ = some (.int .i64 wd.next) ∧ (((((((wq.setCell ⟨W.heap.size + 1 + 1, 0, none⟩ (.int .i64 wd.size)).setCell ⟨W.heap.size + 1 + 1, 1, none⟩ (.int .i64 wd.room)).setCell ⟨W.heap.size + 1 + 1, 2, none⟩ (.int .i64 wd.credits)).setCell ⟨W.heap.size + 1 + 1, 3, none⟩ (.int .i64 wd.next)).setCell ⟨W.heap.size + 1 + 1, 4, none⟩ (.slice a2a wd.ahead.length a2c)).setCell ⟨W.heap.size + 1 + 1, 5, none⟩ (.slice q2a wd.queue.length q2c)).setCell ⟨W.heap.size + 1 + 1, 6, none⟩ (.slice p2a wd.pk.length p2c)).cell? ⟨nd, 4, none⟩ = some (.slice a2a wd.ahead.length a2c) ∧ (((((((wq.setCell ⟨W.heap.size + 1 + 1, 0, none⟩ (.int .i64 wd.size)).setCell ⟨W.heap.size + 1 + 1, 1, none⟩ (.int .i64 wd.room)).setCell ⟨W.heap.size + 1 + 1, 2, none⟩ (.int .i64 wd.credits)).setCell ⟨W.heap.size + 1 + 1, 3, none⟩ (.int .i64 wd.next)).setCell ⟨W.heap.size + 1 + 1, 4, none⟩ (.slice a2a wd.ahead.length a2c)).setCell ⟨W.heap.size + 1 + 1, 5, none⟩ (.slice q2a wd.queue.length q2c)).setCell ⟨W.heap.size + 1 + 1, 6, none⟩ (.slice p2a wd.pk.length p2c)).cell? ⟨nd, 5, none⟩ = some (.slice q2a wd.queue.length q2c) ∧ (((((((wq.setCell ⟨W.heap.size + 1 + 1, 0, none⟩ (.int .i64 wd.size)).setCell ⟨W.heap.size + 1 + 1, 1, none⟩ (.int .i64 wd.room)).setCell ⟨W.heap.size + 1 + 1, 2, none⟩ (.int .i64 wd.credits)).setCell ⟨W.heap.size + 1 + 1, 3, none⟩ (.int .i64 wd.next)).setCell ⟨W.heap.size + 1 + 1, 4, none⟩ (.slice a2a wd.ahead.length a2c)).setCell ⟨W.heap.size + 1 + 1, 5, none⟩ (.slice q2a wd.queue.length q2c)).setCell ⟨W.heap.size + 1 + 1, 6, none⟩ (.slice p2a wd.pk.length p2c)).cell? ⟨nd, 6, none⟩ = some (.slice p2a wd.pk.length p2c) ∧ (((((((wq.setCell ⟨W.heap.size + 1 + 1, 0, none⟩ (.int .i64 wd.size)).setCell ⟨W.heap.size + 1 + 1, 1, none⟩ (.int .i64 wd.room)).setCell ⟨W.heap.size + 1 + 1, 2, none⟩ (.int .i64 wd.credits)).setCell ⟨W.heap.size + 1 + 1, 3, none⟩ (.int .i64 wd.next)).setCell ⟨W.heap.size + 1 + 1, 4, none⟩ (.slice a2a wd.ahead.length a2c)).setCell ⟨W.heap.size + 1 + 1, 5, none⟩ (.slice q2a wd.queue.length q2c)).setCell ⟨W.heap.size + 1 + 1, 6, none⟩ (.slice p2a wd.pk.length p2c)).cell? ⟨nb, 0, none⟩ = some (.int .i64 y.kind) ∧ (((((((wq.setCell ⟨W.heap.size + 1 + 1, 0, none⟩ (.int .i64 wd.size)).setCell ⟨W.heap.size + 1 + 1, 1, none⟩ (.int .i64 wd.room)).setCell ⟨W.heap.size + 1 + 1, 2, none⟩ (.int .i64 wd.credits)).setCell ⟨W.heap.size + 1 + 1, 3, none⟩ (.int .i64 wd.next)).setCell ⟨W.heap.size + 1 + 1, 4, none⟩ (.slice a2a wd.ahead.length a2c)).setCell ⟨W.heap.size + 1 + 1, 5, none⟩ (.slice q2a wd.queue.length q2c)).setCell ⟨W.heap.size + 1 + 1, 6, none⟩ (.slice p2a wd.pk.length p2c)).cell? ⟨nb, 1, none⟩ = some (.int .i64 y.n) ∧ (((((((wq.setCell ⟨W.heap.size + 1 + 1, 0, none⟩ (.int .i64 wd.size)).setCell ⟨W.heap.size + 1 + 1, 1, none⟩ (.int .i64 wd.room)).setCell ⟨W.heap.size + 1 + 1, 2, none⟩ (.int .i64 wd.credits)).setCell ⟨W.heap.size + 1 + 1, 3, none⟩ (.int .i64 wd.next)).setCell ⟨W.heap.size + 1 + 1, 4, none⟩ (.slice a2a wd.ahead.length a2c)).setCell ⟨W.heap.size + 1 + 1, 5, none⟩ (.slice q2a wd.queue.length q2c)).setCell ⟨W.heap.size + 1 + 1, 6, none⟩ (.slice p2a wd.pk.length p2c)).cell? ⟨nb, 2, none⟩ = some (.int .i64 y.time) ∧ (((((((wq.setCell ⟨W.heap.size + 1 + 1, 0, none⟩ (.int .i64 wd.size)).setCell ⟨W.heap.size + 1 + 1, 1, none⟩ (.int .i64 wd.room)).setCell ⟨W.heap.size + 1 + 1, 2, none⟩ (.int .i64 wd.credits)).setCell ⟨W.heap.size + 1 + 1, 3, none⟩ (.int .i64 wd.next)).setCell ⟨W.heap.size + 1 + 1, 4, none⟩ (.slice a2a wd.ahead.length a2c)).setCell ⟨W.heap.size + 1 + 1, 5, none⟩ (.slice q2a wd.queue.length q2c)).setCell ⟨W.heap.size + 1 + 1, 6, none⟩ (.slice p2a wd.pk.length p2c)).cell? ⟨nb, 3, none⟩ = some (.slice a1 y.row.length c1x) ∧ (((((((wq.setCell ⟨W.heap.size + 1 + 1, 0, none⟩ (.int .i64 wd.size)).setCell ⟨W.heap.size + 1 + 1, 1, none⟩ (.int .i64 wd.room)).setCell ⟨W.heap.size + 1 + 1, 2, none⟩ (.int .i64 wd.credits)).setCell ⟨W.heap.size + 1 + 1, 3, none⟩ (.int .i64 wd.next)).setCell ⟨W.heap.size + 1 + 1, 4, none⟩ (.slice a2a wd.ahead.length a2c)).setCell ⟨W.heap.size + 1 + 1, 5, none⟩ (.slice q2a wd.queue.length q2c)).setCell ⟨W.heap.size + 1 + 1, 6, none⟩ (.slice p2a wd.pk.length p2c)).cell? ⟨nb, 4, none⟩ = some (.int .i64 y.cn) ∧ (((((((wq.setCell ⟨W.heap.size + 1 + 1, 0, none⟩ (.int .i64 wd.size)).setCell ⟨W.heap.size + 1 + 1, 1, none⟩ (.int .i64 wd.room)).setCell ⟨W.heap.size + 1 + 1, 2, none⟩ (.int .i64 wd.credits)).setCell ⟨W.heap.size + 1 + 1, 3, none⟩ (.int .i64 wd.next)).setCell ⟨W.heap.size + 1 + 1, 4, none⟩ (.slice a2a wd.ahead.length a2c)).setCell ⟨W.heap.size + 1 + 1, 5, none⟩ (.slice q2a wd.queue.length q2c)).setCell ⟨W.heap.size + 1 + 1, 6, none⟩ (.slice p2a wd.pk.length p2c)).cell? ⟨nc, 0, none⟩ = some (.int .i64 y.kind) ∧ (((((((wq.setCell ⟨W.heap.size + 1 + 1, 0, none⟩ (.int .i64 wd.size)).setCell ⟨W.heap.size + 1 + 1, 1, none⟩ (.int .i64 wd.room)).setCell ⟨W.heap.size + 1 + 1, 2, none⟩ (.int .i64 wd.credits)).setCell ⟨W.heap.size + 1 + 1, 3, none⟩ (.int .i64 wd.next)).setCell ⟨W.heap.size + 1 + 1, 4, none⟩ (.slice a2a wd.ahead.length a2c)).setCell ⟨W.heap.size + 1 + 1, 5, none⟩ (.slice q2a wd.queue.length q2c)).setCell ⟨W.heap.size + 1 + 1, 6, none⟩ (.slice p2a wd.pk.length p2c)).cell? ⟨nc, 1, none⟩ = some (.int .i64 y.n) ∧ (((((((wq.setCell ⟨W.heap.size + 1 + 1, 0, none⟩ (.int .i64 wd.size)).setCell ⟨W.heap.size + 1 + 1, 1, none⟩ (.int .i64 wd.room)).setCell ⟨W.heap.size + 1 + 1, 2, none⟩ (.int .i64 wd.credits)).setCell ⟨W.heap.size + 1 + 1, 3, none⟩ (.int .i64 wd.next)).setCell ⟨W.heap.size + 1 + 1, 4, none⟩ (.slice a2a wd.ahead.length a2c)).setCell ⟨W.heap.size + 1 + 1, 5, none⟩ (.slice q2a wd.queue.length q2c)).setCell ⟨W.heap.size + 1 + 1, 6, none⟩ (.slice p2a wd.pk.length p2c)).cell? ⟨nc, 2, none⟩ = some (.int .i64 y.time) ∧ (((((((wq.setCell ⟨W.heap.size + 1 + 1, 0, none⟩ (.int .i64 wd.size)).setCell ⟨W.heap.size + 1 + 1, 1, none⟩ (.int .i64 wd.room)).setCell ⟨W.heap.size + 1 + 1, 2, none⟩ (.int .i64 wd.credits)).setCell ⟨W.heap.size + 1 + 1, 3, none⟩ (.int .i64 wd.next)).setCell ⟨W.heap.size + 1 + 1, 4, none⟩ (.slice a2a wd.ahead.length a2c)).setCell ⟨W.heap.size + 1 + 1, 5, none⟩ (.slice q2a wd.queue.length q2c)).setCell ⟨W.heap.size + 1 + 1, 6, none⟩ (.slice p2a wd.pk.length p2c)).cell? ⟨nc, 3, none⟩ = some (.slice a2x y.row.length c2x) ∧ (((((((wq.setCell ⟨W.heap.size + 1 + 1, 0, none⟩ (.int .i64 wd.size)).setCell ⟨W.heap.size + 1 + 1, 1, none⟩ (.int .i64 wd.room)).setCell ⟨W.heap.size + 1 + 1, 2, none⟩ (.int .i64 wd.credits)).setCell ⟨W.heap.size + 1 + 1, 3, none⟩ (.int .i64 wd.next)).setCell ⟨W.heap.size + 1 + 1, 4, none⟩ (.slice a2a wd.ahead.length a2c)).setCell ⟨W.heap.size + 1 + 1, 5, none⟩ (.slice q2a wd.queue.length q2c)).setCell ⟨W.heap.size + 1 + 1, 6, none⟩ (.slice p2a wd.pk.length p2c)).cell? ⟨nc, 4, none⟩ = some (.int .i64 y.cn) from HS.out _ (hq.stored (store7_keeps wq (W.heap.size + 1 + 1) (.int .i64 wd.size) (.int .i64 wd.room) (.int .i64 wd.credits) (.int .i64 wd.next) (.slice a2a wd.ahead.length a2c) (.slice q2a wd.queue.length q2c) (.slice p2a wd.pk.length p2c)))))
    have HSE := Lib.hid (same_el y _ _ X3.drew (tRow.mono _ _ _ _ (Mem.le_trans HM3.out (Mem.le_trans HM4.out HMD.out.mem)) HR1.out) (tRow.mono _ _ _ _ HMD.out.mem HR2.out))
    have s0 := HS.out X3.drew HMD.out.mem
    go_region_held3 (fun w' => w'.cell? ⟨nd, 0, none⟩ = some (.int .i64 wd.size) ∧ w'.cell? ⟨nd, 1, none⟩ = some (.int .i64 wd.room) ∧ w'.cell? ⟨nd, 2, none⟩ = some (.int .i64 wd.credits) ∧ w'.cell? ⟨nd, 3, none⟩ = some (.int .i64 wd.next) ∧ w'.cell? ⟨nd, 4, none⟩ = some (.slice a2a wd.ahead.length a2c) ∧ w'.cell? ⟨nd, 5, none⟩ = some (.slice q2a wd.queue.length q2c) ∧ w'.cell? ⟨nd, 6, none⟩ = some (.slice p2a wd.pk.length p2c) ∧ w'.cell? ⟨nb, 0, none⟩ = some (.int .i64 y.kind) ∧ w'.cell? ⟨nb, 1, none⟩ = some (.int .i64 y.n) ∧ w'.cell? ⟨nb, 2, none⟩ = some (.int .i64 y.time) ∧ w'.cell? ⟨nb, 3, none⟩ = some (.slice a1 y.row.length c1x) ∧ w'.cell? ⟨nb, 4, none⟩ = some (.int .i64 y.cn) ∧ w'.cell? ⟨nc, 0, none⟩ = some (.int .i64 y.kind) ∧ w'.cell? ⟨nc, 1, none⟩ = some (.int .i64 y.n) ∧ w'.cell? ⟨nc, 2, none⟩ = some (.int .i64 y.time) ∧ w'.cell? ⟨nc, 3, none⟩ = some (.slice a2x y.row.length c2x) ∧ w'.cell? ⟨nc, 4, none⟩ = some (.int .i64 y.cn)) (first | with_reducible exact s0 | with_reducible exact HS.out w5 hm5 | with_reducible exact HSR.out w5 HMid5.out | go_keep)
      ((first
        | (go_at_call 47; refine HSE.out.mono ?_; rintro e w5 ⟨rfl, hb5⟩; have hMid5 := HMD.out.pure hb5; have hm5 := hMid5.mem; have HMid5 := Lib.hid hMid5; obtain ⟨f5, z5⟩ := hMid5.cells; have z0 := z5 0; have z1 := z5 1; have z2 := z5 2; have z3 := z5 3; have z4 := z5 4; have z55 := z5 5; have z6 := z5 6; clear hMid5 z5)))
    all_goals
      go_wp2
      have r1 := store7_block HMid5.out.hR (.int .i64 wd.size) (.int .i64 wd.room) (.int .i64 wd.credits) (.int .i64 wd.next) (.slice a2a wd.ahead.length a2c) (.slice q2a wd.queue.length q2c) (.slice p2a wd.pk.length p2c)
      have hk := store7_keeps (w5) (W.heap.size + 1 + 1) (.int .i64 wd.size) (.int .i64 wd.room) (.int .i64 wd.credits) (.int .i64 wd.next) (.slice a2a wd.ahead.length a2c) (.slice q2a wd.queue.length q2c) (.slice p2a wd.pk.length p2c)
      show bodyPost _ _ _ _ _ (store7 (w5) (W.heap.size + 1 + 1) (.int .i64 wd.size) (.int .i64 wd.room) (.int .i64 wd.credits) (.int .i64 wd.next) (.slice a2a wd.ahead.length a2c) (.slice q2a wd.queue.length q2c) (.slice p2a wd.pk.length p2c))
      generalize store7 (w5) (W.heap.size + 1 + 1) (.int .i64 wd.size) (.int .i64 wd.room) (.int .i64 wd.credits) (.int .i64 wd.next) (.slice a2a wd.ahead.length a2c) (.slice q2a wd.queue.length q2c) (.slice p2a wd.pk.length p2c) = w2 at r1 hk ⊢
      have g0 : w2.cell? ⟨W.heap.size + 1 + 1, 0, none⟩ = some (.int .i64 wd.size) := mem_cells r1 0
      have g1 : w2.cell? ⟨W.heap.size + 1 + 1, 1, none⟩ = some (.int .i64 wd.room) := mem_cells r1 1
      have g2 : w2.cell? ⟨W.heap.size + 1 + 1, 2, none⟩ = some (.int .i64 wd.credits) := mem_cells r1 2
      have g3 : w2.cell? ⟨W.heap.size + 1 + 1, 3, none⟩ = some (.int .i64 wd.next) := mem_cells r1 3
      have g4 : w2.cell? ⟨W.heap.size + 1 + 1, 4, none⟩ = some (.slice a2a wd.ahead.length a2c) := mem_cells r1 4
      have g5 : w2.cell? ⟨W.heap.size + 1 + 1, 5, none⟩ = some (.slice q2a wd.queue.length q2c) := mem_cells r1 5
      have g6 : w2.cell? ⟨W.heap.size + 1 + 1, 6, none⟩ = some (.slice p2a wd.pk.length p2c) := mem_cells r1 6
      refine bodyPost_ret (v := .tuple #[.agg #[.int .i64 wd.size, .int .i64 wd.room, .int .i64 wd.credits, .int .i64 wd.next, .slice a2a wd.ahead.length a2c, .slice q2a wd.queue.length q2c, .slice p2a wd.pk.length p2c], .bool true]) (by simp [results, Try.results25, go_sem, g0, g1, g2, g3, g4, g5, g6]) rfl ?_
      have hE : refOf (recvR r) ah' ps' = wd := HWD.out.1
      exact ⟨_, _, _, _, M4, _, _, _, by rw [hE], HMid5.out.finish hk (by rw [hE]; exact HRF4.out), Mem.le_trans HM1.out (Mem.le_trans HMA.out (Mem.le_trans HM2.out (Mem.le_trans HM3.out HM4.out))), by rw [HWD.out.2]; omega⟩
end Go.Proofs.Ytfkphdmnelchmaa
/- does: resize. -/
namespace Go.Proofs.Ytfkphdmnelchmaa
open Go.RowKit Go.Maps

set_option maxRecDepth 100000 in
set_option maxHeartbeats 8000000 in
theorem does_resize (c : Int) (base b : Nat) (M0 : Mem) (w0 : World) (F : Nat → Prop) (W : World) (r : Raw) (ah : List El) (ps : List PK) (m N kk : Nat) (M : Mem) (a q p s : Value) (x : Act20) (h : Run c base b M0 w0 F W r ah ps m N M a q p) (hx : x.el.ok) (hxn : inI64 x.n) (hx8 : 0 ≤ x.kind ∧ x.kind ≤ 255) (hs : tRow.rv M [s] x.el.row) (hkd : x.kind % 8 = 6) (hN : N ≤ 500000) (hcnt : r.count ≤ kk) (hkk : kk ≤ 2000) :
    Calls Try.prog 25 #[.pointer (some ⟨b, 0, none⟩), wV (refOf r ah ps) a q p, actV x s] W (DoesOut c base b M0 w0 F N M (kk + 1)) := by
  have hfine := h.so.fine (by omega)
  have hcn0 := h.so.cnt0
  have hl : (rcont (refOf r ah ps)).length ≤ 2000 := by rw [h.so.rcnt]; omega
  have hpl : (refOf r ah ps).pk.length ≤ 2000 := by
    have h1 := h.so.cr; have h2 := h.so.c0; have h3 := h.so.c1
    show (ps.map _).length ≤ 2000
    rw [List.length_map]; omega
  generalize hw : refOf r ah ps = w at *
  have hRun := h
  have hrf := h.rf
  rw [hw] at hrf
  obtain ⟨aa, ca, rfl, hla, hma, hra⟩ := slice_form hrf.ha
  obtain ⟨aq, cq, rfl, hlq, hmq, hrq⟩ := slice_form hrf.hq
  obtain ⟨ap, cp, rfl, hlp, hmp, hrp⟩ := slice_form hrf.hp
  obtain ⟨ax, cx, rfl, _, hmx, hs⟩ := slice_form hs
  have hca : ca ≤ 9223372036854775807 := by unfold maxLen at hma; exact hma
  have hcq : cq ≤ 9223372036854775807 := by unfold maxLen at hmq; exact hmq
  have hcp : cp ≤ 9223372036854775807 := by unfold maxLen at hmp; exact hmp
  have HW := Lib.hid hw
  have HB := Lib.hid ((((Below.refl W.heap.size W).alloc (Nat.le_refl _) (.cells #[.int .i64 w.size, .int .i64 w.room, .int .i64 w.credits, .int .i64 w.next, .slice aa w.ahead.length ca, .slice aq w.queue.length cq, .slice ap w.pk.length cp] 56)).alloc (by simp) (.cells #[.int .u8 x.kind, .int .i64 x.n, .int .i64 x.el.kind, .int .i64 x.el.n, .int .i64 x.el.time, .slice ax x.el.row.length cx, .int .i64 x.el.cn] 44)).alloc (by simp; omega) (.cells #[.int .i64 0, .int .i64 0, .int .i64 0, .int .i64 0, .slice none 0 0, .slice none 0 0, .slice none 0 0] 56))
  have y4 : (((W.alloc (.cells #[.int .i64 w.size, .int .i64 w.room, .int .i64 w.credits, .int .i64 w.next, .slice aa w.ahead.length ca, .slice aq w.queue.length cq, .slice ap w.pk.length cp] 56)).alloc (.cells #[.int .u8 x.kind, .int .i64 x.n, .int .i64 x.el.kind, .int .i64 x.el.n, .int .i64 x.el.time, .slice ax x.el.row.length cx, .int .i64 x.el.cn] 44)).alloc (.cells #[.int .i64 0, .int .i64 0, .int .i64 0, .int .i64 0, .slice none 0 0, .slice none 0 0, .slice none 0 0] 56)).heap[W.heap.size]? = some (.cells #[.int .i64 w.size, .int .i64 w.room, .int .i64 w.credits, .int .i64 w.next, .slice aa w.ahead.length ca, .slice aq w.queue.length cq, .slice ap w.pk.length cp] 56 (0, 0)) := alloc_block (alloc_block (heap_alloc_new W _) _) _
  have y5 : (((W.alloc (.cells #[.int .i64 w.size, .int .i64 w.room, .int .i64 w.credits, .int .i64 w.next, .slice aa w.ahead.length ca, .slice aq w.queue.length cq, .slice ap w.pk.length cp] 56)).alloc (.cells #[.int .u8 x.kind, .int .i64 x.n, .int .i64 x.el.kind, .int .i64 x.el.n, .int .i64 x.el.time, .slice ax x.el.row.length cx, .int .i64 x.el.cn] 44)).alloc (.cells #[.int .i64 0, .int .i64 0, .int .i64 0, .int .i64 0, .slice none 0 0, .slice none 0 0, .slice none 0 0] 56)).heap[W.heap.size + 1]? = some (.cells #[.int .u8 x.kind, .int .i64 x.n, .int .i64 x.el.kind, .int .i64 x.el.n, .int .i64 x.el.time, .slice ax x.el.row.length cx, .int .i64 x.el.cn] 44 (0, 0)) := alloc_block (by have h := heap_alloc_new (W.alloc (.cells #[.int .i64 w.size, .int .i64 w.room, .int .i64 w.credits, .int .i64 w.next, .slice aa w.ahead.length ca, .slice aq w.queue.length cq, .slice ap w.pk.length cp] 56)) (.cells #[.int .u8 x.kind, .int .i64 x.n, .int .i64 x.el.kind, .int .i64 x.el.n, .int .i64 x.el.time, .slice ax x.el.row.length cx, .int .i64 x.el.cn] 44); rwa [World.size_alloc] at h) _
  have yR : (((W.alloc (.cells #[.int .i64 w.size, .int .i64 w.room, .int .i64 w.credits, .int .i64 w.next, .slice aa w.ahead.length ca, .slice aq w.queue.length cq, .slice ap w.pk.length cp] 56)).alloc (.cells #[.int .u8 x.kind, .int .i64 x.n, .int .i64 x.el.kind, .int .i64 x.el.n, .int .i64 x.el.time, .slice ax x.el.row.length cx, .int .i64 x.el.cn] 44)).alloc (.cells #[.int .i64 0, .int .i64 0, .int .i64 0, .int .i64 0, .slice none 0 0, .slice none 0 0, .slice none 0 0] 56)).heap[W.heap.size + 1 + 1]? = some (.cells #[.int .i64 0, .int .i64 0, .int .i64 0, .int .i64 0, .slice none 0 0, .slice none 0 0, .slice none 0 0] 56 (0, 0)) := by have h := heap_alloc_new ((W.alloc (.cells #[.int .i64 w.size, .int .i64 w.room, .int .i64 w.credits, .int .i64 w.next, .slice aa w.ahead.length ca, .slice aq w.queue.length cq, .slice ap w.pk.length cp] 56)).alloc (.cells #[.int .u8 x.kind, .int .i64 x.n, .int .i64 x.el.kind, .int .i64 x.el.n, .int .i64 x.el.time, .slice ax x.el.row.length cx, .int .i64 x.el.cn] 44)) (.cells #[.int .i64 0, .int .i64 0, .int .i64 0, .int .i64 0, .slice none 0 0, .slice none 0 0, .slice none 0 0] 56); simpa only [World.size_alloc] using h
  obtain ⟨M1, hMid, hM1, hnew1⟩ := h.start HB.out (R := W.heap.size + 1 + 1) (by omega) yR
  have HRF := Lib.hid (hrf.mono hM1)
  have HHS := Lib.hid (tRow.mono _ _ _ _ hM1 hs)
  have HX := Lib.hid hx
  have HM1 := Lib.hid hM1
  have HSO := Lib.hid hRun.so
  have HF := Lib.hid hfine
  have HC4 := Lib.hid (fun (wq : World) (hq : M1.le (mem wq)) => (show wq.cell? ⟨W.heap.size, 0, none⟩ = some (.int .i64 w.size) ∧ wq.cell? ⟨W.heap.size, 1, none⟩ = some (.int .i64 w.room) ∧ wq.cell? ⟨W.heap.size, 2, none⟩ = some (.int .i64 w.credits) ∧ wq.cell? ⟨W.heap.size, 3, none⟩ = some (.int .i64 w.next) ∧ wq.cell? ⟨W.heap.size, 4, none⟩ = some (.slice aa w.ahead.length ca) ∧ wq.cell? ⟨W.heap.size, 5, none⟩ = some (.slice aq w.queue.length cq) ∧ wq.cell? ⟨W.heap.size, 6, none⟩ = some (.slice ap w.pk.length cp) from ⟨hq _ _ _ (hnew1 _ _ _ (Mem.on_some (mem_cells y4 0) ⟨by omega, by omega⟩)), hq _ _ _ (hnew1 _ _ _ (Mem.on_some (mem_cells y4 1) ⟨by omega, by omega⟩)), hq _ _ _ (hnew1 _ _ _ (Mem.on_some (mem_cells y4 2) ⟨by omega, by omega⟩)), hq _ _ _ (hnew1 _ _ _ (Mem.on_some (mem_cells y4 3) ⟨by omega, by omega⟩)), hq _ _ _ (hnew1 _ _ _ (Mem.on_some (mem_cells y4 4) ⟨by omega, by omega⟩)), hq _ _ _ (hnew1 _ _ _ (Mem.on_some (mem_cells y4 5) ⟨by omega, by omega⟩)), hq _ _ _ (hnew1 _ _ _ (Mem.on_some (mem_cells y4 6) ⟨by omega, by omega⟩))⟩))
  have HC5 := Lib.hid (fun (wq : World) (hq : M1.le (mem wq)) => (show wq.cell? ⟨W.heap.size + 1, 0, none⟩ = some (.int .u8 x.kind) ∧ wq.cell? ⟨W.heap.size + 1, 1, none⟩ = some (.int .i64 x.n) ∧ wq.cell? ⟨W.heap.size + 1, 2, none⟩ = some (.int .i64 x.el.kind) ∧ wq.cell? ⟨W.heap.size + 1, 3, none⟩ = some (.int .i64 x.el.n) ∧ wq.cell? ⟨W.heap.size + 1, 4, none⟩ = some (.int .i64 x.el.time) ∧ wq.cell? ⟨W.heap.size + 1, 5, none⟩ = some (.slice ax x.el.row.length cx) ∧ wq.cell? ⟨W.heap.size + 1, 6, none⟩ = some (.int .i64 x.el.cn) from ⟨hq _ _ _ (hnew1 _ _ _ (Mem.on_some (mem_cells y5 0) ⟨by omega, by omega⟩)), hq _ _ _ (hnew1 _ _ _ (Mem.on_some (mem_cells y5 1) ⟨by omega, by omega⟩)), hq _ _ _ (hnew1 _ _ _ (Mem.on_some (mem_cells y5 2) ⟨by omega, by omega⟩)), hq _ _ _ (hnew1 _ _ _ (Mem.on_some (mem_cells y5 3) ⟨by omega, by omega⟩)), hq _ _ _ (hnew1 _ _ _ (Mem.on_some (mem_cells y5 4) ⟨by omega, by omega⟩)), hq _ _ _ (hnew1 _ _ _ (Mem.on_some (mem_cells y5 5) ⟨by omega, by omega⟩)), hq _ _ _ (hnew1 _ _ _ (Mem.on_some (mem_cells y5 6) ⟨by omega, by omega⟩))⟩))
  clear y4 y5 yR hnew1 hra hrq hrp hma hmq hmp hmx hs h hrf hw hx hRun hfine hM1
  go_enter Try.func25, Try.ntmps25
  go_upto_region 1 with fail
  generalize ((W.alloc (.cells #[.int .i64 w.size, .int .i64 w.room, .int .i64 w.credits, .int .i64 w.next, .slice aa w.ahead.length ca, .slice aq w.queue.length cq, .slice ap w.pk.length cp] 56)).alloc (.cells #[.int .u8 x.kind, .int .i64 x.n, .int .i64 x.el.kind, .int .i64 x.el.n, .int .i64 x.el.time, .slice ax x.el.row.length cx, .int .i64 x.el.cn] 44)).alloc (.cells #[.int .i64 0, .int .i64 0, .int .i64 0, .int .i64 0, .slice none 0 0, .slice none 0 0, .slice none 0 0] 56) = Y at HB hMid ⊢
  have HMid := Lib.hid hMid
  obtain ⟨c0, c1, c2, c3, c4, c5, c6⟩ := HC4.out Y hMid.mem
  obtain ⟨d0, d1, d2, d3, d4, d5, d6⟩ := HC5.out Y hMid.mem
  clear hMid
  go_upto_region 2 with fail
  rw [hkd]
  go_wp2_with fail
  refine (refResize_any w _ _ _ M1 Y HMid.out.mem HRF.out x.n hxn).mono ?_
  rintro e w1 ⟨rfl, hb1⟩
  by_cases hn : 1 ≤ x.n ∧ x.n ≤ 100
  · have HNN := Lib.hid hn
    rw [show resizeW w x.n = { w with size := x.n } from if_pos hn, show resizeK x.n = 0 from if_pos hn]
    clear hn
    have hbA2 : Below Y.heap.size Y (w1.alloc (.cells #[.int .i64 x.n, .int .i64 w.room, .int .i64 w.credits, .int .i64 w.next, .slice aa w.ahead.length ca, .slice aq w.queue.length cq, .slice ap w.pk.length cp] 56)) := hb1.alloc hb1.size _
    obtain ⟨M2, hMid2, hM2, hn2⟩ := HMid.out.grow hbA2
    have HN2 := Lib.hid (show ((mem w1).on (Y.heap.size ≤ ·)).le M2 from fun i o v e => hn2 _ _ _ (let ⟨hs, e⟩ := Mem.of_on e; Mem.on_some (below_mem ((Below.refl w1.heap.size w1).alloc (Nat.le_refl _) _) _ _ _ e) hs))
    have HC82 := Lib.hid (fun (wq : World) (hq : M2.le (mem wq)) => (show wq.cell? ⟨w1.heap.size, 0, none⟩ = some (.int .i64 x.n) ∧ wq.cell? ⟨w1.heap.size, 1, none⟩ = some (.int .i64 w.room) ∧ wq.cell? ⟨w1.heap.size, 2, none⟩ = some (.int .i64 w.credits) ∧ wq.cell? ⟨w1.heap.size, 3, none⟩ = some (.int .i64 w.next) ∧ wq.cell? ⟨w1.heap.size, 4, none⟩ = some (.slice aa w.ahead.length ca) ∧ wq.cell? ⟨w1.heap.size, 5, none⟩ = some (.slice aq w.queue.length cq) ∧ wq.cell? ⟨w1.heap.size, 6, none⟩ = some (.slice ap w.pk.length cp) from ⟨hq _ _ _ (hn2 _ _ _ (Mem.on_some (cell_new 0 rfl) hb1.size)), hq _ _ _ (hn2 _ _ _ (Mem.on_some (cell_new 1 rfl) hb1.size)), hq _ _ _ (hn2 _ _ _ (Mem.on_some (cell_new 2 rfl) hb1.size)), hq _ _ _ (hn2 _ _ _ (Mem.on_some (cell_new 3 rfl) hb1.size)), hq _ _ _ (hn2 _ _ _ (Mem.on_some (cell_new 4 rfl) hb1.size)), hq _ _ _ (hn2 _ _ _ (Mem.on_some (cell_new 5 rfl) hb1.size)), hq _ _ _ (hn2 _ _ _ (Mem.on_some (cell_new 6 rfl) hb1.size))⟩))
    have HM2 := Lib.hid hM2
    have HMid2 := Lib.hid hMid2
    have HRF2 := Lib.hid ((⟨hxn, HRF.out.i2, HRF.out.i3, HRF.out.i4, HRF.out.ha, HRF.out.hq, HRF.out.hp⟩ : RwAt M1 { w with size := x.n } _ _ _).mono hM2)
    have HMD := Lib.hid (hMid2.pure (Below.refl _ _).drew)
    have HP := Lib.hid (show Calls Try.prog 21 #[.pointer (some ⟨b, 0, none⟩), .int .i64 x.n] (w1.alloc (.cells #[.int .i64 x.n, .int .i64 w.room, .int .i64 w.credits, .int .i64 w.next, .slice aa w.ahead.length ca, .slice aq w.queue.length cq, .slice ap w.pk.length cp] 56)).drew (fun e W' => e = .returned (.int .i64 0) ∧ Stp base b N M2 (fun k => F k ∨ k = W.heap.size + 1 + 1) (w1.alloc (.cells #[.int .i64 x.n, .int .i64 w.room, .int .i64 w.credits, .int .i64 w.next, .slice aa w.ahead.length ca, .slice aq w.queue.length cq, .slice ap w.pk.length cp] 56)).drew W' ({ r with size := x.n })) from (st_resize HMD.out.st x.n).mono (fun e W' ⟨h1, h2⟩ => by rw [if_pos HNN.out] at h1 h2; exact ⟨h1, h2⟩))
    clear hn2 hM2 hMid2 hbA2 hb1 c0 c1 c2 c3 c4 c5 c6 d0 d1 d2 d3 d4 d5 d6
    go_upto_region 24 with fail
    generalize (w1.alloc (.cells #[.int .i64 x.n, .int .i64 w.room, .int .i64 w.credits, .int .i64 w.next, .slice aa w.ahead.length ca, .slice aq w.queue.length cq, .slice ap w.pk.length cp] 56)) = X at HMid2 HMD HP ⊢
    generalize w1.heap.size = nb at HC82 ⊢
    obtain ⟨c0, c1, c2, c3, c4, c5, c6⟩ := HC82.out X.drew HMD.out.mem
    obtain ⟨d0, d1, d2, d3, d4, d5, d6⟩ := HC5.out X.drew (Mem.le_trans HM2.out HMD.out.mem)
    go_region_law (go_simp; go_at_call 21; refine HP.out.mono ?_; rintro e w5 ⟨rfl, hS⟩; have hMid5 := HMD.out.step (Mem.le_refl _) hS ((HSO.out.size x.n HNN.out).mono (Nat.le_succ N)); have HMid5 := Lib.hid hMid5; obtain ⟨b0, b1, b2, b3, b4, b5, b6⟩ := HC82.out w5 hMid5.mem; obtain ⟨f5, z5⟩ := hMid5.cells; have z0 := z5 0; have z1 := z5 1; have z2 := z5 2; have z3 := z5 3; have z4 := z5 4; have z55 := z5 5; have z6 := z5 6; clear hS hMid5 z5)
    all_goals
      go_wp2
      have r1 := store7_block HMid5.out.hR (.int .i64 x.n) (.int .i64 w.room) (.int .i64 w.credits) (.int .i64 w.next) (.slice aa w.ahead.length ca) (.slice aq w.queue.length cq) (.slice ap w.pk.length cp)
      have hk := store7_keeps (w5) (W.heap.size + 1 + 1) (.int .i64 x.n) (.int .i64 w.room) (.int .i64 w.credits) (.int .i64 w.next) (.slice aa w.ahead.length ca) (.slice aq w.queue.length cq) (.slice ap w.pk.length cp)
      show bodyPost _ _ _ _ _ (store7 (w5) (W.heap.size + 1 + 1) (.int .i64 x.n) (.int .i64 w.room) (.int .i64 w.credits) (.int .i64 w.next) (.slice aa w.ahead.length ca) (.slice aq w.queue.length cq) (.slice ap w.pk.length cp))
      generalize store7 (w5) (W.heap.size + 1 + 1) (.int .i64 x.n) (.int .i64 w.room) (.int .i64 w.credits) (.int .i64 w.next) (.slice aa w.ahead.length ca) (.slice aq w.queue.length cq) (.slice ap w.pk.length cp) = w2 at r1 hk ⊢
      have g0 : w2.cell? ⟨W.heap.size + 1 + 1, 0, none⟩ = some (.int .i64 x.n) := mem_cells r1 0
      have g1 : w2.cell? ⟨W.heap.size + 1 + 1, 1, none⟩ = some (.int .i64 w.room) := mem_cells r1 1
      have g2 : w2.cell? ⟨W.heap.size + 1 + 1, 2, none⟩ = some (.int .i64 w.credits) := mem_cells r1 2
      have g3 : w2.cell? ⟨W.heap.size + 1 + 1, 3, none⟩ = some (.int .i64 w.next) := mem_cells r1 3
      have g4 : w2.cell? ⟨W.heap.size + 1 + 1, 4, none⟩ = some (.slice aa w.ahead.length ca) := mem_cells r1 4
      have g5 : w2.cell? ⟨W.heap.size + 1 + 1, 5, none⟩ = some (.slice aq w.queue.length cq) := mem_cells r1 5
      have g6 : w2.cell? ⟨W.heap.size + 1 + 1, 6, none⟩ = some (.slice ap w.pk.length cp) := mem_cells r1 6
      refine bodyPost_ret (v := .tuple #[.agg #[.int .i64 x.n, .int .i64 w.room, .int .i64 w.credits, .int .i64 w.next, .slice aa w.ahead.length ca, .slice aq w.queue.length cq, .slice ap w.pk.length cp], .bool true]) (by simp [results, Try.results25, go_sem, g0, g1, g2, g3, g4, g5, g6]) rfl ?_
      have hE : refOf { r with size := x.n } ah ps = { w with size := x.n } := by rw [← HW.out]; rfl
      exact ⟨_, _, _, _, M2, _, _, _, by rw [hE], HMid5.out.finish hk (by rw [hE]; exact HRF2.out), Mem.le_trans HM1.out HM2.out, (by show r.count ≤ _; omega)⟩
  · have HNN := Lib.hid hn
    rw [show resizeW w x.n = w from if_neg hn, show resizeK x.n = 7 from if_neg hn]
    clear hn
    have hbA2 : Below Y.heap.size Y (w1.alloc (.cells #[.int .i64 w.size, .int .i64 w.room, .int .i64 w.credits, .int .i64 w.next, .slice aa w.ahead.length ca, .slice aq w.queue.length cq, .slice ap w.pk.length cp] 56)) := hb1.alloc hb1.size _
    obtain ⟨M2, hMid2, hM2, hn2⟩ := HMid.out.grow hbA2
    have HN2 := Lib.hid (show ((mem w1).on (Y.heap.size ≤ ·)).le M2 from fun i o v e => hn2 _ _ _ (let ⟨hs, e⟩ := Mem.of_on e; Mem.on_some (below_mem ((Below.refl w1.heap.size w1).alloc (Nat.le_refl _) _) _ _ _ e) hs))
    have HC82 := Lib.hid (fun (wq : World) (hq : M2.le (mem wq)) => (show wq.cell? ⟨w1.heap.size, 0, none⟩ = some (.int .i64 w.size) ∧ wq.cell? ⟨w1.heap.size, 1, none⟩ = some (.int .i64 w.room) ∧ wq.cell? ⟨w1.heap.size, 2, none⟩ = some (.int .i64 w.credits) ∧ wq.cell? ⟨w1.heap.size, 3, none⟩ = some (.int .i64 w.next) ∧ wq.cell? ⟨w1.heap.size, 4, none⟩ = some (.slice aa w.ahead.length ca) ∧ wq.cell? ⟨w1.heap.size, 5, none⟩ = some (.slice aq w.queue.length cq) ∧ wq.cell? ⟨w1.heap.size, 6, none⟩ = some (.slice ap w.pk.length cp) from ⟨hq _ _ _ (hn2 _ _ _ (Mem.on_some (cell_new 0 rfl) hb1.size)), hq _ _ _ (hn2 _ _ _ (Mem.on_some (cell_new 1 rfl) hb1.size)), hq _ _ _ (hn2 _ _ _ (Mem.on_some (cell_new 2 rfl) hb1.size)), hq _ _ _ (hn2 _ _ _ (Mem.on_some (cell_new 3 rfl) hb1.size)), hq _ _ _ (hn2 _ _ _ (Mem.on_some (cell_new 4 rfl) hb1.size)), hq _ _ _ (hn2 _ _ _ (Mem.on_some (cell_new 5 rfl) hb1.size)), hq _ _ _ (hn2 _ _ _ (Mem.on_some (cell_new 6 rfl) hb1.size))⟩))
    have HM2 := Lib.hid hM2
    have HMid2 := Lib.hid hMid2
    have HRF2 := Lib.hid (HRF.out.mono hM2)
    have HMD := Lib.hid (hMid2.pure (Below.refl _ _).drew)
    have HP := Lib.hid (show Calls Try.prog 21 #[.pointer (some ⟨b, 0, none⟩), .int .i64 x.n] (w1.alloc (.cells #[.int .i64 w.size, .int .i64 w.room, .int .i64 w.credits, .int .i64 w.next, .slice aa w.ahead.length ca, .slice aq w.queue.length cq, .slice ap w.pk.length cp] 56)).drew (fun e W' => e = .returned (.int .i64 7) ∧ Stp base b N M2 (fun k => F k ∨ k = W.heap.size + 1 + 1) (w1.alloc (.cells #[.int .i64 w.size, .int .i64 w.room, .int .i64 w.credits, .int .i64 w.next, .slice aa w.ahead.length ca, .slice aq w.queue.length cq, .slice ap w.pk.length cp] 56)).drew W' (r)) from (st_resize HMD.out.st x.n).mono (fun e W' ⟨h1, h2⟩ => by rw [if_neg HNN.out] at h1 h2; exact ⟨h1, h2⟩))
    clear hn2 hM2 hMid2 hbA2 hb1 c0 c1 c2 c3 c4 c5 c6 d0 d1 d2 d3 d4 d5 d6
    go_upto_region 24 with fail
    generalize (w1.alloc (.cells #[.int .i64 w.size, .int .i64 w.room, .int .i64 w.credits, .int .i64 w.next, .slice aa w.ahead.length ca, .slice aq w.queue.length cq, .slice ap w.pk.length cp] 56)) = X at HMid2 HMD HP ⊢
    generalize w1.heap.size = nb at HC82 ⊢
    obtain ⟨c0, c1, c2, c3, c4, c5, c6⟩ := HC82.out X.drew HMD.out.mem
    obtain ⟨d0, d1, d2, d3, d4, d5, d6⟩ := HC5.out X.drew (Mem.le_trans HM2.out HMD.out.mem)
    go_region_law (go_simp; go_at_call 21; refine HP.out.mono ?_; rintro e w5 ⟨rfl, hS⟩; have hMid5 := HMD.out.step (Mem.le_refl _) hS (HSO.out.mono (Nat.le_succ N)); have HMid5 := Lib.hid hMid5; obtain ⟨b0, b1, b2, b3, b4, b5, b6⟩ := HC82.out w5 hMid5.mem; obtain ⟨f5, z5⟩ := hMid5.cells; have z0 := z5 0; have z1 := z5 1; have z2 := z5 2; have z3 := z5 3; have z4 := z5 4; have z55 := z5 5; have z6 := z5 6; clear hS hMid5 z5)
    all_goals
      go_wp2
      have r1 := store7_block HMid5.out.hR (.int .i64 w.size) (.int .i64 w.room) (.int .i64 w.credits) (.int .i64 w.next) (.slice aa w.ahead.length ca) (.slice aq w.queue.length cq) (.slice ap w.pk.length cp)
      have hk := store7_keeps (w5) (W.heap.size + 1 + 1) (.int .i64 w.size) (.int .i64 w.room) (.int .i64 w.credits) (.int .i64 w.next) (.slice aa w.ahead.length ca) (.slice aq w.queue.length cq) (.slice ap w.pk.length cp)
      show bodyPost _ _ _ _ _ (store7 (w5) (W.heap.size + 1 + 1) (.int .i64 w.size) (.int .i64 w.room) (.int .i64 w.credits) (.int .i64 w.next) (.slice aa w.ahead.length ca) (.slice aq w.queue.length cq) (.slice ap w.pk.length cp))
      generalize store7 (w5) (W.heap.size + 1 + 1) (.int .i64 w.size) (.int .i64 w.room) (.int .i64 w.credits) (.int .i64 w.next) (.slice aa w.ahead.length ca) (.slice aq w.queue.length cq) (.slice ap w.pk.length cp) = w2 at r1 hk ⊢
      have g0 : w2.cell? ⟨W.heap.size + 1 + 1, 0, none⟩ = some (.int .i64 w.size) := mem_cells r1 0
      have g1 : w2.cell? ⟨W.heap.size + 1 + 1, 1, none⟩ = some (.int .i64 w.room) := mem_cells r1 1
      have g2 : w2.cell? ⟨W.heap.size + 1 + 1, 2, none⟩ = some (.int .i64 w.credits) := mem_cells r1 2
      have g3 : w2.cell? ⟨W.heap.size + 1 + 1, 3, none⟩ = some (.int .i64 w.next) := mem_cells r1 3
      have g4 : w2.cell? ⟨W.heap.size + 1 + 1, 4, none⟩ = some (.slice aa w.ahead.length ca) := mem_cells r1 4
      have g5 : w2.cell? ⟨W.heap.size + 1 + 1, 5, none⟩ = some (.slice aq w.queue.length cq) := mem_cells r1 5
      have g6 : w2.cell? ⟨W.heap.size + 1 + 1, 6, none⟩ = some (.slice ap w.pk.length cp) := mem_cells r1 6
      refine bodyPost_ret (v := .tuple #[.agg #[.int .i64 w.size, .int .i64 w.room, .int .i64 w.credits, .int .i64 w.next, .slice aa w.ahead.length ca, .slice aq w.queue.length cq, .slice ap w.pk.length cp], .bool true]) (by simp [results, Try.results25, go_sem, g0, g1, g2, g3, g4, g5, g6]) rfl ?_
      have hE : refOf r ah ps = w := HW.out
      exact ⟨_, _, _, _, M2, _, _, _, by rw [hE], HMid5.out.finish hk (by rw [hE]; exact HRF2.out), Mem.le_trans HM1.out HM2.out, by omega⟩
end Go.Proofs.Ytfkphdmnelchmaa
/- Contents and Overtake of a wire, at the state that a law carries. -/
namespace Go.Proofs.Ytfkphdmnelchmaa
open Go.RowKit Go.Maps

theorem nd_inj {α β : Type} {f : α → β} {l : List α} (h : (l.map f).Nodup) {a b : α} (ha : a ∈ l) (hb : b ∈ l) (e : f a = f b) : a = b := by
  induction l with
  | nil => cases ha
  | cons x l ih =>
    rw [List.map_cons, List.nodup_cons] at h
    rcases List.mem_cons.1 ha with ha | ha <;> rcases List.mem_cons.1 hb with hb | hb
    · rw [ha, hb]
    · rw [ha] at e; exact absurd (List.mem_map.2 ⟨b, hb, e.symm⟩) h.1
    · rw [hb] at e; exact absurd (List.mem_map.2 ⟨a, ha, e⟩) h.1
    · exact ih h.2 ha hb
section
variable {c : Int} {base b m N : Nat} {M : Mem} {W : World} {r : Raw} {ah : List El} {ps : List PK} {F : Nat → Prop}
theorem Sound.over (h : Sound c N r ah ps m) {x : El} (hx : x.ok) (hv : validEl x = true) (hk : r.count < 4000) : Sound c N (overR r x) (x :: ah) ps m := by
  have hc := h.cnt
  refine ⟨⟨⟨?_, h.num, h.tu, h.hm, h.dl, h.way, h.early, h.pt, h.ne, h.ads, h.nd, ?_⟩, h.tn⟩, h.s1, h.rm, h.cr, h.c0, h.c1, h.nx, h.n1, by show r.count + 1 ≤ 4000; omega, fun y hy => ?_, h.pe⟩
  · show (⟨x, none⟩ : Item) :: r.buffer = _
    rw [h.buf]; rfl
  · show r.count + 1 = _
    rw [hc, List.length_cons]
    push_cast
    show _ = _ + (r.queue.length : Int)
    omega
  · rcases List.mem_cons.1 (show y ∈ x :: contentsOf r ah ps from hy) with e | h2
    · subst e; exact ⟨hv, hx⟩
    · exact h.ok y h2
theorem over_cont (x : El) : contentsOf (overR r x) (x :: ah) ps = x :: contentsOf r ah ps := rfl
theorem Sound.row (h : Sound c N r ah ps m) {x : El} (hx : x ∈ contentsOf r ah ps) : x.row.length ≤ 1000000 := by
  have := validEl_row (h.ok x hx).1; omega
theorem Sound.contLen (h : Sound c N r ah ps m) : (contentsOf r ah ps).length ≤ 4000 := by have := h.cnt0; have := h.k1; omega
theorem inv_contents {L : WL} (hI : WireInv W base b L r) (so : Sound c N r ah ps m) (hN : N ≤ 500000) (h1 : L.nw ≤ N) (h2 : L.ne ≤ N) :
    ∀ wq, Below W.heap.size W wq → Calls Try.prog 26 #[.pointer (some ⟨b, 0, none⟩)] wq (ContOut wq r) := fun wq hq => by
  have hf := so.fine (by omega)
  have hl := so.contLen
  refine contents_any base b L r wq (hI.pure hq) hf.bf hf.q hf.el (by omega) (by omega) hf.br (fun k a hm p hp ha x hx => ?_) (fun x hx => so.row (List.mem_append_right _ hx)) (fun k a hm => ?_) (fun ss hs => ?_)
  · obtain ⟨p1, hp1, _, g2⟩ := so.toSim.key hm
    have hmem := List.mem_of_mem_drop hp1
    obtain ⟨i, hi, hmi, e⟩ := mem_drop_iff.1 hp1
    obtain ⟨q, hq1, q1, _, q3⟩ := so.pt p1 hmem
    have hn := so.num i hi
    have ht := so.tu
    rw [e] at hn
    have heq : q.els = p1.els := q3 (by omega)
    have hqp : q = p := nd_inj so.nd hq1 hp (by rw [q1, g2, ha])
    subst hqp
    rw [heq] at hx
    exact so.row (by unfold contentsOf; exact List.mem_append_left _ (List.mem_append_right _ (List.mem_flatMap.2 ⟨p1, hmem, hx⟩)))
  · obtain ⟨p1, hp1, _, g2⟩ := so.toSim.key hm
    obtain ⟨q, hq1, q1, _⟩ := so.pt p1 (List.mem_of_mem_drop hp1)
    exact ⟨q, hq1, q1.trans g2⟩
  · rw [sim_cont so.toSim hs]; omega
theorem st_contents (h : St base b W r N M F) (so : Sound c N r ah ps m) (hN : N ≤ 500000) : Calls Try.prog 26 #[.pointer (some ⟨b, 0, none⟩)] W fun e W' =>
    ∃ v, e = .returned (.tuple #[v, .int .i64 0]) ∧ Below W.heap.size W W' ∧ tEls.rv ((mem W').on (W.heap.size ≤ ·)) [v] (contentsOf r ah ps) := by
  obtain ⟨L, i, h1, h2, hM, hF⟩ := h
  refine (inv_contents i so hN h1 h2 W (Below.refl _ _)).mono fun e W' ⟨hb, v, ss, he, hs, hr⟩ => ?_
  rw [sim_cont so.toSim hs] at hr
  exact ⟨v, he, hb, hr⟩
def OverSt (base b N : Nat) (M : Mem) (F : Nat → Prop) (W : World) (r : Raw) (ah : List El) (ps : List PK) (x : El) (e : Ending) (W' : World) : Prop :=
  (validEl x = false ∧ e = .returned (.tuple #[.slice none 0 0, .int .i64 1]) ∧ Stp base b N M F W W' r) ∨ (validEl x = true ∧ x.kind ≠ 3 ∧ e = .returned (.tuple #[.slice none 0 0, .int .i64 11]) ∧ Stp base b N M F W W' r) ∨
  (validEl x = true ∧ x.kind = 3 ∧ r.count = 4000 ∧ e = .returned (.tuple #[.slice none 0 0, .int .i64 4]) ∧ Stp base b N M F W W' r) ∨
  (validEl x = true ∧ x.kind = 3 ∧ r.count ≠ 4000 ∧ ∃ v M', e = .returned (.tuple #[v, .int .i64 0]) ∧ M.le M' ∧ Stp base b N M' F W W' (overR r x) ∧ tEls.rv M' [v] (contentsOf r ah ps))
theorem st_over (h : St base b W r N M F) (so : Sound c N r ah ps m) (hN : N ≤ 500000) (x : El) (s : Value) (hx : x.ok) (hv : tRow.rv (mem W) [s] x.row) : Calls Try.prog 27 #[.pointer (some ⟨b, 0, none⟩), elV x s] W (OverSt base b N M F W r ah ps x) := by
  obtain ⟨L, i, h1, h2, hM, hF⟩ := h
  have hf := so.fine (by omega)
  refine (over_any base b L r x s W i hx hv hf.k0 hf.k1 hf.bf (inv_contents i so hN h1 h2)).mono fun e W' hs => ?_
  have hst : WS 0 base b W L r W' r → Stp base b N M F W W' r := fun ⟨L', i', B, s', n1, n2, f⟩ => St.of h1 h2 hM hF ⟨L', i', B, s', by omega, by omega, f⟩
  rcases hs with ⟨a1, a2, a3⟩ | ⟨a1, a2, a3, a4⟩ | ⟨a1, a2, a3, a4, a5⟩ | ⟨a1, a2, a3, v, ss, L', a4, a5, a6, a7, a8, a9, a10, a11, a12⟩
  · exact .inl ⟨a1, a2, hst a3⟩
  · exact .inr (.inl ⟨a1, a2, a3, hst a4⟩)
  · exact .inr (.inr (.inl ⟨a1, a2, a3, a4, hst a5⟩))
  · rw [sim_cont so.toSim a5] at a12
    exact .inr (.inr (.inr ⟨a1, a2, a3, v, _, a4, Mem.le_trans hM a8, ⟨⟨L', a6, by omega, by omega, Mem.le_refl _, a11.1.trans hF⟩, a7, fun k hk => a11.2 k (by rw [hF]; exact hk)⟩, a12⟩))
end
end Go.Proofs.Ytfkphdmnelchmaa
