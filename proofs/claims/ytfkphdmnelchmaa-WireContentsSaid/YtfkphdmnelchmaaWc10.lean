/- Part 10 of the texts that the law's proof stands on, merged. -/
import Derived.Deep.RegionLaw
import Derived.Deep.RegionHeld3
import Derived.BigQuiet
import Derived.Test.YtfkphdmnelchmaaWc09
set_option linter.unusedVariables false
set_option linter.unusedSimpArgs false
/- does: overtake. -/
namespace Go.Proofs.Ytfkphdmnelchmaa
open Go.RowKit Go.Maps

def okOver (x : El) : Bool := validEl x && (x.kind == 3)
def overK (x : El) : Int := if validEl x = true then 11 else 1
theorem st_over2 {c : Int} {base b m N : Nat} {M : Mem} {W : World} {r : Raw} {ah : List El} {ps : List PK} {F : Nat → Prop} (h : St base b W r N M F) (so : Sound c N r ah ps m) (hN : N ≤ 500000) (x : El) (s : Value) (hx : x.ok) (hv : tRow.rv (mem W) [s] x.row) (hc : r.count ≤ 2000) :
    Calls Try.prog 27 #[.pointer (some ⟨b, 0, none⟩), elV x s] W fun e W' => (okOver x = false ∧ e = .returned (.tuple #[.slice none 0 0, .int .i64 (overK x)]) ∧ Stp base b N M F W W' r) ∨
      (okOver x = true ∧ validEl x = true ∧ ∃ v M', e = .returned (.tuple #[v, .int .i64 0]) ∧ M.le M' ∧ Stp base b N M' F W W' (overR r x) ∧ tEls.rv M' [v] (contentsOf r ah ps)) := by
  refine (st_over h so hN x s hx hv).mono fun e W' hs => ?_
  unfold okOver overK
  rcases hs with ⟨a1, a2, a3⟩ | ⟨a1, a2, a3, a4⟩ | ⟨a1, a2, a3, a4, a5⟩ | ⟨a1, a2, a3, g⟩
  · exact .inl ⟨by simp [a1], by simp [a1, a2], a3⟩
  · exact .inl ⟨by simp [a2], by simp [a1, a3], a4⟩
  · exact absurd a3 (by omega)
  · exact .inr ⟨by simp [a1, a2], a1, g⟩
theorem refOver2 (w : RW) (a q p : Value) (M : Mem) (W : World) (hM : M.le (mem W)) (h : RwAt M w a q p) (hl : (rcont w).length ≤ 2000) (x : El) (s : Value) (hx : x.ok) (hs : tRow.rv M [s] x.row) : Calls Try.prog 55 #[wV w a q p, elV x s] W fun e W' => ((okOver x = false ∧ e = .returned (.tuple #[wV w a q p, .slice none 0 0, .int .i64 (overK x)])) ∨
      (okOver x = true ∧ ∃ a' v, e = .returned (.tuple #[wV { w with ahead := x :: w.ahead } a' q p, v, .int .i64 0]) ∧ RwAt (joinM M W W') { w with ahead := x :: w.ahead } a' q p ∧ tEls.rv (joinM M W W') [v] (rcont w))) ∧ Below W.heap.size W W' := by
  refine (refOvertake_any w a q p M W hM h (by omega) x s hx hs).mono fun e W' ⟨hs, hb⟩ => ⟨?_, hb⟩
  unfold okOver overK
  rcases hs with ⟨a1, a2⟩ | ⟨a1, a2, a3⟩ | ⟨a1, a2, a3, a4⟩ | ⟨a1, a2, a3, g⟩
  · exact .inl ⟨by simp [a1], by simp [a1, a2]⟩
  · exact .inl ⟨by simp [a2], by simp [a1, a3]⟩
  · exact absurd a3 (by omega)
  · exact .inr ⟨by simp [a1, a2], g⟩

set_option maxRecDepth 100000 in
set_option maxHeartbeats 8000000 in
theorem does_over (c : Int) (base b : Nat) (M0 : Mem) (w0 : World) (F : Nat → Prop) (W : World) (r : Raw) (ah : List El) (ps : List PK) (m N kk : Nat) (M : Mem) (a q p s : Value) (x : Act20) (h : Run c base b M0 w0 F W r ah ps m N M a q p) (hx : x.el.ok) (hxn : inI64 x.n) (hx8 : 0 ≤ x.kind ∧ x.kind ≤ 255) (hs : tRow.rv M [s] x.el.row) (hkd : x.kind % 8 = 7) (hN : N ≤ 500000) (hcnt : r.count ≤ kk) (hkk : kk ≤ 2000) :
    Calls Try.prog 25 #[.pointer (some ⟨b, 0, none⟩), wV (refOf r ah ps) a q p, actV x s] W (DoesOut c base b M0 w0 F N M (kk + 1)) := by
  have hfine := h.so.fine (by omega)
  have hcn0 := h.so.cnt0
  have hl : (rcont (refOf r ah ps)).length ≤ 2000 := by rw [h.so.rcnt]; omega
  have hpl : (refOf r ah ps).pk.length ≤ 2000 := by
    have h1 := h.so.cr; have h2 := h.so.c0; have h3 := h.so.c1
    show (ps.map _).length ≤ 2000
    rw [List.length_map]; omega
  generalize hw : refOf r ah ps = w at *
  have hRun := h
  have hrf := h.rf
  rw [hw] at hrf
  obtain ⟨aa, ca, rfl, hla, hma, hra⟩ := slice_form hrf.ha
  obtain ⟨aq, cq, rfl, hlq, hmq, hrq⟩ := slice_form hrf.hq
  obtain ⟨ap, cp, rfl, hlp, hmp, hrp⟩ := slice_form hrf.hp
  obtain ⟨ax, cx, rfl, _, hmx, hs⟩ := slice_form hs
  have hca : ca ≤ 9223372036854775807 := by unfold maxLen at hma; exact hma
  have hcq : cq ≤ 9223372036854775807 := by unfold maxLen at hmq; exact hmq
  have hcp : cp ≤ 9223372036854775807 := by unfold maxLen at hmp; exact hmp
  have HW := Lib.hid hw
  have HB := Lib.hid ((((Below.refl W.heap.size W).alloc (Nat.le_refl _) (.cells #[.int .i64 w.size, .int .i64 w.room, .int .i64 w.credits, .int .i64 w.next, .slice aa w.ahead.length ca, .slice aq w.queue.length cq, .slice ap w.pk.length cp] 56)).alloc (by simp) (.cells #[.int .u8 x.kind, .int .i64 x.n, .int .i64 x.el.kind, .int .i64 x.el.n, .int .i64 x.el.time, .slice ax x.el.row.length cx, .int .i64 x.el.cn] 44)).alloc (by simp; omega) (.cells #[.int .i64 0, .int .i64 0, .int .i64 0, .int .i64 0, .slice none 0 0, .slice none 0 0, .slice none 0 0] 56))
  have y4 : (((W.alloc (.cells #[.int .i64 w.size, .int .i64 w.room, .int .i64 w.credits, .int .i64 w.next, .slice aa w.ahead.length ca, .slice aq w.queue.length cq, .slice ap w.pk.length cp] 56)).alloc (.cells #[.int .u8 x.kind, .int .i64 x.n, .int .i64 x.el.kind, .int .i64 x.el.n, .int .i64 x.el.time, .slice ax x.el.row.length cx, .int .i64 x.el.cn] 44)).alloc (.cells #[.int .i64 0, .int .i64 0, .int .i64 0, .int .i64 0, .slice none 0 0, .slice none 0 0, .slice none 0 0] 56)).heap[W.heap.size]? = some (.cells #[.int .i64 w.size, .int .i64 w.room, .int .i64 w.credits, .int .i64 w.next, .slice aa w.ahead.length ca, .slice aq w.queue.length cq, .slice ap w.pk.length cp] 56 (0, 0)) := alloc_block (alloc_block (heap_alloc_new W _) _) _
  have y5 : (((W.alloc (.cells #[.int .i64 w.size, .int .i64 w.room, .int .i64 w.credits, .int .i64 w.next, .slice aa w.ahead.length ca, .slice aq w.queue.length cq, .slice ap w.pk.length cp] 56)).alloc (.cells #[.int .u8 x.kind, .int .i64 x.n, .int .i64 x.el.kind, .int .i64 x.el.n, .int .i64 x.el.time, .slice ax x.el.row.length cx, .int .i64 x.el.cn] 44)).alloc (.cells #[.int .i64 0, .int .i64 0, .int .i64 0, .int .i64 0, .slice none 0 0, .slice none 0 0, .slice none 0 0] 56)).heap[W.heap.size + 1]? = some (.cells #[.int .u8 x.kind, .int .i64 x.n, .int .i64 x.el.kind, .int .i64 x.el.n, .int .i64 x.el.time, .slice ax x.el.row.length cx, .int .i64 x.el.cn] 44 (0, 0)) := alloc_block (by have h := heap_alloc_new (W.alloc (.cells #[.int .i64 w.size, .int .i64 w.room, .int .i64 w.credits, .int .i64 w.next, .slice aa w.ahead.length ca, .slice aq w.queue.length cq, .slice ap w.pk.length cp] 56)) (.cells #[.int .u8 x.kind, .int .i64 x.n, .int .i64 x.el.kind, .int .i64 x.el.n, .int .i64 x.el.time, .slice ax x.el.row.length cx, .int .i64 x.el.cn] 44); rwa [World.size_alloc] at h) _
  have yR : (((W.alloc (.cells #[.int .i64 w.size, .int .i64 w.room, .int .i64 w.credits, .int .i64 w.next, .slice aa w.ahead.length ca, .slice aq w.queue.length cq, .slice ap w.pk.length cp] 56)).alloc (.cells #[.int .u8 x.kind, .int .i64 x.n, .int .i64 x.el.kind, .int .i64 x.el.n, .int .i64 x.el.time, .slice ax x.el.row.length cx, .int .i64 x.el.cn] 44)).alloc (.cells #[.int .i64 0, .int .i64 0, .int .i64 0, .int .i64 0, .slice none 0 0, .slice none 0 0, .slice none 0 0] 56)).heap[W.heap.size + 1 + 1]? = some (.cells #[.int .i64 0, .int .i64 0, .int .i64 0, .int .i64 0, .slice none 0 0, .slice none 0 0, .slice none 0 0] 56 (0, 0)) := by have h := heap_alloc_new ((W.alloc (.cells #[.int .i64 w.size, .int .i64 w.room, .int .i64 w.credits, .int .i64 w.next, .slice aa w.ahead.length ca, .slice aq w.queue.length cq, .slice ap w.pk.length cp] 56)).alloc (.cells #[.int .u8 x.kind, .int .i64 x.n, .int .i64 x.el.kind, .int .i64 x.el.n, .int .i64 x.el.time, .slice ax x.el.row.length cx, .int .i64 x.el.cn] 44)) (.cells #[.int .i64 0, .int .i64 0, .int .i64 0, .int .i64 0, .slice none 0 0, .slice none 0 0, .slice none 0 0] 56); simpa only [World.size_alloc] using h
  obtain ⟨M1, hMid, hM1, hnew1⟩ := h.start HB.out (R := W.heap.size + 1 + 1) (by omega) yR
  have HRF := Lib.hid (hrf.mono hM1)
  have HHS := Lib.hid (tRow.mono _ _ _ _ hM1 hs)
  have HX := Lib.hid hx
  have HM1 := Lib.hid hM1
  have HSO := Lib.hid hRun.so
  have HF := Lib.hid hfine
  have HC4 := Lib.hid (fun (wq : World) (hq : M1.le (mem wq)) => (show wq.cell? ⟨W.heap.size, 0, none⟩ = some (.int .i64 w.size) ∧ wq.cell? ⟨W.heap.size, 1, none⟩ = some (.int .i64 w.room) ∧ wq.cell? ⟨W.heap.size, 2, none⟩ = some (.int .i64 w.credits) ∧ wq.cell? ⟨W.heap.size, 3, none⟩ = some (.int .i64 w.next) ∧ wq.cell? ⟨W.heap.size, 4, none⟩ = some (.slice aa w.ahead.length ca) ∧ wq.cell? ⟨W.heap.size, 5, none⟩ = some (.slice aq w.queue.length cq) ∧ wq.cell? ⟨W.heap.size, 6, none⟩ = some (.slice ap w.pk.length cp) from ⟨hq _ _ _ (hnew1 _ _ _ (Mem.on_some (mem_cells y4 0) ⟨by omega, by omega⟩)), hq _ _ _ (hnew1 _ _ _ (Mem.on_some (mem_cells y4 1) ⟨by omega, by omega⟩)), hq _ _ _ (hnew1 _ _ _ (Mem.on_some (mem_cells y4 2) ⟨by omega, by omega⟩)), hq _ _ _ (hnew1 _ _ _ (Mem.on_some (mem_cells y4 3) ⟨by omega, by omega⟩)), hq _ _ _ (hnew1 _ _ _ (Mem.on_some (mem_cells y4 4) ⟨by omega, by omega⟩)), hq _ _ _ (hnew1 _ _ _ (Mem.on_some (mem_cells y4 5) ⟨by omega, by omega⟩)), hq _ _ _ (hnew1 _ _ _ (Mem.on_some (mem_cells y4 6) ⟨by omega, by omega⟩))⟩))
  have HC5 := Lib.hid (fun (wq : World) (hq : M1.le (mem wq)) => (show wq.cell? ⟨W.heap.size + 1, 0, none⟩ = some (.int .u8 x.kind) ∧ wq.cell? ⟨W.heap.size + 1, 1, none⟩ = some (.int .i64 x.n) ∧ wq.cell? ⟨W.heap.size + 1, 2, none⟩ = some (.int .i64 x.el.kind) ∧ wq.cell? ⟨W.heap.size + 1, 3, none⟩ = some (.int .i64 x.el.n) ∧ wq.cell? ⟨W.heap.size + 1, 4, none⟩ = some (.int .i64 x.el.time) ∧ wq.cell? ⟨W.heap.size + 1, 5, none⟩ = some (.slice ax x.el.row.length cx) ∧ wq.cell? ⟨W.heap.size + 1, 6, none⟩ = some (.int .i64 x.el.cn) from ⟨hq _ _ _ (hnew1 _ _ _ (Mem.on_some (mem_cells y5 0) ⟨by omega, by omega⟩)), hq _ _ _ (hnew1 _ _ _ (Mem.on_some (mem_cells y5 1) ⟨by omega, by omega⟩)), hq _ _ _ (hnew1 _ _ _ (Mem.on_some (mem_cells y5 2) ⟨by omega, by omega⟩)), hq _ _ _ (hnew1 _ _ _ (Mem.on_some (mem_cells y5 3) ⟨by omega, by omega⟩)), hq _ _ _ (hnew1 _ _ _ (Mem.on_some (mem_cells y5 4) ⟨by omega, by omega⟩)), hq _ _ _ (hnew1 _ _ _ (Mem.on_some (mem_cells y5 5) ⟨by omega, by omega⟩)), hq _ _ _ (hnew1 _ _ _ (Mem.on_some (mem_cells y5 6) ⟨by omega, by omega⟩))⟩))
  clear y4 y5 yR hnew1 hra hrq hrp hma hmq hmp hmx hs h hrf hw hx hRun hfine hM1
  go_enter Try.func25, Try.ntmps25
  go_upto_region 1 with fail
  generalize ((W.alloc (.cells #[.int .i64 w.size, .int .i64 w.room, .int .i64 w.credits, .int .i64 w.next, .slice aa w.ahead.length ca, .slice aq w.queue.length cq, .slice ap w.pk.length cp] 56)).alloc (.cells #[.int .u8 x.kind, .int .i64 x.n, .int .i64 x.el.kind, .int .i64 x.el.n, .int .i64 x.el.time, .slice ax x.el.row.length cx, .int .i64 x.el.cn] 44)).alloc (.cells #[.int .i64 0, .int .i64 0, .int .i64 0, .int .i64 0, .slice none 0 0, .slice none 0 0, .slice none 0 0] 56) = Y at HB hMid ⊢
  have HMid := Lib.hid hMid
  obtain ⟨c0, c1, c2, c3, c4, c5, c6⟩ := HC4.out Y hMid.mem
  obtain ⟨d0, d1, d2, d3, d4, d5, d6⟩ := HC5.out Y hMid.mem
  clear hMid
  have hne : ∀ j : Int, (j = 0 ∨ j = 1 ∨ j = 2 ∨ j = 3 ∨ j = 4 ∨ j = 5 ∨ j = 6) → (x.kind % 8 == j) = false := fun j hj => by rw [hkd]; rcases hj with rfl | rfl | rfl | rfl | rfl | rfl | rfl <;> rfl
  go_wp2_with fail
  refine (st_over2 HMid.out.st HSO.out (by omega) x.el _ HX.out (tRow.mono _ _ _ _ HMid.out.mem HHS.out) (by omega)).mono ?_
  rintro e w1 hp
  clear c0 c1 c2 c3 c4 c5 c6 d0 d1 d2 d3 d4 d5 d6
  rcases hp with ⟨hov, rfl, hS⟩ | ⟨hov, hval, v1, M1a, rfl, hMa, hS, hr1⟩
  · have HOV := Lib.hid hov
    obtain ⟨M1a, hMa, hM1a⟩ : ∃ M1a, M1.le M1a ∧ M1a = M1 := ⟨M1, Mem.le_refl _, rfl⟩
    have HMA := Lib.hid hMa
    have HMidA := Lib.hid (HMid.out.step hMa (by rw [hM1a]; exact hS) (HSO.out.mono (Nat.le_succ N)))
    clear hS hMa hM1a hov
    obtain ⟨c0, c1, c2, c3, c4, c5, c6⟩ := HC4.out w1 (Mem.le_trans HMA.out HMidA.out.mem)
    obtain ⟨d0, d1, d2, d3, d4, d5, d6⟩ := HC5.out w1 (Mem.le_trans HMA.out HMidA.out.mem)
    go_wp2_with fail
    refine (refOver2 w _ _ _ M1a w1 HMidA.out.mem (HRF.out.mono HMA.out) (by omega) x.el _ HX.out (tRow.mono _ _ _ _ HMA.out HHS.out)).mono ?_
    rintro e w3 ⟨hp2, hb3⟩
    rcases hp2 with ⟨_, rfl⟩ | ⟨hov2, _⟩
    rotate_left
    · exfalso; rw [HOV.out] at hov2; cases hov2
    obtain ⟨wd, hwd⟩ : ∃ wd, wd = w := ⟨_, rfl⟩
    have hrw2 := HRF.out.mono HMA.out
    rw [← hwd] at hrw2 ⊢
    have hbA3 : Below w1.heap.size w1 (w3.alloc (.cells #[.int .i64 wd.size, .int .i64 wd.room, .int .i64 wd.credits, .int .i64 wd.next, .slice aa wd.ahead.length ca, .slice aq wd.queue.length cq, .slice ap wd.pk.length cp] 56)) := hb3.alloc hb3.size _
    obtain ⟨M3, hMid3, hM3, hn3⟩ := HMidA.out.grow hbA3
    have HN3 := Lib.hid (show ((mem w3).on (w1.heap.size ≤ ·)).le M3 from fun i o v e => hn3 _ _ _ (let ⟨hs, e⟩ := Mem.of_on e; Mem.on_some (below_mem ((Below.refl w3.heap.size w3).alloc (Nat.le_refl _) _) _ _ _ e) hs))
    have HC83 := Lib.hid (fun (wq : World) (hq : M3.le (mem wq)) => (show wq.cell? ⟨w3.heap.size, 0, none⟩ = some (.int .i64 wd.size) ∧ wq.cell? ⟨w3.heap.size, 1, none⟩ = some (.int .i64 wd.room) ∧ wq.cell? ⟨w3.heap.size, 2, none⟩ = some (.int .i64 wd.credits) ∧ wq.cell? ⟨w3.heap.size, 3, none⟩ = some (.int .i64 wd.next) ∧ wq.cell? ⟨w3.heap.size, 4, none⟩ = some (.slice aa wd.ahead.length ca) ∧ wq.cell? ⟨w3.heap.size, 5, none⟩ = some (.slice aq wd.queue.length cq) ∧ wq.cell? ⟨w3.heap.size, 6, none⟩ = some (.slice ap wd.pk.length cp) from ⟨hq _ _ _ (hn3 _ _ _ (Mem.on_some (cell_new 0 rfl) hb3.size)), hq _ _ _ (hn3 _ _ _ (Mem.on_some (cell_new 1 rfl) hb3.size)), hq _ _ _ (hn3 _ _ _ (Mem.on_some (cell_new 2 rfl) hb3.size)), hq _ _ _ (hn3 _ _ _ (Mem.on_some (cell_new 3 rfl) hb3.size)), hq _ _ _ (hn3 _ _ _ (Mem.on_some (cell_new 4 rfl) hb3.size)), hq _ _ _ (hn3 _ _ _ (Mem.on_some (cell_new 5 rfl) hb3.size)), hq _ _ _ (hn3 _ _ _ (Mem.on_some (cell_new 6 rfl) hb3.size))⟩))
    have HM3 := Lib.hid hM3
    have HMid3 := Lib.hid hMid3
    have HR1 := Lib.hid (show tEls.rv M3 [.slice none 0 0] [] from slice_nil _ _)
    have HR2 := HR1
    have HRF4 := Lib.hid (hrw2.mono hM3)
    have HWD := Lib.hid hwd
    clear hrw2 hwd
    generalize overK x.el = ko at *
    clear hn3 hM3 hMid3 hbA3 hb3 c0 c1 c2 c3 c4 c5 c6 d0 d1 d2 d3 d4 d5 d6
    go_upto_region 27 with fail
    generalize (w3.alloc (.cells #[.int .i64 wd.size, .int .i64 wd.room, .int .i64 wd.credits, .int .i64 wd.next, .slice aa wd.ahead.length ca, .slice aq wd.queue.length cq, .slice ap wd.pk.length cp] 56)) = X3 at HMid3 ⊢
    generalize w3.heap.size = nd at HC83 ⊢
    have HMD := Lib.hid (HMid3.out.pure (Below.refl _ _).drew)
    have HS := Lib.hid (fun (w' : World) (hq : M3.le (mem w')) => (show w'.cell? ⟨nd, 0, none⟩ = some (.int .i64 wd.size) ∧ w'.cell? ⟨nd, 1, none⟩ = some (.int .i64 wd.room) ∧ w'.cell? ⟨nd, 2, none⟩ = some (.int .i64 wd.credits) ∧ w'.cell? ⟨nd, 3, none⟩ = some (.int .i64 wd.next) ∧ w'.cell? ⟨nd, 4, none⟩ = some (.slice aa wd.ahead.length ca) ∧ w'.cell? ⟨nd, 5, none⟩ = some (.slice aq wd.queue.length cq) ∧ w'.cell? ⟨nd, 6, none⟩ = some (.slice ap wd.pk.length cp) from ⟨(HC83.out w' hq).1, (HC83.out w' hq).2.1, (HC83.out w' hq).2.2.1, (HC83.out w' hq).2.2.2.1, (HC83.out w' hq).2.2.2.2.1, (HC83.out w' hq).2.2.2.2.2.1, (HC83.out w' hq).2.2.2.2.2.2⟩))
    have HSR := Lib.hid (fun (wq : World) (hq : Mid c base b M0 w0 F (W.heap.size + 1 + 1) wq r ah ps m (N + 1) M3) => (show (((((((wq.setCell ⟨W.heap.size + 1 + 1, 0, none⟩ (.int .i64 wd.size)).setCell ⟨W.heap.size + 1 + 1, 1, none⟩ (.int .i64 wd.room)).setCell ⟨W.heap.size + 1 + 1, 2, none⟩ (.int .i64 wd.credits)).setCell ⟨W.heap.size + 1 + 1, 3, none⟩ (.int .i64 wd.next)).setCell ⟨W.heap.size + 1 + 1, 4, none⟩ (.slice aa wd.ahead.length ca)).setCell ⟨W.heap.size + 1 + 1, 5, none⟩ (.slice aq wd.queue.length cq)).setCell ⟨W.heap.size + 1 + 1, 6, none⟩ (.slice ap wd.pk.length cp)).cell? ⟨nd, 0, none⟩ = some (.int .i64 wd.size) ∧ (((((((wq.setCell ⟨W.heap.size + 1 + 1, 0, none⟩ (.int .i64 wd.size)).setCell ⟨W.heap.size + 1 + 1, 1, none⟩ (.int .i64 wd.room)).setCell ⟨W.heap.size + 1 + 1, 2, none⟩ (.int .i64 wd.credits)).setCell ⟨W.heap.size + 1 + 1, 3, none⟩ (.int .i64 wd.next)).setCell ⟨W.heap.size + 1 + 1, 4, none⟩ (.slice aa wd.ahead.length ca)).setCell ⟨W.heap.size + 1 + 1, 5, none⟩ (.slice aq wd.queue.length cq)).setCell ⟨W.heap.size + 1 + 1, 6, none⟩ (.slice ap wd.pk.length cp)).cell? ⟨nd, 1, none⟩ = some (.int .i64 wd.room) ∧ (((((((wq.setCell ⟨W.heap.size + 1 + 1, 0, none⟩ (.int .i64 wd.size)).setCell ⟨W.heap.size + 1 + 1, 1, none⟩ (.int .i64 wd.room)).setCell ⟨W.heap.size + 1 + 1, 2, none⟩ (.int .i64 wd.credits)).setCell ⟨W.heap.size + 1 + 1, 3, none⟩ (.int .i64 wd.next)).setCell ⟨W.heap.size + 1 + 1, 4, none⟩ (.slice aa wd.ahead.length ca)).setCell ⟨W.heap.size + 1 + 1, 5, none⟩ (.slice aq wd.queue.length cq)).setCell ⟨W.heap.size + 1 + 1, 6, none⟩ (.slice ap wd.pk.length cp)).cell? ⟨nd, 2, none⟩ = some (.int .i64 wd.credits) ∧ (((((((wq.setCell ⟨W.heap.size + 1 + 1, 0, none⟩ (.int .i64 wd.size)).setCell ⟨W.heap.size + 1 + 1, 1, none⟩ (.int .i64 wd.room)).setCell ⟨W.heap.size + 1 + 1, 2, none⟩ (.int .i64 wd.credits)).setCell ⟨W.heap.size + 1 + 1, 3, none⟩ (.int .i64 wd.next)).setCell ⟨W.heap.size + 1 + 1, 4, none⟩ (.slice aa wd.ahead.length ca)).setCell ⟨W.heap.size + 1 + 1, 5, none⟩ (.slice aq wd.queue.length cq)).setCell ⟨W.heap.size + 1 + 1, 6, none⟩ (.slice ap wd.pk.length cp)).cell? ⟨nd, 3, none⟩ = some (.int .i64 wd.next) ∧ (((((((wq.setCell ⟨W.heap.size + 1 + 1, 0, none⟩ (.int .i64 wd.size)).setCell ⟨W.heap.size + 1 + 1, 1, none⟩ (.int .i64 wd.room)).setCell ⟨W.heap.size + 1 + 1, 2, none⟩ (.int .i64 wd.credits)).setCell ⟨W.heap.size + 1 + 1, 3, none⟩ (.int .i64 wd.next)).setCell ⟨W.heap.size + 1 + 1, 4, none⟩ (.slice aa wd.ahead.length ca)).setCell ⟨W.heap.size + 1 + 1, 5, none⟩ (.slice aq wd.queue.length cq)).setCell ⟨W.heap.size + 1 + 1, 6, none⟩ (.slice ap wd.pk.length cp)).cell? ⟨nd, 4, none⟩ = some (.slice aa wd.ahead.length ca) ∧ (((((((wq.setCell ⟨W.heap.size + 1 + 1, 0, none⟩ (.int .i64 wd.size)).setCell ⟨W.heap.size + 1 + 1, 1, none⟩ (.int .i64 wd.room)).setCell ⟨W.heap.size + 1 + 1, 2, none⟩ (.int .i64 wd.credits)).setCell ⟨W.heap.size + 1 + 1, 3, none⟩ (.int .i64 wd.next)).setCell ⟨W.heap.size + 1 + 1, 4, none⟩ (.slice aa wd.ahead.length ca)).setCell ⟨W.heap.size + 1 + 1, 5, none⟩ (.slice aq wd.queue.length cq)).setCell ⟨W.heap.size + 1 + 1, 6, none⟩ (.slice ap wd.pk.length cp)).cell? ⟨nd, 5, none⟩ = some (.slice aq wd.queue.length cq) ∧ (((((((wq.setCell ⟨W.heap.size + 1 + 1, 0, none⟩ (.int .i64 wd.size)).setCell ⟨W.heap.size + 1 + 1, 1, none⟩ (.int .i64 wd.room)).setCell ⟨W.heap.size + 1 + 1, 2, none⟩ (.int .i64 wd.credits)).setCell ⟨W.heap.size + 1 + 1, 3, none⟩ (.int .i64 wd.next)).setCell ⟨W.heap.size + 1 + 1, 4, none⟩ (.slice aa wd.ahead.length ca)).setCell ⟨W.heap.size + 1 + 1, 5, none⟩ (.slice aq wd.queue.length cq)).setCell ⟨W.heap.size + 1 + 1, 6, none⟩ (.slice ap wd.pk.length cp)).cell? ⟨nd, 6, none⟩ = some (.slice ap wd.pk.length cp) from HS.out _ (hq.stored (store7_keeps wq (W.heap.size + 1 + 1) (.int .i64 wd.size) (.int .i64 wd.room) (.int .i64 wd.credits) (.int .i64 wd.next) (.slice aa wd.ahead.length ca) (.slice aq wd.queue.length cq) (.slice ap wd.pk.length cp)))))
    have HSE := Lib.hid (same_els [] _ _ X3.drew (tEls.mono _ _ _ _ HMD.out.mem HR1.out) (tEls.mono _ _ _ _ HMD.out.mem HR2.out))
    have s0 := HS.out X3.drew HMD.out.mem
    go_region_held3 (fun w' => w'.cell? ⟨nd, 0, none⟩ = some (.int .i64 wd.size) ∧ w'.cell? ⟨nd, 1, none⟩ = some (.int .i64 wd.room) ∧ w'.cell? ⟨nd, 2, none⟩ = some (.int .i64 wd.credits) ∧ w'.cell? ⟨nd, 3, none⟩ = some (.int .i64 wd.next) ∧ w'.cell? ⟨nd, 4, none⟩ = some (.slice aa wd.ahead.length ca) ∧ w'.cell? ⟨nd, 5, none⟩ = some (.slice aq wd.queue.length cq) ∧ w'.cell? ⟨nd, 6, none⟩ = some (.slice ap wd.pk.length cp)) (first | with_reducible exact s0 | with_reducible exact HS.out w5 hm5 | with_reducible exact HSR.out w5 HMid5.out | go_keep)
      ((first
        | (go_at_call 22; refine HSE.out.mono ?_; rintro e w5 ⟨rfl, hb5⟩; have hMid5 := HMD.out.pure hb5; have hm5 := hMid5.mem; have HMid5 := Lib.hid hMid5; obtain ⟨f5, z5⟩ := hMid5.cells; have z0 := z5 0; have z1 := z5 1; have z2 := z5 2; have z3 := z5 3; have z4 := z5 4; have z55 := z5 5; have z6 := z5 6; clear hMid5 z5)))
    all_goals
      go_wp2
      have r1 := store7_block HMid5.out.hR (.int .i64 wd.size) (.int .i64 wd.room) (.int .i64 wd.credits) (.int .i64 wd.next) (.slice aa wd.ahead.length ca) (.slice aq wd.queue.length cq) (.slice ap wd.pk.length cp)
      have hk := store7_keeps (w5) (W.heap.size + 1 + 1) (.int .i64 wd.size) (.int .i64 wd.room) (.int .i64 wd.credits) (.int .i64 wd.next) (.slice aa wd.ahead.length ca) (.slice aq wd.queue.length cq) (.slice ap wd.pk.length cp)
      show bodyPost _ _ _ _ _ (store7 (w5) (W.heap.size + 1 + 1) (.int .i64 wd.size) (.int .i64 wd.room) (.int .i64 wd.credits) (.int .i64 wd.next) (.slice aa wd.ahead.length ca) (.slice aq wd.queue.length cq) (.slice ap wd.pk.length cp))
      generalize store7 (w5) (W.heap.size + 1 + 1) (.int .i64 wd.size) (.int .i64 wd.room) (.int .i64 wd.credits) (.int .i64 wd.next) (.slice aa wd.ahead.length ca) (.slice aq wd.queue.length cq) (.slice ap wd.pk.length cp) = w2 at r1 hk ⊢
      have g0 : w2.cell? ⟨W.heap.size + 1 + 1, 0, none⟩ = some (.int .i64 wd.size) := mem_cells r1 0
      have g1 : w2.cell? ⟨W.heap.size + 1 + 1, 1, none⟩ = some (.int .i64 wd.room) := mem_cells r1 1
      have g2 : w2.cell? ⟨W.heap.size + 1 + 1, 2, none⟩ = some (.int .i64 wd.credits) := mem_cells r1 2
      have g3 : w2.cell? ⟨W.heap.size + 1 + 1, 3, none⟩ = some (.int .i64 wd.next) := mem_cells r1 3
      have g4 : w2.cell? ⟨W.heap.size + 1 + 1, 4, none⟩ = some (.slice aa wd.ahead.length ca) := mem_cells r1 4
      have g5 : w2.cell? ⟨W.heap.size + 1 + 1, 5, none⟩ = some (.slice aq wd.queue.length cq) := mem_cells r1 5
      have g6 : w2.cell? ⟨W.heap.size + 1 + 1, 6, none⟩ = some (.slice ap wd.pk.length cp) := mem_cells r1 6
      refine bodyPost_ret (v := .tuple #[.agg #[.int .i64 wd.size, .int .i64 wd.room, .int .i64 wd.credits, .int .i64 wd.next, .slice aa wd.ahead.length ca, .slice aq wd.queue.length cq, .slice ap wd.pk.length cp], .bool true]) (by simp [results, Try.results25, go_sem, g0, g1, g2, g3, g4, g5, g6]) rfl ?_
      have hE : refOf r ah ps = wd := by rw [HWD.out]; exact HW.out
      exact ⟨_, _, _, _, M3, _, _, _, by rw [hE], HMid5.out.finish hk (by rw [hE]; exact HRF4.out), Mem.le_trans HM1.out (Mem.le_trans HMA.out HM3.out), by omega⟩
  · have HOV := Lib.hid hov
    have HMA := Lib.hid hMa
    have HMidA := Lib.hid (HMid.out.step hMa hS ((HSO.out.over HX.out hval (by omega)).mono (Nat.le_succ N)))
    obtain ⟨v1a, v1c, rfl, _, hz1, _⟩ := slice_form hr1
    clear hS hMa hov hz1 hval
    obtain ⟨c0, c1, c2, c3, c4, c5, c6⟩ := HC4.out w1 (Mem.le_trans HMA.out HMidA.out.mem)
    obtain ⟨d0, d1, d2, d3, d4, d5, d6⟩ := HC5.out w1 (Mem.le_trans HMA.out HMidA.out.mem)
    go_wp2_with fail
    refine (refOver2 w _ _ _ M1a w1 HMidA.out.mem (HRF.out.mono HMA.out) (by omega) x.el _ HX.out (tRow.mono _ _ _ _ HMA.out HHS.out)).mono ?_
    rintro e w3 ⟨hp2, hb3⟩
    rcases hp2 with ⟨hov2, _⟩ | ⟨_, a2, v2, rfl, hrw2, hr2⟩
    · exfalso; rw [HOV.out] at hov2; cases hov2
    obtain ⟨wd, hwd⟩ : ∃ wd : RW, wd = { w with ahead := x.el :: w.ahead } := ⟨_, rfl⟩
    rw [← hwd] at hrw2 ⊢
    have hql2 : wd.queue.length = w.queue.length := by rw [hwd]
    have hpl2 : wd.pk.length = w.pk.length := by rw [hwd]
    rw [← hql2, ← hpl2] at hrw2 ⊢
    obtain ⟨a2a, a2c, rfl, _, hz1, _⟩ := slice_form hrw2.ha
    obtain ⟨v2a, v2c, rfl, _, hz2, _⟩ := slice_form hr2
    clear hz1 hz2 hql2 hpl2
    have hbA3 : Below w1.heap.size w1 (w3.alloc (.cells #[.int .i64 wd.size, .int .i64 wd.room, .int .i64 wd.credits, .int .i64 wd.next, .slice a2a wd.ahead.length a2c, .slice aq wd.queue.length cq, .slice ap wd.pk.length cp] 56)) := hb3.alloc hb3.size _
    obtain ⟨M3, hMid3, hM3, hn3⟩ := HMidA.out.grow hbA3
    have HN3 := Lib.hid (show ((mem w3).on (w1.heap.size ≤ ·)).le M3 from fun i o v e => hn3 _ _ _ (let ⟨hs, e⟩ := Mem.of_on e; Mem.on_some (below_mem ((Below.refl w3.heap.size w3).alloc (Nat.le_refl _) _) _ _ _ e) hs))
    have HC83 := Lib.hid (fun (wq : World) (hq : M3.le (mem wq)) => (show wq.cell? ⟨w3.heap.size, 0, none⟩ = some (.int .i64 wd.size) ∧ wq.cell? ⟨w3.heap.size, 1, none⟩ = some (.int .i64 wd.room) ∧ wq.cell? ⟨w3.heap.size, 2, none⟩ = some (.int .i64 wd.credits) ∧ wq.cell? ⟨w3.heap.size, 3, none⟩ = some (.int .i64 wd.next) ∧ wq.cell? ⟨w3.heap.size, 4, none⟩ = some (.slice a2a wd.ahead.length a2c) ∧ wq.cell? ⟨w3.heap.size, 5, none⟩ = some (.slice aq wd.queue.length cq) ∧ wq.cell? ⟨w3.heap.size, 6, none⟩ = some (.slice ap wd.pk.length cp) from ⟨hq _ _ _ (hn3 _ _ _ (Mem.on_some (cell_new 0 rfl) hb3.size)), hq _ _ _ (hn3 _ _ _ (Mem.on_some (cell_new 1 rfl) hb3.size)), hq _ _ _ (hn3 _ _ _ (Mem.on_some (cell_new 2 rfl) hb3.size)), hq _ _ _ (hn3 _ _ _ (Mem.on_some (cell_new 3 rfl) hb3.size)), hq _ _ _ (hn3 _ _ _ (Mem.on_some (cell_new 4 rfl) hb3.size)), hq _ _ _ (hn3 _ _ _ (Mem.on_some (cell_new 5 rfl) hb3.size)), hq _ _ _ (hn3 _ _ _ (Mem.on_some (cell_new 6 rfl) hb3.size))⟩))
    have HM3 := Lib.hid hM3
    have HMid3 := Lib.hid hMid3
    have HR1 := Lib.hid (tEls.mono _ _ _ _ hM3 hr1)
    have HR2 := Lib.hid (show tEls.rv M3 [.slice v2a (rcont w).length v2c] (contentsOf r ah ps) from by
      have h := tEls.mono _ _ _ _ (joinM_to hM3 HN3.out) hr2
      have e : rcont w = contentsOf r ah ps := by rw [← HW.out]; exact rcont_ref r ah ps
      rw [e] at h ⊢; exact h)
    have HRF4 := Lib.hid (hrw2.mono (joinM_to hM3 HN3.out))
    have HWD := Lib.hid hwd
    clear hrw2 hwd hr2 hr1
    clear hn3 hM3 hMid3 hbA3 hb3 c0 c1 c2 c3 c4 c5 c6 d0 d1 d2 d3 d4 d5 d6
    go_upto_region 27 with fail
    generalize (w3.alloc (.cells #[.int .i64 wd.size, .int .i64 wd.room, .int .i64 wd.credits, .int .i64 wd.next, .slice a2a wd.ahead.length a2c, .slice aq wd.queue.length cq, .slice ap wd.pk.length cp] 56)) = X3 at HMid3 ⊢
    generalize w3.heap.size = nd at HC83 ⊢
    have HMD := Lib.hid (HMid3.out.pure (Below.refl _ _).drew)
    have HS := Lib.hid (fun (w' : World) (hq : M3.le (mem w')) => (show w'.cell? ⟨nd, 0, none⟩ = some (.int .i64 wd.size) ∧ w'.cell? ⟨nd, 1, none⟩ = some (.int .i64 wd.room) ∧ w'.cell? ⟨nd, 2, none⟩ = some (.int .i64 wd.credits) ∧ w'.cell? ⟨nd, 3, none⟩ = some (.int .i64 wd.next) ∧ w'.cell? ⟨nd, 4, none⟩ = some (.slice a2a wd.ahead.length a2c) ∧ w'.cell? ⟨nd, 5, none⟩ = some (.slice aq wd.queue.length cq) ∧ w'.cell? ⟨nd, 6, none⟩ = some (.slice ap wd.pk.length cp) from ⟨(HC83.out w' hq).1, (HC83.out w' hq).2.1, (HC83.out w' hq).2.2.1, (HC83.out w' hq).2.2.2.1, (HC83.out w' hq).2.2.2.2.1, (HC83.out w' hq).2.2.2.2.2.1, (HC83.out w' hq).2.2.2.2.2.2⟩))
    have HSR := Lib.hid (fun (wq : World) (hq : Mid c base b M0 w0 F (W.heap.size + 1 + 1) wq (overR r x.el) (x.el :: ah) ps m (N + 1) M3) => (show (((((((wq.setCell ⟨W.heap.size + 1 + 1, 0, none⟩ (.int .i64 wd.size)).setCell ⟨W.heap.size + 1 + 1, 1, none⟩ (.int .i64 wd.room)).setCell ⟨W.heap.size + 1 + 1, 2, none⟩ (.int .i64 wd.credits)).setCell ⟨W.heap.size + 1 + 1, 3, none⟩ (.int .i64 wd.next)).setCell ⟨W.heap.size + 1 + 1, 4, none⟩ (.slice a2a wd.ahead.length a2c)).setCell ⟨W.heap.size + 1 + 1, 5, none⟩ (.slice aq wd.queue.length cq)).setCell ⟨W.heap.size + 1 + 1, 6, none⟩ (.slice ap wd.pk.length cp)).cell? ⟨nd, 0, none⟩ = some (.int .i64 wd.size) ∧ (((((((wq.setCell ⟨W.heap.size + 1 + 1, 0, none⟩ (.int .i64 wd.size)).setCell ⟨W.heap.size + 1 + 1, 1, none⟩ (.int .i64 wd.room)).setCell ⟨W.heap.size + 1 + 1, 2, none⟩ (.int .i64 wd.credits)).setCell ⟨W.heap.size + 1 + 1, 3, none⟩ (.int .i64 wd.next)).setCell ⟨W.heap.size + 1 + 1, 4, none⟩ (.slice a2a wd.ahead.length a2c)).setCell ⟨W.heap.size + 1 + 1, 5, none⟩ (.slice aq wd.queue.length cq)).setCell ⟨W.heap.size + 1 + 1, 6, none⟩ (.slice ap wd.pk.length cp)).cell? ⟨nd, 1, none⟩ = some (.int .i64 wd.room) ∧ (((((((wq.setCell ⟨W.heap.size + 1 + 1, 0, none⟩ (.int .i64 wd.size)).setCell ⟨W.heap.size + 1 + 1, 1, none⟩ (.int .i64 wd.room)).setCell ⟨W.heap.size + 1 + 1, 2, none⟩ (.int .i64 wd.credits)).setCell ⟨W.heap.size + 1 + 1, 3, none⟩ (.int .i64 wd.next)).setCell ⟨W.heap.size + 1 + 1, 4, none⟩ (.slice a2a wd.ahead.length a2c)).setCell ⟨W.heap.size + 1 + 1, 5, none⟩ (.slice aq wd.queue.length cq)).setCell ⟨W.heap.size + 1 + 1, 6, none⟩ (.slice ap wd.pk.length cp)).cell? ⟨nd, 2, none⟩ = some (.int .i64 wd.credits) ∧ (((((((wq.setCell ⟨W.heap.size + 1 + 1, 0, none⟩ (.int .i64 wd.size)).setCell ⟨W.heap.size + 1 + 1, 1, none⟩ (.int .i64 wd.room)).setCell ⟨W.heap.size + 1 + 1, 2, none⟩ (.int .i64 wd.credits)).setCell ⟨W.heap.size + 1 + 1, 3, none⟩ (.int .i64 wd.next)).setCell ⟨W.heap.size + 1 + 1, 4, none⟩ (.slice a2a wd.ahead.length a2c)).setCell ⟨W.heap.size + 1 + 1, 5, none⟩ (.slice aq wd.queue.length cq)).setCell ⟨W.heap.size + 1 + 1, 6, none⟩ (.slice ap wd.pk.length cp)).cell? ⟨nd, 3, none⟩ = some (.int .i64 wd.next) ∧ (((((((wq.setCell ⟨W.heap.size + 1 + 1, 0, none⟩ (.int .i64 wd.size)).setCell ⟨W.heap.size + 1 + 1, 1, none⟩ (.int .i64 wd.room)).setCell ⟨W.heap.size + 1 + 1, 2, none⟩ (.int .i64 wd.credits)).setCell ⟨W.heap.size + 1 + 1, 3, none⟩ (.int .i64 wd.next)).setCell ⟨W.heap.size + 1 + 1, 4, none⟩ (.slice a2a wd.ahead.length a2c)).setCell ⟨W.heap.size + 1 + 1, 5, none⟩ (.slice aq wd.queue.length cq)).setCell ⟨W.heap.size + 1 + 1, 6, none⟩ (.slice ap wd.pk.length cp)).cell? ⟨nd, 4, none⟩ = some (.slice a2a wd.ahead.length a2c) ∧ (((((((wq.setCell ⟨W.heap.size + 1 + 1, 0, none⟩ (.int .i64 wd.size)).setCell ⟨W.heap.size + 1 + 1, 1, none⟩ (.int .i64 wd.room)).setCell ⟨W.heap.size + 1 + 1, 2, none⟩ (.int .i64 wd.credits)).setCell ⟨W.heap.size + 1 + 1, 3, none⟩ (.int .i64 wd.next)).setCell ⟨W.heap.size + 1 + 1, 4, none⟩ (.slice a2a wd.ahead.length a2c)).setCell ⟨W.heap.size + 1 + 1, 5, none⟩ (.slice aq wd.queue.length cq)).setCell ⟨W.heap.size + 1 + 1, 6, none⟩ (.slice ap wd.pk.length cp)).cell? ⟨nd, 5, none⟩ = some (.slice aq wd.queue.length cq) ∧ (((((((wq.setCell ⟨W.heap.size + 1 + 1, 0, none⟩ (.int .i64 wd.size)).setCell ⟨W.heap.size + 1 + 1, 1, none⟩ (.int .i64 wd.room)).setCell ⟨W.heap.size + 1 + 1, 2, none⟩ (.int .i64 wd.credits)).setCell ⟨W.heap.size + 1 + 1, 3, none⟩ (.int .i64 wd.next)).setCell ⟨W.heap.size + 1 + 1, 4, none⟩ (.slice a2a wd.ahead.length a2c)).setCell ⟨W.heap.size + 1 + 1, 5, none⟩ (.slice aq wd.queue.length cq)).setCell ⟨W.heap.size + 1 + 1, 6, none⟩ (.slice ap wd.pk.length cp)).cell? ⟨nd, 6, none⟩ = some (.slice ap wd.pk.length cp) from HS.out _ (hq.stored (store7_keeps wq (W.heap.size + 1 + 1) (.int .i64 wd.size) (.int .i64 wd.room) (.int .i64 wd.credits) (.int .i64 wd.next) (.slice a2a wd.ahead.length a2c) (.slice aq wd.queue.length cq) (.slice ap wd.pk.length cp)))))
    have HSE := Lib.hid (same_els (contentsOf r ah ps) _ _ X3.drew (tEls.mono _ _ _ _ HMD.out.mem HR1.out) (tEls.mono _ _ _ _ HMD.out.mem HR2.out))
    have s0 := HS.out X3.drew HMD.out.mem
    go_region_held3 (fun w' => w'.cell? ⟨nd, 0, none⟩ = some (.int .i64 wd.size) ∧ w'.cell? ⟨nd, 1, none⟩ = some (.int .i64 wd.room) ∧ w'.cell? ⟨nd, 2, none⟩ = some (.int .i64 wd.credits) ∧ w'.cell? ⟨nd, 3, none⟩ = some (.int .i64 wd.next) ∧ w'.cell? ⟨nd, 4, none⟩ = some (.slice a2a wd.ahead.length a2c) ∧ w'.cell? ⟨nd, 5, none⟩ = some (.slice aq wd.queue.length cq) ∧ w'.cell? ⟨nd, 6, none⟩ = some (.slice ap wd.pk.length cp)) (first | with_reducible exact s0 | with_reducible exact HS.out w5 hm5 | with_reducible exact HSR.out w5 HMid5.out | go_keep)
      ((first
        | (go_at_call 22; refine HSE.out.mono ?_; rintro e w5 ⟨rfl, hb5⟩; have hMid5 := HMD.out.pure hb5; have hm5 := hMid5.mem; have HMid5 := Lib.hid hMid5; obtain ⟨f5, z5⟩ := hMid5.cells; have z0 := z5 0; have z1 := z5 1; have z2 := z5 2; have z3 := z5 3; have z4 := z5 4; have z55 := z5 5; have z6 := z5 6; clear hMid5 z5)))
    all_goals
      go_wp2
      have r1 := store7_block HMid5.out.hR (.int .i64 wd.size) (.int .i64 wd.room) (.int .i64 wd.credits) (.int .i64 wd.next) (.slice a2a wd.ahead.length a2c) (.slice aq wd.queue.length cq) (.slice ap wd.pk.length cp)
      have hk := store7_keeps (w5) (W.heap.size + 1 + 1) (.int .i64 wd.size) (.int .i64 wd.room) (.int .i64 wd.credits) (.int .i64 wd.next) (.slice a2a wd.ahead.length a2c) (.slice aq wd.queue.length cq) (.slice ap wd.pk.length cp)
      show bodyPost _ _ _ _ _ (store7 (w5) (W.heap.size + 1 + 1) (.int .i64 wd.size) (.int .i64 wd.room) (.int .i64 wd.credits) (.int .i64 wd.next) (.slice a2a wd.ahead.length a2c) (.slice aq wd.queue.length cq) (.slice ap wd.pk.length cp))
      generalize store7 (w5) (W.heap.size + 1 + 1) (.int .i64 wd.size) (.int .i64 wd.room) (.int .i64 wd.credits) (.int .i64 wd.next) (.slice a2a wd.ahead.length a2c) (.slice aq wd.queue.length cq) (.slice ap wd.pk.length cp) = w2 at r1 hk ⊢
      have g0 : w2.cell? ⟨W.heap.size + 1 + 1, 0, none⟩ = some (.int .i64 wd.size) := mem_cells r1 0
      have g1 : w2.cell? ⟨W.heap.size + 1 + 1, 1, none⟩ = some (.int .i64 wd.room) := mem_cells r1 1
      have g2 : w2.cell? ⟨W.heap.size + 1 + 1, 2, none⟩ = some (.int .i64 wd.credits) := mem_cells r1 2
      have g3 : w2.cell? ⟨W.heap.size + 1 + 1, 3, none⟩ = some (.int .i64 wd.next) := mem_cells r1 3
      have g4 : w2.cell? ⟨W.heap.size + 1 + 1, 4, none⟩ = some (.slice a2a wd.ahead.length a2c) := mem_cells r1 4
      have g5 : w2.cell? ⟨W.heap.size + 1 + 1, 5, none⟩ = some (.slice aq wd.queue.length cq) := mem_cells r1 5
      have g6 : w2.cell? ⟨W.heap.size + 1 + 1, 6, none⟩ = some (.slice ap wd.pk.length cp) := mem_cells r1 6
      refine bodyPost_ret (v := .tuple #[.agg #[.int .i64 wd.size, .int .i64 wd.room, .int .i64 wd.credits, .int .i64 wd.next, .slice a2a wd.ahead.length a2c, .slice aq wd.queue.length cq, .slice ap wd.pk.length cp], .bool true]) (by simp [results, Try.results25, go_sem, g0, g1, g2, g3, g4, g5, g6]) rfl ?_
      have hE : refOf (overR r x.el) (x.el :: ah) ps = wd := by rw [HWD.out, ← HW.out]; rfl
      exact ⟨_, _, _, _, M3, _, _, _, by rw [hE], HMid5.out.finish hk (by rw [hE]; exact HRF4.out), Mem.le_trans HM1.out (Mem.le_trans HMA.out HM3.out), by show r.count + 1 ≤ _; omega⟩
end Go.Proofs.Ytfkphdmnelchmaa
/- does: every act. -/
namespace Go.Proofs.Ytfkphdmnelchmaa
open Go.RowKit Go.Maps

theorem does_any (c : Int) (base b : Nat) (M0 : Mem) (w0 : World) (F : Nat → Prop) (W : World) (r : Raw) (ah : List El) (ps : List PK) (m N kk : Nat) (M : Mem) (a q p s : Value) (x : Act20) (h : Run c base b M0 w0 F W r ah ps m N M a q p) (hx : x.el.ok) (hxn : inI64 x.n) (hx8 : 0 ≤ x.kind ∧ x.kind ≤ 255) (hs : tRow.rv M [s] x.el.row) (hN : N ≤ 500000) (hcnt : r.count ≤ kk) (hkk : kk ≤ 2000) :
    Calls Try.prog 25 #[.pointer (some ⟨b, 0, none⟩), wV (refOf r ah ps) a q p, actV x s] W (DoesOut c base b M0 w0 F N M (kk + 1)) := by
  have h8 : x.kind % 8 = 0 ∨ x.kind % 8 = 1 ∨ x.kind % 8 = 2 ∨ x.kind % 8 = 3 ∨ x.kind % 8 = 4 ∨ x.kind % 8 = 5 ∨ x.kind % 8 = 6 ∨ x.kind % 8 = 7 := by omega
  rcases h8 with k | k | k | k | k | k | k | k
  · exact does_put c base b M0 w0 F W r ah ps m N kk M a q p s x h hx hxn hx8 hs k hN hcnt hkk
  · exact does_send c base b M0 w0 F W r ah ps m N kk M a q p s x h hx hxn hx8 hs k hN hcnt hkk
  · exact does_deliver c base b M0 w0 F W r ah ps m N kk M a q p s x h hx hxn hx8 hs k hN hcnt hkk
  · exact does_lose c base b M0 w0 F W r ah ps m N kk M a q p s x h hx hxn hx8 hs k hN hcnt hkk
  · exact does_recv c base b M0 w0 F W r ah ps m N kk M a q p s x h hx hxn hx8 hs k hN hcnt hkk
  · exact does_peek c base b M0 w0 F W r ah ps m N kk M a q p s x h hx hxn hx8 hs k hN hcnt hkk
  · exact does_resize c base b M0 w0 F W r ah ps m N kk M a q p s x h hx hxn hx8 hs k hN hcnt hkk
  · exact does_over c base b M0 w0 F W r ah ps m N kk M a q p s x h hx hxn hx8 hs k hN hcnt hkk
end Go.Proofs.Ytfkphdmnelchmaa
/- A wire beside the reference's wire, that lies in a block of its own: the loop of a law. -/
namespace Go.Proofs.Ytfkphdmnelchmaa
open Go.RowKit Go.Maps

@[reducible] def cells7 (w : RW) (a q p : Value) : Array Value := #[.int .i64 w.size, .int .i64 w.room, .int .i64 w.credits, .int .i64 w.next, a, q, p]
structure Both (c : Int) (base b Rb k : Nat) (M0 : Mem) (w0 W : World) (r : Raw) (ah : List El) (ps : List PK) (m N : Nat) (M : Mem) (a q p : Value) : Prop where
  st : St base b W r N M (fun j => j = Rb)
  so : Sound c N r ah ps m
  rf : RwAt M (refOf r ah ps) a q p
  bel : Below base w0 W
  mm : M0.le M
  hR : W.heap[Rb]? = some (.cells (cells7 (refOf r ah ps) a q p) 56 (0, 0))
  bR : base ≤ Rb
  cnt : r.count ≤ k
theorem sound_new2 {size credits room : Int} (h : okNew size credits room) : Sound credits 0 (newRaw size credits room) [] [] 0 :=
  ⟨sim_new size credits room, h.1, h.2.2, by show credits + _ = credits; simp, by show 0 ≤ credits; have := h.2.1; omega, h.2.1, by show 0 ≤ (0 : Int) - _; simp, by show (0 : Int) ≤ _; simp, by show (0 : Int) ≤ 4000; omega, fun x hx => by simp [contentsOf, newRaw] at hx, fun p hp => by simp [newRaw] at hp⟩
section
variable {c : Int} {base b Rb k m N : Nat} {M0 M : Mem} {w0 W W' : World} {r r' : Raw} {ah ah' : List El} {ps ps' : List PK} {a q p a' q' p' : Value}
theorem Both.pure (h : Both c base b Rb k M0 w0 W r ah ps m N M a q p) (hb : Below W.heap.size W W') : Both c base b Rb k M0 w0 W' r ah ps m N M a q p :=
  ⟨h.st.pure hb, h.so, h.rf, h.bel.trans (hb.mono h.st.bw), h.mm, (hb.block Rb (Array.getElem?_eq_some_iff.1 h.hR).1).trans h.hR, h.bR, h.cnt⟩
theorem Both.cells (h : Both c base b Rb k M0 w0 W r ah ps m N M a q p) (o : Nat) : W.cell? ⟨Rb, o, none⟩ = (cells7 (refOf r ah ps) a q p)[o]? := mem_cells h.hR o
theorem Both.frozen (h : Both c base b Rb k M0 w0 W r ah ps m N M a q p) : ∀ o, W.frozen? ⟨Rb, o, none⟩ = false := frozen_cells h.hR
theorem Both.start (h : Both c base b Rb k M0 w0 W r ah ps m N M a q p) : Run c base b M W (fun j => j = Rb) W r ah ps m N M a q p :=
  ⟨h.st, h.so, h.rf, Below.refl _ _, Mem.le_refl _, fun _ _ => rfl⟩
/-- What lies there behind an act, before the result is stored. -/
def Done (c : Int) (base b Rb k : Nat) (M0 : Mem) (w0 : World) (N : Nat) (e : Ending) (W' : World) : Prop :=
  ∃ r' ah' ps' m' M' a' q' p', e = .returned (.tuple #[wV (refOf r' ah' ps') a' q' p', .bool true]) ∧ Run c base b M0 w0 (fun j => j = Rb) W' r' ah' ps' m' N M' a' q' p' ∧ r'.count ≤ k ∧ base ≤ Rb ∧ ∃ a0 a1 a2 a3 a4 a5 a6, W'.heap[Rb]? = some (.cells #[a0, a1, a2, a3, a4, a5, a6] 56 (0, 0))
theorem Both.does (h : Both c base b Rb k M0 w0 W r ah ps m N M a q p) (hN : N ≤ 500000) (hk : k ≤ 1000) (x : Act20) (s : Value) (hx : x.el.ok) (hxn : inI64 x.n) (hx8 : 0 ≤ x.kind ∧ x.kind ≤ 255) (hs : tRow.rv M0 [s] x.el.row) :
    Calls Try.prog 25 #[.pointer (some ⟨b, 0, none⟩), wV (refOf r ah ps) a q p, actV x s] W (Done c base b Rb (k + 1) M0 W (N + 1)) := by
  refine (does_any c base b M W (fun j => j = Rb) W r ah ps m N k M a q p s x h.start hx hxn hx8 (tRow.mono _ _ _ _ h.mm hs) hN h.cnt (by omega)).mono fun e W' hd => ?_
  obtain ⟨r', ah', ps', m', M', a', q', p', he, hr, hm, hc⟩ := hd
  exact ⟨r', ah', ps', m', M', a', q', p', he, ⟨hr.st, hr.so, hr.rf, hr.bel, Mem.le_trans h.mm hr.mm, hr.fk⟩, by have := hc; omega, h.bR, _, _, _, _, _, _, _, (hr.fk Rb rfl).trans h.hR⟩
/-- The result is stored. -/
theorem Run.stored (h : Run c base b M0 W (fun j => j = Rb) W' r ah ps m N M a q p) (hb : Below base w0 W) (hc : r.count ≤ k) (hbR : base ≤ Rb) {a0 a1 a2 a3 a4 a5 a6 : Value} (hR : W'.heap[Rb]? = some (.cells #[a0, a1, a2, a3, a4, a5, a6] 56 (0, 0))) :
    Both c base b Rb k M0 w0 (store7 W' Rb (.int .i64 (refOf r ah ps).size) (.int .i64 (refOf r ah ps).room) (.int .i64 (refOf r ah ps).credits) (.int .i64 (refOf r ah ps).next) a q p) r ah ps m N M a q p := by
  have hk := store7_keeps W' Rb (.int .i64 (refOf r ah ps).size) (.int .i64 (refOf r ah ps).room) (.int .i64 (refOf r ah ps).credits) (.int .i64 (refOf r ah ps).next) a q p
  have hbw := h.st.bw
  obtain ⟨s, _⟩ := h.st.foreign (F' := fun j => j = Rb) hk (fun j e => ⟨.inl e, by have := h.st.fl j e; have := hk.size; omega⟩)
  exact ⟨s, h.so, h.rf, (hb.trans h.bel).trans ⟨hk.os, hk.tape, hk.output, hk.size, fun j hl => hk.block j (by omega) (by omega)⟩, h.mm, store7_block hR _ _ _ _ _ _ _, hbR, hc⟩
theorem both_new {size credits room : Int} (ho : okNew size credits room) (h : St base b W (newRaw size credits room) 0 M (fun _ => False)) (hb : Below base w0 W) (hb1 : Below W.heap.size W W') :
    Both credits base b W'.heap.size 0 M w0 (W'.alloc (.cells (cells7 (newRW size credits room) (.slice none 0 0) (.slice none 0 0) (.slice none 0 0)) 56)) (newRaw size credits room) [] [] 0 0 M (.slice none 0 0) (.slice none 0 0) (.slice none 0 0) := by
  have hb2 : Below W.heap.size W (W'.alloc (.cells (cells7 (newRW size credits room) (.slice none 0 0) (.slice none 0 0) (.slice none 0 0)) 56)) := hb1.alloc hb1.size _
  have hbw := h.bw
  have hsz := hb1.size
  obtain ⟨s, _⟩ := h.foreign (F' := fun j => j = W'.heap.size) ((below_keeps hb2).wide (fun k h1 h2 => by omega)) (fun j e => ⟨.inr (by omega), by rw [World.size_alloc]; omega⟩)
  have h1 := ho.1; have h2 := ho.2.1; have h3 := ho.2.2
  refine ⟨s, sound_new2 ho, ⟨?_, ?_, ?_, ?_, slice_nil _ _, slice_nil _ _, slice_nil _ _⟩, hb.trans (hb2.mono hbw), Mem.le_refl _, heap_alloc_new _ _, by omega, by show (0 : Int) ≤ _; omega⟩
  · show inI64 size; unfold inI64; omega
  · show inI64 room; unfold inI64; omega
  · show inI64 credits; unfold inI64; omega
  · show inI64 0; unfold inI64; omega
end
section
variable {base b N : Nat} {W : World} {r : Raw} {M : Mem} {F : Nat → Prop}
theorem st_credits (h : St base b W r N M F) : Calls Try.prog 28 #[.pointer (some ⟨b, 0, none⟩)] W fun e W' => e = .returned (.int .i64 r.credits) ∧ W' = W := by
  obtain ⟨L, i, _⟩ := h
  exact (credits_any base b L r W i).mono fun _ _ ⟨h1, h2⟩ => ⟨h1, h2.symm⟩
theorem st_queue (h : St base b W r N M F) : Calls Try.prog 30 #[.pointer (some ⟨b, 0, none⟩)] W fun e W' => e = .returned (.int .i64 r.queue.length) ∧ W' = W := by
  obtain ⟨L, i, _⟩ := h
  exact (queue_any base b L r W i).mono fun _ _ ⟨h1, h2⟩ => ⟨h1, h2.symm⟩
theorem st_buffer (h : St base b W r N M F) : Calls Try.prog 31 #[.pointer (some ⟨b, 0, none⟩)] W fun e W' => e = .returned (.int .i64 r.buffer.length) ∧ W' = W := by
  obtain ⟨L, i, _⟩ := h
  exact (buffer_any base b L r W i).mono fun _ _ ⟨h1, h2⟩ => ⟨h1, h2.symm⟩
theorem st_waits (h : St base b W r N M F) : Calls Try.prog 29 #[.pointer (some ⟨b, 0, none⟩)] W fun e W' => e = .returned (.bool (decide (0 < r.queue.length) && decide (r.credits = 0))) ∧ W' = W := by
  obtain ⟨L, i, _⟩ := h
  exact (waits_any base b L r W i).mono fun _ _ ⟨h1, h2⟩ => ⟨h1, h2.symm⟩
theorem st_spilled (h : St base b W r N M F) (hf : Fine r) : Calls Try.prog 37 #[.pointer (some ⟨b, 0, none⟩)] W fun e W' => e = .returned (.int .i64 (max 0 ((r.queue.length : Int) - r.room))) ∧ ∃ n, W' = W.drewN n := by
  obtain ⟨L, i, _⟩ := h
  exact spilled_any base b L r W i hf.rm.1 hf.rm.2 hf.q
theorem St.drewN (h : St base b W r N M F) (n : Nat) : St base b (W.drewN n) r N M F := h.pure ⟨rfl, rfl, rfl, Nat.le_refl _, fun _ _ => rfl⟩
end
end Go.Proofs.Ytfkphdmnelchmaa
