/- Part 6 of the texts that the law's proof stands on, merged. -/
import Derived.Deep.RegionHeld3
import Derived.Deep.RegionLaw
import Derived.Test.YtfkphdmnelchmaaWc05
set_option linter.unusedVariables false
set_option linter.unusedSimpArgs false
/- The reference's wire: Receive. -/
namespace Go.Proofs.Ytfkphdmnelchmaa
open Go.RowKit Go.Maps


set_option maxHeartbeats 1000000 in
theorem stores75 {W X : World} {b1 b2 : Nat} {T1 T2 : TypeId} {a0 a1 a2 a3 a4 a5 a6 e0 e1 e2 e3 e4 : Value} (h1 : X.heap[b1]? = some (.cells #[a0, a1, a2, a3, a4, a5, a6] T1 (0, 0))) (h2 : X.heap[b2]? = some (.cells #[e0, e1, e2, e3, e4] T2 (0, 0))) (hne : b1 ≠ b2) (hB : Below W.heap.size W X) (g1 : W.heap.size ≤ b1) (g2 : W.heap.size ≤ b2) (v0 v1 v2 v3 v4 v5 v6 u0 u1 u2 u3 u4 : Value) :
    (store5 (store7 X b1 v0 v1 v2 v3 v4 v5 v6) b2 u0 u1 u2 u3 u4).drew.heap[b1]? = some (.cells #[v0, v1, v2, v3, v4, v5, v6] T1 (0, 0)) ∧ (store5 (store7 X b1 v0 v1 v2 v3 v4 v5 v6) b2 u0 u1 u2 u3 u4).drew.heap[b2]? = some (.cells #[u0, u1, u2, u3, u4] T2 (0, 0)) ∧ Below W.heap.size W (store5 (store7 X b1 v0 v1 v2 v3 v4 v5 v6) b2 u0 u1 u2 u3 u4).drew ∧ ∀ k, k < X.heap.size → k ≠ b1 → k ≠ b2 → (store5 (store7 X b1 v0 v1 v2 v3 v4 v5 v6) b2 u0 u1 u2 u3 u4).drew.heap[k]? = X.heap[k]? := by
  have l1 := (Array.getElem?_eq_some_iff.1 h1).1
  have l2 := (Array.getElem?_eq_some_iff.1 h2).1
  have k7 := store7_keeps X b1 v0 v1 v2 v3 v4 v5 v6
  have k5 := store5_keeps (store7 X b1 v0 v1 v2 v3 v4 v5 v6) b2 u0 u1 u2 u3 u4
  have s7 := k7.size
  have hd : ∀ w : World, w.drew.heap = w.heap := fun _ => rfl
  rw [hd]
  generalize hZ : store7 X b1 v0 v1 v2 v3 v4 v5 v6 = Z at k7 k5 s7 ⊢
  have z1 : Z.heap[b1]? = some (.cells #[v0, v1, v2, v3, v4, v5, v6] T1 (0, 0)) := by rw [← hZ]; exact store7_block h1 v0 v1 v2 v3 v4 v5 v6
  have q2 := store5_block ((k7.block b2 l2 (Ne.symm hne)).trans h2) u0 u1 u2 u3 u4
  generalize store5 Z b2 u0 u1 u2 u3 u4 = Q at k5 q2 ⊢
  exact ⟨(k5.block b1 (by omega) hne).trans z1, q2, (Keeps.belowStep (Keeps.belowStep hB k7 (fun k hk => by omega) hB.size) k5 (fun k hk => by omega) (Nat.le_trans hB.size s7)).drew, fun k hk n1 n2 => (k5.block k (by omega) n2).trans (k7.block k hk n1)⟩
def recvPk (w : RW) (y : RP) (ys : List RP) (xs : List El) : RW := if xs = [] then { w with pk := ys, credits := w.credits + 1 } else { w with pk := { y with els := xs } :: ys }
def RRecv (M : Mem) (W : World) (w : RW) (a q p : Value) (e : Ending) (W' : World) : Prop :=
  (rbuf w = [] ∧ e = .returned (.tuple #[wV w a q p, elV noEl (.slice none 0 0), .int .i64 8])) ∨
  (∃ x ls ar cr a', w.ahead = x :: ls ∧ e = .returned (.tuple #[wV { w with ahead := ls } a' q p, elV x (.slice ar x.row.length cr), .int .i64 0]) ∧ tRow.rv M [.slice ar x.row.length cr] x.row ∧ RwAt (joinM M W W') { w with ahead := ls } a' q p) ∨
  (w.ahead = [] ∧ ∃ y ys x xs ar cr p', w.pk = y :: ys ∧ y.dl = true ∧ y.els = x :: xs ∧ e = .returned (.tuple #[wV (recvPk w y ys xs) a q p', elV x (.slice ar x.row.length cr), .int .i64 0]) ∧ tRow.rv M [.slice ar x.row.length cr] x.row ∧ RwAt (joinM M W W') (recvPk w y ys xs) a q p')
set_option maxRecDepth 100000 in
set_option maxHeartbeats 8000000 in
theorem refReceive_any (w : RW) (a q p : Value) (M : Mem) (W : World) (hM : M.le (mem W)) (h : RwAt M w a q p) (hl : (rcont w).length ≤ 100000) (hpl : w.pk.length ≤ 100000) (hne : ∀ y ∈ w.pk, y.els ≠ []) (hcr : 0 ≤ w.credits ∧ w.credits ≤ 1000) : Calls Try.prog 52 #[wV w a q p] W fun e W' => RRecv M W w a q p e W' ∧ Below W.heap.size W W' := by
  have HF := Lib.hid (fun (wq : World) (hq : Below W.heap.size W wq) => refPeek_any w a q p M wq (Mem.le_trans hM (below_mem hq)) h hl)
  obtain ⟨aa, ca, rfl, hla, hma, hra⟩ := slice_form h.ha
  obtain ⟨aq, cq, rfl, hlq, hmq, hrq⟩ := slice_form h.hq
  obtain ⟨ap, cp, rfl, hlp, hmp, hrp⟩ := slice_form h.hp
  have hca : ca ≤ 9223372036854775807 := by unfold maxLen at hma; exact hma
  have hcq : cq ≤ 9223372036854775807 := by unfold maxLen at hmq; exact hmq
  have hcp : cp ≤ 9223372036854775807 := by unfold maxLen at hmp; exact hmp
  have HA := Lib.hid hra
  have HQ := Lib.hid hrq
  have HP := Lib.hid hrp
  have HW := Lib.hid h
  have HM := Lib.hid hM
  clear hma hmq hmp hra hrq hrp h hM
  have HB2 := Lib.hid ((((Below.refl W.heap.size W).alloc (Nat.le_refl _) (.cells #[.int .i64 w.size, .int .i64 w.room, .int .i64 w.credits, .int .i64 w.next, .slice aa w.ahead.length ca, .slice aq w.queue.length cq, .slice ap w.pk.length cp] 56)).alloc (by simp) (.cells #[.int .i64 0, .int .i64 0, .int .i64 0, .int .i64 0, .slice none 0 0, .slice none 0 0, .slice none 0 0] 56)).alloc (by simp; omega) (.cells #[.int .i64 0, .int .i64 0, .int .i64 0, .slice none 0 0, .int .i64 0] 42))
  have yB : (((W.alloc (.cells #[.int .i64 w.size, .int .i64 w.room, .int .i64 w.credits, .int .i64 w.next, .slice aa w.ahead.length ca, .slice aq w.queue.length cq, .slice ap w.pk.length cp] 56)).alloc (.cells #[.int .i64 0, .int .i64 0, .int .i64 0, .int .i64 0, .slice none 0 0, .slice none 0 0, .slice none 0 0] 56)).alloc (.cells #[.int .i64 0, .int .i64 0, .int .i64 0, .slice none 0 0, .int .i64 0] 42)).heap[W.heap.size]? = some (.cells #[.int .i64 w.size, .int .i64 w.room, .int .i64 w.credits, .int .i64 w.next, .slice aa w.ahead.length ca, .slice aq w.queue.length cq, .slice ap w.pk.length cp] 56 (0, 0)) := alloc_block (alloc_block (heap_alloc_new W _) _) _
  have yR : (((W.alloc (.cells #[.int .i64 w.size, .int .i64 w.room, .int .i64 w.credits, .int .i64 w.next, .slice aa w.ahead.length ca, .slice aq w.queue.length cq, .slice ap w.pk.length cp] 56)).alloc (.cells #[.int .i64 0, .int .i64 0, .int .i64 0, .int .i64 0, .slice none 0 0, .slice none 0 0, .slice none 0 0] 56)).alloc (.cells #[.int .i64 0, .int .i64 0, .int .i64 0, .slice none 0 0, .int .i64 0] 42)).heap[W.heap.size + 1]? = some (.cells #[.int .i64 0, .int .i64 0, .int .i64 0, .int .i64 0, .slice none 0 0, .slice none 0 0, .slice none 0 0] 56 (0, 0)) := alloc_block (by have h := heap_alloc_new (W.alloc (.cells #[.int .i64 w.size, .int .i64 w.room, .int .i64 w.credits, .int .i64 w.next, .slice aa w.ahead.length ca, .slice aq w.queue.length cq, .slice ap w.pk.length cp] 56)) (.cells #[.int .i64 0, .int .i64 0, .int .i64 0, .int .i64 0, .slice none 0 0, .slice none 0 0, .slice none 0 0] 56); rwa [World.size_alloc] at h) _
  have yE : (((W.alloc (.cells #[.int .i64 w.size, .int .i64 w.room, .int .i64 w.credits, .int .i64 w.next, .slice aa w.ahead.length ca, .slice aq w.queue.length cq, .slice ap w.pk.length cp] 56)).alloc (.cells #[.int .i64 0, .int .i64 0, .int .i64 0, .int .i64 0, .slice none 0 0, .slice none 0 0, .slice none 0 0] 56)).alloc (.cells #[.int .i64 0, .int .i64 0, .int .i64 0, .slice none 0 0, .int .i64 0] 42)).heap[W.heap.size + 1 + 1]? = some (.cells #[.int .i64 0, .int .i64 0, .int .i64 0, .slice none 0 0, .int .i64 0] 42 (0, 0)) := by have h := heap_alloc_new ((W.alloc (.cells #[.int .i64 w.size, .int .i64 w.room, .int .i64 w.credits, .int .i64 w.next, .slice aa w.ahead.length ca, .slice aq w.queue.length cq, .slice ap w.pk.length cp] 56)).alloc (.cells #[.int .i64 0, .int .i64 0, .int .i64 0, .int .i64 0, .slice none 0 0, .slice none 0 0, .slice none 0 0] 56)) (.cells #[.int .i64 0, .int .i64 0, .int .i64 0, .slice none 0 0, .int .i64 0] 42); simpa only [World.size_alloc] using h
  have hszY : (((W.alloc (.cells #[.int .i64 w.size, .int .i64 w.room, .int .i64 w.credits, .int .i64 w.next, .slice aa w.ahead.length ca, .slice aq w.queue.length cq, .slice ap w.pk.length cp] 56)).alloc (.cells #[.int .i64 0, .int .i64 0, .int .i64 0, .int .i64 0, .slice none 0 0, .slice none 0 0, .slice none 0 0] 56)).alloc (.cells #[.int .i64 0, .int .i64 0, .int .i64 0, .slice none 0 0, .int .i64 0] 42)).heap.size = W.heap.size + 3 := by simp
  go_enter Try.func52, Try.ntmps52
  go_upto_region 1 with fail
  generalize ((W.alloc (.cells #[.int .i64 w.size, .int .i64 w.room, .int .i64 w.credits, .int .i64 w.next, .slice aa w.ahead.length ca, .slice aq w.queue.length cq, .slice ap w.pk.length cp] 56)).alloc (.cells #[.int .i64 0, .int .i64 0, .int .i64 0, .int .i64 0, .slice none 0 0, .slice none 0 0, .slice none 0 0] 56)).alloc (.cells #[.int .i64 0, .int .i64 0, .int .i64 0, .slice none 0 0, .int .i64 0] 42) = Y at HB2 yB yR yE hszY ⊢
  have c0 : Y.cell? ⟨W.heap.size, 0, none⟩ = some (.int .i64 w.size) := mem_cells yB 0
  have c1 : Y.cell? ⟨W.heap.size, 1, none⟩ = some (.int .i64 w.room) := mem_cells yB 1
  have c2 : Y.cell? ⟨W.heap.size, 2, none⟩ = some (.int .i64 w.credits) := mem_cells yB 2
  have c3 : Y.cell? ⟨W.heap.size, 3, none⟩ = some (.int .i64 w.next) := mem_cells yB 3
  have c4 : Y.cell? ⟨W.heap.size, 4, none⟩ = some (.slice aa w.ahead.length ca) := mem_cells yB 4
  have c5 : Y.cell? ⟨W.heap.size, 5, none⟩ = some (.slice aq w.queue.length cq) := mem_cells yB 5
  have c6 : Y.cell? ⟨W.heap.size, 6, none⟩ = some (.slice ap w.pk.length cp) := mem_cells yB 6
  have HYB := Lib.hid (fun (wq : World) (h : Below Y.heap.size Y wq) => And.intro ((h.block _ (by omega)).trans yB) (And.intro ((h.block _ (by omega)).trans yR) ((h.block _ (by omega)).trans yE)))
  clear yR yB yE
  go_wp2_with fail
  refine (HF.out Y HB2.out).mono ?_
  rintro e w1 ⟨hp, hb⟩
  have hsz1 := hb.size
  clear HF c0 c1 c2 c3 c4 c5 c6
  rcases hp with ⟨hbuf, rfl⟩ | ⟨x, xs, ar, cr, hbuf, rfl, hrow, hok⟩
  · have hA : Below w1.heap.size w1 (w1.alloc (.cells #[.int .i64 noEl.kind, .int .i64 noEl.n, .int .i64 noEl.time, .slice none 0 0, .int .i64 noEl.cn] 42)) := (Below.refl _ _).alloc (Nat.le_refl _) _
    obtain ⟨yB, yR, yE⟩ := HYB.out _ (hb.trans (hA.mono hb.size))
    have HBX := Lib.hid (HB2.out.trans ((hb.trans (hA.mono hb.size)).mono HB2.out.size))
    have yN := heap_alloc_new w1 (.cells #[.int .i64 noEl.kind, .int .i64 noEl.n, .int .i64 noEl.time, .slice none 0 0, .int .i64 noEl.cn] 42)
    have HBU := Lib.hid hbuf
    clear hA hb hbuf
    simp only [elV]
    go_upto_region 2 with fail
    generalize (w1.alloc (.cells #[.int .i64 noEl.kind, .int .i64 noEl.n, .int .i64 noEl.time, .slice none 0 0, .int .i64 noEl.cn] 42)) = X at HBX yB yR yE yN ⊢
    have hnb : W.heap.size + 3 ≤ w1.heap.size := by omega
    generalize w1.heap.size = nb at hnb yN ⊢
    have c0 : X.cell? ⟨W.heap.size, 0, none⟩ = some (.int .i64 w.size) := mem_cells yB 0
    have c1 : X.cell? ⟨W.heap.size, 1, none⟩ = some (.int .i64 w.room) := mem_cells yB 1
    have c2 : X.cell? ⟨W.heap.size, 2, none⟩ = some (.int .i64 w.credits) := mem_cells yB 2
    have c3 : X.cell? ⟨W.heap.size, 3, none⟩ = some (.int .i64 w.next) := mem_cells yB 3
    have c4 : X.cell? ⟨W.heap.size, 4, none⟩ = some (.slice aa w.ahead.length ca) := mem_cells yB 4
    have c5 : X.cell? ⟨W.heap.size, 5, none⟩ = some (.slice aq w.queue.length cq) := mem_cells yB 5
    have c6 : X.cell? ⟨W.heap.size, 6, none⟩ = some (.slice ap w.pk.length cp) := mem_cells yB 6
    have r0 : X.cell? ⟨(W.heap.size + 1), 0, none⟩ = some (.int .i64 0) := mem_cells yR 0
    have r1 : X.cell? ⟨(W.heap.size + 1), 1, none⟩ = some (.int .i64 0) := mem_cells yR 1
    have r2 : X.cell? ⟨(W.heap.size + 1), 2, none⟩ = some (.int .i64 0) := mem_cells yR 2
    have r3 : X.cell? ⟨(W.heap.size + 1), 3, none⟩ = some (.int .i64 0) := mem_cells yR 3
    have r4 : X.cell? ⟨(W.heap.size + 1), 4, none⟩ = some (.slice none 0 0) := mem_cells yR 4
    have r5 : X.cell? ⟨(W.heap.size + 1), 5, none⟩ = some (.slice none 0 0) := mem_cells yR 5
    have r6 : X.cell? ⟨(W.heap.size + 1), 6, none⟩ = some (.slice none 0 0) := mem_cells yR 6
    have e0 : X.cell? ⟨(W.heap.size + 1 + 1), 0, none⟩ = some (.int .i64 0) := mem_cells yE 0
    have e1 : X.cell? ⟨(W.heap.size + 1 + 1), 1, none⟩ = some (.int .i64 0) := mem_cells yE 1
    have e2 : X.cell? ⟨(W.heap.size + 1 + 1), 2, none⟩ = some (.int .i64 0) := mem_cells yE 2
    have e3 : X.cell? ⟨(W.heap.size + 1 + 1), 3, none⟩ = some (.slice none 0 0) := mem_cells yE 3
    have e4 : X.cell? ⟨(W.heap.size + 1 + 1), 4, none⟩ = some (.int .i64 0) := mem_cells yE 4
    have n0 : X.cell? ⟨nb, 0, none⟩ = some (.int .i64 noEl.kind) := mem_cells yN 0
    have n1 : X.cell? ⟨nb, 1, none⟩ = some (.int .i64 noEl.n) := mem_cells yN 1
    have n2 : X.cell? ⟨nb, 2, none⟩ = some (.int .i64 noEl.time) := mem_cells yN 2
    have n3 : X.cell? ⟨nb, 3, none⟩ = some (.slice none 0 0) := mem_cells yN 3
    have n4 : X.cell? ⟨nb, 4, none⟩ = some (.int .i64 noEl.cn) := mem_cells yN 4
    have fR : ∀ o, X.frozen? ⟨W.heap.size + 1, o, none⟩ = false := frozen_cells yR
    have fE : ∀ o, X.frozen? ⟨W.heap.size + 1 + 1, o, none⟩ = false := frozen_cells yE
    have HYR := Lib.hid yR
    have HYE := Lib.hid yE
    clear yB yR yE yN
    go_wp2
    go_region
    go_wp2
    have HS0 := Lib.hid (stores75 HYR.out HYE.out (by omega) (HBX.out) (by omega) (by omega) (.int .i64 w.size) (.int .i64 w.room) (.int .i64 w.credits) (.int .i64 w.next) (.slice aa w.ahead.length ca) (.slice aq w.queue.length cq) (.slice ap w.pk.length cp) (.int .i64 noEl.kind) (.int .i64 noEl.n) (.int .i64 noEl.time) (.slice none 0 0) (.int .i64 noEl.cn))
    show bodyPost _ _ _ _ _ ((store5 (store7 (X) (W.heap.size + 1) (.int .i64 w.size) (.int .i64 w.room) (.int .i64 w.credits) (.int .i64 w.next) (.slice aa w.ahead.length ca) (.slice aq w.queue.length cq) (.slice ap w.pk.length cp)) (W.heap.size + 1 + 1) (.int .i64 noEl.kind) (.int .i64 noEl.n) (.int .i64 noEl.time) (.slice none 0 0) (.int .i64 noEl.cn)).drew)
    generalize (store5 (store7 (X) (W.heap.size + 1) (.int .i64 w.size) (.int .i64 w.room) (.int .i64 w.credits) (.int .i64 w.next) (.slice aa w.ahead.length ca) (.slice aq w.queue.length cq) (.slice ap w.pk.length cp)) (W.heap.size + 1 + 1) (.int .i64 noEl.kind) (.int .i64 noEl.n) (.int .i64 noEl.time) (.slice none 0 0) (.int .i64 noEl.cn)).drew = w2 at HS0 ⊢
    obtain ⟨q1, q2, hBz, hks⟩ := HS0.out
    have g0 : w2.cell? ⟨(W.heap.size + 1), 0, none⟩ = some (.int .i64 w.size) := mem_cells q1 0
    have g1 : w2.cell? ⟨(W.heap.size + 1), 1, none⟩ = some (.int .i64 w.room) := mem_cells q1 1
    have g2 : w2.cell? ⟨(W.heap.size + 1), 2, none⟩ = some (.int .i64 w.credits) := mem_cells q1 2
    have g3 : w2.cell? ⟨(W.heap.size + 1), 3, none⟩ = some (.int .i64 w.next) := mem_cells q1 3
    have g4 : w2.cell? ⟨(W.heap.size + 1), 4, none⟩ = some (.slice aa w.ahead.length ca) := mem_cells q1 4
    have g5 : w2.cell? ⟨(W.heap.size + 1), 5, none⟩ = some (.slice aq w.queue.length cq) := mem_cells q1 5
    have g6 : w2.cell? ⟨(W.heap.size + 1), 6, none⟩ = some (.slice ap w.pk.length cp) := mem_cells q1 6
    have d0 : w2.cell? ⟨(W.heap.size + 1 + 1), 0, none⟩ = some (.int .i64 noEl.kind) := mem_cells q2 0
    have d1 : w2.cell? ⟨(W.heap.size + 1 + 1), 1, none⟩ = some (.int .i64 noEl.n) := mem_cells q2 1
    have d2 : w2.cell? ⟨(W.heap.size + 1 + 1), 2, none⟩ = some (.int .i64 noEl.time) := mem_cells q2 2
    have d3 : w2.cell? ⟨(W.heap.size + 1 + 1), 3, none⟩ = some (.slice none 0 0) := mem_cells q2 3
    have d4 : w2.cell? ⟨(W.heap.size + 1 + 1), 4, none⟩ = some (.int .i64 noEl.cn) := mem_cells q2 4
    exact bodyPost_ret (v := .tuple #[.agg #[.int .i64 w.size, .int .i64 w.room, .int .i64 w.credits, .int .i64 w.next, .slice aa w.ahead.length ca, .slice aq w.queue.length cq, .slice ap w.pk.length cp], elV noEl (.slice none 0 0), .int .i64 8]) (by simp [results, Try.results52, go_sem, noEl, g0, g1, g2, g3, g4, g5, g6, d0, d1, d2, d3, d4]) rfl ⟨.inl ⟨HBU.out, rfl⟩, hBz⟩
  · have hmw : M.le (mem w1) := Mem.le_trans HM.out (below_mem (HB2.out.trans (hb.mono HB2.out.size)))
    have hA : Below w1.heap.size w1 (w1.alloc (.cells #[.int .i64 x.kind, .int .i64 x.n, .int .i64 x.time, .slice ar x.row.length cr, .int .i64 x.cn] 42)) := (Below.refl _ _).alloc (Nat.le_refl _) _
    obtain ⟨yB, yR, yE⟩ := HYB.out _ (hb.trans (hA.mono hb.size))
    have HBX := Lib.hid (HB2.out.trans ((hb.trans (hA.mono hb.size)).mono HB2.out.size))
    have yN := heap_alloc_new w1 (.cells #[.int .i64 x.kind, .int .i64 x.n, .int .i64 x.time, .slice ar x.row.length cr, .int .i64 x.cn] 42)
    have HMX := Lib.hid (Mem.le_trans hmw (below_mem hA))
    have HBU := Lib.hid hbuf
    have HRW := Lib.hid hrow
    clear hA hb hbuf hmw hrow hok
    simp only [elV]
    go_upto_region 2 with fail
    generalize (w1.alloc (.cells #[.int .i64 x.kind, .int .i64 x.n, .int .i64 x.time, .slice ar x.row.length cr, .int .i64 x.cn] 42)) = X at HBX HMX yB yR yE yN ⊢
    have hnb : W.heap.size + 3 ≤ w1.heap.size := by omega
    have hnX : w1.heap.size < X.heap.size := (Array.getElem?_eq_some_iff.1 yN).1
    generalize w1.heap.size = nb at hnb hnX yN ⊢
    have HYB2 := Lib.hid yB
    have HYR := Lib.hid yR
    have HYE := Lib.hid yE
    have HYN := Lib.hid yN
    have c0 : X.cell? ⟨W.heap.size, 0, none⟩ = some (.int .i64 w.size) := mem_cells yB 0
    have c1 : X.cell? ⟨W.heap.size, 1, none⟩ = some (.int .i64 w.room) := mem_cells yB 1
    have c2 : X.cell? ⟨W.heap.size, 2, none⟩ = some (.int .i64 w.credits) := mem_cells yB 2
    have c3 : X.cell? ⟨W.heap.size, 3, none⟩ = some (.int .i64 w.next) := mem_cells yB 3
    have c4 : X.cell? ⟨W.heap.size, 4, none⟩ = some (.slice aa w.ahead.length ca) := mem_cells yB 4
    have c5 : X.cell? ⟨W.heap.size, 5, none⟩ = some (.slice aq w.queue.length cq) := mem_cells yB 5
    have c6 : X.cell? ⟨W.heap.size, 6, none⟩ = some (.slice ap w.pk.length cp) := mem_cells yB 6
    have r0 : X.cell? ⟨(W.heap.size + 1), 0, none⟩ = some (.int .i64 0) := mem_cells yR 0
    have r1 : X.cell? ⟨(W.heap.size + 1), 1, none⟩ = some (.int .i64 0) := mem_cells yR 1
    have r2 : X.cell? ⟨(W.heap.size + 1), 2, none⟩ = some (.int .i64 0) := mem_cells yR 2
    have r3 : X.cell? ⟨(W.heap.size + 1), 3, none⟩ = some (.int .i64 0) := mem_cells yR 3
    have r4 : X.cell? ⟨(W.heap.size + 1), 4, none⟩ = some (.slice none 0 0) := mem_cells yR 4
    have r5 : X.cell? ⟨(W.heap.size + 1), 5, none⟩ = some (.slice none 0 0) := mem_cells yR 5
    have r6 : X.cell? ⟨(W.heap.size + 1), 6, none⟩ = some (.slice none 0 0) := mem_cells yR 6
    have e0 : X.cell? ⟨(W.heap.size + 1 + 1), 0, none⟩ = some (.int .i64 0) := mem_cells yE 0
    have e1 : X.cell? ⟨(W.heap.size + 1 + 1), 1, none⟩ = some (.int .i64 0) := mem_cells yE 1
    have e2 : X.cell? ⟨(W.heap.size + 1 + 1), 2, none⟩ = some (.int .i64 0) := mem_cells yE 2
    have e3 : X.cell? ⟨(W.heap.size + 1 + 1), 3, none⟩ = some (.slice none 0 0) := mem_cells yE 3
    have e4 : X.cell? ⟨(W.heap.size + 1 + 1), 4, none⟩ = some (.int .i64 0) := mem_cells yE 4
    have n0 : X.cell? ⟨nb, 0, none⟩ = some (.int .i64 x.kind) := mem_cells yN 0
    have n1 : X.cell? ⟨nb, 1, none⟩ = some (.int .i64 x.n) := mem_cells yN 1
    have n2 : X.cell? ⟨nb, 2, none⟩ = some (.int .i64 x.time) := mem_cells yN 2
    have n3 : X.cell? ⟨nb, 3, none⟩ = some (.slice ar x.row.length cr) := mem_cells yN 3
    have n4 : X.cell? ⟨nb, 4, none⟩ = some (.int .i64 x.cn) := mem_cells yN 4
    have fB : ∀ o, X.frozen? ⟨W.heap.size, o, none⟩ = false := frozen_cells yB
    have fR : ∀ o, X.frozen? ⟨W.heap.size + 1, o, none⟩ = false := frozen_cells yR
    have fE : ∀ o, X.frozen? ⟨W.heap.size + 1 + 1, o, none⟩ = false := frozen_cells yE
    clear yB yR yE yN
    have HHA := Lib.hid hla
    by_cases hah0 : w.ahead = []
    rotate_left
    · obtain ⟨z, ls, hah⟩ : ∃ z ls, w.ahead = z :: ls := by
        cases hh : w.ahead with
        | nil => exact absurd hh hah0
        | cons z ls => exact ⟨z, ls, rfl⟩
      have hzx : z = x := by
        have h := HBU.out
        unfold rbuf at h
        rw [hah, List.cons_append] at h
        injection h
      subst hzx
      have hal : w.ahead.length = ls.length + 1 := by rw [hah]; rfl
      obtain ⟨ga, oa, rfl, _⟩ := slice_at HA.out (k := 0) (by omega)
      have hTA := HA.out
      rw [hah] at hTA
      have HTA := Lib.hid (slice_tail (t := tEl) hTA)
      have HAH := Lib.hid hah
      have htr := fun w2 => tail_run (P := Try.prog) (T := 36) (e := 42) (sz := 5) Try.underlying36 (by kernel_rfl) ga oa ls.length ca w2
      have hpos : (0 : Int) < ((ls.length + 1 : Nat) : Int) := by omega
      rw [hal] at c4 ⊢
      clear hah hah0 hTA
      go_upto_region 6 with fail
      have hkX : Keeps (fun k => k = W.heap.size) X (X.setCell ⟨W.heap.size, 4, none⟩ (.slice (some (tailA ga oa ca 5)) ls.length (ca - 1))) := keepB 4 _
      have zB : (X.setCell ⟨W.heap.size, 4, none⟩ (.slice (some (tailA ga oa ca 5)) ls.length (ca - 1))).heap[W.heap.size]? = some (.cells #[.int .i64 w.size, .int .i64 w.room, .int .i64 w.credits, .int .i64 w.next, .slice (some (tailA ga oa ca 5)) ls.length (ca - 1), .slice aq w.queue.length cq, .slice ap w.pk.length cp] 56 (0, 0)) := by have h := HYB2.out; rw [hal] at h; exact set_block h
      have zR := (hkX.block (W.heap.size + 1) (Array.getElem?_eq_some_iff.1 HYR.out).1 (by omega)).trans HYR.out
      have zE := (hkX.block (W.heap.size + 1 + 1) (Array.getElem?_eq_some_iff.1 HYE.out).1 (by omega)).trans HYE.out
      have zN := (hkX.block nb hnX (by omega)).trans HYN.out
      have hBX2 := Keeps.belowStep HBX.out hkX (fun k hk => by omega) HBX.out.size
      clear htr c0 c1 c2 c3 c4 c5 c6 r0 r1 r2 r3 r4 r5 r6 e0 e1 e2 e3 e4 n0 n1 n2 n3 n4 fB fR fE hkX
      generalize (X.setCell ⟨W.heap.size, 4, none⟩ (.slice (some (tailA ga oa ca 5)) ls.length (ca - 1))) = X2 at zB zR zE zN hBX2 ⊢
      have HBX2 := Lib.hid hBX2
      have HZR := Lib.hid zR
      have HZE := Lib.hid zE
      have c0 : X2.cell? ⟨W.heap.size, 0, none⟩ = some (.int .i64 w.size) := mem_cells zB 0
      have c1 : X2.cell? ⟨W.heap.size, 1, none⟩ = some (.int .i64 w.room) := mem_cells zB 1
      have c2 : X2.cell? ⟨W.heap.size, 2, none⟩ = some (.int .i64 w.credits) := mem_cells zB 2
      have c3 : X2.cell? ⟨W.heap.size, 3, none⟩ = some (.int .i64 w.next) := mem_cells zB 3
      have c4 : X2.cell? ⟨W.heap.size, 4, none⟩ = some (.slice (some (tailA ga oa ca 5)) ls.length (ca - 1)) := mem_cells zB 4
      have c5 : X2.cell? ⟨W.heap.size, 5, none⟩ = some (.slice aq w.queue.length cq) := mem_cells zB 5
      have c6 : X2.cell? ⟨W.heap.size, 6, none⟩ = some (.slice ap w.pk.length cp) := mem_cells zB 6
      have r0 : X2.cell? ⟨(W.heap.size + 1), 0, none⟩ = some (.int .i64 0) := mem_cells zR 0
      have r1 : X2.cell? ⟨(W.heap.size + 1), 1, none⟩ = some (.int .i64 0) := mem_cells zR 1
      have r2 : X2.cell? ⟨(W.heap.size + 1), 2, none⟩ = some (.int .i64 0) := mem_cells zR 2
      have r3 : X2.cell? ⟨(W.heap.size + 1), 3, none⟩ = some (.int .i64 0) := mem_cells zR 3
      have r4 : X2.cell? ⟨(W.heap.size + 1), 4, none⟩ = some (.slice none 0 0) := mem_cells zR 4
      have r5 : X2.cell? ⟨(W.heap.size + 1), 5, none⟩ = some (.slice none 0 0) := mem_cells zR 5
      have r6 : X2.cell? ⟨(W.heap.size + 1), 6, none⟩ = some (.slice none 0 0) := mem_cells zR 6
      have e0 : X2.cell? ⟨(W.heap.size + 1 + 1), 0, none⟩ = some (.int .i64 0) := mem_cells zE 0
      have e1 : X2.cell? ⟨(W.heap.size + 1 + 1), 1, none⟩ = some (.int .i64 0) := mem_cells zE 1
      have e2 : X2.cell? ⟨(W.heap.size + 1 + 1), 2, none⟩ = some (.int .i64 0) := mem_cells zE 2
      have e3 : X2.cell? ⟨(W.heap.size + 1 + 1), 3, none⟩ = some (.slice none 0 0) := mem_cells zE 3
      have e4 : X2.cell? ⟨(W.heap.size + 1 + 1), 4, none⟩ = some (.int .i64 0) := mem_cells zE 4
      have n0 : X2.cell? ⟨nb, 0, none⟩ = some (.int .i64 z.kind) := mem_cells zN 0
      have n1 : X2.cell? ⟨nb, 1, none⟩ = some (.int .i64 z.n) := mem_cells zN 1
      have n2 : X2.cell? ⟨nb, 2, none⟩ = some (.int .i64 z.time) := mem_cells zN 2
      have n3 : X2.cell? ⟨nb, 3, none⟩ = some (.slice ar z.row.length cr) := mem_cells zN 3
      have n4 : X2.cell? ⟨nb, 4, none⟩ = some (.int .i64 z.cn) := mem_cells zN 4
      have fR : ∀ o, X2.frozen? ⟨W.heap.size + 1, o, none⟩ = false := frozen_cells zR
      have fE : ∀ o, X2.frozen? ⟨W.heap.size + 1 + 1, o, none⟩ = false := frozen_cells zE
      clear zB zR zE zN hBX2
      go_wp2
      go_region
      go_wp2
      have HS0 := Lib.hid (stores75 HZR.out HZE.out (by omega) (HBX2.out) (by omega) (by omega) (.int .i64 w.size) (.int .i64 w.room) (.int .i64 w.credits) (.int .i64 w.next) (.slice (some (tailA ga oa ca 5)) ls.length (ca - 1)) (.slice aq w.queue.length cq) (.slice ap w.pk.length cp) (.int .i64 z.kind) (.int .i64 z.n) (.int .i64 z.time) (.slice ar z.row.length cr) (.int .i64 z.cn))
      show bodyPost _ _ _ _ _ ((store5 (store7 (X2) (W.heap.size + 1) (.int .i64 w.size) (.int .i64 w.room) (.int .i64 w.credits) (.int .i64 w.next) (.slice (some (tailA ga oa ca 5)) ls.length (ca - 1)) (.slice aq w.queue.length cq) (.slice ap w.pk.length cp)) (W.heap.size + 1 + 1) (.int .i64 z.kind) (.int .i64 z.n) (.int .i64 z.time) (.slice ar z.row.length cr) (.int .i64 z.cn)).drew)
      generalize (store5 (store7 (X2) (W.heap.size + 1) (.int .i64 w.size) (.int .i64 w.room) (.int .i64 w.credits) (.int .i64 w.next) (.slice (some (tailA ga oa ca 5)) ls.length (ca - 1)) (.slice aq w.queue.length cq) (.slice ap w.pk.length cp)) (W.heap.size + 1 + 1) (.int .i64 z.kind) (.int .i64 z.n) (.int .i64 z.time) (.slice ar z.row.length cr) (.int .i64 z.cn)).drew = w2 at HS0 ⊢
      obtain ⟨q1, q2, hBz, hks⟩ := HS0.out
      have g0 : w2.cell? ⟨(W.heap.size + 1), 0, none⟩ = some (.int .i64 w.size) := mem_cells q1 0
      have g1 : w2.cell? ⟨(W.heap.size + 1), 1, none⟩ = some (.int .i64 w.room) := mem_cells q1 1
      have g2 : w2.cell? ⟨(W.heap.size + 1), 2, none⟩ = some (.int .i64 w.credits) := mem_cells q1 2
      have g3 : w2.cell? ⟨(W.heap.size + 1), 3, none⟩ = some (.int .i64 w.next) := mem_cells q1 3
      have g4 : w2.cell? ⟨(W.heap.size + 1), 4, none⟩ = some (.slice (some (tailA ga oa ca 5)) ls.length (ca - 1)) := mem_cells q1 4
      have g5 : w2.cell? ⟨(W.heap.size + 1), 5, none⟩ = some (.slice aq w.queue.length cq) := mem_cells q1 5
      have g6 : w2.cell? ⟨(W.heap.size + 1), 6, none⟩ = some (.slice ap w.pk.length cp) := mem_cells q1 6
      have d0 : w2.cell? ⟨(W.heap.size + 1 + 1), 0, none⟩ = some (.int .i64 z.kind) := mem_cells q2 0
      have d1 : w2.cell? ⟨(W.heap.size + 1 + 1), 1, none⟩ = some (.int .i64 z.n) := mem_cells q2 1
      have d2 : w2.cell? ⟨(W.heap.size + 1 + 1), 2, none⟩ = some (.int .i64 z.time) := mem_cells q2 2
      have d3 : w2.cell? ⟨(W.heap.size + 1 + 1), 3, none⟩ = some (.slice ar z.row.length cr) := mem_cells q2 3
      have d4 : w2.cell? ⟨(W.heap.size + 1 + 1), 4, none⟩ = some (.int .i64 z.cn) := mem_cells q2 4
      exact bodyPost_ret (v := .tuple #[.agg #[.int .i64 w.size, .int .i64 w.room, .int .i64 w.credits, .int .i64 w.next, .slice (some (tailA ga oa ca 5)) ls.length (ca - 1), .slice aq w.queue.length cq, .slice ap w.pk.length cp], elV z (.slice ar z.row.length cr), .int .i64 0]) (by simp [results, Try.results52, go_sem, noEl, g0, g1, g2, g3, g4, g5, g6, d0, d1, d2, d3, d4]) rfl ⟨.inr (.inl ⟨z, ls, ar, cr, _, HAH.out, rfl, HRW.out, ⟨HW.out.i1, HW.out.i2, HW.out.i3, HW.out.i4, tEls.mono _ _ _ _ (joinM_le HM.out) HTA.out, tEls.mono _ _ _ _ (joinM_le HM.out) HW.out.hq, (tSlice tRP).mono _ _ _ _ (joinM_le HM.out) HW.out.hp⟩⟩), hBz⟩

    · obtain ⟨y, ys, xs2, hpk, hdl, hels⟩ : ∃ y ys xs2, w.pk = y :: ys ∧ y.dl = true ∧ y.els = x :: xs2 := by
        have h := HBU.out
        unfold rbuf at h
        rw [hah0, List.nil_append] at h
        cases hpk : w.pk with
        | nil => rw [hpk] at h; simp at h
        | cons y ys =>
          rw [hpk] at h
          cases hd : y.dl with
          | false => rw [List.takeWhile_cons_of_neg (by simp [hd])] at h; simp at h
          | true =>
            rw [List.takeWhile_cons_of_pos hd, List.flatMap_cons] at h
            cases he : y.els with
            | nil => exact absurd he (hne y (by rw [hpk]; simp))
            | cons x2 xs2 =>
              rw [he, List.cons_append] at h
              injection h with h1 h2
              subst h1
              exact ⟨y, ys, xs2, rfl, hd, he⟩
      have HPK := Lib.hid (And.intro hpk (And.intro hdl hels))
      have HA0 := Lib.hid hah0
      have h00 : ¬ (0 : Int) < (w.ahead.length : Int) := by rw [hah0]; simp
      have hk0 : 0 < w.pk.length := by rw [hpk]; simp
      have HLT := Lib.hid (OwnsO.lit0 (tIn M tRP) X 126)
      have hbA : Below X.heap.size X (X.alloc (.cells #[] 126)) := (Below.refl _ _).alloc (Nat.le_refl _) _
      have HRA := Lib.hid ((tSlice (tIn M tRP)).mono _ _ _ _ (Mem.le_trans HMX.out (below_mem hbA)) (tRPs_in HP.out))
      have HL1 := Lib.hid (show ([] : List RP).length + w.pk.length ≤ maxLen by unfold maxLen; simp; omega)
      have HL2 := Lib.hid (show (([] : List RP).length + w.pk.length) * 40 ≤ 140737488355328 by simp; omega)
      have d6 : (X.alloc (.cells #[] 126)).cell? ⟨W.heap.size, 6, none⟩ = some (.slice ap w.pk.length cp) := mem_cells (alloc_block HYB2.out _) 6
      clear hbA hah0 hpk hdl hels
      go_wp2_with (at_builtin; refine wpList_append_os rfl (.tmp 27) (.tmp 29) 54 rfl (tIn M tRP) (tIn_flat _ _) tRPIn_one Try.underlying54 (infoRP _) rfl (Nat.succ_pos 2) _ [] w.pk rfl HLT.out _ _ _ rfl rfl HRA.out HL1.out HL2.out ?_)
      intro v3 w3 own3 happ
      have hsz3 : (X.alloc (.cells #[] 126)).heap.size ≤ w3.heap.size := happ.grown.size
      rw [World.size_alloc] at hsz3
      have hold : ∀ k, k < X.heap.size → w3.heap[k]? = X.heap[k]? := fun k hk => (happ.grown.block k (by simp; omega) (fun e => by simp [Value.ownBlock] at e; omega)).trans (((Below.refl X.heap.size X).alloc (Nat.le_refl _) _).block k hk)
      have hv3 : ∀ k, v3.ownBlock = some k → X.heap.size ≤ k := fun k e => by
        rcases happ.block with g | g
        · rw [g] at e; simp [Value.ownBlock] at e; omega
        · have := g k e; simp at this; omega
      have hszX := HBX.out.size
      have yB := (hold W.heap.size (by omega)).trans HYB2.out
      have yR := (hold (W.heap.size + 1) (by omega)).trans HYR.out
      have yE := (hold (W.heap.size + 1 + 1) (by omega)).trans HYE.out
      have yN := (hold nb hnX).trans HYN.out
      have HB3 := Lib.hid (show Below W.heap.size W w3 from ⟨happ.grown.os.trans HBX.out.os, happ.grown.tape.trans HBX.out.tape, happ.grown.output.trans HBX.out.output, by have := HBX.out.size; omega, fun k hk => (hold k (by have := HBX.out.size; omega)).trans (HBX.out.block k hk)⟩)
      try rw [List.nil_append] at own3
      have hpk := HPK.out.1
      have hels := HPK.out.2.2
      have hlen : w.pk.length = ys.length + 1 := by rw [hpk]; rfl
      rw [hpk] at own3
      obtain ⟨g, off, cap, cs, rfl, hc1, hc2, ⟨s, rfl, hin, hr⟩, h5⟩ := own3.at (k := 0) (by simp)
      simp only [List.getElem_cons_zero] at hin hr h5
      rw [hels] at hr
      obtain ⟨ae, ce, rfl, hle1, hle2, hre⟩ := slice_form hr
      obtain ⟨ge, oe, rfl, _⟩ := slice_at hre (k := 0) (by simp)
      have hce : ce ≤ 9223372036854775807 := by unfold maxLen at hle2; exact hle2
      have hcap : cap ≤ 9223372036854775807 := by unfold maxLen at hc2; exact hc2
      simp only [List.length_cons] at own3 h5 hc1 hle1
      have hg : X.heap.size ≤ g := hv3 g rfl
      have hX0 : Keeps (fun k => k = W.heap.size) w3 (w3.setCell ⟨W.heap.size, 6, none⟩ (.slice (some ⟨g, off, none⟩) (ys.length + 1) cap)) := keepB 6 _
      have own4 := own_after own3 hX0 (fun k e => by have := hv3 k e; omega)
      have own5 : OwnsO (tIn M tRP) ((w3.setCell ⟨W.heap.size, 6, none⟩ (.slice (some ⟨g, off, none⟩) (ys.length + 1) cap)).setCell ⟨g, off + 1, none⟩ (.slice (some (tailA ge oe ce 5)) xs2.length (ce - 1))) 126 (.slice (some ⟨g, off, none⟩) (ys.length + 1) cap) ({ y with els := xs2 } :: ys) := by
        have h := own4.set (k := 0) (j := 1) (u := .slice (some (tailA ge oe ce 5)) xs2.length (ce - 1)) (y := { y with els := xs2 }) (by simp) (show 1 < 3 by decide) (fun cs ⟨s, e, i, r⟩ => ⟨_, by rw [e]; rfl, i, slice_tail (t := tEl) hre⟩)
        rw [show off + (0 * (tIn M tRP).sz + 1) = off + 1 from by omega] at h
        exact h
      obtain ⟨cg, hcg⟩ := own4.cells g rfl
      have HOW := Lib.hid (And.intro own5 (And.intro hg (show g ≠ W.heap.size ∧ g ≠ W.heap.size + 1 ∧ g ≠ W.heap.size + 1 + 1 ∧ g ≠ nb by omega)))
      have fg : ∀ o, (w3.setCell ⟨W.heap.size, 6, none⟩ (.slice (some ⟨g, off, none⟩) (ys.length + 1) cap)).frozen? ⟨g, o, none⟩ = false := frozen_cells hcg
      have eg : (w3.setCell ⟨W.heap.size, 6, none⟩ (.slice (some ⟨g, off, none⟩) (ys.length + 1) cap)).cell? ⟨g, off + 1, none⟩ = some (.slice (some ⟨ge, oe, none⟩) (xs2.length + 1) ce) := by
        have := (mem_of_block (hX0.block g (by have := own3.lt g rfl; omega) (by omega)) _).trans (h5 1 _ rfl)
        simpa [mem] using this
      have yBX : (w3.setCell ⟨W.heap.size, 6, none⟩ (.slice (some ⟨g, off, none⟩) (ys.length + 1) cap)).heap[W.heap.size]? = some (.cells #[.int .i64 w.size, .int .i64 w.room, .int .i64 w.credits, .int .i64 w.next, .slice aa w.ahead.length ca, .slice aq w.queue.length cq, .slice (some ⟨g, off, none⟩) (ys.length + 1) cap] 56 (0, 0)) := set_block yB
      have yRX := (hX0.block (W.heap.size + 1) (Array.getElem?_eq_some_iff.1 yR).1 (by omega)).trans yR
      have yEX := (hX0.block (W.heap.size + 1 + 1) (Array.getElem?_eq_some_iff.1 yE).1 (by omega)).trans yE
      have yNX := (hX0.block nb (Array.getElem?_eq_some_iff.1 yN).1 (by omega)).trans yN
      have HBX1 := Lib.hid (Keeps.belowStep HB3.out hX0 (fun k hk => by omega) HB3.out.size)
      have e6 : w3.cell? ⟨W.heap.size, 6, none⟩ = some (.slice ap w.pk.length cp) := mem_cells yB 6
      have f6 : w3.frozen? ⟨W.heap.size, 6, none⟩ = false := frozen_cells yB 6
      have htr := fun w2 => tail_run (P := Try.prog) (T := 36) (e := 42) (sz := 5) Try.underlying36 (by kernel_rfl) ge oe xs2.length ce w2
      clear own3 own4 own5 happ hold hv3 hX0 yB yR yE yN hr hre h5 hcg hc2 hle2 HRA HL1 HL2 HLT c0 c1 c2 c3 c4 c5 c6 r0 r1 r2 r3 r4 r5 r6 e0 e1 e2 e3 e4 n0 n1 n2 n3 n4 fB fR fE d6 hpk hels h00 hin
      try rw [List.nil_append]
      simp only [hlen]
      go_upto_region 8 with fail
      have HYX := Lib.hid (And.intro yBX (And.intro yRX (And.intro yEX yNX)))
      generalize (w3.setCell ⟨W.heap.size, 6, none⟩ (.slice (some ⟨g, off, none⟩) (ys.length + 1) cap)) = X1 at HOW fg eg yBX HYX HBX1 ⊢
      have c6 : X1.cell? ⟨W.heap.size, 6, none⟩ = some (.slice (some ⟨g, off, none⟩) (ys.length + 1) cap) := mem_cells yBX 6
      have hpos : (0 : Int) < ((ys.length + 1 : Nat) : Int) := by omega
      clear e6 f6 yBX yRX yEX yNX
      go_region
      have hkX2 : Keeps (fun k => k = g) X1 (X1.setCell ⟨g, off + 1, none⟩ (.slice (some (tailA ge oe ce 5)) xs2.length (ce - 1))).drew := (keepB _ _).drew
      have o2 : OwnsO (tIn M tRP) (X1.setCell ⟨g, off + 1, none⟩ (.slice (some (tailA ge oe ce 5)) xs2.length (ce - 1))).drew 126 (.slice (some ⟨g, off, none⟩) (ys.length + 1) cap) ({ y with els := xs2 } :: ys) := HOW.out.1.keeps (fun k e => rfl)
      have zB := (hkX2.block W.heap.size (Array.getElem?_eq_some_iff.1 HYX.out.1).1 (fun e => HOW.out.2.2.1 e.symm)).trans HYX.out.1
      have zR := (hkX2.block (W.heap.size + 1) (Array.getElem?_eq_some_iff.1 HYX.out.2.1).1 (fun e => HOW.out.2.2.2.1 e.symm)).trans HYX.out.2.1
      have zE := (hkX2.block (W.heap.size + 1 + 1) (Array.getElem?_eq_some_iff.1 HYX.out.2.2.1).1 (fun e => HOW.out.2.2.2.2.1 e.symm)).trans HYX.out.2.2.1
      have zN := (hkX2.block nb (Array.getElem?_eq_some_iff.1 HYX.out.2.2.2).1 (fun e => HOW.out.2.2.2.2.2 e.symm)).trans HYX.out.2.2.2
      have hBX2 := Keeps.belowStep HBX1.out hkX2 (fun k hk => by have := HOW.out.2.1; omega) HBX1.out.size
      obtain ⟨g', off', cap', cs', hv', _, _, ⟨s', rfl, _, hr'⟩, h5'⟩ := o2.at (k := 0) (by simp)
      simp only [Value.slice.injEq, Option.some.injEq, Addr.mk.injEq, and_true, List.length_cons] at hv'
      obtain ⟨⟨rfl, rfl⟩, _, rfl⟩ := hv'
      simp only [List.getElem_cons_zero] at hr' h5'
      obtain ⟨a', c', rfl, _, hc', _⟩ := slice_form hr'
      have eg2 := h5' 1 _ rfl
      have HO2 := Lib.hid (And.intro o2 (And.intro hBX2 (And.intro zR zE)))
      have HGN := Lib.hid (And.intro HOW.out.2.1 HOW.out.2.2)
      clear hkX2 o2 hBX2 h5' hr' HOW HYX HBX1 fg eg c6 htr
      generalize (X1.setCell ⟨g, off + 1, none⟩ (.slice (some (tailA ge oe ce 5)) xs2.length (ce - 1))).drew = X2 at HO2 zB zR zE zN eg2 ⊢
      have eg2 : X2.cell? ⟨g, off + 1, none⟩ = some (.slice a' xs2.length c') := by simpa [mem] using eg2
      have c0 : X2.cell? ⟨W.heap.size, 0, none⟩ = some (.int .i64 w.size) := mem_cells zB 0
      have c1 : X2.cell? ⟨W.heap.size, 1, none⟩ = some (.int .i64 w.room) := mem_cells zB 1
      have c2 : X2.cell? ⟨W.heap.size, 2, none⟩ = some (.int .i64 w.credits) := mem_cells zB 2
      have c3 : X2.cell? ⟨W.heap.size, 3, none⟩ = some (.int .i64 w.next) := mem_cells zB 3
      have c4 : X2.cell? ⟨W.heap.size, 4, none⟩ = some (.slice aa w.ahead.length ca) := mem_cells zB 4
      have c5 : X2.cell? ⟨W.heap.size, 5, none⟩ = some (.slice aq w.queue.length cq) := mem_cells zB 5
      have c6 : X2.cell? ⟨W.heap.size, 6, none⟩ = some (.slice (some ⟨g, off, none⟩) (ys.length + 1) cap) := mem_cells zB 6
      have r0 : X2.cell? ⟨(W.heap.size + 1), 0, none⟩ = some (.int .i64 0) := mem_cells zR 0
      have r1 : X2.cell? ⟨(W.heap.size + 1), 1, none⟩ = some (.int .i64 0) := mem_cells zR 1
      have r2 : X2.cell? ⟨(W.heap.size + 1), 2, none⟩ = some (.int .i64 0) := mem_cells zR 2
      have r3 : X2.cell? ⟨(W.heap.size + 1), 3, none⟩ = some (.int .i64 0) := mem_cells zR 3
      have r4 : X2.cell? ⟨(W.heap.size + 1), 4, none⟩ = some (.slice none 0 0) := mem_cells zR 4
      have r5 : X2.cell? ⟨(W.heap.size + 1), 5, none⟩ = some (.slice none 0 0) := mem_cells zR 5
      have r6 : X2.cell? ⟨(W.heap.size + 1), 6, none⟩ = some (.slice none 0 0) := mem_cells zR 6
      have e0 : X2.cell? ⟨(W.heap.size + 1 + 1), 0, none⟩ = some (.int .i64 0) := mem_cells zE 0
      have e1 : X2.cell? ⟨(W.heap.size + 1 + 1), 1, none⟩ = some (.int .i64 0) := mem_cells zE 1
      have e2 : X2.cell? ⟨(W.heap.size + 1 + 1), 2, none⟩ = some (.int .i64 0) := mem_cells zE 2
      have e3 : X2.cell? ⟨(W.heap.size + 1 + 1), 3, none⟩ = some (.slice none 0 0) := mem_cells zE 3
      have e4 : X2.cell? ⟨(W.heap.size + 1 + 1), 4, none⟩ = some (.int .i64 0) := mem_cells zE 4
      have n0 : X2.cell? ⟨nb, 0, none⟩ = some (.int .i64 x.kind) := mem_cells zN 0
      have n1 : X2.cell? ⟨nb, 1, none⟩ = some (.int .i64 x.n) := mem_cells zN 1
      have n2 : X2.cell? ⟨nb, 2, none⟩ = some (.int .i64 x.time) := mem_cells zN 2
      have n3 : X2.cell? ⟨nb, 3, none⟩ = some (.slice ar x.row.length cr) := mem_cells zN 3
      have n4 : X2.cell? ⟨nb, 4, none⟩ = some (.int .i64 x.cn) := mem_cells zN 4
      have fB : ∀ o, X2.frozen? ⟨W.heap.size, o, none⟩ = false := frozen_cells zB
      have fR : ∀ o, X2.frozen? ⟨W.heap.size + 1, o, none⟩ = false := frozen_cells zR
      have fE : ∀ o, X2.frozen? ⟨W.heap.size + 1 + 1, o, none⟩ = false := frozen_cells zE
      have HZB := Lib.hid zB
      have HZN := Lib.hid zN
      clear zB zR zE zN
      by_cases hx2 : xs2 = []
      rotate_left
      · have hx2' : ((xs2.length : Int) == 0) = false := by have := List.length_pos_iff.2 hx2; simp; omega
        have HR := Lib.hid (show recvPk w y ys xs2 = { w with pk := { y with els := xs2 } :: ys } from if_neg hx2)
        clear hx2
        go_wp2
        go_region
        go_wp2
        have HS0 := Lib.hid (stores75 HO2.out.2.2.1 HO2.out.2.2.2 (by omega) (HO2.out.2.1) (by omega) (by omega) (.int .i64 w.size) (.int .i64 w.room) (.int .i64 w.credits) (.int .i64 w.next) (.slice aa w.ahead.length ca) (.slice aq w.queue.length cq) (.slice (some ⟨g, off, none⟩) (ys.length + 1) cap) (.int .i64 x.kind) (.int .i64 x.n) (.int .i64 x.time) (.slice ar x.row.length cr) (.int .i64 x.cn))
        show bodyPost _ _ _ _ _ ((store5 (store7 (X2) (W.heap.size + 1) (.int .i64 w.size) (.int .i64 w.room) (.int .i64 w.credits) (.int .i64 w.next) (.slice aa w.ahead.length ca) (.slice aq w.queue.length cq) (.slice (some ⟨g, off, none⟩) (ys.length + 1) cap)) (W.heap.size + 1 + 1) (.int .i64 x.kind) (.int .i64 x.n) (.int .i64 x.time) (.slice ar x.row.length cr) (.int .i64 x.cn)).drew)
        generalize (store5 (store7 (X2) (W.heap.size + 1) (.int .i64 w.size) (.int .i64 w.room) (.int .i64 w.credits) (.int .i64 w.next) (.slice aa w.ahead.length ca) (.slice aq w.queue.length cq) (.slice (some ⟨g, off, none⟩) (ys.length + 1) cap)) (W.heap.size + 1 + 1) (.int .i64 x.kind) (.int .i64 x.n) (.int .i64 x.time) (.slice ar x.row.length cr) (.int .i64 x.cn)).drew = w2 at HS0 ⊢
        obtain ⟨q1, q2, hBz, hks⟩ := HS0.out
        have g0 : w2.cell? ⟨(W.heap.size + 1), 0, none⟩ = some (.int .i64 w.size) := mem_cells q1 0
        have g1 : w2.cell? ⟨(W.heap.size + 1), 1, none⟩ = some (.int .i64 w.room) := mem_cells q1 1
        have g2 : w2.cell? ⟨(W.heap.size + 1), 2, none⟩ = some (.int .i64 w.credits) := mem_cells q1 2
        have g3 : w2.cell? ⟨(W.heap.size + 1), 3, none⟩ = some (.int .i64 w.next) := mem_cells q1 3
        have g4 : w2.cell? ⟨(W.heap.size + 1), 4, none⟩ = some (.slice aa w.ahead.length ca) := mem_cells q1 4
        have g5 : w2.cell? ⟨(W.heap.size + 1), 5, none⟩ = some (.slice aq w.queue.length cq) := mem_cells q1 5
        have g6 : w2.cell? ⟨(W.heap.size + 1), 6, none⟩ = some (.slice (some ⟨g, off, none⟩) (ys.length + 1) cap) := mem_cells q1 6
        have d0 : w2.cell? ⟨(W.heap.size + 1 + 1), 0, none⟩ = some (.int .i64 x.kind) := mem_cells q2 0
        have d1 : w2.cell? ⟨(W.heap.size + 1 + 1), 1, none⟩ = some (.int .i64 x.n) := mem_cells q2 1
        have d2 : w2.cell? ⟨(W.heap.size + 1 + 1), 2, none⟩ = some (.int .i64 x.time) := mem_cells q2 2
        have d3 : w2.cell? ⟨(W.heap.size + 1 + 1), 3, none⟩ = some (.slice ar x.row.length cr) := mem_cells q2 3
        have d4 : w2.cell? ⟨(W.heap.size + 1 + 1), 4, none⟩ = some (.int .i64 x.cn) := mem_cells q2 4
        exact bodyPost_ret (v := .tuple #[.agg #[.int .i64 w.size, .int .i64 w.room, .int .i64 w.credits, .int .i64 w.next, .slice aa w.ahead.length ca, .slice aq w.queue.length cq, .slice (some ⟨g, off, none⟩) (ys.length + 1) cap], elV x (.slice ar x.row.length cr), .int .i64 0]) (by simp [results, Try.results52, go_sem, noEl, g0, g1, g2, g3, g4, g5, g6, d0, d1, d2, d3, d4]) rfl ⟨.inr (.inr ⟨HA0.out, y, ys, x, xs2, ar, cr, .slice (some ⟨g, off, none⟩) (ys.length + 1) cap, HPK.out.1, HPK.out.2.1, HPK.out.2.2, by rw [HR.out], HRW.out, by rw [HR.out]; exact ⟨HW.out.i1, HW.out.i2, HW.out.i3, HW.out.i4, tEls.mono _ _ _ _ (joinM_le HM.out) HW.out.ha, tEls.mono _ _ _ _ (joinM_le HM.out) HW.out.hq, own_join HM.out (HO2.out.1.keeps (fun k e => hks k (HO2.out.1.lt k e) (by cases e; exact HGN.out.2.2.1) (by cases e; exact HGN.out.2.2.2.1))) (fun k e => by cases e; have := HGN.out.1; show W.heap.size ≤ g; omega)⟩⟩), hBz⟩

      · subst hx2
        have HR := Lib.hid (show recvPk w y ys [] = { w with pk := ys, credits := w.credits + 1 } from if_pos rfl)
        have ht := HO2.out.1.tail2 (P := Try.prog) (T := 54) Try.underlying54 (by kernel_rfl)
        have HT2 := Lib.hid (show OwnsO (tIn M tRP) X2 126 (.slice (some (tailA g off cap 3)) ys.length (cap - 1)) ys from ht)
        have htr3 := fun w2 => tail_run (P := Try.prog) (T := 54) (e := 126) (sz := 3) Try.underlying54 (by kernel_rfl) g off ys.length cap w2
        have hcw : inI64 (w.credits + 1) := by unfold inI64; omega
        clear ht
        go_upto_region 12 with fail
        have hk4 : Keeps (fun k => k = W.heap.size) X2 ((X2.setCell ⟨W.heap.size, 6, none⟩ (.slice (some (tailA g off cap 3)) ys.length (cap - 1))).setCell ⟨W.heap.size, 2, none⟩ (.int .i64 (w.credits + 1))) := keep1 (keepB _ _) _ _
        have zB : ((X2.setCell ⟨W.heap.size, 6, none⟩ (.slice (some (tailA g off cap 3)) ys.length (cap - 1))).setCell ⟨W.heap.size, 2, none⟩ (.int .i64 (w.credits + 1))).heap[W.heap.size]? = some (.cells #[.int .i64 w.size, .int .i64 w.room, .int .i64 (w.credits + 1), .int .i64 w.next, .slice aa w.ahead.length ca, .slice aq w.queue.length cq, .slice (some (tailA g off cap 3)) ys.length (cap - 1)] 56 (0, 0)) := set_block (set_block HZB.out)
        have zR := (hk4.block (W.heap.size + 1) (Array.getElem?_eq_some_iff.1 HO2.out.2.2.1).1 (by omega)).trans HO2.out.2.2.1
        have zE := (hk4.block (W.heap.size + 1 + 1) (Array.getElem?_eq_some_iff.1 HO2.out.2.2.2).1 (by omega)).trans HO2.out.2.2.2
        have zN := (hk4.block nb (Array.getElem?_eq_some_iff.1 HZN.out).1 (by omega)).trans HZN.out
        have o4 := own_after HT2.out hk4 (fun k e => by
          have h : g = k := by simpa [Value.ownBlock, tailA_block] using e
          rw [← h]; exact HGN.out.2.1)
        have hB4 := Keeps.belowStep HO2.out.2.1 hk4 (fun k hk => by omega) HO2.out.2.1.size
        clear c0 c1 c2 c3 c4 c5 c6 r0 r1 r2 r3 r4 r5 r6 e0 e1 e2 e3 e4 n0 n1 n2 n3 n4 fB fR fE eg2 htr3 hk4
        generalize ((X2.setCell ⟨W.heap.size, 6, none⟩ (.slice (some (tailA g off cap 3)) ys.length (cap - 1))).setCell ⟨W.heap.size, 2, none⟩ (.int .i64 (w.credits + 1))) = X4 at zB zR zE zN o4 hB4 ⊢
        have HO4 := Lib.hid (And.intro o4 (And.intro hB4 (And.intro zR zE)))
        have c0 : X4.cell? ⟨W.heap.size, 0, none⟩ = some (.int .i64 w.size) := mem_cells zB 0
        have c1 : X4.cell? ⟨W.heap.size, 1, none⟩ = some (.int .i64 w.room) := mem_cells zB 1
        have c2 : X4.cell? ⟨W.heap.size, 2, none⟩ = some (.int .i64 (w.credits + 1)) := mem_cells zB 2
        have c3 : X4.cell? ⟨W.heap.size, 3, none⟩ = some (.int .i64 w.next) := mem_cells zB 3
        have c4 : X4.cell? ⟨W.heap.size, 4, none⟩ = some (.slice aa w.ahead.length ca) := mem_cells zB 4
        have c5 : X4.cell? ⟨W.heap.size, 5, none⟩ = some (.slice aq w.queue.length cq) := mem_cells zB 5
        have c6 : X4.cell? ⟨W.heap.size, 6, none⟩ = some (.slice (some (tailA g off cap 3)) ys.length (cap - 1)) := mem_cells zB 6
        have r0 : X4.cell? ⟨(W.heap.size + 1), 0, none⟩ = some (.int .i64 0) := mem_cells zR 0
        have r1 : X4.cell? ⟨(W.heap.size + 1), 1, none⟩ = some (.int .i64 0) := mem_cells zR 1
        have r2 : X4.cell? ⟨(W.heap.size + 1), 2, none⟩ = some (.int .i64 0) := mem_cells zR 2
        have r3 : X4.cell? ⟨(W.heap.size + 1), 3, none⟩ = some (.int .i64 0) := mem_cells zR 3
        have r4 : X4.cell? ⟨(W.heap.size + 1), 4, none⟩ = some (.slice none 0 0) := mem_cells zR 4
        have r5 : X4.cell? ⟨(W.heap.size + 1), 5, none⟩ = some (.slice none 0 0) := mem_cells zR 5
        have r6 : X4.cell? ⟨(W.heap.size + 1), 6, none⟩ = some (.slice none 0 0) := mem_cells zR 6
        have e0 : X4.cell? ⟨(W.heap.size + 1 + 1), 0, none⟩ = some (.int .i64 0) := mem_cells zE 0
        have e1 : X4.cell? ⟨(W.heap.size + 1 + 1), 1, none⟩ = some (.int .i64 0) := mem_cells zE 1
        have e2 : X4.cell? ⟨(W.heap.size + 1 + 1), 2, none⟩ = some (.int .i64 0) := mem_cells zE 2
        have e3 : X4.cell? ⟨(W.heap.size + 1 + 1), 3, none⟩ = some (.slice none 0 0) := mem_cells zE 3
        have e4 : X4.cell? ⟨(W.heap.size + 1 + 1), 4, none⟩ = some (.int .i64 0) := mem_cells zE 4
        have n0 : X4.cell? ⟨nb, 0, none⟩ = some (.int .i64 x.kind) := mem_cells zN 0
        have n1 : X4.cell? ⟨nb, 1, none⟩ = some (.int .i64 x.n) := mem_cells zN 1
        have n2 : X4.cell? ⟨nb, 2, none⟩ = some (.int .i64 x.time) := mem_cells zN 2
        have n3 : X4.cell? ⟨nb, 3, none⟩ = some (.slice ar x.row.length cr) := mem_cells zN 3
        have n4 : X4.cell? ⟨nb, 4, none⟩ = some (.int .i64 x.cn) := mem_cells zN 4
        have fR : ∀ o, X4.frozen? ⟨W.heap.size + 1, o, none⟩ = false := frozen_cells zR
        have fE : ∀ o, X4.frozen? ⟨W.heap.size + 1 + 1, o, none⟩ = false := frozen_cells zE
        clear zB zR zE zN o4 hB4
        go_wp2
        go_region
        go_wp2
        have HS0 := Lib.hid (stores75 HO4.out.2.2.1 HO4.out.2.2.2 (by omega) (HO4.out.2.1) (by omega) (by omega) (.int .i64 w.size) (.int .i64 w.room) (.int .i64 (w.credits + 1)) (.int .i64 w.next) (.slice aa w.ahead.length ca) (.slice aq w.queue.length cq) (.slice (some (tailA g off cap 3)) ys.length (cap - 1)) (.int .i64 x.kind) (.int .i64 x.n) (.int .i64 x.time) (.slice ar x.row.length cr) (.int .i64 x.cn))
        show bodyPost _ _ _ _ _ ((store5 (store7 (X4) (W.heap.size + 1) (.int .i64 w.size) (.int .i64 w.room) (.int .i64 (w.credits + 1)) (.int .i64 w.next) (.slice aa w.ahead.length ca) (.slice aq w.queue.length cq) (.slice (some (tailA g off cap 3)) ys.length (cap - 1))) (W.heap.size + 1 + 1) (.int .i64 x.kind) (.int .i64 x.n) (.int .i64 x.time) (.slice ar x.row.length cr) (.int .i64 x.cn)).drew)
        generalize (store5 (store7 (X4) (W.heap.size + 1) (.int .i64 w.size) (.int .i64 w.room) (.int .i64 (w.credits + 1)) (.int .i64 w.next) (.slice aa w.ahead.length ca) (.slice aq w.queue.length cq) (.slice (some (tailA g off cap 3)) ys.length (cap - 1))) (W.heap.size + 1 + 1) (.int .i64 x.kind) (.int .i64 x.n) (.int .i64 x.time) (.slice ar x.row.length cr) (.int .i64 x.cn)).drew = w2 at HS0 ⊢
        obtain ⟨q1, q2, hBz, hks⟩ := HS0.out
        have g0 : w2.cell? ⟨(W.heap.size + 1), 0, none⟩ = some (.int .i64 w.size) := mem_cells q1 0
        have g1 : w2.cell? ⟨(W.heap.size + 1), 1, none⟩ = some (.int .i64 w.room) := mem_cells q1 1
        have g2 : w2.cell? ⟨(W.heap.size + 1), 2, none⟩ = some (.int .i64 (w.credits + 1)) := mem_cells q1 2
        have g3 : w2.cell? ⟨(W.heap.size + 1), 3, none⟩ = some (.int .i64 w.next) := mem_cells q1 3
        have g4 : w2.cell? ⟨(W.heap.size + 1), 4, none⟩ = some (.slice aa w.ahead.length ca) := mem_cells q1 4
        have g5 : w2.cell? ⟨(W.heap.size + 1), 5, none⟩ = some (.slice aq w.queue.length cq) := mem_cells q1 5
        have g6 : w2.cell? ⟨(W.heap.size + 1), 6, none⟩ = some (.slice (some (tailA g off cap 3)) ys.length (cap - 1)) := mem_cells q1 6
        have d0 : w2.cell? ⟨(W.heap.size + 1 + 1), 0, none⟩ = some (.int .i64 x.kind) := mem_cells q2 0
        have d1 : w2.cell? ⟨(W.heap.size + 1 + 1), 1, none⟩ = some (.int .i64 x.n) := mem_cells q2 1
        have d2 : w2.cell? ⟨(W.heap.size + 1 + 1), 2, none⟩ = some (.int .i64 x.time) := mem_cells q2 2
        have d3 : w2.cell? ⟨(W.heap.size + 1 + 1), 3, none⟩ = some (.slice ar x.row.length cr) := mem_cells q2 3
        have d4 : w2.cell? ⟨(W.heap.size + 1 + 1), 4, none⟩ = some (.int .i64 x.cn) := mem_cells q2 4
        exact bodyPost_ret (v := .tuple #[.agg #[.int .i64 w.size, .int .i64 w.room, .int .i64 (w.credits + 1), .int .i64 w.next, .slice aa w.ahead.length ca, .slice aq w.queue.length cq, .slice (some (tailA g off cap 3)) ys.length (cap - 1)], elV x (.slice ar x.row.length cr), .int .i64 0]) (by simp [results, Try.results52, go_sem, noEl, g0, g1, g2, g3, g4, g5, g6, d0, d1, d2, d3, d4]) rfl ⟨.inr (.inr ⟨HA0.out, y, ys, x, [], ar, cr, .slice (some (tailA g off cap 3)) ys.length (cap - 1), HPK.out.1, HPK.out.2.1, HPK.out.2.2, by rw [HR.out], HRW.out, by rw [HR.out]; exact ⟨HW.out.i1, HW.out.i2, hcw, HW.out.i4, tEls.mono _ _ _ _ (joinM_le HM.out) HW.out.ha, tEls.mono _ _ _ _ (joinM_le HM.out) HW.out.hq, own_join HM.out (HO4.out.1.keeps (fun k e => by have h : g = k := (by simpa [Value.ownBlock, tailA_block] using e); subst h; exact hks g (HO4.out.1.lt g e) HGN.out.2.2.1 HGN.out.2.2.2.1)) (fun k e => by have h : g = k := (by simpa [Value.ownBlock, tailA_block] using e); have := HGN.out.1; omega)⟩⟩), hBz⟩

end Go.Proofs.Ytfkphdmnelchmaa
/- The reference's wire: Put. -/
namespace Go.Proofs.Ytfkphdmnelchmaa
open Go.RowKit Go.Maps

section
variable {P : Program}
theorem step_append_os {α : Type} {ops : Array Oper} {o : Oper} {a : Act} {w : World} {K : Act → World → Prop} {Q : Exit → Act → World → Prop} {E : Prop} (hgd : o.guard = none) (s x : Operand) (T : TypeId)
    (ho : o.op = .call { callee := .builtin .append, args := #[s, x], argTypes := #[T, T] }) (t : Ty α) (hf : t.flat) (hone : ∀ m cs x, t.rv m cs x → ∀ u ∈ cs, u.oneCell' = true) {e : TypeId} {z : Value} {bytes : Nat} (hT : P.underlying T = some (.slice e))
    (hinf : (P.info? e).map (fun i => (i.zero, i.size, i.bytes)) = some (some z, t.sz, bytes)) (hzs : z.cells.size = t.sz) (hsz : 0 < t.sz) (v : Value) (xs ys : List α) (hs : a.eval s = v) (hown : OwnsO t w e v xs)
    (ad : Option Addr) (n c : Nat) (hx : a.eval x = .slice ad n c) (hn : n = ys.length) (hy : (tSlice t).rv (mem w) [.slice ad n c] ys) (h63 : xs.length + ys.length ≤ maxLen) (hbytes : (xs.length + ys.length) * bytes ≤ 140737488355328)
    (h : ∀ v' w', OwnsO t w' e v' (xs ++ ys) → AppAt w w' v xs.length ys.length v' → K (a.put o.dst v') w') :
    if Region.wanted o (yielded ops a.tmps) = true then Oper.wp P o a w K Q else E := by
  have hw : Region.wanted o (yielded ops a.tmps) = true := by simp [Region.wanted, hgd]
  rw [if_pos hw]
  subst hn
  obtain ⟨v', w', hr, h2, h3⟩ := run_append_os (P := P) hf hone w T o.type hT hinf hzs hsz v xs ys hown ad c hy h63 hbytes
  unfold Oper.wp execOp
  simp only [ho, resolve, invoke, builtin, Sem.run_bind, Sem.run_pure, Result.andThen_ok, List.map_toArray, List.map_cons, List.map_nil, hs, hx, hr]
  exact h v' w' h2 h3
end
theorem at_keep {wA w5 : World} {nb n m : Nat} {v v5 : Value} {cs : List Value} (h : At (mem wA) nb 0 cs) (happ : AppAt wA w5 v n m v5) (hne : v.ownBlock ≠ some nb) : At (mem w5) nb 0 cs := fun j u e => (mem_of_block (happ.grown.block nb (mem_lt (h j u e)) (fun e2 => hne e2.symm)) _).trans (h j u e)
theorem at_drew {w : World} {b o : Nat} {cs : List Value} (h : At (mem w) b o cs) : At (mem w.drew) b o cs := fun j u e => h j u e
theorem lit0_at {α : Type} (t : Ty α) (w : World) (T : TypeId) (o : Obj) : OwnsO t ((w.alloc o).alloc (.cells #[] T)) T (.slice (some ⟨w.heap.size + 1, 0, none⟩) 0 0) [] := by
  have h := OwnsO.lit0 t (w.alloc o) T
  rwa [World.size_alloc] at h
theorem app_below {Z wA w5 : World} {n m : Nat} {v v5 : Value} (hZ : Below Z.heap.size Z wA) (happ : AppAt wA w5 v n m v5) (hv : ∀ k, v.ownBlock = some k → Z.heap.size ≤ k) : Below Z.heap.size Z w5 ∧ ∀ k, v5.ownBlock = some k → Z.heap.size ≤ k :=
  ⟨hZ.grown happ.grown hZ.size (fun k e => hv k e), fun k e => by
    rcases happ.block with g | g
    · exact hv k (g ▸ e)
    · exact Nat.le_trans hZ.size (g k e)⟩

def RPut (M : Mem) (W : World) (w : RW) (a q p : Value) (x : El) (e : Ending) (W' : World) : Prop :=
  (validEl x = false ∧ e = .returned (.tuple #[wV w a q p, .int .i64 1])) ∨ (validEl x = true ∧ (rcont w).length = 4000 ∧ e = .returned (.tuple #[wV w a q p, .int .i64 4])) ∨
  (validEl x = true ∧ (rcont w).length ≠ 4000 ∧ ∃ q', e = .returned (.tuple #[wV { w with queue := w.queue ++ [x] } a q' p, .int .i64 0]) ∧ RwAt (joinM M W W') { w with queue := w.queue ++ [x] } a q' p)
set_option maxRecDepth 100000 in
set_option maxHeartbeats 40000000 in
theorem refPut_any (w : RW) (a q p : Value) (M : Mem) (W : World) (hM : M.le (mem W)) (h : RwAt M w a q p) (hl : (rcont w).length ≤ 100000) (x : El) (s : Value) (hx : x.ok) (hs : tRow.rv M [s] x.row) : Calls Try.prog 48 #[wV w a q p, elV x s] W fun e W' => RPut M W w a q p x e W' ∧ Below W.heap.size W W' := by
  have HF := Lib.hid (fun (wq : World) (hq : Below W.heap.size W wq) => refContents_any w a q p M wq (Mem.le_trans hM (below_mem hq)) h hl)
  have HV := Lib.hid (fun (wq : World) (hq : Below W.heap.size W wq) => refValidEl_any x s wq (tRow.mono _ _ _ _ (Mem.le_trans hM (below_mem hq)) hs))
  obtain ⟨ax, cx, rfl, _, _, hs⟩ := slice_form hs
  have hal : w.queue.length ≤ 100000 := by unfold rcont at hl; simp only [List.length_append] at hl; omega
  have HX := Lib.hid (show (tIn M tEl).rv noMem [.int .i64 x.kind, .int .i64 x.n, .int .i64 x.time, .slice ax x.row.length cx, .int .i64 x.cn] x from ⟨_, rfl, ⟨hx.k, hx.n, hx.t, hx.c⟩, hs⟩)
  clear hs hl hx
  obtain ⟨aa, ca, rfl, hla, hma, hra⟩ := slice_form h.ha
  obtain ⟨aq, cq, rfl, hlq, hmq, hrq⟩ := slice_form h.hq
  obtain ⟨ap, cp, rfl, hlp, hmp, hrp⟩ := slice_form h.hp
  have hca : ca ≤ 9223372036854775807 := by unfold maxLen at hma; exact hma
  have hcq : cq ≤ 9223372036854775807 := by unfold maxLen at hmq; exact hmq
  have hcp : cp ≤ 9223372036854775807 := by unfold maxLen at hmp; exact hmp
  have HA := Lib.hid hra
  have HQ := Lib.hid hrq
  have HP := Lib.hid hrp
  have HW := Lib.hid h
  have HM := Lib.hid hM
  clear hma hmq hmp hra hrq hrp h hM
  have HB2 := Lib.hid ((((Below.refl W.heap.size W).alloc (Nat.le_refl _) (.cells #[.int .i64 w.size, .int .i64 w.room, .int .i64 w.credits, .int .i64 w.next, .slice aa w.ahead.length ca, .slice aq w.queue.length cq, .slice ap w.pk.length cp] 56)).alloc (by simp) (.cells #[.int .i64 x.kind, .int .i64 x.n, .int .i64 x.time, .slice ax x.row.length cx, .int .i64 x.cn] 42)).alloc (by simp; omega) (.cells #[.int .i64 0, .int .i64 0, .int .i64 0, .int .i64 0, .slice none 0 0, .slice none 0 0, .slice none 0 0] 56))
  have yB : (((W.alloc (.cells #[.int .i64 w.size, .int .i64 w.room, .int .i64 w.credits, .int .i64 w.next, .slice aa w.ahead.length ca, .slice aq w.queue.length cq, .slice ap w.pk.length cp] 56)).alloc (.cells #[.int .i64 x.kind, .int .i64 x.n, .int .i64 x.time, .slice ax x.row.length cx, .int .i64 x.cn] 42)).alloc (.cells #[.int .i64 0, .int .i64 0, .int .i64 0, .int .i64 0, .slice none 0 0, .slice none 0 0, .slice none 0 0] 56)).heap[W.heap.size]? = some (.cells #[.int .i64 w.size, .int .i64 w.room, .int .i64 w.credits, .int .i64 w.next, .slice aa w.ahead.length ca, .slice aq w.queue.length cq, .slice ap w.pk.length cp] 56 (0, 0)) := alloc_block (alloc_block (heap_alloc_new W _) _) _
  have yX : (((W.alloc (.cells #[.int .i64 w.size, .int .i64 w.room, .int .i64 w.credits, .int .i64 w.next, .slice aa w.ahead.length ca, .slice aq w.queue.length cq, .slice ap w.pk.length cp] 56)).alloc (.cells #[.int .i64 x.kind, .int .i64 x.n, .int .i64 x.time, .slice ax x.row.length cx, .int .i64 x.cn] 42)).alloc (.cells #[.int .i64 0, .int .i64 0, .int .i64 0, .int .i64 0, .slice none 0 0, .slice none 0 0, .slice none 0 0] 56)).heap[W.heap.size + 1]? = some (.cells #[.int .i64 x.kind, .int .i64 x.n, .int .i64 x.time, .slice ax x.row.length cx, .int .i64 x.cn] 42 (0, 0)) := alloc_block (by have h := heap_alloc_new (W.alloc (.cells #[.int .i64 w.size, .int .i64 w.room, .int .i64 w.credits, .int .i64 w.next, .slice aa w.ahead.length ca, .slice aq w.queue.length cq, .slice ap w.pk.length cp] 56)) (.cells #[.int .i64 x.kind, .int .i64 x.n, .int .i64 x.time, .slice ax x.row.length cx, .int .i64 x.cn] 42); rwa [World.size_alloc] at h) _
  have yR : (((W.alloc (.cells #[.int .i64 w.size, .int .i64 w.room, .int .i64 w.credits, .int .i64 w.next, .slice aa w.ahead.length ca, .slice aq w.queue.length cq, .slice ap w.pk.length cp] 56)).alloc (.cells #[.int .i64 x.kind, .int .i64 x.n, .int .i64 x.time, .slice ax x.row.length cx, .int .i64 x.cn] 42)).alloc (.cells #[.int .i64 0, .int .i64 0, .int .i64 0, .int .i64 0, .slice none 0 0, .slice none 0 0, .slice none 0 0] 56)).heap[W.heap.size + 1 + 1]? = some (.cells #[.int .i64 0, .int .i64 0, .int .i64 0, .int .i64 0, .slice none 0 0, .slice none 0 0, .slice none 0 0] 56 (0, 0)) := by have h := heap_alloc_new ((W.alloc (.cells #[.int .i64 w.size, .int .i64 w.room, .int .i64 w.credits, .int .i64 w.next, .slice aa w.ahead.length ca, .slice aq w.queue.length cq, .slice ap w.pk.length cp] 56)).alloc (.cells #[.int .i64 x.kind, .int .i64 x.n, .int .i64 x.time, .slice ax x.row.length cx, .int .i64 x.cn] 42)) (.cells #[.int .i64 0, .int .i64 0, .int .i64 0, .int .i64 0, .slice none 0 0, .slice none 0 0, .slice none 0 0] 56); simpa only [World.size_alloc] using h
  have hszY : (((W.alloc (.cells #[.int .i64 w.size, .int .i64 w.room, .int .i64 w.credits, .int .i64 w.next, .slice aa w.ahead.length ca, .slice aq w.queue.length cq, .slice ap w.pk.length cp] 56)).alloc (.cells #[.int .i64 x.kind, .int .i64 x.n, .int .i64 x.time, .slice ax x.row.length cx, .int .i64 x.cn] 42)).alloc (.cells #[.int .i64 0, .int .i64 0, .int .i64 0, .int .i64 0, .slice none 0 0, .slice none 0 0, .slice none 0 0] 56)).heap.size = W.heap.size + 3 := by simp
  go_enter Try.func48, Try.ntmps48
  go_upto_region 1 with fail
  generalize ((W.alloc (.cells #[.int .i64 w.size, .int .i64 w.room, .int .i64 w.credits, .int .i64 w.next, .slice aa w.ahead.length ca, .slice aq w.queue.length cq, .slice ap w.pk.length cp] 56)).alloc (.cells #[.int .i64 x.kind, .int .i64 x.n, .int .i64 x.time, .slice ax x.row.length cx, .int .i64 x.cn] 42)).alloc (.cells #[.int .i64 0, .int .i64 0, .int .i64 0, .int .i64 0, .slice none 0 0, .slice none 0 0, .slice none 0 0] 56) = Y at HB2 yB yX yR hszY ⊢
  have c0 : Y.cell? ⟨W.heap.size, 0, none⟩ = some (.int .i64 w.size) := mem_cells yB 0
  have c1 : Y.cell? ⟨W.heap.size, 1, none⟩ = some (.int .i64 w.room) := mem_cells yB 1
  have c2 : Y.cell? ⟨W.heap.size, 2, none⟩ = some (.int .i64 w.credits) := mem_cells yB 2
  have c3 : Y.cell? ⟨W.heap.size, 3, none⟩ = some (.int .i64 w.next) := mem_cells yB 3
  have c4 : Y.cell? ⟨W.heap.size, 4, none⟩ = some (.slice aa w.ahead.length ca) := mem_cells yB 4
  have c5 : Y.cell? ⟨W.heap.size, 5, none⟩ = some (.slice aq w.queue.length cq) := mem_cells yB 5
  have c6 : Y.cell? ⟨W.heap.size, 6, none⟩ = some (.slice ap w.pk.length cp) := mem_cells yB 6
  have x0 : Y.cell? ⟨(W.heap.size + 1), 0, none⟩ = some (.int .i64 x.kind) := mem_cells yX 0
  have x1 : Y.cell? ⟨(W.heap.size + 1), 1, none⟩ = some (.int .i64 x.n) := mem_cells yX 1
  have x2 : Y.cell? ⟨(W.heap.size + 1), 2, none⟩ = some (.int .i64 x.time) := mem_cells yX 2
  have x3 : Y.cell? ⟨(W.heap.size + 1), 3, none⟩ = some (.slice ax x.row.length cx) := mem_cells yX 3
  have x4 : Y.cell? ⟨(W.heap.size + 1), 4, none⟩ = some (.int .i64 x.cn) := mem_cells yX 4
  have HYB := Lib.hid (fun (wq : World) (h : Below Y.heap.size Y wq) => And.intro ((h.block _ (by omega)).trans yB) (And.intro ((h.block _ (by omega)).trans yX) ((h.block _ (by omega)).trans yR)))
  clear yR yB yX
  go_wp2_with fail
  refine (HV.out Y HB2.out).mono ?_
  rintro e w1 ⟨rfl, hb⟩
  obtain ⟨yB, yX, yR⟩ := HYB.out w1 hb
  have HB1 := Lib.hid hb
  have HBX := Lib.hid (HB2.out.trans (hb.mono HB2.out.size))
  have HYR1 := Lib.hid yR
  clear hb c0 c1 c2 c3 c4 c5 c6 x0 x1 x2 x3 x4 HV
  have c0 : w1.cell? ⟨W.heap.size, 0, none⟩ = some (.int .i64 w.size) := mem_cells yB 0
  have c1 : w1.cell? ⟨W.heap.size, 1, none⟩ = some (.int .i64 w.room) := mem_cells yB 1
  have c2 : w1.cell? ⟨W.heap.size, 2, none⟩ = some (.int .i64 w.credits) := mem_cells yB 2
  have c3 : w1.cell? ⟨W.heap.size, 3, none⟩ = some (.int .i64 w.next) := mem_cells yB 3
  have c4 : w1.cell? ⟨W.heap.size, 4, none⟩ = some (.slice aa w.ahead.length ca) := mem_cells yB 4
  have c5 : w1.cell? ⟨W.heap.size, 5, none⟩ = some (.slice aq w.queue.length cq) := mem_cells yB 5
  have c6 : w1.cell? ⟨W.heap.size, 6, none⟩ = some (.slice ap w.pk.length cp) := mem_cells yB 6
  have r0 : w1.cell? ⟨(W.heap.size + 1 + 1), 0, none⟩ = some (.int .i64 0) := mem_cells yR 0
  have r1 : w1.cell? ⟨(W.heap.size + 1 + 1), 1, none⟩ = some (.int .i64 0) := mem_cells yR 1
  have r2 : w1.cell? ⟨(W.heap.size + 1 + 1), 2, none⟩ = some (.int .i64 0) := mem_cells yR 2
  have r3 : w1.cell? ⟨(W.heap.size + 1 + 1), 3, none⟩ = some (.int .i64 0) := mem_cells yR 3
  have r4 : w1.cell? ⟨(W.heap.size + 1 + 1), 4, none⟩ = some (.slice none 0 0) := mem_cells yR 4
  have r5 : w1.cell? ⟨(W.heap.size + 1 + 1), 5, none⟩ = some (.slice none 0 0) := mem_cells yR 5
  have r6 : w1.cell? ⟨(W.heap.size + 1 + 1), 6, none⟩ = some (.slice none 0 0) := mem_cells yR 6
  have fR : ∀ o, w1.frozen? ⟨W.heap.size + 1 + 1, o, none⟩ = false := frozen_cells yR
  clear yB yX yR
  cases hval : validEl x with
  | false =>
    have HVL := Lib.hid hval
    clear hval
    go_wp2
    have r1 := store7_block HYR1.out (.int .i64 w.size) (.int .i64 w.room) (.int .i64 w.credits) (.int .i64 w.next) (.slice aa w.ahead.length ca) (.slice aq w.queue.length cq) (.slice ap w.pk.length cp)
    have hk := store7_keeps (w1) (W.heap.size + 1 + 1) (.int .i64 w.size) (.int .i64 w.room) (.int .i64 w.credits) (.int .i64 w.next) (.slice aa w.ahead.length ca) (.slice aq w.queue.length cq) (.slice ap w.pk.length cp)
    show bodyPost _ _ _ _ _ (store7 (w1) (W.heap.size + 1 + 1) (.int .i64 w.size) (.int .i64 w.room) (.int .i64 w.credits) (.int .i64 w.next) (.slice aa w.ahead.length ca) (.slice aq w.queue.length cq) (.slice ap w.pk.length cp))
    generalize store7 (w1) (W.heap.size + 1 + 1) (.int .i64 w.size) (.int .i64 w.room) (.int .i64 w.credits) (.int .i64 w.next) (.slice aa w.ahead.length ca) (.slice aq w.queue.length cq) (.slice ap w.pk.length cp) = w2 at r1 hk ⊢
    have hBz : Below W.heap.size W w2 := Keeps.belowStep HBX.out hk (fun k hk => by omega) HBX.out.size
    have g0 : w2.cell? ⟨(W.heap.size + 1 + 1), 0, none⟩ = some (.int .i64 w.size) := mem_cells r1 0
    have g1 : w2.cell? ⟨(W.heap.size + 1 + 1), 1, none⟩ = some (.int .i64 w.room) := mem_cells r1 1
    have g2 : w2.cell? ⟨(W.heap.size + 1 + 1), 2, none⟩ = some (.int .i64 w.credits) := mem_cells r1 2
    have g3 : w2.cell? ⟨(W.heap.size + 1 + 1), 3, none⟩ = some (.int .i64 w.next) := mem_cells r1 3
    have g4 : w2.cell? ⟨(W.heap.size + 1 + 1), 4, none⟩ = some (.slice aa w.ahead.length ca) := mem_cells r1 4
    have g5 : w2.cell? ⟨(W.heap.size + 1 + 1), 5, none⟩ = some (.slice aq w.queue.length cq) := mem_cells r1 5
    have g6 : w2.cell? ⟨(W.heap.size + 1 + 1), 6, none⟩ = some (.slice ap w.pk.length cp) := mem_cells r1 6
    exact bodyPost_ret (v := .tuple #[.agg #[.int .i64 w.size, .int .i64 w.room, .int .i64 w.credits, .int .i64 w.next, .slice aa w.ahead.length ca, .slice aq w.queue.length cq, .slice ap w.pk.length cp], .int .i64 1]) (by simp [results, Try.results48, go_sem, g0, g1, g2, g3, g4, g5, g6]) rfl ⟨.inl ⟨HVL.out, rfl⟩, hBz⟩
  | true =>
    have HVL := Lib.hid hval
    clear hval
    go_wp2_with fail
    refine (HF.out w1 HBX.out).mono ?_
    rintro e w2 ⟨v, rfl, hO, hge, hb2⟩
    obtain ⟨yB, yX, yR⟩ := HYB.out w2 (HB1.out.trans (hb2.mono HB1.out.size))
    have HBX2 := Lib.hid (HBX.out.trans (hb2.mono HBX.out.size))
    have HYR2 := Lib.hid yR
    have HYB2 := Lib.hid yB
    have hsz1 := HB1.out.size
    have hsz2 := hb2.size
    obtain ⟨av, cv, rfl, hv1, hv2⟩ := hO.form
    clear hO hge hb2 hv1 hv2 c0 c1 c2 c3 c4 c5 c6 r0 r1 r2 r3 r4 r5 r6 fR HYR1 HBX HF
    by_cases hn : (rcont w).length = 4000
    · have hn' : (((rcont w).length : Int) == 4000) = true := by simp; omega
      have HN := Lib.hid hn
      have c0 : w2.cell? ⟨W.heap.size, 0, none⟩ = some (.int .i64 w.size) := mem_cells yB 0
      have c1 : w2.cell? ⟨W.heap.size, 1, none⟩ = some (.int .i64 w.room) := mem_cells yB 1
      have c2 : w2.cell? ⟨W.heap.size, 2, none⟩ = some (.int .i64 w.credits) := mem_cells yB 2
      have c3 : w2.cell? ⟨W.heap.size, 3, none⟩ = some (.int .i64 w.next) := mem_cells yB 3
      have c4 : w2.cell? ⟨W.heap.size, 4, none⟩ = some (.slice aa w.ahead.length ca) := mem_cells yB 4
      have c5 : w2.cell? ⟨W.heap.size, 5, none⟩ = some (.slice aq w.queue.length cq) := mem_cells yB 5
      have c6 : w2.cell? ⟨W.heap.size, 6, none⟩ = some (.slice ap w.pk.length cp) := mem_cells yB 6
      have r0 : w2.cell? ⟨(W.heap.size + 1 + 1), 0, none⟩ = some (.int .i64 0) := mem_cells yR 0
      have r1 : w2.cell? ⟨(W.heap.size + 1 + 1), 1, none⟩ = some (.int .i64 0) := mem_cells yR 1
      have r2 : w2.cell? ⟨(W.heap.size + 1 + 1), 2, none⟩ = some (.int .i64 0) := mem_cells yR 2
      have r3 : w2.cell? ⟨(W.heap.size + 1 + 1), 3, none⟩ = some (.int .i64 0) := mem_cells yR 3
      have r4 : w2.cell? ⟨(W.heap.size + 1 + 1), 4, none⟩ = some (.slice none 0 0) := mem_cells yR 4
      have r5 : w2.cell? ⟨(W.heap.size + 1 + 1), 5, none⟩ = some (.slice none 0 0) := mem_cells yR 5
      have r6 : w2.cell? ⟨(W.heap.size + 1 + 1), 6, none⟩ = some (.slice none 0 0) := mem_cells yR 6
      have fR : ∀ o, w2.frozen? ⟨W.heap.size + 1 + 1, o, none⟩ = false := frozen_cells yR
      clear hn yB yX yR
      go_wp2
      have HBX := HBX2
      have r1 := store7_block HYR2.out (.int .i64 w.size) (.int .i64 w.room) (.int .i64 w.credits) (.int .i64 w.next) (.slice aa w.ahead.length ca) (.slice aq w.queue.length cq) (.slice ap w.pk.length cp)
      have hk := store7_keeps (w2) (W.heap.size + 1 + 1) (.int .i64 w.size) (.int .i64 w.room) (.int .i64 w.credits) (.int .i64 w.next) (.slice aa w.ahead.length ca) (.slice aq w.queue.length cq) (.slice ap w.pk.length cp)
      show bodyPost _ _ _ _ _ (store7 (w2) (W.heap.size + 1 + 1) (.int .i64 w.size) (.int .i64 w.room) (.int .i64 w.credits) (.int .i64 w.next) (.slice aa w.ahead.length ca) (.slice aq w.queue.length cq) (.slice ap w.pk.length cp))
      generalize store7 (w2) (W.heap.size + 1 + 1) (.int .i64 w.size) (.int .i64 w.room) (.int .i64 w.credits) (.int .i64 w.next) (.slice aa w.ahead.length ca) (.slice aq w.queue.length cq) (.slice ap w.pk.length cp) = w2 at r1 hk ⊢
      have hBz : Below W.heap.size W w2 := Keeps.belowStep HBX.out hk (fun k hk => by omega) HBX.out.size
      have g0 : w2.cell? ⟨(W.heap.size + 1 + 1), 0, none⟩ = some (.int .i64 w.size) := mem_cells r1 0
      have g1 : w2.cell? ⟨(W.heap.size + 1 + 1), 1, none⟩ = some (.int .i64 w.room) := mem_cells r1 1
      have g2 : w2.cell? ⟨(W.heap.size + 1 + 1), 2, none⟩ = some (.int .i64 w.credits) := mem_cells r1 2
      have g3 : w2.cell? ⟨(W.heap.size + 1 + 1), 3, none⟩ = some (.int .i64 w.next) := mem_cells r1 3
      have g4 : w2.cell? ⟨(W.heap.size + 1 + 1), 4, none⟩ = some (.slice aa w.ahead.length ca) := mem_cells r1 4
      have g5 : w2.cell? ⟨(W.heap.size + 1 + 1), 5, none⟩ = some (.slice aq w.queue.length cq) := mem_cells r1 5
      have g6 : w2.cell? ⟨(W.heap.size + 1 + 1), 6, none⟩ = some (.slice ap w.pk.length cp) := mem_cells r1 6
      exact bodyPost_ret (v := .tuple #[.agg #[.int .i64 w.size, .int .i64 w.room, .int .i64 w.credits, .int .i64 w.next, .slice aa w.ahead.length ca, .slice aq w.queue.length cq, .slice ap w.pk.length cp], .int .i64 4]) (by simp [results, Try.results48, go_sem, g0, g1, g2, g3, g4, g5, g6]) rfl ⟨.inr (.inl ⟨HVL.out, HN.out, rfl⟩), hBz⟩
    · have hn' : (((rcont w).length : Int) == 4000) = false := by simp; omega
      have HN := Lib.hid hn
      have HS := Lib.hid (fun (w' : World) (hq : Below w2.heap.size w2 w') => (show w'.cell? ⟨W.heap.size, 5, none⟩ = some (.slice aq w.queue.length cq) ∧ w'.cell? ⟨W.heap.size + 1, 0, none⟩ = some (.int .i64 x.kind) ∧ w'.cell? ⟨W.heap.size + 1, 1, none⟩ = some (.int .i64 x.n) ∧ w'.cell? ⟨W.heap.size + 1, 2, none⟩ = some (.int .i64 x.time) ∧ w'.cell? ⟨W.heap.size + 1, 3, none⟩ = some (.slice ax x.row.length cx) ∧ w'.cell? ⟨W.heap.size + 1, 4, none⟩ = some (.int .i64 x.cn) from ⟨below_mem hq _ _ _ (mem_cells yB 5), below_mem hq _ _ _ (mem_cells yX 0), below_mem hq _ _ _ (mem_cells yX 1), below_mem hq _ _ _ (mem_cells yX 2), below_mem hq _ _ _ (mem_cells yX 3), below_mem hq _ _ _ (mem_cells yX 4)⟩))
      have HFB := Lib.hid (fun (w' : World) (hq : Below w2.heap.size w2 w') => (show w'.frozen? ⟨W.heap.size, 5, none⟩ = false from frozen_cells ((hq.block _ (by omega)).trans yB) 5))
      have HRQ := Lib.hid (fun (w' : World) (hq : Below w2.heap.size w2 w') => (tSlice (tIn M tEl)).mono _ _ _ _ (Mem.le_trans HM.out (Mem.le_trans (below_mem HBX2.out) (below_mem hq))) (tEls_in HQ.out))
      have HL1 := Lib.hid (show ([] : List El).length + w.queue.length ≤ maxLen by unfold maxLen; simp; omega)
      have HL2 := Lib.hid (show (([] : List El).length + w.queue.length) * 56 ≤ 140737488355328 by simp; omega)
      have HL3 := Lib.hid (show ([] ++ w.queue).length + 1 ≤ maxLen by unfold maxLen; simp; omega)
      have HL4 := Lib.hid (show (([] ++ w.queue).length + 1) * 56 ≤ 140737488355328 by simp; omega)
      clear hn yB yX yR
      go_upto_region 5 with fail
      have q50 : w2.drew.cell? ⟨W.heap.size, 5, none⟩ = some (.slice aq w.queue.length cq) := (HS.out _ (Below.refl _ _).drew).1
      have q51 : (w2.alloc (.cells #[] 42)).drew.cell? ⟨W.heap.size, 5, none⟩ = some (.slice aq w.queue.length cq) := (HS.out _ (((Below.refl w2.heap.size w2).alloc (Nat.le_refl _) (.cells #[] 42)).drew)).1
      have q52 : ((w2.alloc (.cells #[] 42)).alloc (.cells #[.int .i64 x.kind, .int .i64 x.n, .int .i64 x.time, .slice ax x.row.length cx, .int .i64 x.cn] 42)).drew.cell? ⟨W.heap.size, 5, none⟩ = some (.slice aq w.queue.length cq) := (HS.out _ ((((Below.refl w2.heap.size w2).alloc (Nat.le_refl _) (.cells #[] 42)).alloc (by simp) (.cells #[.int .i64 x.kind, .int .i64 x.n, .int .i64 x.time, .slice ax x.row.length cx, .int .i64 x.cn] 42)).drew)).1
      have q53 : ((w2.alloc (.cells #[.int .i64 x.kind, .int .i64 x.n, .int .i64 x.time, .slice ax x.row.length cx, .int .i64 x.cn] 42)).alloc (.cells #[] 42)).drew.cell? ⟨W.heap.size, 5, none⟩ = some (.slice aq w.queue.length cq) := (HS.out _ ((((Below.refl w2.heap.size w2).alloc (Nat.le_refl _) (.cells #[.int .i64 x.kind, .int .i64 x.n, .int .i64 x.time, .slice ax x.row.length cx, .int .i64 x.cn] 42)).alloc (by simp) (.cells #[] 42)).drew)).1
      have q54 : (w2.alloc (.cells #[.int .i64 x.kind, .int .i64 x.n, .int .i64 x.time, .slice ax x.row.length cx, .int .i64 x.cn] 42)).drew.cell? ⟨W.heap.size, 5, none⟩ = some (.slice aq w.queue.length cq) := (HS.out _ (((Below.refl w2.heap.size w2).alloc (Nat.le_refl _) (.cells #[.int .i64 x.kind, .int .i64 x.n, .int .i64 x.time, .slice ax x.row.length cx, .int .i64 x.cn] 42)).drew)).1
      have HS2 := Lib.hid (fun w' hq => (HS.out w' hq).2)
      obtain ⟨p00, p01, p02, p03, p04⟩ := HS2.out w2.drew (Below.refl _ _).drew
      obtain ⟨p10, p11, p12, p13, p14⟩ := HS2.out (w2.alloc (.cells #[] 42)).drew (((Below.refl w2.heap.size w2).alloc (Nat.le_refl _) (.cells #[] 42)).drew)
      go_region_law (first
          | (refine step_append_os rfl (.tmp 15) (.tmp 17) 36 rfl (tIn M tEl) (tIn_flat _ _) tElIn_one Try.underlying36 (infoEl _) rfl (Nat.succ_pos 4) _ [] w.queue rfl ((OwnsO.lit0 (tIn M tEl) w2 42).keeps (fun k e => rfl)) _ _ _ rfl rfl (HRQ.out _ (((Below.refl w2.heap.size w2).alloc (Nat.le_refl _) (.cells #[] 42)).drew)) HL1.out HL2.out ?_; intro v5 w5 own5 happ5; obtain ⟨hb5, hg5⟩ := app_below (((Below.refl w2.heap.size w2).alloc (Nat.le_refl _) (.cells #[] 42)).drew) happ5 (fun k e => by cases e; first | exact Nat.le_refl _ | exact Nat.le_succ _); obtain ⟨a5, c5, rfl, _⟩ := own5.form; obtain ⟨p50, p51, p52, p53, p54⟩ := HS2.out w5 hb5)
          | (refine step_append_os rfl (.tmp 15) (.tmp 17) 36 rfl (tIn M tEl) (tIn_flat _ _) tElIn_one Try.underlying36 (infoEl _) rfl (Nat.succ_pos 4) _ [] w.queue rfl ((OwnsO.lit0 (tIn M tEl) w2 42).keeps (fun k e => (((Below.refl _ _).alloc (Nat.le_refl _) (.cells #[.int .i64 x.kind, .int .i64 x.n, .int .i64 x.time, .slice ax x.row.length cx, .int .i64 x.cn] 42)).drew).block k ((OwnsO.lit0 (tIn M tEl) w2 42).lt k e))) _ _ _ rfl rfl (HRQ.out _ ((((Below.refl w2.heap.size w2).alloc (Nat.le_refl _) (.cells #[] 42)).alloc (by simp) (.cells #[.int .i64 x.kind, .int .i64 x.n, .int .i64 x.time, .slice ax x.row.length cx, .int .i64 x.cn] 42)).drew)) HL1.out HL2.out ?_; intro v5 w5 own5 happ5; obtain ⟨hb5, hg5⟩ := app_below ((((Below.refl w2.heap.size w2).alloc (Nat.le_refl _) (.cells #[] 42)).alloc (by simp) (.cells #[.int .i64 x.kind, .int .i64 x.n, .int .i64 x.time, .slice ax x.row.length cx, .int .i64 x.cn] 42)).drew) happ5 (fun k e => by cases e; first | exact Nat.le_refl _ | exact Nat.le_succ _); obtain ⟨a5, c5, rfl, _⟩ := own5.form; have hat5 := at_keep (v := .slice (some ⟨w2.heap.size, 0, none⟩) 0 0) (cs := [.int .i64 x.kind, .int .i64 x.n, .int .i64 x.time, .slice ax x.row.length cx, .int .i64 x.cn]) (at_drew el_cells2) happ5 (by simp [Value.ownBlock]); obtain ⟨p50, p51, p52, p53, p54⟩ := HS2.out w5 hb5)
          | (refine step_append_os rfl (.tmp 15) (.tmp 17) 36 rfl (tIn M tEl) (tIn_flat _ _) tElIn_one Try.underlying36 (infoEl _) rfl (Nat.succ_pos 4) _ [] w.queue rfl ((lit0_at (tIn M tEl) w2 42 (.cells #[.int .i64 x.kind, .int .i64 x.n, .int .i64 x.time, .slice ax x.row.length cx, .int .i64 x.cn] 42)).keeps (fun k e => rfl)) _ _ _ rfl rfl (HRQ.out _ ((((Below.refl w2.heap.size w2).alloc (Nat.le_refl _) (.cells #[.int .i64 x.kind, .int .i64 x.n, .int .i64 x.time, .slice ax x.row.length cx, .int .i64 x.cn] 42)).alloc (by simp) (.cells #[] 42)).drew)) HL1.out HL2.out ?_; intro v5 w5 own5 happ5; obtain ⟨hb5, hg5⟩ := app_below ((((Below.refl w2.heap.size w2).alloc (Nat.le_refl _) (.cells #[.int .i64 x.kind, .int .i64 x.n, .int .i64 x.time, .slice ax x.row.length cx, .int .i64 x.cn] 42)).alloc (by simp) (.cells #[] 42)).drew) happ5 (fun k e => by cases e; first | exact Nat.le_refl _ | exact Nat.le_succ _); obtain ⟨a5, c5, rfl, _⟩ := own5.form; have hat5 := at_keep (v := .slice (some ⟨w2.heap.size + 1, 0, none⟩) 0 0) (cs := [.int .i64 x.kind, .int .i64 x.n, .int .i64 x.time, .slice ax x.row.length cx, .int .i64 x.cn]) (at_drew (fun j u e => below_mem ((Below.refl _ _).alloc (Nat.le_refl _) _) _ _ _ (el_cells (T := 42) j u e))) happ5 (by simp [Value.ownBlock]); obtain ⟨p50, p51, p52, p53, p54⟩ := HS2.out w5 hb5)
          | (refine step_append_o1 rfl (.tmp 18) (.tmp 20) 36 rfl (tIn M tEl) Try.underlying36 (infoEl _) rfl _ ([] ++ w.queue) rfl (own5) _ _ x rfl _ (hat5) HX.out el_one HL3.out HL4.out ?_; intro v6 w6 own6 happ6; obtain ⟨hb6, hg6⟩ := app_below (hb5) happ6 hg5; obtain ⟨a6, cz, rfl, _⟩ := own6.form; have hf6 := HFB.out w6 hb6; have q56 := (HS.out w6 hb6).1)
          | (refine step_append_o1 rfl (.tmp 18) (.tmp 20) 36 rfl (tIn M tEl) Try.underlying36 (infoEl _) rfl _ ([] ++ w.queue) rfl (own5.keeps (fun k e => ((Below.refl _ _).alloc (Nat.le_refl _) (.cells #[.int .i64 x.kind, .int .i64 x.n, .int .i64 x.time, .slice ax x.row.length cx, .int .i64 x.cn] 42)).block k (own5.lt k e))) _ _ x rfl _ (el_cells) HX.out el_one HL3.out HL4.out ?_; intro v6 w6 own6 happ6; obtain ⟨hb6, hg6⟩ := app_below (hb5.alloc hb5.size (.cells #[.int .i64 x.kind, .int .i64 x.n, .int .i64 x.time, .slice ax x.row.length cx, .int .i64 x.cn] 42)) happ6 hg5; obtain ⟨a6, cz, rfl, _⟩ := own6.form; have hf6 := HFB.out w6 hb6; have q56 := (HS.out w6 hb6).1))
      all_goals
        have yB := (hb6.block W.heap.size (by omega)).trans HYB2.out
        have yR := (hb6.block (W.heap.size + 1 + 1) (by omega)).trans HYR2.out
        have own7 : OwnsO (tIn M tEl) w6 42 (.slice a6 (w.queue.length + 1) cz) (w.queue ++ [x]) := by simpa using own6
        have hkX : Keeps (fun k => k = W.heap.size) w6 (w6.setCell ⟨W.heap.size, 5, none⟩ (.slice a6 (w.queue.length + 1) cz)) := keepB 5 _
        have zB : (w6.setCell ⟨W.heap.size, 5, none⟩ (.slice a6 (w.queue.length + 1) cz)).heap[W.heap.size]? = some (.cells #[.int .i64 w.size, .int .i64 w.room, .int .i64 w.credits, .int .i64 w.next, .slice aa w.ahead.length ca, .slice a6 (w.queue.length + 1) cz, .slice ap w.pk.length cp] 56 (0, 0)) := set_block yB
        have zR := (hkX.block (W.heap.size + 1 + 1) (Array.getElem?_eq_some_iff.1 yR).1 (by omega)).trans yR
        have oX := own_after own7 hkX (fun k e => by have := hg6 k (by simpa [Value.ownBlock] using e); omega)
        have hBX := Keeps.belowStep (HBX2.out.trans (hb6.mono HBX2.out.size)) hkX (fun k hk => by omega) (Nat.le_trans HBX2.out.size hb6.size)
        have HXX := Lib.hid (And.intro oX (And.intro hBX (And.intro zR (show ∀ k, (Value.slice a6 (w.queue.length + 1) cz).ownBlock = some k → W.heap.size + 3 ≤ k from fun k e => by have := hg6 k (by simpa [Value.ownBlock] using e); omega))))
        clear own6 own7 hkX oX hBX yB yR hf6 q56 q50 q51 q52 q53 q54 p00 p01 p02 p03 p04 p10 p11 p12 p13 p14 p50 p51 p52 p53 p54 own5 happ5 happ6 hg6 hb6 hg5 hb5 HL1 HL2 HL3 HL4 HRQ HFB HS HS2
        generalize (w6.setCell ⟨W.heap.size, 5, none⟩ (.slice a6 (w.queue.length + 1) cz)) = X at HXX zB zR ⊢
        have c0 : X.cell? ⟨W.heap.size, 0, none⟩ = some (.int .i64 w.size) := mem_cells zB 0
        have c1 : X.cell? ⟨W.heap.size, 1, none⟩ = some (.int .i64 w.room) := mem_cells zB 1
        have c2 : X.cell? ⟨W.heap.size, 2, none⟩ = some (.int .i64 w.credits) := mem_cells zB 2
        have c3 : X.cell? ⟨W.heap.size, 3, none⟩ = some (.int .i64 w.next) := mem_cells zB 3
        have c4 : X.cell? ⟨W.heap.size, 4, none⟩ = some (.slice aa w.ahead.length ca) := mem_cells zB 4
        have c5 : X.cell? ⟨W.heap.size, 5, none⟩ = some (.slice a6 (w.queue.length + 1) cz) := mem_cells zB 5
        have c6 : X.cell? ⟨W.heap.size, 6, none⟩ = some (.slice ap w.pk.length cp) := mem_cells zB 6
        have r0 : X.cell? ⟨(W.heap.size + 1 + 1), 0, none⟩ = some (.int .i64 0) := mem_cells zR 0
        have r1 : X.cell? ⟨(W.heap.size + 1 + 1), 1, none⟩ = some (.int .i64 0) := mem_cells zR 1
        have r2 : X.cell? ⟨(W.heap.size + 1 + 1), 2, none⟩ = some (.int .i64 0) := mem_cells zR 2
        have r3 : X.cell? ⟨(W.heap.size + 1 + 1), 3, none⟩ = some (.int .i64 0) := mem_cells zR 3
        have r4 : X.cell? ⟨(W.heap.size + 1 + 1), 4, none⟩ = some (.slice none 0 0) := mem_cells zR 4
        have r5 : X.cell? ⟨(W.heap.size + 1 + 1), 5, none⟩ = some (.slice none 0 0) := mem_cells zR 5
        have r6 : X.cell? ⟨(W.heap.size + 1 + 1), 6, none⟩ = some (.slice none 0 0) := mem_cells zR 6
        have fR : ∀ o, X.frozen? ⟨W.heap.size + 1 + 1, o, none⟩ = false := frozen_cells zR
        clear zB zR
        go_wp2
        have r1 := store7_block HXX.out.2.2.1 (.int .i64 w.size) (.int .i64 w.room) (.int .i64 w.credits) (.int .i64 w.next) (.slice aa w.ahead.length ca) (.slice a6 (w.queue.length + 1) cz) (.slice ap w.pk.length cp)
        have hk := store7_keeps (X) (W.heap.size + 1 + 1) (.int .i64 w.size) (.int .i64 w.room) (.int .i64 w.credits) (.int .i64 w.next) (.slice aa w.ahead.length ca) (.slice a6 (w.queue.length + 1) cz) (.slice ap w.pk.length cp)
        show bodyPost _ _ _ _ _ (store7 (X) (W.heap.size + 1 + 1) (.int .i64 w.size) (.int .i64 w.room) (.int .i64 w.credits) (.int .i64 w.next) (.slice aa w.ahead.length ca) (.slice a6 (w.queue.length + 1) cz) (.slice ap w.pk.length cp))
        generalize store7 (X) (W.heap.size + 1 + 1) (.int .i64 w.size) (.int .i64 w.room) (.int .i64 w.credits) (.int .i64 w.next) (.slice aa w.ahead.length ca) (.slice a6 (w.queue.length + 1) cz) (.slice ap w.pk.length cp) = w2 at r1 hk ⊢
        have hBz : Below W.heap.size W w2 := Keeps.belowStep HXX.out.2.1 hk (fun k hk => by omega) HXX.out.2.1.size
        have g0 : w2.cell? ⟨(W.heap.size + 1 + 1), 0, none⟩ = some (.int .i64 w.size) := mem_cells r1 0
        have g1 : w2.cell? ⟨(W.heap.size + 1 + 1), 1, none⟩ = some (.int .i64 w.room) := mem_cells r1 1
        have g2 : w2.cell? ⟨(W.heap.size + 1 + 1), 2, none⟩ = some (.int .i64 w.credits) := mem_cells r1 2
        have g3 : w2.cell? ⟨(W.heap.size + 1 + 1), 3, none⟩ = some (.int .i64 w.next) := mem_cells r1 3
        have g4 : w2.cell? ⟨(W.heap.size + 1 + 1), 4, none⟩ = some (.slice aa w.ahead.length ca) := mem_cells r1 4
        have g5 : w2.cell? ⟨(W.heap.size + 1 + 1), 5, none⟩ = some (.slice a6 (w.queue.length + 1) cz) := mem_cells r1 5
        have g6 : w2.cell? ⟨(W.heap.size + 1 + 1), 6, none⟩ = some (.slice ap w.pk.length cp) := mem_cells r1 6
        exact bodyPost_ret (v := .tuple #[.agg #[.int .i64 w.size, .int .i64 w.room, .int .i64 w.credits, .int .i64 w.next, .slice aa w.ahead.length ca, .slice a6 (w.queue.length + 1) cz, .slice ap w.pk.length cp], .int .i64 0]) (by simp [results, Try.results48, go_sem, g0, g1, g2, g3, g4, g5, g6]) rfl ⟨.inr (.inr ⟨HVL.out, HN.out, .slice a6 (w.queue.length + 1) cz, rfl, ⟨HW.out.i1, HW.out.i2, HW.out.i3, HW.out.i4, tEls.mono _ _ _ _ (joinM_le HM.out) HW.out.ha, own_join HM.out (own_after HXX.out.1 hk (fun k e => by have := HXX.out.2.2.2 k e; omega)) (fun k e => by have := HXX.out.2.2.2 k e; omega), (tSlice tRP).mono _ _ _ _ (joinM_le HM.out) HW.out.hp⟩⟩), hBz⟩
end Go.Proofs.Ytfkphdmnelchmaa
/- wire.Overtake. -/
namespace Go.Proofs.Ytfkphdmnelchmaa
open Go.RowKit Go.Maps

def overR (r : Raw) (x : El) : Raw := { r with buffer := ⟨x, none⟩ :: r.buffer, count := r.count + 1 }
section
variable {W W' : World} {base b : Nat} {L : WL} {r : Raw}
/-- The buffer has an item ahead of all. -/
theorem WireInv.ahead {w4 w5 : World} {v5 : Value} {x : El} {n m : Nat} {o : Obj} (hI : WireInv w4 base b L r) (own : OwnsO (tIn (safe w4 b L r) tItem) w5 94 v5 (⟨x, none⟩ :: r.buffer)) {v : Value} (happ : AppAt (w4.alloc o) w5 v n m v5) (hv : v.ownBlock = some w4.heap.size) :
    ∃ L', WireInv ((w5.setCell ⟨b, 7, none⟩ v5).setCell ⟨b, 9, none⟩ (.int .i64 (r.count + 1))) base b L' (overR r x) ∧ Below base w4 ((w5.setCell ⟨b, 7, none⟩ v5).setCell ⟨b, 9, none⟩ (.int .i64 (r.count + 1))) ∧ (safe w4 b L r).le (safe ((w5.setCell ⟨b, 7, none⟩ v5).setCell ⟨b, 9, none⟩ (.int .i64 (r.count + 1))) b L' (overR r x)) ∧
      L'.nw = L.nw ∧ L'.ne = L.ne ∧ FrK L L' w4 ((w5.setCell ⟨b, 7, none⟩ v5).setCell ⟨b, 9, none⟩ (.int .i64 (r.count + 1))) := by
  have hap := hI.apart
  have hlt := hI.mut_lt
  have hsz : w4.heap.size ≤ w5.heap.size := by have := happ.grown.size; simp at this; omega
  have hold : ∀ k, k < w4.heap.size → w5.heap[k]? = w4.heap[k]? := fun k hk => (happ.grown.block k (by simp; omega) (fun e => by rw [hv] at e; injection e with e; omega)).trans (((Below.refl w4.heap.size w4).alloc (Nat.le_refl _) o).block k hk)
  have hv5 : ∀ k, v5.ownBlock = some k → w4.heap.size ≤ k := fun k e => by
    rcases happ.block with g | g
    · rw [g, hv] at e; injection e with e; omega
    · have := g k e; simp at this; omega
  have hk : Keeps (mutB b L r) w4 w5 := ⟨happ.grown.os, happ.grown.tape, happ.grown.output, hsz, fun k hl _ => hold k hl⟩
  have hk2 : Keeps (mutB b L r) w4 ((w5.setCell ⟨b, 7, none⟩ v5).setCell ⟨b, 9, none⟩ (.int .i64 (r.count + 1))) := (hk.setCell (p := ⟨b, 7, none⟩) (fun _ => .inl rfl) _).setCell (p := ⟨b, 9, none⟩) (fun _ => .inl rfl) _
  have hm : ∀ k, mutB b { L with bv := v5 } (overR r x) k → mutB b L r k ∨ w4.heap.size ≤ k := fun k h => by
    rcases h with h | h | h | h | h | h
    · exact .inl (.inl h)
    · exact .inl (.inr (.inl h))
    · exact .inl (.inr (.inr (.inl h)))
    · exact .inl (.inr (.inr (.inr (.inl h))))
    · exact .inr (hv5 k h)
    · exact .inl (.inr (.inr (.inr (.inr (.inr h)))))
  have hset : ∀ k, k ≠ b → ((w5.setCell ⟨b, 7, none⟩ v5).setCell ⟨b, 9, none⟩ (.int .i64 (r.count + 1))).heap[k]? = w5.heap[k]? := fun k h => (set_block_other h).trans (set_block_other h)
  have hb5 : w5.heap[b]? = some (.cells (wCells L r) 87 (0, 0)) := (hold b (hlt b (.inl rfl))).trans hI.hb
  have hvb : ∀ k, v5.ownBlock = some k → k ≠ b := fun k e => by have := hv5 k e; have := hlt b (.inl rfl); omega
  have hs := safe_le (L' := { L with bv := v5 }) (r' := overR r x) hk2 hm rfl
  have hqk : ∀ k, L.qv.ownBlock = some k → ((w5.setCell ⟨b, 7, none⟩ v5).setCell ⟨b, 9, none⟩ (.int .i64 (r.count + 1))).heap[k]? = w4.heap[k]? := fun k e => (hset k (hap.2.2.2.2 k e).1).trans (hold k (hI.q.lt k e))
  refine ⟨{ L with bv := v5 }, ⟨set_block (set_block hb5), (hI.q.keeps hqk).re hs, (own.keeps (fun k e => hset k (hvb k e))).re hs, hI.wm.at ((hset _ (fun e => hap.1 e.symm)).trans (hold _ hI.wm.lt)), hI.em.at ((hset _ (fun e => hap.2.1 e.symm)).trans (hold _ hI.em.lt)), hI.we, fun p hp => ?_, hI.nd, fun k h => ?_, Nat.le_trans hI.bw hk2.size, hI.frL hk2 rfl, hI.frD hm (fun _ h => .inl h) rfl⟩, hI.keepsB hk2, hs, rfl, rfl, hI.frK hk2 rfl⟩
  · obtain ⟨lv, h1, h2⟩ := hI.pk p hp
    exact ⟨lv, ((hset _ (hap.2.2.1 p hp).1).trans (hold _ (Array.getElem?_eq_some_iff.1 h1).1)).trans h1, tEls.mono _ _ _ _ hs h2⟩
  · rcases hm k h with h | h
    · exact hI.ge k h
    · exact Nat.le_trans hI.bw h
end
theorem item_lit {M : Mem} {x : El} {a : Option Addr} {c : Nat} (hx : x.ok) (hr : tRow.rv M [.slice a x.row.length c] x.row) : (tIn M tItem).rv noMem [.int .i64 x.kind, .int .i64 x.n, .int .i64 x.time, .slice a x.row.length c, .int .i64 x.cn, .pointer none] ⟨x, none⟩ :=
  ⟨_, rfl, ⟨hx.k, hx.n, hx.t, hx.c⟩, hr⟩
def OverW (base b : Nat) (W : World) (L : WL) (r : Raw) (x : El) (e : Ending) (W' : World) : Prop :=
  (validEl x = false ∧ e = .returned (.tuple #[.slice none 0 0, .int .i64 1]) ∧ WS 0 base b W L r W' r) ∨ (validEl x = true ∧ x.kind ≠ 3 ∧ e = .returned (.tuple #[.slice none 0 0, .int .i64 11]) ∧ WS 0 base b W L r W' r) ∨
  (validEl x = true ∧ x.kind = 3 ∧ r.count = 4000 ∧ e = .returned (.tuple #[.slice none 0 0, .int .i64 4]) ∧ WS 0 base b W L r W' r) ∨
  (validEl x = true ∧ x.kind = 3 ∧ r.count ≠ 4000 ∧ ∃ v ss L', e = .returned (.tuple #[v, .int .i64 0]) ∧ SortedKeys (mergeF r.way r.early) ss ∧ WireInv W' base b L' (overR r x) ∧ Below base W W' ∧ (safe W b L r).le (safe W' b L' (overR r x)) ∧ L'.nw = L.nw ∧ L'.ne = L.ne ∧ FrK L L' W W' ∧ tEls.rv (safe W' b L' (overR r x)) [v] (contR r ss))
set_option maxRecDepth 100000 in
set_option maxHeartbeats 8000000 in
theorem over_any (base b : Nat) (L : WL) (r : Raw) (x : El) (s : Value) (W : World) (hI : WireInv W base b L r) (hx : x.ok) (hv : tRow.rv (mem W) [s] x.row) (hc0 : 0 ≤ r.count) (hc1 : r.count ≤ 4000) (hb4 : r.buffer.length ≤ 4000)
    (hcont : ∀ wq, Below W.heap.size W wq → Calls Try.prog 26 #[.pointer (some ⟨b, 0, none⟩)] wq (ContOut wq r)) :
    Calls Try.prog 27 #[.pointer (some ⟨b, 0, none⟩), elV x s] W (OverW base b W L r x) := by
  obtain ⟨a, cap, rfl, _, _, hv⟩ := slice_form hv
  obtain ⟨ab, cb, hbv, hbl1, hbl2⟩ := hI.bf.form
  have hcb : cb ≤ 9223372036854775807 := by unfold maxLen at hbl2; exact hbl2
  have hB1 : ∀ o, Below W.heap.size W (W.alloc o) := fun o => (Below.refl _ _).alloc (Nat.le_refl _) o
  have HV := Lib.hid (fun (wq : World) (hq : Below W.heap.size W wq) => validEl_any x _ wq (tRow.mono _ _ _ _ (below_mem hq) hv))
  have HO := Lib.hid (fun (wq : World) (hq : Below W.heap.size W wq) (h8 : x.row.length ≤ 1000000) => own_el x _ wq (tRow.mono _ _ _ _ (below_mem hq) hv) h8)
  have HCn := Lib.hid hcont
  have HI := Lib.hid hI
  have HBV := Lib.hid hbv
  have HOK := Lib.hid hx
  have HB1 := Lib.hid (hB1 (.cells #[.int .i64 x.kind, .int .i64 x.n, .int .i64 x.time, .slice a x.row.length cap, .int .i64 x.cn] 42))
  have y := heap_alloc_new W (.cells #[.int .i64 x.kind, .int .i64 x.n, .int .i64 x.time, .slice a x.row.length cap, .int .i64 x.cn] 42)
  clear hI hv hcont hbv hx hB1 hbl2
  go_enter Try.func27, Try.ntmps27
  go_upto_region 1 with fail
  generalize (W.alloc (.cells #[.int .i64 x.kind, .int .i64 x.n, .int .i64 x.time, .slice a x.row.length cap, .int .i64 x.cn] 42)) = Y at HB1 y ⊢
  have HX := Lib.hid (fun (wq : World) (h : Below Y.heap.size Y wq) => (h.block W.heap.size (Array.getElem?_eq_some_iff.1 y).1).trans y)
  have x0 : Y.cell? ⟨W.heap.size, 0, none⟩ = some (.int .i64 x.kind) := mem_cells y 0
  have x1 : Y.cell? ⟨W.heap.size, 1, none⟩ = some (.int .i64 x.n) := mem_cells y 1
  have x2 : Y.cell? ⟨W.heap.size, 2, none⟩ = some (.int .i64 x.time) := mem_cells y 2
  have x3 : Y.cell? ⟨W.heap.size, 3, none⟩ = some (.slice a x.row.length cap) := mem_cells y 3
  have x4 : Y.cell? ⟨W.heap.size, 4, none⟩ = some (.int .i64 x.cn) := mem_cells y 4
  clear y
  go_wp2_with fail
  refine (HV.out Y HB1.out).mono ?_
  rintro e w1 ⟨rfl, hb⟩
  have y1 := HX.out w1 hb
  have HB2 := Lib.hid (HB1.out.trans (hb.mono HB1.out.size))
  have HBY := Lib.hid hb
  have HI1 := Lib.hid (HI.out.pure HB2.out)
  have c9 : w1.cell? ⟨b, 9, none⟩ = some (.int .i64 r.count) := HI1.out.cell 9
  clear hb x0 x1 x2 x3 x4 HV
  have x0 : w1.cell? ⟨W.heap.size, 0, none⟩ = some (.int .i64 x.kind) := mem_cells y1 0
  clear y1
  cases hval : validEl x with
  | false =>
    have HVL := Lib.hid hval
    clear hval
    go_wp2
    go_ret2
    exact .inl ⟨HVL.out, rfl, HI.out.pureS HB2.out⟩
  | true =>
    have h8 := validEl_row hval
    have HVL := Lib.hid hval
    clear hval
    by_cases hk3 : x.kind = 3
    rotate_left
    · have hk3' : (x.kind == 3) = false := by simpa using hk3
      have HK3 := Lib.hid hk3
      clear hk3
      go_wp2
      go_ret2
      exact .inr (.inl ⟨HVL.out, HK3.out, rfl, HI.out.pureS HB2.out⟩)
    have hk3' : (x.kind == 3) = true := by simpa using hk3
    have HK3 := Lib.hid hk3
    clear hk3
    by_cases hc : r.count = 4000
    · have hc' : (r.count == 4000) = true := by simpa using hc
      have HC4 := Lib.hid hc
      clear hc
      go_wp2
      go_ret2
      exact .inr (.inr (.inl ⟨HVL.out, HK3.out, HC4.out, rfl, HI.out.pureS HB2.out⟩))
    have hc' : (r.count == 4000) = false := by simpa using hc
    have HC4 := Lib.hid hc
    clear hc
    go_wp2_with fail
    refine (HCn.out w1 HB2.out).mono ?_
    rintro e w2 ⟨hb2, v, ss, rfl, hss, hrv⟩
    have HBY2 := Lib.hid (HBY.out.trans (hb2.mono HBY.out.size))
    have y2 := HX.out w2 HBY2.out
    have HB3 := Lib.hid (HB2.out.trans (hb2.mono HB2.out.size))
    have HI2 := Lib.hid (HI.out.pure HB3.out)
    have HRV := Lib.hid (And.intro hss hrv)
    have HSZ := Lib.hid (And.intro HB2.out.size hb2.size)
    obtain ⟨av, cv, rfl, _, hcv, _⟩ := slice_form hrv
    have HDW := Lib.hid (fun (wq : World) (h : Below w2.heap.size w2 wq) => And.intro (mem_cells ((h.block W.heap.size (Array.getElem?_eq_some_iff.1 y2).1).trans y2) 0 : wq.cell? ⟨W.heap.size, 0, none⟩ = some (.int .i64 x.kind)) (HI2.out.pure h))
    have x0 : w2.drew.cell? ⟨W.heap.size, 0, none⟩ = some (.int .i64 x.kind) := mem_cells y2 0
    have x1 : w2.drew.cell? ⟨W.heap.size, 1, none⟩ = some (.int .i64 x.n) := mem_cells y2 1
    have x2 : w2.drew.cell? ⟨W.heap.size, 2, none⟩ = some (.int .i64 x.time) := mem_cells y2 2
    have x3 : w2.drew.cell? ⟨W.heap.size, 3, none⟩ = some (.slice a x.row.length cap) := mem_cells y2 3
    have x4 : w2.drew.cell? ⟨W.heap.size, 4, none⟩ = some (.int .i64 x.cn) := mem_cells y2 4
    have e7 : w2.drew.cell? ⟨b, 7, none⟩ = some (.slice ab r.buffer.length cb) := by have h := HI2.out.cell 7; rw [show (wCells L r)[7]? = some L.bv from rfl, HBV.out] at h; exact h
    have HO2 := Lib.hid (HO.out w2.drew HB3.out.drew (by omega))
    have HL1 := Lib.hid (show [(⟨x, none⟩ : Item)].length + r.buffer.length ≤ maxLen by unfold maxLen; simp; omega)
    have HL2 := Lib.hid (show ([(⟨x, none⟩ : Item)].length + r.buffer.length) * 64 ≤ 140737488355328 by simp; omega)
    have HE7 := Lib.hid (fun (wq : World) (h : Below w2.heap.size w2 wq) => (show wq.cell? ⟨b, 7, none⟩ = some (.slice ab r.buffer.length cb) from below_mem h _ _ _ e7))
    have HC7 := Lib.hid (fun (wq : World) (h : wq.heap[b]? = some (.cells (wCells L r) 87 (0, 0))) => (show wq.cell? ⟨b, 7, none⟩ = some (.slice ab r.buffer.length cb) from by
      have h2 : wq.cell? ⟨b, 7, none⟩ = some L.bv := mem_cells h 7
      rw [HBV.out] at h2
      exact h2))
    have HBL := Lib.hid (fun (w4 w5 : World) (o : Obj) (v v5 : Value) (n m : Nat) (h : Below w2.heap.size w2 w4) (happ : AppAt (w4.alloc o) w5 v n m v5) (hv : v.ownBlock = some w4.heap.size) => (show w5.heap[b]? = some (.cells (wCells L r) 87 (0, 0)) from by
      have h4 := HI2.out.pure h
      have hl := h4.mut_lt b (.inl rfl)
      exact (happ.grown.block b (by simp; omega) (fun e => by rw [hv] at e; injection e with e; omega)).trans ((((Below.refl w4.heap.size w4).alloc (Nat.le_refl _) o).block b hl).trans h4.hb)))
    have HLTf := Lib.hid (fun (w4 : World) (h : Below w2.heap.size w2 w4) (a4 : Option Addr) (c4 : Nat) (hu : tRow.rv ((mem w4).on (w2.heap.size ≤ ·)) [.slice a4 x.row.length c4] x.row) => OwnsO.lit1 w4 94 (item_lit (M := safe w4 b L r) HOK.out (tRow.mono _ _ _ _ (fun i o v e => by
      obtain ⟨hs, e⟩ := Mem.of_on e
      exact Mem.on_some e ⟨fun hm => by have h1 := HI2.out.mut_lt i hm; have h2 : w2.heap.size ≤ i := hs; omega, fun hm => by have h1 := HI2.out.fl i hm; have h2 : w2.heap.size ≤ i := hs; omega⟩) hu)))
    have HRBf := Lib.hid (fun (w4 : World) (h : Below w2.heap.size w2 w4) (o : Obj) => (show (tSlice (tIn (safe w4 b L r) tItem)).rv (mem (w4.alloc o)) [.slice ab r.buffer.length cb] r.buffer from by
      have h4 := HI2.out.pure h
      have h5 := (h4.bf.keeps (fun k e => ((Below.refl w4.heap.size w4).alloc (Nat.le_refl _) o).block k (h4.bf.lt k e))).rv' (tIn_flat _ _)
      rw [HBV.out] at h5
      exact h5))
    clear hb2 y2 hss hrv c9 HO HCn HX hcv
    go_upto_region 8 with fail
    go_region_law (first
      | (go_simp; go_at_call 46; refine HO2.out.mono ?_; rintro e w4 ⟨a4, c4, rfl, hu, hb4'⟩; have hb44 := (Below.refl _ _).drew.trans hb4'; have HI4 := Lib.hid (HI2.out.pure hb44); have HB4 := Lib.hid hb44; have HLT := Lib.hid (HLTf.out w4 hb44 a4 c4 hu); have e74 := HE7.out w4 hb44; have e75 := HE7.out (w4.alloc (.cells #[.int .i64 x.kind, .int .i64 x.n, .int .i64 x.time, .slice a4 x.row.length c4, .int .i64 x.cn, .pointer none] 94)) (hb44.alloc hb44.size _); have HRB := Lib.hid (HRBf.out w4 hb44 (.cells #[.int .i64 x.kind, .int .i64 x.n, .int .i64 x.time, .slice a4 x.row.length c4, .int .i64 x.cn, .pointer none] 94)); clear hb4' hb44 hu)
      | (refine step_append_os rfl (.tmp 35) (.tmp 40) 83 rfl (tIn (safe w4 b L r) tItem) (tIn_flat _ _) tItem_one Try.underlying83 (infoItem _) rfl (Nat.succ_pos 5) _ [⟨x, none⟩] r.buffer rfl HLT.out _ _ _ rfl rfl HRB.out HL1.out HL2.out ?_; intro v5 w5 own5 happ; have HA := Lib.hid (HI4.out.ahead own5 happ rfl); have hb5 := HBL.out w4 w5 _ _ _ _ _ HB4.out happ rfl; obtain ⟨a5, c5, rfl, _⟩ := own5.form; have c75 := HC7.out w5 hb5; have c95 : w5.cell? ⟨b, 9, none⟩ = some (.int .i64 r.count) := mem_cells hb5 9; have f75 : ∀ o, w5.frozen? ⟨b, o, none⟩ = false := frozen_cells hb5; clear own5 happ hb5))
    all_goals
      go_wp2
      go_ret2
      obtain ⟨L', i1, i2, i3, i4, i5, i6⟩ := HA.out
      have hb24 := HB4.out
      have hsz1 := HSZ.out.1
      have hsz2 := HSZ.out.2
      refine .inr (.inr (.inr ⟨HVL.out, HK3.out, HC4.out, _, ss, L', rfl, HRV.out.1, i1, (HB3.out.mono HI.out.bw).trans ((hb24.mono (Nat.le_trans HI.out.bw HB3.out.size)).trans i2), Mem.le_trans (HI.out.safePure HB3.out) (Mem.le_trans (HI2.out.safePure hb24) i3), i4, i5, ((HI.out.pureFr HB3.out).trans (HI2.out.pureFr hb24)).trans i6, ?_⟩))
      refine tEls.mono _ _ _ _ (Mem.le_trans (fun i o v e => ?_) (Mem.le_trans (HI2.out.safePure hb24) i3)) HRV.out.2
      obtain ⟨hs, e⟩ := Mem.of_on e
      have hs : w1.heap.size ≤ i := hs
      exact Mem.on_some e ⟨fun hm => by have := HI1.out.mut_lt i hm; omega, fun hm => by have := HI1.out.fl i hm; omega⟩
end Go.Proofs.Ytfkphdmnelchmaa
/- A wire beside the reference's wire. -/
namespace Go.Proofs.Ytfkphdmnelchmaa
open Go.RowKit Go.Maps

/-- Others have done something in their blocks and in new ones: what is new can be read. -/
theorem foreignM {base b N : Nat} {W W' : World} {r : Raw} {M : Mem} {F F' : Nat → Prop} (h : St base b W r N M F) (hk : Keeps F W W') (hF : ∀ k, F' k → (F k ∨ W.heap.size ≤ k) ∧ k < W'.heap.size) : ∃ M', St base b W' r N M' F' ∧ M.le M' ∧ ((mem W').on (fun k => W.heap.size ≤ k ∧ ¬ F' k)).le M' ∧ M'.le ((mem W').on (fun k => ¬ F' k)) := by
  obtain ⟨L, i, h1, h2, hM, rfl⟩ := h
  have hlt := i.mut_lt
  have hd : ∀ k, mutB b L r k → W'.heap[k]? = W.heap[k]? := fun k hm => hk.block k (hlt k hm) (fun hf => (i.fd k hf).1 hm)
  have hd2 : ∀ k, L.qv.ownBlock = some k → W'.heap[k]? = W.heap[k]? := fun k hm => hk.block k (i.q.lt k hm) (fun hf => (i.fd k hf).2 hm)
  have hs : (safe W b L r).le (safe W' b { L with fr := F' } r) := fun j o v e => by
    obtain ⟨hs, e⟩ := Mem.of_on e
    have hl := mem_lt e
    exact Mem.on_some ((mem_of_block (hk.block j hl hs.2) o).trans e) ⟨hs.1, fun hx => (hF j hx).1.elim hs.2 (by omega)⟩
  refine ⟨safe W' b { L with fr := F' } r, ⟨{ L with fr := F' }, ⟨(hd b (.inl rfl)).trans i.hb, (i.q.keeps (fun k e => hd2 k e)).re hs, (i.bf.keeps (fun k e => hd k (.inr (.inr (.inr (.inr (.inl e))))))).re hs, i.wm.at (hd _ (.inr (.inl rfl))), i.em.at (hd _ (.inr (.inr (.inl rfl)))), i.we, fun p hp => ?_, i.nd, i.ge, Nat.le_trans i.bw hk.size, fun k hx => (hF k hx).2, fun k hx => ?_⟩, h1, h2, Mem.le_refl _, rfl⟩, Mem.le_trans hM hs, fun j o v e => ?_, Mem.on_mono _ (fun k hk => hk.2)⟩
  · obtain ⟨lv, g1, g2⟩ := i.pk p hp
    exact ⟨lv, (hd p.ad (.inr (.inr (.inr (.inl ⟨p, hp, rfl⟩))))).trans g1, tEls.mono _ _ _ _ hs g2⟩
  · rcases (hF k hx).1 with g | g
    · exact i.fd k g
    · exact ⟨fun hm => by have := hlt k hm; omega, fun hq => by have := i.q.lt k hq; omega⟩
  · obtain ⟨hs, e⟩ := Mem.of_on e
    exact Mem.on_some e ⟨fun hm => by have := hlt j hm; omega, hs.2⟩
structure Run (c : Int) (base b : Nat) (M0 : Mem) (w0 : World) (F : Nat → Prop) (W : World) (r : Raw) (ah : List El) (ps : List PK) (m N : Nat) (M : Mem) (a q p : Value) : Prop where
  st : St base b W r N M F
  so : Sound c N r ah ps m
  rf : RwAt M (refOf r ah ps) a q p
  bel : Below base w0 W
  mm : M0.le M
  fk : ∀ k, F k → W.heap[k]? = w0.heap[k]?
@[reducible] def zero7 : Array Value := #[.int .i64 0, .int .i64 0, .int .i64 0, .int .i64 0, .slice none 0 0, .slice none 0 0, .slice none 0 0]
/-- In the midst of an act: the block R, of the result, is another's. -/
structure Mid (c : Int) (base b : Nat) (M0 : Mem) (w0 : World) (F : Nat → Prop) (R : Nat) (W : World) (r : Raw) (ah : List El) (ps : List PK) (m N : Nat) (M : Mem) : Prop where
  st : St base b W r N M (fun k => F k ∨ k = R)
  so : Sound c N r ah ps m
  bel : Below base w0 W
  mm : M0.le M
  hR : W.heap[R]? = some (.cells zero7 56 (0, 0))
  bR : base ≤ R
  fk : ∀ k, F k → W.heap[k]? = w0.heap[k]?
  fR : ∀ k, F k → k ≠ R
section
variable {c : Int} {base b m N R : Nat} {M0 M : Mem} {w0 W W' : World} {F : Nat → Prop} {r r' : Raw} {ah ah' : List El} {ps ps' : List PK} {a q p : Value}
theorem Mid.lt (h : Mid c base b M0 w0 F R W r ah ps m N M) : R < W.heap.size := (Array.getElem?_eq_some_iff.1 h.hR).1
theorem Run.start (h : Run c base b M0 w0 F W r ah ps m N M a q p) (hb : Below W.heap.size W W') (h1 : W.heap.size ≤ R) (hR : W'.heap[R]? = some (.cells zero7 56 (0, 0))) :
    ∃ M', Mid c base b M0 w0 F R W' r ah ps m N M' ∧ M.le M' ∧ ((mem W').on (fun k => W.heap.size ≤ k ∧ ¬ k = R)).le M' := by
  have h2 := (Array.getElem?_eq_some_iff.1 hR).1
  have hF := h.st.fl
  obtain ⟨M', s, g1, g2, _⟩ := foreignM h.st (W' := W') (F' := fun k => F k ∨ k = R) ((below_keeps hb).wide (fun k h1 h2 => by omega)) (fun k e => e.elim (fun e => ⟨.inl e, by have := hF k e; have := hb.size; omega⟩) (fun e => ⟨.inr (by omega), by omega⟩))
  have hbw := h.st.bw
  exact ⟨M', ⟨s, h.so, h.bel.trans (hb.mono hbw), Mem.le_trans h.mm g1, hR, by omega, fun k hk => (hb.block k (hF k hk)).trans (h.fk k hk), fun k hk => by have := hF k hk; omega⟩, g1, fun i o v e => g2 _ _ _ (let ⟨hs, e⟩ := Mem.of_on e; Mem.on_some e ⟨hs.1, fun hx => hx.elim (fun hf => by have := hF i hf; have := hs.1; omega) hs.2⟩)⟩
theorem Mid.grow (h : Mid c base b M0 w0 F R W r ah ps m N M) (hb : Below W.heap.size W W') : ∃ M', Mid c base b M0 w0 F R W' r ah ps m N M' ∧ M.le M' ∧ ((mem W').on (W.heap.size ≤ ·)).le M' := by
  obtain ⟨M', s, g1, g2, _⟩ := h.st.grow hb
  exact ⟨M', ⟨s, h.so, h.bel.trans (hb.mono h.st.bw), Mem.le_trans h.mm g1, (hb.block R h.lt).trans h.hR, h.bR, fun k hk => (hb.block k (h.st.fl k (.inl hk))).trans (h.fk k hk), h.fR⟩, g1, g2⟩
theorem Mid.pure (h : Mid c base b M0 w0 F R W r ah ps m N M) (hb : Below W.heap.size W W') : Mid c base b M0 w0 F R W' r ah ps m N M :=
  ⟨h.st.pure hb, h.so, h.bel.trans (hb.mono h.st.bw), h.mm, (hb.block R h.lt).trans h.hR, h.bR, fun k hk => (hb.block k (h.st.fl k (.inl hk))).trans (h.fk k hk), h.fR⟩
theorem Mid.step (h : Mid c base b M0 w0 F R W r ah ps m N M) {M' : Mem} (hm : M.le M') (hs : Stp base b N M' (fun k => F k ∨ k = R) W W' r') {m' : Nat} (so : Sound c (N + 1) r' ah' ps' m') : Mid c base b M0 w0 F R W' r' ah' ps' m' (N + 1) M' :=
  ⟨hs.1, so, h.bel.trans hs.2.1, Mem.le_trans h.mm hm, (hs.2.2 R (.inr rfl)).trans h.hR, h.bR, fun k hk => (hs.2.2 k (.inl hk)).trans (h.fk k hk), h.fR⟩
theorem Mid.re (h : Mid c base b M0 w0 F R W r ah ps m N M) {m' : Nat} (so : Sound c N r ah' ps' m') : Mid c base b M0 w0 F R W r ah' ps' m' N M := ⟨h.st, so, h.bel, h.mm, h.hR, h.bR, h.fk, h.fR⟩
theorem Mid.mem (h : Mid c base b M0 w0 F R W r ah ps m N M) : M.le (mem W) := h.st.mem
theorem Mid.stored (h : Mid c base b M0 w0 F R W r ah ps m N M) (hk : Keeps (fun k => k = R) W W') : M.le (_root_.Go.Proofs.Ytfkphdmnelchmaa.mem W') := fun i o v e => by
  obtain ⟨L, il, _, _, hM, hF⟩ := h.st
  obtain ⟨hs, e⟩ := Mem.of_on (hM _ _ _ e)
  have hl := mem_lt e
  exact (mem_of_block (hk.block i hl (fun hh => hs.2 (by rw [hF]; exact .inr hh))) o).trans e
/-- The result is stored. -/
theorem Mid.finish (h : Mid c base b M0 w0 F R W r ah ps m N M) (hk : Keeps (fun k => k = R) W W') (hr : RwAt M (refOf r ah ps) a q p) : Run c base b M0 w0 F W' r ah ps m N M a q p := by
  have hfl := h.st.fl
  obtain ⟨s, _⟩ := h.st.foreign (F' := F) (hk.wide (fun k h1 h2 => .inr h2)) (fun k e => ⟨.inl (.inl e), by have := hfl k (.inl e); have := hk.size; omega⟩)
  have hbR := h.bR
  have hbw := h.st.bw
  exact ⟨s, h.so, hr, h.bel.trans ⟨hk.os, hk.tape, hk.output, hk.size, fun k hl => hk.block k (by omega) (by omega)⟩, h.mm, fun k e => (hk.block k (hfl k (.inl e)) (h.fR k e)).trans (h.fk k e)⟩
theorem Mid.cells (h : Mid c base b M0 w0 F R W r ah ps m N M) : (∀ o, W.frozen? ⟨R, o, none⟩ = false) ∧ ∀ o, W.cell? ⟨R, o, none⟩ = zero7[o]? := ⟨frozen_cells h.hR, fun o => mem_cells h.hR o⟩
theorem Sound.rcnt (h : Sound c N r ah ps m) : (rcont (refOf r ah ps)).length = (contentsOf r ah ps).length := by rw [rcont_ref]
end
def DoesOut (c : Int) (base b : Nat) (M0 : Mem) (w0 : World) (F : Nat → Prop) (N : Nat) (M : Mem) (k : Int) (e : Ending) (W' : World) : Prop :=
  ∃ r' ah' ps' m' M' a' q' p', e = .returned (.tuple #[wV (refOf r' ah' ps') a' q' p', .bool true]) ∧ Run c base b M0 w0 F W' r' ah' ps' m' (N + 1) M' a' q' p' ∧ M.le M' ∧ r'.count ≤ k
@[reducible] def actV (x : Act20) (s : Value) : Value := .agg #[.int .u8 x.kind, .int .i64 x.n, .int .i64 x.el.kind, .int .i64 x.el.n, .int .i64 x.el.time, s, .int .i64 x.el.cn]
end Go.Proofs.Ytfkphdmnelchmaa
