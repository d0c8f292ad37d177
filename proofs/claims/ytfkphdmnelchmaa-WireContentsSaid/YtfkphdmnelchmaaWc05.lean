/- Part 5 of the texts that the law's proof stands on, merged. -/
import Derived.Test.YtfkphdmnelchmaaWc04
set_option linter.unusedVariables false
set_option linter.unusedSimpArgs false
/- The reference's wire: New, Resize, Peek, Overtake. -/
namespace Go.Proofs.Ytfkphdmnelchmaa
open Go.RowKit Go.Maps

def zeroRW : RW := ⟨0, 0, 0, 0, [], [], []⟩
def newRW (size credits room : Int) : RW := ⟨size, room, credits, 0, [], [], []⟩
def resizeK (n : Int) : Int := if 1 ≤ n ∧ n ≤ 100 then 0 else 7
def resizeW (w : RW) (n : Int) : RW := if 1 ≤ n ∧ n ≤ 100 then { w with size := n } else w

set_option maxRecDepth 100000 in
set_option maxHeartbeats 2000000 in
theorem refResize_any (w : RW) (a q p : Value) (M : Mem) (W : World) (hM : M.le (mem W)) (h : RwAt M w a q p) (n : Int) (hn : inI64 n) : Calls Try.prog 54 #[wV w a q p, .int .i64 n] W fun e W' => e = .returned (.tuple #[wV (resizeW w n) a q p, .int .i64 (resizeK n)]) ∧ Below W.heap.size W W' := by
  obtain ⟨aa, ca, rfl, hla, hma, hra⟩ := slice_form h.ha
  obtain ⟨aq, cq, rfl, hlq, hmq, hrq⟩ := slice_form h.hq
  obtain ⟨ap, cp, rfl, hlp, hmp, hrp⟩ := slice_form h.hp
  have hca : ca ≤ 9223372036854775807 := by unfold maxLen at hma; exact hma
  have hcq : cq ≤ 9223372036854775807 := by unfold maxLen at hmq; exact hmq
  have hcp : cp ≤ 9223372036854775807 := by unfold maxLen at hmp; exact hmp
  have HA := Lib.hid hra
  have HQ := Lib.hid hrq
  have HP := Lib.hid hrp
  have HW := Lib.hid h
  have HM := Lib.hid hM
  clear hma hmq hmp hra hrq hrp h hM
  have HB2 := Lib.hid (((Below.refl W.heap.size W).alloc (Nat.le_refl _) (.cells #[.int .i64 w.size, .int .i64 w.room, .int .i64 w.credits, .int .i64 w.next, .slice aa w.ahead.length ca, .slice aq w.queue.length cq, .slice ap w.pk.length cp] 56)).alloc (by simp) (.cells #[.int .i64 0, .int .i64 0, .int .i64 0, .int .i64 0, .slice none 0 0, .slice none 0 0, .slice none 0 0] 56))
  have yB : ((W.alloc (.cells #[.int .i64 w.size, .int .i64 w.room, .int .i64 w.credits, .int .i64 w.next, .slice aa w.ahead.length ca, .slice aq w.queue.length cq, .slice ap w.pk.length cp] 56)).alloc (.cells #[.int .i64 0, .int .i64 0, .int .i64 0, .int .i64 0, .slice none 0 0, .slice none 0 0, .slice none 0 0] 56)).heap[W.heap.size]? = some (.cells #[.int .i64 w.size, .int .i64 w.room, .int .i64 w.credits, .int .i64 w.next, .slice aa w.ahead.length ca, .slice aq w.queue.length cq, .slice ap w.pk.length cp] 56 (0, 0)) := alloc_block (heap_alloc_new W _) _
  have yR : ((W.alloc (.cells #[.int .i64 w.size, .int .i64 w.room, .int .i64 w.credits, .int .i64 w.next, .slice aa w.ahead.length ca, .slice aq w.queue.length cq, .slice ap w.pk.length cp] 56)).alloc (.cells #[.int .i64 0, .int .i64 0, .int .i64 0, .int .i64 0, .slice none 0 0, .slice none 0 0, .slice none 0 0] 56)).heap[W.heap.size + 1]? = some (.cells #[.int .i64 0, .int .i64 0, .int .i64 0, .int .i64 0, .slice none 0 0, .slice none 0 0, .slice none 0 0] 56 (0, 0)) := by have h := heap_alloc_new (W.alloc (.cells #[.int .i64 w.size, .int .i64 w.room, .int .i64 w.credits, .int .i64 w.next, .slice aa w.ahead.length ca, .slice aq w.queue.length cq, .slice ap w.pk.length cp] 56)) (.cells #[.int .i64 0, .int .i64 0, .int .i64 0, .int .i64 0, .slice none 0 0, .slice none 0 0, .slice none 0 0] 56); rwa [World.size_alloc] at h
  go_enter Try.func54, Try.ntmps54
  go_upto_region 1 with fail
  generalize (W.alloc (.cells #[.int .i64 w.size, .int .i64 w.room, .int .i64 w.credits, .int .i64 w.next, .slice aa w.ahead.length ca, .slice aq w.queue.length cq, .slice ap w.pk.length cp] 56)).alloc (.cells #[.int .i64 0, .int .i64 0, .int .i64 0, .int .i64 0, .slice none 0 0, .slice none 0 0, .slice none 0 0] 56) = Y at HB2 yB yR ⊢
  have c0 : Y.cell? ⟨W.heap.size, 0, none⟩ = some (.int .i64 w.size) := mem_cells yB 0
  have c1 : Y.cell? ⟨W.heap.size, 1, none⟩ = some (.int .i64 w.room) := mem_cells yB 1
  have c2 : Y.cell? ⟨W.heap.size, 2, none⟩ = some (.int .i64 w.credits) := mem_cells yB 2
  have c3 : Y.cell? ⟨W.heap.size, 3, none⟩ = some (.int .i64 w.next) := mem_cells yB 3
  have c4 : Y.cell? ⟨W.heap.size, 4, none⟩ = some (.slice aa w.ahead.length ca) := mem_cells yB 4
  have c5 : Y.cell? ⟨W.heap.size, 5, none⟩ = some (.slice aq w.queue.length cq) := mem_cells yB 5
  have c6 : Y.cell? ⟨W.heap.size, 6, none⟩ = some (.slice ap w.pk.length cp) := mem_cells yB 6
  have r0 : Y.cell? ⟨W.heap.size + 1, 0, none⟩ = some (.int .i64 0) := mem_cells yR 0
  have r1 : Y.cell? ⟨W.heap.size + 1, 1, none⟩ = some (.int .i64 0) := mem_cells yR 1
  have r2 : Y.cell? ⟨W.heap.size + 1, 2, none⟩ = some (.int .i64 0) := mem_cells yR 2
  have r3 : Y.cell? ⟨W.heap.size + 1, 3, none⟩ = some (.int .i64 0) := mem_cells yR 3
  have r4 : Y.cell? ⟨W.heap.size + 1, 4, none⟩ = some (.slice none 0 0) := mem_cells yR 4
  have r5 : Y.cell? ⟨W.heap.size + 1, 5, none⟩ = some (.slice none 0 0) := mem_cells yR 5
  have r6 : Y.cell? ⟨W.heap.size + 1, 6, none⟩ = some (.slice none 0 0) := mem_cells yR 6
  have fB : ∀ o, Y.frozen? ⟨W.heap.size, o, none⟩ = false := frozen_cells yB
  have fR : ∀ o, Y.frozen? ⟨W.heap.size + 1, o, none⟩ = false := frozen_cells yR
  have HYR := Lib.hid yR
  have HYB := Lib.hid yB
  clear yR yB
  by_cases h1 : 1 ≤ n
  · by_cases h2 : n ≤ 100
    · have hR : resizeW w n = { w with size := n } := if_pos ⟨h1, h2⟩
      have hK : resizeK n = 0 := if_pos ⟨h1, h2⟩
      have HRK := Lib.hid (And.intro hR hK)
      clear hR hK
      go_wp2
      have q1 : (Y.setCell ⟨W.heap.size, 0, none⟩ (.int .i64 n)).heap[W.heap.size + 1]? = some (.cells #[.int .i64 0, .int .i64 0, .int .i64 0, .int .i64 0, .slice none 0 0, .slice none 0 0, .slice none 0 0] 56 (0, 0)) := (set_block_other (by omega)).trans HYR.out
      have HBX := Lib.hid (Keeps.belowStep HB2.out ((Keeps.refl (fun k => k = W.heap.size) Y).setCell (p := ⟨W.heap.size, 0, none⟩) (fun _ => rfl) (.int .i64 n)) (fun k hk => by omega) HB2.out.size)
      have r1 := store7_block q1 (.int .i64 n) (.int .i64 w.room) (.int .i64 w.credits) (.int .i64 w.next) (.slice aa w.ahead.length ca) (.slice aq w.queue.length cq) (.slice ap w.pk.length cp)
      have hk := store7_keeps (Y.setCell ⟨W.heap.size, 0, none⟩ (.int .i64 n)) (W.heap.size + 1) (.int .i64 n) (.int .i64 w.room) (.int .i64 w.credits) (.int .i64 w.next) (.slice aa w.ahead.length ca) (.slice aq w.queue.length cq) (.slice ap w.pk.length cp)
      show bodyPost _ _ _ _ _ (store7 (Y.setCell ⟨W.heap.size, 0, none⟩ (.int .i64 n)) (W.heap.size + 1) (.int .i64 n) (.int .i64 w.room) (.int .i64 w.credits) (.int .i64 w.next) (.slice aa w.ahead.length ca) (.slice aq w.queue.length cq) (.slice ap w.pk.length cp))
      generalize store7 (Y.setCell ⟨W.heap.size, 0, none⟩ (.int .i64 n)) (W.heap.size + 1) (.int .i64 n) (.int .i64 w.room) (.int .i64 w.credits) (.int .i64 w.next) (.slice aa w.ahead.length ca) (.slice aq w.queue.length cq) (.slice ap w.pk.length cp) = w2 at r1 hk ⊢
      have hBz : Below W.heap.size W w2 := Keeps.belowStep HBX.out hk (fun k hk => by omega) HBX.out.size
      have g0 : w2.cell? ⟨(W.heap.size + 1), 0, none⟩ = some (.int .i64 n) := mem_cells r1 0
      have g1 : w2.cell? ⟨(W.heap.size + 1), 1, none⟩ = some (.int .i64 w.room) := mem_cells r1 1
      have g2 : w2.cell? ⟨(W.heap.size + 1), 2, none⟩ = some (.int .i64 w.credits) := mem_cells r1 2
      have g3 : w2.cell? ⟨(W.heap.size + 1), 3, none⟩ = some (.int .i64 w.next) := mem_cells r1 3
      have g4 : w2.cell? ⟨(W.heap.size + 1), 4, none⟩ = some (.slice aa w.ahead.length ca) := mem_cells r1 4
      have g5 : w2.cell? ⟨(W.heap.size + 1), 5, none⟩ = some (.slice aq w.queue.length cq) := mem_cells r1 5
      have g6 : w2.cell? ⟨(W.heap.size + 1), 6, none⟩ = some (.slice ap w.pk.length cp) := mem_cells r1 6
      exact bodyPost_ret (v := .tuple #[.agg #[.int .i64 n, .int .i64 w.room, .int .i64 w.credits, .int .i64 w.next, .slice aa w.ahead.length ca, .slice aq w.queue.length cq, .slice ap w.pk.length cp], .int .i64 0]) (by simp [results, Try.results54, go_sem, g0, g1, g2, g3, g4, g5, g6]) rfl ⟨by rw [HRK.out.1, HRK.out.2], hBz⟩
    · have hR : resizeW w n = w := if_neg (fun h => h2 h.2)
      have hK : resizeK n = 7 := if_neg (fun h => h2 h.2)
      have HRK := Lib.hid (And.intro hR hK)
      clear hR hK
      go_wp2
      have HBX := HB2
      have r1 := store7_block HYR.out (.int .i64 w.size) (.int .i64 w.room) (.int .i64 w.credits) (.int .i64 w.next) (.slice aa w.ahead.length ca) (.slice aq w.queue.length cq) (.slice ap w.pk.length cp)
      have hk := store7_keeps (Y) (W.heap.size + 1) (.int .i64 w.size) (.int .i64 w.room) (.int .i64 w.credits) (.int .i64 w.next) (.slice aa w.ahead.length ca) (.slice aq w.queue.length cq) (.slice ap w.pk.length cp)
      show bodyPost _ _ _ _ _ (store7 (Y) (W.heap.size + 1) (.int .i64 w.size) (.int .i64 w.room) (.int .i64 w.credits) (.int .i64 w.next) (.slice aa w.ahead.length ca) (.slice aq w.queue.length cq) (.slice ap w.pk.length cp))
      generalize store7 (Y) (W.heap.size + 1) (.int .i64 w.size) (.int .i64 w.room) (.int .i64 w.credits) (.int .i64 w.next) (.slice aa w.ahead.length ca) (.slice aq w.queue.length cq) (.slice ap w.pk.length cp) = w2 at r1 hk ⊢
      have hBz : Below W.heap.size W w2 := Keeps.belowStep HBX.out hk (fun k hk => by omega) HBX.out.size
      have g0 : w2.cell? ⟨(W.heap.size + 1), 0, none⟩ = some (.int .i64 w.size) := mem_cells r1 0
      have g1 : w2.cell? ⟨(W.heap.size + 1), 1, none⟩ = some (.int .i64 w.room) := mem_cells r1 1
      have g2 : w2.cell? ⟨(W.heap.size + 1), 2, none⟩ = some (.int .i64 w.credits) := mem_cells r1 2
      have g3 : w2.cell? ⟨(W.heap.size + 1), 3, none⟩ = some (.int .i64 w.next) := mem_cells r1 3
      have g4 : w2.cell? ⟨(W.heap.size + 1), 4, none⟩ = some (.slice aa w.ahead.length ca) := mem_cells r1 4
      have g5 : w2.cell? ⟨(W.heap.size + 1), 5, none⟩ = some (.slice aq w.queue.length cq) := mem_cells r1 5
      have g6 : w2.cell? ⟨(W.heap.size + 1), 6, none⟩ = some (.slice ap w.pk.length cp) := mem_cells r1 6
      exact bodyPost_ret (v := .tuple #[.agg #[.int .i64 w.size, .int .i64 w.room, .int .i64 w.credits, .int .i64 w.next, .slice aa w.ahead.length ca, .slice aq w.queue.length cq, .slice ap w.pk.length cp], .int .i64 7]) (by simp [results, Try.results54, go_sem, g0, g1, g2, g3, g4, g5, g6]) rfl ⟨by rw [HRK.out.1, HRK.out.2], hBz⟩
  · have hR : resizeW w n = w := if_neg (fun h => h1 h.1)
    have hK : resizeK n = 7 := if_neg (fun h => h1 h.1)
    have HRK := Lib.hid (And.intro hR hK)
    clear hR hK
    go_wp2
    have HBX := HB2
    have r1 := store7_block HYR.out (.int .i64 w.size) (.int .i64 w.room) (.int .i64 w.credits) (.int .i64 w.next) (.slice aa w.ahead.length ca) (.slice aq w.queue.length cq) (.slice ap w.pk.length cp)
    have hk := store7_keeps (Y) (W.heap.size + 1) (.int .i64 w.size) (.int .i64 w.room) (.int .i64 w.credits) (.int .i64 w.next) (.slice aa w.ahead.length ca) (.slice aq w.queue.length cq) (.slice ap w.pk.length cp)
    show bodyPost _ _ _ _ _ (store7 (Y) (W.heap.size + 1) (.int .i64 w.size) (.int .i64 w.room) (.int .i64 w.credits) (.int .i64 w.next) (.slice aa w.ahead.length ca) (.slice aq w.queue.length cq) (.slice ap w.pk.length cp))
    generalize store7 (Y) (W.heap.size + 1) (.int .i64 w.size) (.int .i64 w.room) (.int .i64 w.credits) (.int .i64 w.next) (.slice aa w.ahead.length ca) (.slice aq w.queue.length cq) (.slice ap w.pk.length cp) = w2 at r1 hk ⊢
    have hBz : Below W.heap.size W w2 := Keeps.belowStep HBX.out hk (fun k hk => by omega) HBX.out.size
    have g0 : w2.cell? ⟨(W.heap.size + 1), 0, none⟩ = some (.int .i64 w.size) := mem_cells r1 0
    have g1 : w2.cell? ⟨(W.heap.size + 1), 1, none⟩ = some (.int .i64 w.room) := mem_cells r1 1
    have g2 : w2.cell? ⟨(W.heap.size + 1), 2, none⟩ = some (.int .i64 w.credits) := mem_cells r1 2
    have g3 : w2.cell? ⟨(W.heap.size + 1), 3, none⟩ = some (.int .i64 w.next) := mem_cells r1 3
    have g4 : w2.cell? ⟨(W.heap.size + 1), 4, none⟩ = some (.slice aa w.ahead.length ca) := mem_cells r1 4
    have g5 : w2.cell? ⟨(W.heap.size + 1), 5, none⟩ = some (.slice aq w.queue.length cq) := mem_cells r1 5
    have g6 : w2.cell? ⟨(W.heap.size + 1), 6, none⟩ = some (.slice ap w.pk.length cp) := mem_cells r1 6
    exact bodyPost_ret (v := .tuple #[.agg #[.int .i64 w.size, .int .i64 w.room, .int .i64 w.credits, .int .i64 w.next, .slice aa w.ahead.length ca, .slice aq w.queue.length cq, .slice ap w.pk.length cp], .int .i64 7]) (by simp [results, Try.results54, go_sem, g0, g1, g2, g3, g4, g5, g6]) rfl ⟨by rw [HRK.out.1, HRK.out.2], hBz⟩

set_option maxRecDepth 100000 in
set_option maxHeartbeats 2000000 in
theorem refNew_any (size credits room : Int) (W : World) : Calls Try.prog 24 #[.int .i64 size, .int .i64 credits, .int .i64 room] W fun e W' => ((okNew size credits room ∧ e = .returned (.tuple #[wV (newRW size credits room) (.slice none 0 0) (.slice none 0 0) (.slice none 0 0), .int .i64 0])) ∨ (¬ okNew size credits room ∧ e = .returned (.tuple #[wV zeroRW (.slice none 0 0) (.slice none 0 0) (.slice none 0 0), .int .i64 7]))) ∧ Below W.heap.size W W' := by
  have HB2 := Lib.hid ((Below.refl W.heap.size W).alloc (Nat.le_refl _) (.cells #[.int .i64 0, .int .i64 0, .int .i64 0, .int .i64 0, .slice none 0 0, .slice none 0 0, .slice none 0 0] 56))
  have yR : (W.alloc (.cells #[.int .i64 0, .int .i64 0, .int .i64 0, .int .i64 0, .slice none 0 0, .slice none 0 0, .slice none 0 0] 56)).heap[W.heap.size]? = some (.cells #[.int .i64 0, .int .i64 0, .int .i64 0, .int .i64 0, .slice none 0 0, .slice none 0 0, .slice none 0 0] 56 (0, 0)) := heap_alloc_new W _
  go_enter Try.func24, Try.ntmps24
  go_upto_region 1 with fail
  generalize W.alloc (.cells #[.int .i64 0, .int .i64 0, .int .i64 0, .int .i64 0, .slice none 0 0, .slice none 0 0, .slice none 0 0] 56) = Y at HB2 yR ⊢
  have r0 : Y.cell? ⟨W.heap.size, 0, none⟩ = some (.int .i64 0) := mem_cells yR 0
  have r1 : Y.cell? ⟨W.heap.size, 1, none⟩ = some (.int .i64 0) := mem_cells yR 1
  have r2 : Y.cell? ⟨W.heap.size, 2, none⟩ = some (.int .i64 0) := mem_cells yR 2
  have r3 : Y.cell? ⟨W.heap.size, 3, none⟩ = some (.int .i64 0) := mem_cells yR 3
  have r4 : Y.cell? ⟨W.heap.size, 4, none⟩ = some (.slice none 0 0) := mem_cells yR 4
  have r5 : Y.cell? ⟨W.heap.size, 5, none⟩ = some (.slice none 0 0) := mem_cells yR 5
  have r6 : Y.cell? ⟨W.heap.size, 6, none⟩ = some (.slice none 0 0) := mem_cells yR 6
  have fR : ∀ o, Y.frozen? ⟨W.heap.size, o, none⟩ = false := frozen_cells yR
  have HYR := Lib.hid yR
  clear yR
  by_cases a1 : 1 ≤ size
  rotate_left
  · have HN := Lib.hid (show ¬ okNew size credits room from fun h => a1 h.1.1)
    go_wp2
    have HBX := HB2
    have r1 := store7_block HYR.out (.int .i64 0) (.int .i64 0) (.int .i64 0) (.int .i64 0) (.slice none 0 0) (.slice none 0 0) (.slice none 0 0)
    have hk := store7_keeps (Y) W.heap.size (.int .i64 0) (.int .i64 0) (.int .i64 0) (.int .i64 0) (.slice none 0 0) (.slice none 0 0) (.slice none 0 0)
    show bodyPost _ _ _ _ _ (store7 (Y) W.heap.size (.int .i64 0) (.int .i64 0) (.int .i64 0) (.int .i64 0) (.slice none 0 0) (.slice none 0 0) (.slice none 0 0))
    generalize store7 (Y) W.heap.size (.int .i64 0) (.int .i64 0) (.int .i64 0) (.int .i64 0) (.slice none 0 0) (.slice none 0 0) (.slice none 0 0) = w2 at r1 hk ⊢
    have hBz : Below W.heap.size W w2 := Keeps.belowStep HBX.out hk (fun k hk => by omega) HBX.out.size
    have g0 : w2.cell? ⟨W.heap.size, 0, none⟩ = some (.int .i64 0) := mem_cells r1 0
    have g1 : w2.cell? ⟨W.heap.size, 1, none⟩ = some (.int .i64 0) := mem_cells r1 1
    have g2 : w2.cell? ⟨W.heap.size, 2, none⟩ = some (.int .i64 0) := mem_cells r1 2
    have g3 : w2.cell? ⟨W.heap.size, 3, none⟩ = some (.int .i64 0) := mem_cells r1 3
    have g4 : w2.cell? ⟨W.heap.size, 4, none⟩ = some (.slice none 0 0) := mem_cells r1 4
    have g5 : w2.cell? ⟨W.heap.size, 5, none⟩ = some (.slice none 0 0) := mem_cells r1 5
    have g6 : w2.cell? ⟨W.heap.size, 6, none⟩ = some (.slice none 0 0) := mem_cells r1 6
    exact bodyPost_ret (v := .tuple #[.agg #[.int .i64 0, .int .i64 0, .int .i64 0, .int .i64 0, .slice none 0 0, .slice none 0 0, .slice none 0 0], .int .i64 7]) (by simp [results, Try.results24, go_sem, g0, g1, g2, g3, g4, g5, g6]) rfl ⟨.inr ⟨HN.out, rfl⟩, hBz⟩
  by_cases a2 : size ≤ 100
  rotate_left
  · have HN := Lib.hid (show ¬ okNew size credits room from fun h => a2 h.1.2)
    go_wp2
    have HBX := HB2
    have r1 := store7_block HYR.out (.int .i64 0) (.int .i64 0) (.int .i64 0) (.int .i64 0) (.slice none 0 0) (.slice none 0 0) (.slice none 0 0)
    have hk := store7_keeps (Y) W.heap.size (.int .i64 0) (.int .i64 0) (.int .i64 0) (.int .i64 0) (.slice none 0 0) (.slice none 0 0) (.slice none 0 0)
    show bodyPost _ _ _ _ _ (store7 (Y) W.heap.size (.int .i64 0) (.int .i64 0) (.int .i64 0) (.int .i64 0) (.slice none 0 0) (.slice none 0 0) (.slice none 0 0))
    generalize store7 (Y) W.heap.size (.int .i64 0) (.int .i64 0) (.int .i64 0) (.int .i64 0) (.slice none 0 0) (.slice none 0 0) (.slice none 0 0) = w2 at r1 hk ⊢
    have hBz : Below W.heap.size W w2 := Keeps.belowStep HBX.out hk (fun k hk => by omega) HBX.out.size
    have g0 : w2.cell? ⟨W.heap.size, 0, none⟩ = some (.int .i64 0) := mem_cells r1 0
    have g1 : w2.cell? ⟨W.heap.size, 1, none⟩ = some (.int .i64 0) := mem_cells r1 1
    have g2 : w2.cell? ⟨W.heap.size, 2, none⟩ = some (.int .i64 0) := mem_cells r1 2
    have g3 : w2.cell? ⟨W.heap.size, 3, none⟩ = some (.int .i64 0) := mem_cells r1 3
    have g4 : w2.cell? ⟨W.heap.size, 4, none⟩ = some (.slice none 0 0) := mem_cells r1 4
    have g5 : w2.cell? ⟨W.heap.size, 5, none⟩ = some (.slice none 0 0) := mem_cells r1 5
    have g6 : w2.cell? ⟨W.heap.size, 6, none⟩ = some (.slice none 0 0) := mem_cells r1 6
    exact bodyPost_ret (v := .tuple #[.agg #[.int .i64 0, .int .i64 0, .int .i64 0, .int .i64 0, .slice none 0 0, .slice none 0 0, .slice none 0 0], .int .i64 7]) (by simp [results, Try.results24, go_sem, g0, g1, g2, g3, g4, g5, g6]) rfl ⟨.inr ⟨HN.out, rfl⟩, hBz⟩
  by_cases b1 : 1 ≤ credits
  rotate_left
  · have HN := Lib.hid (show ¬ okNew size credits room from fun h => b1 h.2.1.1)
    go_wp2
    have HBX := HB2
    have r1 := store7_block HYR.out (.int .i64 0) (.int .i64 0) (.int .i64 0) (.int .i64 0) (.slice none 0 0) (.slice none 0 0) (.slice none 0 0)
    have hk := store7_keeps (Y) W.heap.size (.int .i64 0) (.int .i64 0) (.int .i64 0) (.int .i64 0) (.slice none 0 0) (.slice none 0 0) (.slice none 0 0)
    show bodyPost _ _ _ _ _ (store7 (Y) W.heap.size (.int .i64 0) (.int .i64 0) (.int .i64 0) (.int .i64 0) (.slice none 0 0) (.slice none 0 0) (.slice none 0 0))
    generalize store7 (Y) W.heap.size (.int .i64 0) (.int .i64 0) (.int .i64 0) (.int .i64 0) (.slice none 0 0) (.slice none 0 0) (.slice none 0 0) = w2 at r1 hk ⊢
    have hBz : Below W.heap.size W w2 := Keeps.belowStep HBX.out hk (fun k hk => by omega) HBX.out.size
    have g0 : w2.cell? ⟨W.heap.size, 0, none⟩ = some (.int .i64 0) := mem_cells r1 0
    have g1 : w2.cell? ⟨W.heap.size, 1, none⟩ = some (.int .i64 0) := mem_cells r1 1
    have g2 : w2.cell? ⟨W.heap.size, 2, none⟩ = some (.int .i64 0) := mem_cells r1 2
    have g3 : w2.cell? ⟨W.heap.size, 3, none⟩ = some (.int .i64 0) := mem_cells r1 3
    have g4 : w2.cell? ⟨W.heap.size, 4, none⟩ = some (.slice none 0 0) := mem_cells r1 4
    have g5 : w2.cell? ⟨W.heap.size, 5, none⟩ = some (.slice none 0 0) := mem_cells r1 5
    have g6 : w2.cell? ⟨W.heap.size, 6, none⟩ = some (.slice none 0 0) := mem_cells r1 6
    exact bodyPost_ret (v := .tuple #[.agg #[.int .i64 0, .int .i64 0, .int .i64 0, .int .i64 0, .slice none 0 0, .slice none 0 0, .slice none 0 0], .int .i64 7]) (by simp [results, Try.results24, go_sem, g0, g1, g2, g3, g4, g5, g6]) rfl ⟨.inr ⟨HN.out, rfl⟩, hBz⟩
  by_cases b2 : credits ≤ 100
  rotate_left
  · have HN := Lib.hid (show ¬ okNew size credits room from fun h => b2 h.2.1.2)
    go_wp2
    have HBX := HB2
    have r1 := store7_block HYR.out (.int .i64 0) (.int .i64 0) (.int .i64 0) (.int .i64 0) (.slice none 0 0) (.slice none 0 0) (.slice none 0 0)
    have hk := store7_keeps (Y) W.heap.size (.int .i64 0) (.int .i64 0) (.int .i64 0) (.int .i64 0) (.slice none 0 0) (.slice none 0 0) (.slice none 0 0)
    show bodyPost _ _ _ _ _ (store7 (Y) W.heap.size (.int .i64 0) (.int .i64 0) (.int .i64 0) (.int .i64 0) (.slice none 0 0) (.slice none 0 0) (.slice none 0 0))
    generalize store7 (Y) W.heap.size (.int .i64 0) (.int .i64 0) (.int .i64 0) (.int .i64 0) (.slice none 0 0) (.slice none 0 0) (.slice none 0 0) = w2 at r1 hk ⊢
    have hBz : Below W.heap.size W w2 := Keeps.belowStep HBX.out hk (fun k hk => by omega) HBX.out.size
    have g0 : w2.cell? ⟨W.heap.size, 0, none⟩ = some (.int .i64 0) := mem_cells r1 0
    have g1 : w2.cell? ⟨W.heap.size, 1, none⟩ = some (.int .i64 0) := mem_cells r1 1
    have g2 : w2.cell? ⟨W.heap.size, 2, none⟩ = some (.int .i64 0) := mem_cells r1 2
    have g3 : w2.cell? ⟨W.heap.size, 3, none⟩ = some (.int .i64 0) := mem_cells r1 3
    have g4 : w2.cell? ⟨W.heap.size, 4, none⟩ = some (.slice none 0 0) := mem_cells r1 4
    have g5 : w2.cell? ⟨W.heap.size, 5, none⟩ = some (.slice none 0 0) := mem_cells r1 5
    have g6 : w2.cell? ⟨W.heap.size, 6, none⟩ = some (.slice none 0 0) := mem_cells r1 6
    exact bodyPost_ret (v := .tuple #[.agg #[.int .i64 0, .int .i64 0, .int .i64 0, .int .i64 0, .slice none 0 0, .slice none 0 0, .slice none 0 0], .int .i64 7]) (by simp [results, Try.results24, go_sem, g0, g1, g2, g3, g4, g5, g6]) rfl ⟨.inr ⟨HN.out, rfl⟩, hBz⟩
  by_cases c1 : 1 ≤ room
  rotate_left
  · have HN := Lib.hid (show ¬ okNew size credits room from fun h => c1 h.2.2.1)
    go_wp2
    have HBX := HB2
    have r1 := store7_block HYR.out (.int .i64 0) (.int .i64 0) (.int .i64 0) (.int .i64 0) (.slice none 0 0) (.slice none 0 0) (.slice none 0 0)
    have hk := store7_keeps (Y) W.heap.size (.int .i64 0) (.int .i64 0) (.int .i64 0) (.int .i64 0) (.slice none 0 0) (.slice none 0 0) (.slice none 0 0)
    show bodyPost _ _ _ _ _ (store7 (Y) W.heap.size (.int .i64 0) (.int .i64 0) (.int .i64 0) (.int .i64 0) (.slice none 0 0) (.slice none 0 0) (.slice none 0 0))
    generalize store7 (Y) W.heap.size (.int .i64 0) (.int .i64 0) (.int .i64 0) (.int .i64 0) (.slice none 0 0) (.slice none 0 0) (.slice none 0 0) = w2 at r1 hk ⊢
    have hBz : Below W.heap.size W w2 := Keeps.belowStep HBX.out hk (fun k hk => by omega) HBX.out.size
    have g0 : w2.cell? ⟨W.heap.size, 0, none⟩ = some (.int .i64 0) := mem_cells r1 0
    have g1 : w2.cell? ⟨W.heap.size, 1, none⟩ = some (.int .i64 0) := mem_cells r1 1
    have g2 : w2.cell? ⟨W.heap.size, 2, none⟩ = some (.int .i64 0) := mem_cells r1 2
    have g3 : w2.cell? ⟨W.heap.size, 3, none⟩ = some (.int .i64 0) := mem_cells r1 3
    have g4 : w2.cell? ⟨W.heap.size, 4, none⟩ = some (.slice none 0 0) := mem_cells r1 4
    have g5 : w2.cell? ⟨W.heap.size, 5, none⟩ = some (.slice none 0 0) := mem_cells r1 5
    have g6 : w2.cell? ⟨W.heap.size, 6, none⟩ = some (.slice none 0 0) := mem_cells r1 6
    exact bodyPost_ret (v := .tuple #[.agg #[.int .i64 0, .int .i64 0, .int .i64 0, .int .i64 0, .slice none 0 0, .slice none 0 0, .slice none 0 0], .int .i64 7]) (by simp [results, Try.results24, go_sem, g0, g1, g2, g3, g4, g5, g6]) rfl ⟨.inr ⟨HN.out, rfl⟩, hBz⟩
  by_cases c2 : room ≤ 1000
  rotate_left
  · have HN := Lib.hid (show ¬ okNew size credits room from fun h => c2 h.2.2.2)
    go_wp2
    have HBX := HB2
    have r1 := store7_block HYR.out (.int .i64 0) (.int .i64 0) (.int .i64 0) (.int .i64 0) (.slice none 0 0) (.slice none 0 0) (.slice none 0 0)
    have hk := store7_keeps (Y) W.heap.size (.int .i64 0) (.int .i64 0) (.int .i64 0) (.int .i64 0) (.slice none 0 0) (.slice none 0 0) (.slice none 0 0)
    show bodyPost _ _ _ _ _ (store7 (Y) W.heap.size (.int .i64 0) (.int .i64 0) (.int .i64 0) (.int .i64 0) (.slice none 0 0) (.slice none 0 0) (.slice none 0 0))
    generalize store7 (Y) W.heap.size (.int .i64 0) (.int .i64 0) (.int .i64 0) (.int .i64 0) (.slice none 0 0) (.slice none 0 0) (.slice none 0 0) = w2 at r1 hk ⊢
    have hBz : Below W.heap.size W w2 := Keeps.belowStep HBX.out hk (fun k hk => by omega) HBX.out.size
    have g0 : w2.cell? ⟨W.heap.size, 0, none⟩ = some (.int .i64 0) := mem_cells r1 0
    have g1 : w2.cell? ⟨W.heap.size, 1, none⟩ = some (.int .i64 0) := mem_cells r1 1
    have g2 : w2.cell? ⟨W.heap.size, 2, none⟩ = some (.int .i64 0) := mem_cells r1 2
    have g3 : w2.cell? ⟨W.heap.size, 3, none⟩ = some (.int .i64 0) := mem_cells r1 3
    have g4 : w2.cell? ⟨W.heap.size, 4, none⟩ = some (.slice none 0 0) := mem_cells r1 4
    have g5 : w2.cell? ⟨W.heap.size, 5, none⟩ = some (.slice none 0 0) := mem_cells r1 5
    have g6 : w2.cell? ⟨W.heap.size, 6, none⟩ = some (.slice none 0 0) := mem_cells r1 6
    exact bodyPost_ret (v := .tuple #[.agg #[.int .i64 0, .int .i64 0, .int .i64 0, .int .i64 0, .slice none 0 0, .slice none 0 0, .slice none 0 0], .int .i64 7]) (by simp [results, Try.results24, go_sem, g0, g1, g2, g3, g4, g5, g6]) rfl ⟨.inr ⟨HN.out, rfl⟩, hBz⟩
  go_wp2
  have HBX := HB2
  have r1 := store7_block HYR.out (.int .i64 size) (.int .i64 room) (.int .i64 credits) (.int .i64 0) (.slice none 0 0) (.slice none 0 0) (.slice none 0 0)
  have hk := store7_keeps (Y) W.heap.size (.int .i64 size) (.int .i64 room) (.int .i64 credits) (.int .i64 0) (.slice none 0 0) (.slice none 0 0) (.slice none 0 0)
  show bodyPost _ _ _ _ _ (store7 (Y) W.heap.size (.int .i64 size) (.int .i64 room) (.int .i64 credits) (.int .i64 0) (.slice none 0 0) (.slice none 0 0) (.slice none 0 0))
  generalize store7 (Y) W.heap.size (.int .i64 size) (.int .i64 room) (.int .i64 credits) (.int .i64 0) (.slice none 0 0) (.slice none 0 0) (.slice none 0 0) = w2 at r1 hk ⊢
  have hBz : Below W.heap.size W w2 := Keeps.belowStep HBX.out hk (fun k hk => by omega) HBX.out.size
  have g0 : w2.cell? ⟨W.heap.size, 0, none⟩ = some (.int .i64 size) := mem_cells r1 0
  have g1 : w2.cell? ⟨W.heap.size, 1, none⟩ = some (.int .i64 room) := mem_cells r1 1
  have g2 : w2.cell? ⟨W.heap.size, 2, none⟩ = some (.int .i64 credits) := mem_cells r1 2
  have g3 : w2.cell? ⟨W.heap.size, 3, none⟩ = some (.int .i64 0) := mem_cells r1 3
  have g4 : w2.cell? ⟨W.heap.size, 4, none⟩ = some (.slice none 0 0) := mem_cells r1 4
  have g5 : w2.cell? ⟨W.heap.size, 5, none⟩ = some (.slice none 0 0) := mem_cells r1 5
  have g6 : w2.cell? ⟨W.heap.size, 6, none⟩ = some (.slice none 0 0) := mem_cells r1 6
  exact bodyPost_ret (v := .tuple #[.agg #[.int .i64 size, .int .i64 room, .int .i64 credits, .int .i64 0, .slice none 0 0, .slice none 0 0, .slice none 0 0], .int .i64 0]) (by simp [results, Try.results24, go_sem, g0, g1, g2, g3, g4, g5, g6]) rfl ⟨.inl ⟨⟨⟨a1, a2⟩, ⟨b1, b2⟩, c1, c2⟩, rfl⟩, hBz⟩

def RPeek (M : Mem) (w : RW) (e : Ending) : Prop := (rbuf w = [] ∧ e = .returned (.tuple #[elV noEl (.slice none 0 0), .int .i64 8])) ∨ ∃ x xs a c, rbuf w = x :: xs ∧ e = .returned (.tuple #[elV x (.slice a x.row.length c), .int .i64 0]) ∧ tRow.rv M [.slice a x.row.length c] x.row ∧ x.ok
set_option maxRecDepth 100000 in
set_option maxHeartbeats 2000000 in
theorem refPeek_any (w : RW) (a q p : Value) (M : Mem) (W : World) (hM : M.le (mem W)) (h : RwAt M w a q p) (hl : (rcont w).length ≤ 100000) : Calls Try.prog 53 #[wV w a q p] W fun e W' => RPeek M w e ∧ Below W.heap.size W W' := by
  have HF := Lib.hid (fun (wq : World) (hq : Below W.heap.size W wq) => refBuffered_any w a q p M wq (Mem.le_trans hM (below_mem hq)) h hl)
  obtain ⟨aa, ca, rfl, hla, hma, hra⟩ := slice_form h.ha
  obtain ⟨aq, cq, rfl, hlq, hmq, hrq⟩ := slice_form h.hq
  obtain ⟨ap, cp, rfl, hlp, hmp, hrp⟩ := slice_form h.hp
  have hca : ca ≤ 9223372036854775807 := by unfold maxLen at hma; exact hma
  have hcq : cq ≤ 9223372036854775807 := by unfold maxLen at hmq; exact hmq
  have hcp : cp ≤ 9223372036854775807 := by unfold maxLen at hmp; exact hmp
  have HA := Lib.hid hra
  have HQ := Lib.hid hrq
  have HP := Lib.hid hrp
  have HW := Lib.hid h
  have HM := Lib.hid hM
  clear hma hmq hmp hra hrq hrp h hM
  have HB2 := Lib.hid (((Below.refl W.heap.size W).alloc (Nat.le_refl _) (.cells #[.int .i64 w.size, .int .i64 w.room, .int .i64 w.credits, .int .i64 w.next, .slice aa w.ahead.length ca, .slice aq w.queue.length cq, .slice ap w.pk.length cp] 56)).alloc (by simp) (.cells #[.int .i64 0, .int .i64 0, .int .i64 0, .slice none 0 0, .int .i64 0] 42))
  have yB : ((W.alloc (.cells #[.int .i64 w.size, .int .i64 w.room, .int .i64 w.credits, .int .i64 w.next, .slice aa w.ahead.length ca, .slice aq w.queue.length cq, .slice ap w.pk.length cp] 56)).alloc (.cells #[.int .i64 0, .int .i64 0, .int .i64 0, .slice none 0 0, .int .i64 0] 42)).heap[W.heap.size]? = some (.cells #[.int .i64 w.size, .int .i64 w.room, .int .i64 w.credits, .int .i64 w.next, .slice aa w.ahead.length ca, .slice aq w.queue.length cq, .slice ap w.pk.length cp] 56 (0, 0)) := alloc_block (heap_alloc_new W _) _
  have yR : ((W.alloc (.cells #[.int .i64 w.size, .int .i64 w.room, .int .i64 w.credits, .int .i64 w.next, .slice aa w.ahead.length ca, .slice aq w.queue.length cq, .slice ap w.pk.length cp] 56)).alloc (.cells #[.int .i64 0, .int .i64 0, .int .i64 0, .slice none 0 0, .int .i64 0] 42)).heap[W.heap.size + 1]? = some (.cells #[.int .i64 0, .int .i64 0, .int .i64 0, .slice none 0 0, .int .i64 0] 42 (0, 0)) := by have h := heap_alloc_new (W.alloc (.cells #[.int .i64 w.size, .int .i64 w.room, .int .i64 w.credits, .int .i64 w.next, .slice aa w.ahead.length ca, .slice aq w.queue.length cq, .slice ap w.pk.length cp] 56)) (.cells #[.int .i64 0, .int .i64 0, .int .i64 0, .slice none 0 0, .int .i64 0] 42); rwa [World.size_alloc] at h
  have hszY : ((W.alloc (.cells #[.int .i64 w.size, .int .i64 w.room, .int .i64 w.credits, .int .i64 w.next, .slice aa w.ahead.length ca, .slice aq w.queue.length cq, .slice ap w.pk.length cp] 56)).alloc (.cells #[.int .i64 0, .int .i64 0, .int .i64 0, .slice none 0 0, .int .i64 0] 42)).heap.size = W.heap.size + 2 := by simp
  go_enter Try.func53, Try.ntmps53
  go_upto_region 1 with fail
  generalize (W.alloc (.cells #[.int .i64 w.size, .int .i64 w.room, .int .i64 w.credits, .int .i64 w.next, .slice aa w.ahead.length ca, .slice aq w.queue.length cq, .slice ap w.pk.length cp] 56)).alloc (.cells #[.int .i64 0, .int .i64 0, .int .i64 0, .slice none 0 0, .int .i64 0] 42) = Y at HB2 yB yR hszY ⊢
  have c0 : Y.cell? ⟨W.heap.size, 0, none⟩ = some (.int .i64 w.size) := mem_cells yB 0
  have c1 : Y.cell? ⟨W.heap.size, 1, none⟩ = some (.int .i64 w.room) := mem_cells yB 1
  have c2 : Y.cell? ⟨W.heap.size, 2, none⟩ = some (.int .i64 w.credits) := mem_cells yB 2
  have c3 : Y.cell? ⟨W.heap.size, 3, none⟩ = some (.int .i64 w.next) := mem_cells yB 3
  have c4 : Y.cell? ⟨W.heap.size, 4, none⟩ = some (.slice aa w.ahead.length ca) := mem_cells yB 4
  have c5 : Y.cell? ⟨W.heap.size, 5, none⟩ = some (.slice aq w.queue.length cq) := mem_cells yB 5
  have c6 : Y.cell? ⟨W.heap.size, 6, none⟩ = some (.slice ap w.pk.length cp) := mem_cells yB 6
  have HYR := Lib.hid yR
  clear yR yB
  go_wp2_with fail
  refine (HF.out Y HB2.out).mono ?_
  rintro e w1 ⟨v, rfl, hO, hge, hb⟩
  have yR1 := (hb.block (W.heap.size + 1) (by omega)).trans HYR.out
  have HYR1 := Lib.hid yR1
  have HBX := Lib.hid (HB2.out.trans (hb.mono HB2.out.size))
  have r0 : w1.cell? ⟨(W.heap.size + 1), 0, none⟩ = some (.int .i64 0) := mem_cells yR1 0
  have r1 : w1.cell? ⟨(W.heap.size + 1), 1, none⟩ = some (.int .i64 0) := mem_cells yR1 1
  have r2 : w1.cell? ⟨(W.heap.size + 1), 2, none⟩ = some (.int .i64 0) := mem_cells yR1 2
  have r3 : w1.cell? ⟨(W.heap.size + 1), 3, none⟩ = some (.slice none 0 0) := mem_cells yR1 3
  have r4 : w1.cell? ⟨(W.heap.size + 1), 4, none⟩ = some (.int .i64 0) := mem_cells yR1 4
  have fR : ∀ o, w1.frozen? ⟨W.heap.size + 1, o, none⟩ = false := frozen_cells yR1
  clear yR1 HF c0 c1 c2 c3 c4 c5 c6 hb
  obtain ⟨av, cv, rfl, hv1, hv2⟩ := hO.form
  have hcv : cv ≤ 9223372036854775807 := by unfold maxLen at hv2; exact hv2
  cases hbuf : rbuf w with
  | nil =>
    have HBU := Lib.hid hbuf
    clear hO hbuf hv1 hv2 hge
    go_wp2
    have r1 := store5_block HYR1.out (.int .i64 0) (.int .i64 0) (.int .i64 0) (.slice none 0 0) (.int .i64 0)
    have hk := store5_keeps (w1) (W.heap.size + 1) (.int .i64 0) (.int .i64 0) (.int .i64 0) (.slice none 0 0) (.int .i64 0)
    show bodyPost _ _ _ _ _ (store5 (w1) (W.heap.size + 1) (.int .i64 0) (.int .i64 0) (.int .i64 0) (.slice none 0 0) (.int .i64 0))
    generalize store5 (w1) (W.heap.size + 1) (.int .i64 0) (.int .i64 0) (.int .i64 0) (.slice none 0 0) (.int .i64 0) = w2 at r1 hk ⊢
    have hBz : Below W.heap.size W w2 := Keeps.belowStep HBX.out hk (fun k hk => by omega) HBX.out.size
    have g0 : w2.cell? ⟨(W.heap.size + 1), 0, none⟩ = some (.int .i64 0) := mem_cells r1 0
    have g1 : w2.cell? ⟨(W.heap.size + 1), 1, none⟩ = some (.int .i64 0) := mem_cells r1 1
    have g2 : w2.cell? ⟨(W.heap.size + 1), 2, none⟩ = some (.int .i64 0) := mem_cells r1 2
    have g3 : w2.cell? ⟨(W.heap.size + 1), 3, none⟩ = some (.slice none 0 0) := mem_cells r1 3
    have g4 : w2.cell? ⟨(W.heap.size + 1), 4, none⟩ = some (.int .i64 0) := mem_cells r1 4
    exact bodyPost_ret (v := .tuple #[elV noEl (.slice none 0 0), .int .i64 8]) (by simp [results, Try.results53, go_sem, noEl, g0, g1, g2, g3, g4]) rfl ⟨.inl ⟨HBU.out, rfl⟩, hBz⟩
  | cons x xs =>
    have HBU := Lib.hid hbuf
    rw [hbuf] at hO
    obtain ⟨g, off, cap, cs, h1, h2, h3, ⟨s, rfl, hin, hr⟩, h5⟩ := hO.at (k := 0) (by simp)
    simp only [List.getElem_cons_zero] at hin hr h5
    obtain ⟨ar, crr, rfl, _, hcr, hr⟩ := slice_form hr
    obtain ⟨rfl, rfl⟩ : av = some ⟨g, off, none⟩ ∧ cv = cap := by simp at h1; exact ⟨h1.1, h1.2⟩
    have e0 : w1.cell? ⟨g, off, none⟩ = some (.int .i64 x.kind) := by have := h5 0 _ rfl; simpa [mem] using this
    have e1 : w1.cell? ⟨g, off + 1, none⟩ = some (.int .i64 x.n) := by have := h5 1 _ rfl; simpa [mem] using this
    have e2 : w1.cell? ⟨g, off + 2, none⟩ = some (.int .i64 x.time) := by have := h5 2 _ rfl; simpa [mem] using this
    have e3 : w1.cell? ⟨g, off + 3, none⟩ = some (.slice ar x.row.length crr) := by have := h5 3 _ rfl; simpa [mem] using this
    have e4 : w1.cell? ⟨g, off + 4, none⟩ = some (.int .i64 x.cn) := by have := h5 4 _ rfl; simpa [mem] using this
    have hpos : (0 : Int) < ((xs.length + 1 : Nat) : Int) := by omega
    have HX := Lib.hid (And.intro hr (⟨hin.1, hin.2.1, hin.2.2.1, hin.2.2.2⟩ : x.ok))
    clear hO hbuf hv2 hge hin hr h5 h1 h2 h3 hcr
    rw [List.length_cons]
    go_wp2
    have r1 := store5_block HYR1.out (.int .i64 x.kind) (.int .i64 x.n) (.int .i64 x.time) (.slice ar x.row.length crr) (.int .i64 x.cn)
    have hk := store5_keeps (w1) (W.heap.size + 1) (.int .i64 x.kind) (.int .i64 x.n) (.int .i64 x.time) (.slice ar x.row.length crr) (.int .i64 x.cn)
    show bodyPost _ _ _ _ _ (store5 (w1) (W.heap.size + 1) (.int .i64 x.kind) (.int .i64 x.n) (.int .i64 x.time) (.slice ar x.row.length crr) (.int .i64 x.cn))
    generalize store5 (w1) (W.heap.size + 1) (.int .i64 x.kind) (.int .i64 x.n) (.int .i64 x.time) (.slice ar x.row.length crr) (.int .i64 x.cn) = w2 at r1 hk ⊢
    have hBz : Below W.heap.size W w2 := Keeps.belowStep HBX.out hk (fun k hk => by omega) HBX.out.size
    have g0 : w2.cell? ⟨(W.heap.size + 1), 0, none⟩ = some (.int .i64 x.kind) := mem_cells r1 0
    have g1 : w2.cell? ⟨(W.heap.size + 1), 1, none⟩ = some (.int .i64 x.n) := mem_cells r1 1
    have g2 : w2.cell? ⟨(W.heap.size + 1), 2, none⟩ = some (.int .i64 x.time) := mem_cells r1 2
    have g3 : w2.cell? ⟨(W.heap.size + 1), 3, none⟩ = some (.slice ar x.row.length crr) := mem_cells r1 3
    have g4 : w2.cell? ⟨(W.heap.size + 1), 4, none⟩ = some (.int .i64 x.cn) := mem_cells r1 4
    exact bodyPost_ret (v := .tuple #[elV x (.slice ar x.row.length crr), .int .i64 0]) (by simp [results, Try.results53, go_sem, noEl, g0, g1, g2, g3, g4]) rfl ⟨.inr ⟨x, xs, ar, crr, HBU.out, rfl, HX.out.1, HX.out.2⟩, hBz⟩
end Go.Proofs.Ytfkphdmnelchmaa
/- Rows: an element's cell is set; the tail of a row that is read; a row of one element. -/
namespace Go.Proofs.Ytfkphdmnelchmaa
open Go.RowKit Go.Maps

theorem flatten_set {β : Type} {s : Nat} : ∀ (css : List (List β)), (∀ c ∈ css, c.length = s) → ∀ (k : Nat) (h : k < css.length) (j : Nat) (_ : j < s) (u : β), (css.set k (css[k].set j u)).flatten = css.flatten.set (k * s + j) u
  | c :: css, hc, 0, _, j, hj, u => by
    have hl := hc c (by simp)
    simp only [List.getElem_cons_zero, List.set_cons_zero, List.flatten_cons, Nat.zero_mul, Nat.zero_add]
    rw [List.set_append_left _ _ (by omega)]
  | c :: css, hc, k + 1, h, j, hj, u => by
    have hl : c.length = s := hc c (by simp)
    simp only [List.getElem_cons_succ, List.set_cons_succ, List.flatten_cons]
    rw [flatten_set css (fun c hm => hc c (by simp [hm])) k (by simpa using h) j hj u, List.set_append_right _ _ (by rw [hl, Nat.succ_mul]; omega)]
    congr 2
    rw [hl, Nat.succ_mul]; omega
theorem OwnsO.set {α : Type} {t : Ty α} {w : World} {e : TypeId} {g off cap n : Nat} {xs : List α} (h : OwnsO t w e (.slice (some ⟨g, off, none⟩) n cap) xs) {k : Nat} (hk : k < xs.length) {j : Nat} (hj : j < t.sz) {u : Value} {y : α}
    (hy : ∀ cs, t.rv noMem cs xs[k] → t.rv noMem (cs.set j u) y) : OwnsO t (w.setCell ⟨g, off + (k * t.sz + j), none⟩ u) e (.slice (some ⟨g, off, none⟩) n cap) (xs.set k y) := by
  obtain ⟨css, g1, g2, h | ⟨g', off', cap', cur, hv, h2, h3, h4, h5, h6⟩⟩ := h
  · obtain ⟨h, _⟩ := h; cases h
  · simp only [Value.slice.injEq, Option.some.injEq, Addr.mk.injEq, and_true] at hv
    obtain ⟨⟨rfl, rfl⟩, rfl, rfl⟩ := hv
    have hl := OwnsO.lens g1 g2
    have hkc : k < css.length := by omega
    refine ⟨css.set k (css[k].set j u), by simp [g1], fun i hi hi' => ?_, .inr ⟨g, off, cap, cur.setIfInBounds (off + (k * t.sz + j)) u, by rw [List.length_set], set_block h2, by rw [List.length_set]; exact h3, h4, by simpa using h5, ?_⟩⟩
    · by_cases e : i = k
      · subst e
        rw [List.getElem_set_self, List.getElem_set_self]
        exact hy _ (g2 i hkc hk)
      · rw [List.getElem_set_ne (Ne.symm e), List.getElem_set_ne (Ne.symm e)]
        exact g2 i (by simpa using hi) (by simpa using hi')
    · rw [flatten_set css hl k hkc j hj u, ← h6, List.length_set, Array.toList_setIfInBounds, List.drop_set]
      rw [if_neg (by omega), List.take_set]
      congr 1
      omega
theorem slice_tail {α : Type} {t : Ty α} {m : Mem} {g off cap n : Nat} {x : α} {xs : List α} (h : (tSlice t).rv m [.slice (some ⟨g, off, none⟩) n cap] (x :: xs)) : (tSlice t).rv m [.slice (some (tailA g off cap t.sz)) xs.length (cap - 1)] xs := by
  obtain ⟨hn, h1, h2⟩ := slice_len h
  obtain ⟨a, c, e, _, _, h4⟩ := h
  obtain ⟨b, o, ha, hat⟩ := h4 (by simp)
  simp only [List.cons.injEq, Value.slice.injEq, and_true] at e
  obtain ⟨rfl, _, rfl⟩ := e
  simp only [Option.some.injEq, Addr.mk.injEq, and_true] at ha
  obtain ⟨rfl, rfl⟩ := ha
  simp only [List.length_cons] at h1
  refine ⟨some (tailA g off cap t.sz), cap - 1, rfl, by omega, by omega, fun hp => ?_⟩
  have hc : cap ≠ 1 := by omega
  refine ⟨g, off + t.sz, by unfold tailA; rw [if_neg hc], fun k hk => ?_⟩
  have h := hat (k + 1) (by simp; omega)
  simp only [List.getElem_cons_succ] at h
  have e : off + (k + 1) * t.sz = off + t.sz + k * t.sz := by rw [Nat.succ_mul]; omega
  rw [e] at h; exact h
theorem OwnsO.lit1 {α : Type} {t : Ty α} (w : World) (T : TypeId) {cs : List Value} {x : α} (h : t.rv noMem cs x) : OwnsO t (w.alloc (.cells cs.toArray T)) T (.slice (some ⟨w.heap.size, 0, none⟩) 1 1) [x] :=
  ⟨[cs], rfl, fun k h1 h2 => by obtain rfl : k = 0 := by simp at h1; omega
                                exact h, .inr ⟨w.heap.size, 0, 1, cs.toArray, rfl, heap_alloc_new w _, by simp, by unfold maxLen; simp, by have := t.len _ _ _ h; simp; omega, by rw [List.drop_zero, List.length_singleton, Nat.one_mul, List.take_of_length_le (by simp [t.len _ _ _ h])]; simp⟩⟩
theorem own_after {α : Type} {t : Ty α} {T : TypeId} {w w2 : World} {b : Nat} {v : Value} {xs : List α} (h : OwnsO t w T v xs) (hk : Keeps (fun k => k = b) w w2) (hne : ∀ k, v.ownBlock = some k → k ≠ b) : OwnsO t w2 T v xs := h.keeps (fun k e => hk.block k (h.lt k e) (hne k e))
theorem keepB {w : World} {b : Nat} (i : Nat) (v : Value) : Keeps (fun k => k = b) w (w.setCell ⟨b, i, none⟩ v) := keep1 (Keeps.refl _ _) i v
end Go.Proofs.Ytfkphdmnelchmaa
/- The reference's wire: Overtake, Deliver. -/
namespace Go.Proofs.Ytfkphdmnelchmaa
open Go.RowKit Go.Maps


def OverOut (M : Mem) (W : World) (w : RW) (a q p : Value) (x : El) (e : Ending) (W' : World) : Prop :=
  (validEl x = false ∧ e = .returned (.tuple #[wV w a q p, .slice none 0 0, .int .i64 1])) ∨ (validEl x = true ∧ x.kind ≠ 3 ∧ e = .returned (.tuple #[wV w a q p, .slice none 0 0, .int .i64 11])) ∨
  (validEl x = true ∧ x.kind = 3 ∧ (rcont w).length = 4000 ∧ e = .returned (.tuple #[wV w a q p, .slice none 0 0, .int .i64 4])) ∨
  (validEl x = true ∧ x.kind = 3 ∧ (rcont w).length ≠ 4000 ∧ ∃ a' v, e = .returned (.tuple #[wV { w with ahead := x :: w.ahead } a' q p, v, .int .i64 0]) ∧ RwAt (joinM M W W') { w with ahead := x :: w.ahead } a' q p ∧ tEls.rv (joinM M W W') [v] (rcont w))
set_option maxRecDepth 100000 in
set_option maxHeartbeats 4000000 in
theorem refOvertake_any (w : RW) (a q p : Value) (M : Mem) (W : World) (hM : M.le (mem W)) (h : RwAt M w a q p) (hl : (rcont w).length ≤ 100000) (x : El) (s : Value) (hx : x.ok) (hs : tRow.rv M [s] x.row) : Calls Try.prog 55 #[wV w a q p, elV x s] W fun e W' => OverOut M W w a q p x e W' ∧ Below W.heap.size W W' := by
  have HF := Lib.hid (fun (wq : World) (hq : Below W.heap.size W wq) => refContents_any w a q p M wq (Mem.le_trans hM (below_mem hq)) h hl)
  have HV := Lib.hid (fun (wq : World) (hq : Below W.heap.size W wq) => refValidEl_any x s wq (tRow.mono _ _ _ _ (Mem.le_trans hM (below_mem hq)) hs))
  obtain ⟨ax, cx, rfl, _, _, hs⟩ := slice_form hs
  have hal : w.ahead.length ≤ 100000 := by unfold rcont at hl; simp only [List.length_append] at hl; omega
  have HX := Lib.hid (show (tIn M tEl).rv noMem [.int .i64 x.kind, .int .i64 x.n, .int .i64 x.time, .slice ax x.row.length cx, .int .i64 x.cn] x from ⟨_, rfl, ⟨hx.k, hx.n, hx.t, hx.c⟩, hs⟩)
  clear hs hl hx
  obtain ⟨aa, ca, rfl, hla, hma, hra⟩ := slice_form h.ha
  obtain ⟨aq, cq, rfl, hlq, hmq, hrq⟩ := slice_form h.hq
  obtain ⟨ap, cp, rfl, hlp, hmp, hrp⟩ := slice_form h.hp
  have hca : ca ≤ 9223372036854775807 := by unfold maxLen at hma; exact hma
  have hcq : cq ≤ 9223372036854775807 := by unfold maxLen at hmq; exact hmq
  have hcp : cp ≤ 9223372036854775807 := by unfold maxLen at hmp; exact hmp
  have HA := Lib.hid hra
  have HQ := Lib.hid hrq
  have HP := Lib.hid hrp
  have HW := Lib.hid h
  have HM := Lib.hid hM
  clear hma hmq hmp hra hrq hrp h hM
  have HB2 := Lib.hid ((((Below.refl W.heap.size W).alloc (Nat.le_refl _) (.cells #[.int .i64 w.size, .int .i64 w.room, .int .i64 w.credits, .int .i64 w.next, .slice aa w.ahead.length ca, .slice aq w.queue.length cq, .slice ap w.pk.length cp] 56)).alloc (by simp) (.cells #[.int .i64 x.kind, .int .i64 x.n, .int .i64 x.time, .slice ax x.row.length cx, .int .i64 x.cn] 42)).alloc (by simp; omega) (.cells #[.int .i64 0, .int .i64 0, .int .i64 0, .int .i64 0, .slice none 0 0, .slice none 0 0, .slice none 0 0] 56))
  have yB : (((W.alloc (.cells #[.int .i64 w.size, .int .i64 w.room, .int .i64 w.credits, .int .i64 w.next, .slice aa w.ahead.length ca, .slice aq w.queue.length cq, .slice ap w.pk.length cp] 56)).alloc (.cells #[.int .i64 x.kind, .int .i64 x.n, .int .i64 x.time, .slice ax x.row.length cx, .int .i64 x.cn] 42)).alloc (.cells #[.int .i64 0, .int .i64 0, .int .i64 0, .int .i64 0, .slice none 0 0, .slice none 0 0, .slice none 0 0] 56)).heap[W.heap.size]? = some (.cells #[.int .i64 w.size, .int .i64 w.room, .int .i64 w.credits, .int .i64 w.next, .slice aa w.ahead.length ca, .slice aq w.queue.length cq, .slice ap w.pk.length cp] 56 (0, 0)) := alloc_block (alloc_block (heap_alloc_new W _) _) _
  have yX : (((W.alloc (.cells #[.int .i64 w.size, .int .i64 w.room, .int .i64 w.credits, .int .i64 w.next, .slice aa w.ahead.length ca, .slice aq w.queue.length cq, .slice ap w.pk.length cp] 56)).alloc (.cells #[.int .i64 x.kind, .int .i64 x.n, .int .i64 x.time, .slice ax x.row.length cx, .int .i64 x.cn] 42)).alloc (.cells #[.int .i64 0, .int .i64 0, .int .i64 0, .int .i64 0, .slice none 0 0, .slice none 0 0, .slice none 0 0] 56)).heap[W.heap.size + 1]? = some (.cells #[.int .i64 x.kind, .int .i64 x.n, .int .i64 x.time, .slice ax x.row.length cx, .int .i64 x.cn] 42 (0, 0)) := alloc_block (by have h := heap_alloc_new (W.alloc (.cells #[.int .i64 w.size, .int .i64 w.room, .int .i64 w.credits, .int .i64 w.next, .slice aa w.ahead.length ca, .slice aq w.queue.length cq, .slice ap w.pk.length cp] 56)) (.cells #[.int .i64 x.kind, .int .i64 x.n, .int .i64 x.time, .slice ax x.row.length cx, .int .i64 x.cn] 42); rwa [World.size_alloc] at h) _
  have yR : (((W.alloc (.cells #[.int .i64 w.size, .int .i64 w.room, .int .i64 w.credits, .int .i64 w.next, .slice aa w.ahead.length ca, .slice aq w.queue.length cq, .slice ap w.pk.length cp] 56)).alloc (.cells #[.int .i64 x.kind, .int .i64 x.n, .int .i64 x.time, .slice ax x.row.length cx, .int .i64 x.cn] 42)).alloc (.cells #[.int .i64 0, .int .i64 0, .int .i64 0, .int .i64 0, .slice none 0 0, .slice none 0 0, .slice none 0 0] 56)).heap[W.heap.size + 2]? = some (.cells #[.int .i64 0, .int .i64 0, .int .i64 0, .int .i64 0, .slice none 0 0, .slice none 0 0, .slice none 0 0] 56 (0, 0)) := by have h := heap_alloc_new ((W.alloc (.cells #[.int .i64 w.size, .int .i64 w.room, .int .i64 w.credits, .int .i64 w.next, .slice aa w.ahead.length ca, .slice aq w.queue.length cq, .slice ap w.pk.length cp] 56)).alloc (.cells #[.int .i64 x.kind, .int .i64 x.n, .int .i64 x.time, .slice ax x.row.length cx, .int .i64 x.cn] 42)) (.cells #[.int .i64 0, .int .i64 0, .int .i64 0, .int .i64 0, .slice none 0 0, .slice none 0 0, .slice none 0 0] 56); simpa only [World.size_alloc] using h
  have hszY : (((W.alloc (.cells #[.int .i64 w.size, .int .i64 w.room, .int .i64 w.credits, .int .i64 w.next, .slice aa w.ahead.length ca, .slice aq w.queue.length cq, .slice ap w.pk.length cp] 56)).alloc (.cells #[.int .i64 x.kind, .int .i64 x.n, .int .i64 x.time, .slice ax x.row.length cx, .int .i64 x.cn] 42)).alloc (.cells #[.int .i64 0, .int .i64 0, .int .i64 0, .int .i64 0, .slice none 0 0, .slice none 0 0, .slice none 0 0] 56)).heap.size = W.heap.size + 3 := by simp
  go_enter Try.func55, Try.ntmps55
  go_upto_region 1 with fail
  generalize ((W.alloc (.cells #[.int .i64 w.size, .int .i64 w.room, .int .i64 w.credits, .int .i64 w.next, .slice aa w.ahead.length ca, .slice aq w.queue.length cq, .slice ap w.pk.length cp] 56)).alloc (.cells #[.int .i64 x.kind, .int .i64 x.n, .int .i64 x.time, .slice ax x.row.length cx, .int .i64 x.cn] 42)).alloc (.cells #[.int .i64 0, .int .i64 0, .int .i64 0, .int .i64 0, .slice none 0 0, .slice none 0 0, .slice none 0 0] 56) = Y at HB2 yB yX yR hszY ⊢
  have c0 : Y.cell? ⟨W.heap.size, 0, none⟩ = some (.int .i64 w.size) := mem_cells yB 0
  have c1 : Y.cell? ⟨W.heap.size, 1, none⟩ = some (.int .i64 w.room) := mem_cells yB 1
  have c2 : Y.cell? ⟨W.heap.size, 2, none⟩ = some (.int .i64 w.credits) := mem_cells yB 2
  have c3 : Y.cell? ⟨W.heap.size, 3, none⟩ = some (.int .i64 w.next) := mem_cells yB 3
  have c4 : Y.cell? ⟨W.heap.size, 4, none⟩ = some (.slice aa w.ahead.length ca) := mem_cells yB 4
  have c5 : Y.cell? ⟨W.heap.size, 5, none⟩ = some (.slice aq w.queue.length cq) := mem_cells yB 5
  have c6 : Y.cell? ⟨W.heap.size, 6, none⟩ = some (.slice ap w.pk.length cp) := mem_cells yB 6
  have x0 : Y.cell? ⟨(W.heap.size + 1), 0, none⟩ = some (.int .i64 x.kind) := mem_cells yX 0
  have x1 : Y.cell? ⟨(W.heap.size + 1), 1, none⟩ = some (.int .i64 x.n) := mem_cells yX 1
  have x2 : Y.cell? ⟨(W.heap.size + 1), 2, none⟩ = some (.int .i64 x.time) := mem_cells yX 2
  have x3 : Y.cell? ⟨(W.heap.size + 1), 3, none⟩ = some (.slice ax x.row.length cx) := mem_cells yX 3
  have x4 : Y.cell? ⟨(W.heap.size + 1), 4, none⟩ = some (.int .i64 x.cn) := mem_cells yX 4
  have HYB := Lib.hid (fun (wq : World) (h : Below Y.heap.size Y wq) => And.intro ((h.block _ (by omega)).trans yB) (And.intro ((h.block _ (by omega)).trans yX) ((h.block _ (by omega)).trans yR)))
  clear yR yB yX
  go_wp2_with fail
  refine (HV.out Y HB2.out).mono ?_
  rintro e w1 ⟨rfl, hb⟩
  obtain ⟨yB, yX, yR⟩ := HYB.out w1 hb
  have HB1 := Lib.hid hb
  have HBX := Lib.hid (HB2.out.trans (hb.mono HB2.out.size))
  have HYR1 := Lib.hid yR
  clear hb c0 c1 c2 c3 c4 c5 c6 x0 x1 x2 x3 x4 HV
  have c0 : w1.cell? ⟨W.heap.size, 0, none⟩ = some (.int .i64 w.size) := mem_cells yB 0
  have c1 : w1.cell? ⟨W.heap.size, 1, none⟩ = some (.int .i64 w.room) := mem_cells yB 1
  have c2 : w1.cell? ⟨W.heap.size, 2, none⟩ = some (.int .i64 w.credits) := mem_cells yB 2
  have c3 : w1.cell? ⟨W.heap.size, 3, none⟩ = some (.int .i64 w.next) := mem_cells yB 3
  have c4 : w1.cell? ⟨W.heap.size, 4, none⟩ = some (.slice aa w.ahead.length ca) := mem_cells yB 4
  have c5 : w1.cell? ⟨W.heap.size, 5, none⟩ = some (.slice aq w.queue.length cq) := mem_cells yB 5
  have c6 : w1.cell? ⟨W.heap.size, 6, none⟩ = some (.slice ap w.pk.length cp) := mem_cells yB 6
  have x0 : w1.cell? ⟨(W.heap.size + 1), 0, none⟩ = some (.int .i64 x.kind) := mem_cells yX 0
  have x1 : w1.cell? ⟨(W.heap.size + 1), 1, none⟩ = some (.int .i64 x.n) := mem_cells yX 1
  have x2 : w1.cell? ⟨(W.heap.size + 1), 2, none⟩ = some (.int .i64 x.time) := mem_cells yX 2
  have x3 : w1.cell? ⟨(W.heap.size + 1), 3, none⟩ = some (.slice ax x.row.length cx) := mem_cells yX 3
  have x4 : w1.cell? ⟨(W.heap.size + 1), 4, none⟩ = some (.int .i64 x.cn) := mem_cells yX 4
  have r0 : w1.cell? ⟨(W.heap.size + 2), 0, none⟩ = some (.int .i64 0) := mem_cells yR 0
  have r1 : w1.cell? ⟨(W.heap.size + 2), 1, none⟩ = some (.int .i64 0) := mem_cells yR 1
  have r2 : w1.cell? ⟨(W.heap.size + 2), 2, none⟩ = some (.int .i64 0) := mem_cells yR 2
  have r3 : w1.cell? ⟨(W.heap.size + 2), 3, none⟩ = some (.int .i64 0) := mem_cells yR 3
  have r4 : w1.cell? ⟨(W.heap.size + 2), 4, none⟩ = some (.slice none 0 0) := mem_cells yR 4
  have r5 : w1.cell? ⟨(W.heap.size + 2), 5, none⟩ = some (.slice none 0 0) := mem_cells yR 5
  have r6 : w1.cell? ⟨(W.heap.size + 2), 6, none⟩ = some (.slice none 0 0) := mem_cells yR 6
  have fR : ∀ o, w1.frozen? ⟨W.heap.size + 2, o, none⟩ = false := frozen_cells yR
  clear yB yX yR
  cases hval : validEl x with
  | false =>
    have HVL := Lib.hid hval
    clear hval
    go_wp2
    have r1 := store7_block HYR1.out (.int .i64 w.size) (.int .i64 w.room) (.int .i64 w.credits) (.int .i64 w.next) (.slice aa w.ahead.length ca) (.slice aq w.queue.length cq) (.slice ap w.pk.length cp)
    have hk := store7_keeps (w1) (W.heap.size + 2) (.int .i64 w.size) (.int .i64 w.room) (.int .i64 w.credits) (.int .i64 w.next) (.slice aa w.ahead.length ca) (.slice aq w.queue.length cq) (.slice ap w.pk.length cp)
    show bodyPost _ _ _ _ _ (store7 (w1) (W.heap.size + 2) (.int .i64 w.size) (.int .i64 w.room) (.int .i64 w.credits) (.int .i64 w.next) (.slice aa w.ahead.length ca) (.slice aq w.queue.length cq) (.slice ap w.pk.length cp))
    generalize store7 (w1) (W.heap.size + 2) (.int .i64 w.size) (.int .i64 w.room) (.int .i64 w.credits) (.int .i64 w.next) (.slice aa w.ahead.length ca) (.slice aq w.queue.length cq) (.slice ap w.pk.length cp) = w2 at r1 hk ⊢
    have hBz : Below W.heap.size W w2 := Keeps.belowStep HBX.out hk (fun k hk => by omega) HBX.out.size
    have g0 : w2.cell? ⟨(W.heap.size + 2), 0, none⟩ = some (.int .i64 w.size) := mem_cells r1 0
    have g1 : w2.cell? ⟨(W.heap.size + 2), 1, none⟩ = some (.int .i64 w.room) := mem_cells r1 1
    have g2 : w2.cell? ⟨(W.heap.size + 2), 2, none⟩ = some (.int .i64 w.credits) := mem_cells r1 2
    have g3 : w2.cell? ⟨(W.heap.size + 2), 3, none⟩ = some (.int .i64 w.next) := mem_cells r1 3
    have g4 : w2.cell? ⟨(W.heap.size + 2), 4, none⟩ = some (.slice aa w.ahead.length ca) := mem_cells r1 4
    have g5 : w2.cell? ⟨(W.heap.size + 2), 5, none⟩ = some (.slice aq w.queue.length cq) := mem_cells r1 5
    have g6 : w2.cell? ⟨(W.heap.size + 2), 6, none⟩ = some (.slice ap w.pk.length cp) := mem_cells r1 6
    exact bodyPost_ret (v := .tuple #[.agg #[.int .i64 w.size, .int .i64 w.room, .int .i64 w.credits, .int .i64 w.next, .slice aa w.ahead.length ca, .slice aq w.queue.length cq, .slice ap w.pk.length cp], .slice none 0 0, .int .i64 1]) (by simp [results, Try.results55, go_sem, g0, g1, g2, g3, g4, g5, g6]) rfl ⟨.inl ⟨HVL.out, rfl⟩, hBz⟩
  | true =>
    have HVL := Lib.hid hval
    clear hval
    by_cases hk3 : x.kind = 3
    rotate_left
    · have hk3' : (x.kind == 3) = false := by simpa using hk3
      have HK3 := Lib.hid hk3
      clear hk3
      go_wp2
      have r1 := store7_block HYR1.out (.int .i64 w.size) (.int .i64 w.room) (.int .i64 w.credits) (.int .i64 w.next) (.slice aa w.ahead.length ca) (.slice aq w.queue.length cq) (.slice ap w.pk.length cp)
      have hk := store7_keeps (w1) (W.heap.size + 2) (.int .i64 w.size) (.int .i64 w.room) (.int .i64 w.credits) (.int .i64 w.next) (.slice aa w.ahead.length ca) (.slice aq w.queue.length cq) (.slice ap w.pk.length cp)
      show bodyPost _ _ _ _ _ (store7 (w1) (W.heap.size + 2) (.int .i64 w.size) (.int .i64 w.room) (.int .i64 w.credits) (.int .i64 w.next) (.slice aa w.ahead.length ca) (.slice aq w.queue.length cq) (.slice ap w.pk.length cp))
      generalize store7 (w1) (W.heap.size + 2) (.int .i64 w.size) (.int .i64 w.room) (.int .i64 w.credits) (.int .i64 w.next) (.slice aa w.ahead.length ca) (.slice aq w.queue.length cq) (.slice ap w.pk.length cp) = w2 at r1 hk ⊢
      have hBz : Below W.heap.size W w2 := Keeps.belowStep HBX.out hk (fun k hk => by omega) HBX.out.size
      have g0 : w2.cell? ⟨(W.heap.size + 2), 0, none⟩ = some (.int .i64 w.size) := mem_cells r1 0
      have g1 : w2.cell? ⟨(W.heap.size + 2), 1, none⟩ = some (.int .i64 w.room) := mem_cells r1 1
      have g2 : w2.cell? ⟨(W.heap.size + 2), 2, none⟩ = some (.int .i64 w.credits) := mem_cells r1 2
      have g3 : w2.cell? ⟨(W.heap.size + 2), 3, none⟩ = some (.int .i64 w.next) := mem_cells r1 3
      have g4 : w2.cell? ⟨(W.heap.size + 2), 4, none⟩ = some (.slice aa w.ahead.length ca) := mem_cells r1 4
      have g5 : w2.cell? ⟨(W.heap.size + 2), 5, none⟩ = some (.slice aq w.queue.length cq) := mem_cells r1 5
      have g6 : w2.cell? ⟨(W.heap.size + 2), 6, none⟩ = some (.slice ap w.pk.length cp) := mem_cells r1 6
      exact bodyPost_ret (v := .tuple #[.agg #[.int .i64 w.size, .int .i64 w.room, .int .i64 w.credits, .int .i64 w.next, .slice aa w.ahead.length ca, .slice aq w.queue.length cq, .slice ap w.pk.length cp], .slice none 0 0, .int .i64 11]) (by simp [results, Try.results55, go_sem, g0, g1, g2, g3, g4, g5, g6]) rfl ⟨.inr (.inl ⟨HVL.out, HK3.out, rfl⟩), hBz⟩
    have hk3' : (x.kind == 3) = true := by simpa using hk3
    have HK3 := Lib.hid hk3
    clear hk3
    go_wp2_with fail
    refine (HF.out w1 HBX.out).mono ?_
    rintro e w2 ⟨v, rfl, hO, hge, hb2⟩
    obtain ⟨yB, yX, yR⟩ := HYB.out w2 (HB1.out.trans (hb2.mono HB1.out.size))
    have HBX2 := Lib.hid (HBX.out.trans (hb2.mono HBX.out.size))
    have HYR2 := Lib.hid yR
    have HYB2 := Lib.hid yB
    have hsz1 := HB1.out.size
    have hsz2 := hb2.size
    obtain ⟨av, cv, rfl, hv1, hv2⟩ := hO.form
    have HO := Lib.hid (And.intro hO hge)
    clear hO hge hb2 hv1 hv2 c0 c1 c2 c3 c4 c5 c6 x0 x1 x2 x3 x4 r0 r1 r2 r3 r4 r5 r6 fR HYR1 HBX HF
    have c0 : w2.cell? ⟨W.heap.size, 0, none⟩ = some (.int .i64 w.size) := mem_cells yB 0
    have c1 : w2.cell? ⟨W.heap.size, 1, none⟩ = some (.int .i64 w.room) := mem_cells yB 1
    have c2 : w2.cell? ⟨W.heap.size, 2, none⟩ = some (.int .i64 w.credits) := mem_cells yB 2
    have c3 : w2.cell? ⟨W.heap.size, 3, none⟩ = some (.int .i64 w.next) := mem_cells yB 3
    have c4 : w2.cell? ⟨W.heap.size, 4, none⟩ = some (.slice aa w.ahead.length ca) := mem_cells yB 4
    have c5 : w2.cell? ⟨W.heap.size, 5, none⟩ = some (.slice aq w.queue.length cq) := mem_cells yB 5
    have c6 : w2.cell? ⟨W.heap.size, 6, none⟩ = some (.slice ap w.pk.length cp) := mem_cells yB 6
    have r0 : w2.cell? ⟨(W.heap.size + 2), 0, none⟩ = some (.int .i64 0) := mem_cells yR 0
    have r1 : w2.cell? ⟨(W.heap.size + 2), 1, none⟩ = some (.int .i64 0) := mem_cells yR 1
    have r2 : w2.cell? ⟨(W.heap.size + 2), 2, none⟩ = some (.int .i64 0) := mem_cells yR 2
    have r3 : w2.cell? ⟨(W.heap.size + 2), 3, none⟩ = some (.int .i64 0) := mem_cells yR 3
    have r4 : w2.cell? ⟨(W.heap.size + 2), 4, none⟩ = some (.slice none 0 0) := mem_cells yR 4
    have r5 : w2.cell? ⟨(W.heap.size + 2), 5, none⟩ = some (.slice none 0 0) := mem_cells yR 5
    have r6 : w2.cell? ⟨(W.heap.size + 2), 6, none⟩ = some (.slice none 0 0) := mem_cells yR 6
    have fR : ∀ o, w2.frozen? ⟨W.heap.size + 2, o, none⟩ = false := frozen_cells yR
    by_cases hn : (rcont w).length = 4000
    · have hn' : (((rcont w).length : Int) == 4000) = true := by simp; omega
      have HN := Lib.hid hn
      clear hn yB yX yR
      go_wp2
      have HBX := HBX2
      have r1 := store7_block HYR2.out (.int .i64 w.size) (.int .i64 w.room) (.int .i64 w.credits) (.int .i64 w.next) (.slice aa w.ahead.length ca) (.slice aq w.queue.length cq) (.slice ap w.pk.length cp)
      have hk := store7_keeps (w2) (W.heap.size + 2) (.int .i64 w.size) (.int .i64 w.room) (.int .i64 w.credits) (.int .i64 w.next) (.slice aa w.ahead.length ca) (.slice aq w.queue.length cq) (.slice ap w.pk.length cp)
      show bodyPost _ _ _ _ _ (store7 (w2) (W.heap.size + 2) (.int .i64 w.size) (.int .i64 w.room) (.int .i64 w.credits) (.int .i64 w.next) (.slice aa w.ahead.length ca) (.slice aq w.queue.length cq) (.slice ap w.pk.length cp))
      generalize store7 (w2) (W.heap.size + 2) (.int .i64 w.size) (.int .i64 w.room) (.int .i64 w.credits) (.int .i64 w.next) (.slice aa w.ahead.length ca) (.slice aq w.queue.length cq) (.slice ap w.pk.length cp) = w2 at r1 hk ⊢
      have hBz : Below W.heap.size W w2 := Keeps.belowStep HBX.out hk (fun k hk => by omega) HBX.out.size
      have g0 : w2.cell? ⟨(W.heap.size + 2), 0, none⟩ = some (.int .i64 w.size) := mem_cells r1 0
      have g1 : w2.cell? ⟨(W.heap.size + 2), 1, none⟩ = some (.int .i64 w.room) := mem_cells r1 1
      have g2 : w2.cell? ⟨(W.heap.size + 2), 2, none⟩ = some (.int .i64 w.credits) := mem_cells r1 2
      have g3 : w2.cell? ⟨(W.heap.size + 2), 3, none⟩ = some (.int .i64 w.next) := mem_cells r1 3
      have g4 : w2.cell? ⟨(W.heap.size + 2), 4, none⟩ = some (.slice aa w.ahead.length ca) := mem_cells r1 4
      have g5 : w2.cell? ⟨(W.heap.size + 2), 5, none⟩ = some (.slice aq w.queue.length cq) := mem_cells r1 5
      have g6 : w2.cell? ⟨(W.heap.size + 2), 6, none⟩ = some (.slice ap w.pk.length cp) := mem_cells r1 6
      exact bodyPost_ret (v := .tuple #[.agg #[.int .i64 w.size, .int .i64 w.room, .int .i64 w.credits, .int .i64 w.next, .slice aa w.ahead.length ca, .slice aq w.queue.length cq, .slice ap w.pk.length cp], .slice none 0 0, .int .i64 4]) (by simp [results, Try.results55, go_sem, g0, g1, g2, g3, g4, g5, g6]) rfl ⟨.inr (.inr (.inl ⟨HVL.out, HK3.out, HN.out, rfl⟩)), hBz⟩
    · have hn' : (((rcont w).length : Int) == 4000) = false := by simp; omega
      have HN := Lib.hid hn
      have HLT := Lib.hid (OwnsO.lit1 w2 42 HX.out)
      have HRA := Lib.hid ((tSlice (tIn M tEl)).mono _ _ _ _ (Mem.le_trans HM.out (Mem.le_trans (below_mem HBX2.out) (below_mem ((Below.refl w2.heap.size w2).alloc (Nat.le_refl _) (.cells #[.int .i64 x.kind, .int .i64 x.n, .int .i64 x.time, .slice ax x.row.length cx, .int .i64 x.cn] 42))))) (tEls_in HA.out))
      have HL1 := Lib.hid (show [x].length + w.ahead.length ≤ maxLen by unfold maxLen; simp; omega)
      have HL2 := Lib.hid (show ([x].length + w.ahead.length) * 56 ≤ 140737488355328 by simp; omega)
      have x0 : w2.cell? ⟨W.heap.size + 1, 0, none⟩ = some (.int .i64 x.kind) := mem_cells yX 0
      have x1 : w2.cell? ⟨W.heap.size + 1, 1, none⟩ = some (.int .i64 x.n) := mem_cells yX 1
      have x2 : w2.cell? ⟨W.heap.size + 1, 2, none⟩ = some (.int .i64 x.time) := mem_cells yX 2
      have x3 : w2.cell? ⟨W.heap.size + 1, 3, none⟩ = some (.slice ax x.row.length cx) := mem_cells yX 3
      have x4 : w2.cell? ⟨W.heap.size + 1, 4, none⟩ = some (.int .i64 x.cn) := mem_cells yX 4
      have d4 : (w2.alloc (.cells #[.int .i64 x.kind, .int .i64 x.n, .int .i64 x.time, .slice ax x.row.length cx, .int .i64 x.cn] 42)).cell? ⟨W.heap.size, 4, none⟩ = some (.slice aa w.ahead.length ca) := mem_cells (alloc_block yB _) 4
      clear hn yB yX yR
      go_wp2_with (at_builtin; refine wpList_append_os rfl (.tmp 23) (.tmp 25) 36 rfl (tIn M tEl) (tIn_flat _ _) tElIn_one Try.underlying36 (infoEl _) rfl (Nat.succ_pos 4) _ [x] w.ahead rfl HLT.out _ _ _ rfl rfl HRA.out HL1.out HL2.out ?_)
      intro v3 w3 own3 happ
      have hsz3 : (w2.alloc (.cells #[.int .i64 x.kind, .int .i64 x.n, .int .i64 x.time, .slice ax x.row.length cx, .int .i64 x.cn] 42)).heap.size ≤ w3.heap.size := happ.grown.size
      rw [World.size_alloc] at hsz3
      have hold : ∀ k, k < w2.heap.size → w3.heap[k]? = w2.heap[k]? := fun k hk => (happ.grown.block k (by simp; omega) (fun e => by simp [Value.ownBlock] at e; omega)).trans (((Below.refl w2.heap.size w2).alloc (Nat.le_refl _) _).block k hk)
      have hv3 : ∀ k, v3.ownBlock = some k → w2.heap.size ≤ k := fun k e => by
        rcases happ.block with g | g
        · rw [g] at e; simp [Value.ownBlock] at e; omega
        · have := g k e; simp at this; omega
      have yB := (hold W.heap.size (by omega)).trans HYB2.out
      have yR := (hold (W.heap.size + 2) (by omega)).trans HYR2.out
      have hO3 := HO.out.1.keeps (w' := w3) (fun k e => hold k (HO.out.1.lt k e))
      have HO3 := Lib.hid (And.intro own3 (And.intro hv3 (And.intro hO3 (And.intro yB yR))))
      have hB3 : Below W.heap.size W w3 := ⟨happ.grown.os.trans HBX2.out.os, happ.grown.tape.trans HBX2.out.tape, happ.grown.output.trans HBX2.out.output, by have := HBX2.out.size; omega, fun k hk => (hold k (by have := HBX2.out.size; omega)).trans (HBX2.out.block k hk)⟩
      have HB3 := Lib.hid hB3
      obtain ⟨a3, c3x, rfl, _⟩ := own3.form
      clear own3 happ hold hv3 hO3 hB3 c0 c1 c2 c3 c4 c5 c6 r0 r1 r2 r3 r4 r5 r6 fR x0 x1 x2 x3 x4 d4 HRA HL1 HL2 HLT
      have c0 : w3.cell? ⟨W.heap.size, 0, none⟩ = some (.int .i64 w.size) := mem_cells yB 0
      have c1 : w3.cell? ⟨W.heap.size, 1, none⟩ = some (.int .i64 w.room) := mem_cells yB 1
      have c2 : w3.cell? ⟨W.heap.size, 2, none⟩ = some (.int .i64 w.credits) := mem_cells yB 2
      have c3 : w3.cell? ⟨W.heap.size, 3, none⟩ = some (.int .i64 w.next) := mem_cells yB 3
      have c4 : w3.cell? ⟨W.heap.size, 4, none⟩ = some (.slice aa w.ahead.length ca) := mem_cells yB 4
      have c5 : w3.cell? ⟨W.heap.size, 5, none⟩ = some (.slice aq w.queue.length cq) := mem_cells yB 5
      have c6 : w3.cell? ⟨W.heap.size, 6, none⟩ = some (.slice ap w.pk.length cp) := mem_cells yB 6
      have r0 : w3.cell? ⟨(W.heap.size + 2), 0, none⟩ = some (.int .i64 0) := mem_cells yR 0
      have r1 : w3.cell? ⟨(W.heap.size + 2), 1, none⟩ = some (.int .i64 0) := mem_cells yR 1
      have r2 : w3.cell? ⟨(W.heap.size + 2), 2, none⟩ = some (.int .i64 0) := mem_cells yR 2
      have r3 : w3.cell? ⟨(W.heap.size + 2), 3, none⟩ = some (.int .i64 0) := mem_cells yR 3
      have r4 : w3.cell? ⟨(W.heap.size + 2), 4, none⟩ = some (.slice none 0 0) := mem_cells yR 4
      have r5 : w3.cell? ⟨(W.heap.size + 2), 5, none⟩ = some (.slice none 0 0) := mem_cells yR 5
      have r6 : w3.cell? ⟨(W.heap.size + 2), 6, none⟩ = some (.slice none 0 0) := mem_cells yR 6
      have fR : ∀ o, w3.frozen? ⟨W.heap.size + 2, o, none⟩ = false := frozen_cells yR
      have fB : ∀ o, w3.frozen? ⟨W.heap.size, o, none⟩ = false := frozen_cells yB
      clear yB yR
      go_wp2
      have hkX : Keeps (fun k => k = W.heap.size) w3 (w3.setCell ⟨W.heap.size, 4, none⟩ (.slice a3 ([x] ++ w.ahead).length c3x)) := keepB 4 _
      have q1 : (w3.setCell ⟨W.heap.size, 4, none⟩ (.slice a3 ([x] ++ w.ahead).length c3x)).heap[W.heap.size + 2]? = some (.cells #[.int .i64 0, .int .i64 0, .int .i64 0, .int .i64 0, .slice none 0 0, .slice none 0 0, .slice none 0 0] 56 (0, 0)) := (set_block_other (by omega)).trans HO3.out.2.2.2.2
      have HBX := Lib.hid (Keeps.belowStep HB3.out hkX (fun k hk => by omega) HB3.out.size)
      have r1 := store7_block q1 (.int .i64 w.size) (.int .i64 w.room) (.int .i64 w.credits) (.int .i64 w.next) (.slice a3 ([x] ++ w.ahead).length c3x) (.slice aq w.queue.length cq) (.slice ap w.pk.length cp)
      have hk := store7_keeps (w3.setCell ⟨W.heap.size, 4, none⟩ (.slice a3 ([x] ++ w.ahead).length c3x)) (W.heap.size + 2) (.int .i64 w.size) (.int .i64 w.room) (.int .i64 w.credits) (.int .i64 w.next) (.slice a3 ([x] ++ w.ahead).length c3x) (.slice aq w.queue.length cq) (.slice ap w.pk.length cp)
      show bodyPost _ _ _ _ _ (store7 (w3.setCell ⟨W.heap.size, 4, none⟩ (.slice a3 ([x] ++ w.ahead).length c3x)) (W.heap.size + 2) (.int .i64 w.size) (.int .i64 w.room) (.int .i64 w.credits) (.int .i64 w.next) (.slice a3 ([x] ++ w.ahead).length c3x) (.slice aq w.queue.length cq) (.slice ap w.pk.length cp))
      generalize store7 (w3.setCell ⟨W.heap.size, 4, none⟩ (.slice a3 ([x] ++ w.ahead).length c3x)) (W.heap.size + 2) (.int .i64 w.size) (.int .i64 w.room) (.int .i64 w.credits) (.int .i64 w.next) (.slice a3 ([x] ++ w.ahead).length c3x) (.slice aq w.queue.length cq) (.slice ap w.pk.length cp) = w2 at r1 hk ⊢
      have hBz : Below W.heap.size W w2 := Keeps.belowStep HBX.out hk (fun k hk => by omega) HBX.out.size
      have g0 : w2.cell? ⟨(W.heap.size + 2), 0, none⟩ = some (.int .i64 w.size) := mem_cells r1 0
      have g1 : w2.cell? ⟨(W.heap.size + 2), 1, none⟩ = some (.int .i64 w.room) := mem_cells r1 1
      have g2 : w2.cell? ⟨(W.heap.size + 2), 2, none⟩ = some (.int .i64 w.credits) := mem_cells r1 2
      have g3 : w2.cell? ⟨(W.heap.size + 2), 3, none⟩ = some (.int .i64 w.next) := mem_cells r1 3
      have g4 : w2.cell? ⟨(W.heap.size + 2), 4, none⟩ = some (.slice a3 ([x] ++ w.ahead).length c3x) := mem_cells r1 4
      have g5 : w2.cell? ⟨(W.heap.size + 2), 5, none⟩ = some (.slice aq w.queue.length cq) := mem_cells r1 5
      have g6 : w2.cell? ⟨(W.heap.size + 2), 6, none⟩ = some (.slice ap w.pk.length cp) := mem_cells r1 6
      have o1 := own_after (own_after HO3.out.1 hkX (fun k e => by have := HO3.out.2.1 k e; omega)) hk (fun k e => by have := HO3.out.2.1 k e; omega)
      have o2 := own_after (own_after HO3.out.2.2.1 hkX (fun k e => by have := HO.out.2 k e; omega)) hk (fun k e => by have := HO.out.2 k e; omega)
      exact bodyPost_ret (v := .tuple #[.agg #[.int .i64 w.size, .int .i64 w.room, .int .i64 w.credits, .int .i64 w.next, .slice a3 ([x] ++ w.ahead).length c3x, .slice aq w.queue.length cq, .slice ap w.pk.length cp], .slice av (rcont w).length cv, .int .i64 0]) (by simp [results, Try.results55, go_sem, g0, g1, g2, g3, g4, g5, g6]) rfl ⟨.inr (.inr (.inr ⟨HVL.out, HK3.out, HN.out, _, _, rfl, ⟨HW.out.i1, HW.out.i2, HW.out.i3, HW.out.i4, own_join HM.out o1 (fun k e => by have := HO3.out.2.1 k e; omega), tEls.mono _ _ _ _ (joinM_le HM.out) HW.out.hq, (tSlice tRP).mono _ _ _ _ (joinM_le HM.out) HW.out.hp⟩, own_join HM.out o2 (fun k e => by have := HO.out.2 k e; omega)⟩)), hBz⟩
end Go.Proofs.Ytfkphdmnelchmaa
/- The reference's wire: Deliver. -/
namespace Go.Proofs.Ytfkphdmnelchmaa
open Go.RowKit Go.Maps


def setPk (w : RW) (k : Nat) (y : RP) : RW := { w with pk := w.pk.set k y }
def DelivW (M : Mem) (W : World) (w : RW) (a q p : Value) (n : Int) (e : Ending) (W' : World) : Prop :=
  ((n < 0 ∨ w.next ≤ n) ∧ e = .returned (.tuple #[wV w a q p, .int .i64 8])) ∨ ((0 ≤ n ∧ n < w.next) ∧ (∀ y ∈ w.pk, y.num ≠ n) ∧ e = .returned (.tuple #[wV w a q p, .int .i64 0])) ∨
  ((0 ≤ n ∧ n < w.next) ∧ ∃ k, ∃ hk : k < w.pk.length, w.pk[k].num = n ∧ (∀ j, (hj : j < w.pk.length) → j < k → w.pk[j].num ≠ n) ∧ ∃ p', e = .returned (.tuple #[wV (setPk w k { w.pk[k] with dl := true }) a q p', .int .i64 0]) ∧ RwAt (joinM M W W') (setPk w k { w.pk[k] with dl := true }) a q p')
set_option maxRecDepth 100000 in
set_option maxHeartbeats 4000000 in
theorem refDeliver_any (w : RW) (a q p : Value) (M : Mem) (W : World) (hM : M.le (mem W)) (h : RwAt M w a q p) (n : Int) (hn : inI64 n) (hl : w.pk.length ≤ 100000) : Calls Try.prog 50 #[wV w a q p, .int .i64 n] W fun e W' => DelivW M W w a q p n e W' ∧ Below W.heap.size W W' := by
  have HF := Lib.hid (fun (wq : World) (hq : Below W.heap.size W wq) => refFind_any w a q p M wq (Mem.le_trans hM (below_mem hq)) h n)
  obtain ⟨aa, ca, rfl, hla, hma, hra⟩ := slice_form h.ha
  obtain ⟨aq, cq, rfl, hlq, hmq, hrq⟩ := slice_form h.hq
  obtain ⟨ap, cp, rfl, hlp, hmp, hrp⟩ := slice_form h.hp
  have hca : ca ≤ 9223372036854775807 := by unfold maxLen at hma; exact hma
  have hcq : cq ≤ 9223372036854775807 := by unfold maxLen at hmq; exact hmq
  have hcp : cp ≤ 9223372036854775807 := by unfold maxLen at hmp; exact hmp
  have HA := Lib.hid hra
  have HQ := Lib.hid hrq
  have HP := Lib.hid hrp
  have HW := Lib.hid h
  have HM := Lib.hid hM
  clear hma hmq hmp hra hrq hrp h hM
  have HB2 := Lib.hid (((Below.refl W.heap.size W).alloc (Nat.le_refl _) (.cells #[.int .i64 w.size, .int .i64 w.room, .int .i64 w.credits, .int .i64 w.next, .slice aa w.ahead.length ca, .slice aq w.queue.length cq, .slice ap w.pk.length cp] 56)).alloc (by simp) (.cells #[.int .i64 0, .int .i64 0, .int .i64 0, .int .i64 0, .slice none 0 0, .slice none 0 0, .slice none 0 0] 56))
  have yB : ((W.alloc (.cells #[.int .i64 w.size, .int .i64 w.room, .int .i64 w.credits, .int .i64 w.next, .slice aa w.ahead.length ca, .slice aq w.queue.length cq, .slice ap w.pk.length cp] 56)).alloc (.cells #[.int .i64 0, .int .i64 0, .int .i64 0, .int .i64 0, .slice none 0 0, .slice none 0 0, .slice none 0 0] 56)).heap[W.heap.size]? = some (.cells #[.int .i64 w.size, .int .i64 w.room, .int .i64 w.credits, .int .i64 w.next, .slice aa w.ahead.length ca, .slice aq w.queue.length cq, .slice ap w.pk.length cp] 56 (0, 0)) := alloc_block (heap_alloc_new W _) _
  have yR : ((W.alloc (.cells #[.int .i64 w.size, .int .i64 w.room, .int .i64 w.credits, .int .i64 w.next, .slice aa w.ahead.length ca, .slice aq w.queue.length cq, .slice ap w.pk.length cp] 56)).alloc (.cells #[.int .i64 0, .int .i64 0, .int .i64 0, .int .i64 0, .slice none 0 0, .slice none 0 0, .slice none 0 0] 56)).heap[W.heap.size + 1]? = some (.cells #[.int .i64 0, .int .i64 0, .int .i64 0, .int .i64 0, .slice none 0 0, .slice none 0 0, .slice none 0 0] 56 (0, 0)) := by have h := heap_alloc_new (W.alloc (.cells #[.int .i64 w.size, .int .i64 w.room, .int .i64 w.credits, .int .i64 w.next, .slice aa w.ahead.length ca, .slice aq w.queue.length cq, .slice ap w.pk.length cp] 56)) (.cells #[.int .i64 0, .int .i64 0, .int .i64 0, .int .i64 0, .slice none 0 0, .slice none 0 0, .slice none 0 0] 56); rwa [World.size_alloc] at h
  have hszY : ((W.alloc (.cells #[.int .i64 w.size, .int .i64 w.room, .int .i64 w.credits, .int .i64 w.next, .slice aa w.ahead.length ca, .slice aq w.queue.length cq, .slice ap w.pk.length cp] 56)).alloc (.cells #[.int .i64 0, .int .i64 0, .int .i64 0, .int .i64 0, .slice none 0 0, .slice none 0 0, .slice none 0 0] 56)).heap.size = W.heap.size + 2 := by simp
  go_enter Try.func50, Try.ntmps50
  go_upto_region 1 with fail
  generalize (W.alloc (.cells #[.int .i64 w.size, .int .i64 w.room, .int .i64 w.credits, .int .i64 w.next, .slice aa w.ahead.length ca, .slice aq w.queue.length cq, .slice ap w.pk.length cp] 56)).alloc (.cells #[.int .i64 0, .int .i64 0, .int .i64 0, .int .i64 0, .slice none 0 0, .slice none 0 0, .slice none 0 0] 56) = Y at HB2 yB yR hszY ⊢
  have c0 : Y.cell? ⟨W.heap.size, 0, none⟩ = some (.int .i64 w.size) := mem_cells yB 0
  have c1 : Y.cell? ⟨W.heap.size, 1, none⟩ = some (.int .i64 w.room) := mem_cells yB 1
  have c2 : Y.cell? ⟨W.heap.size, 2, none⟩ = some (.int .i64 w.credits) := mem_cells yB 2
  have c3 : Y.cell? ⟨W.heap.size, 3, none⟩ = some (.int .i64 w.next) := mem_cells yB 3
  have c4 : Y.cell? ⟨W.heap.size, 4, none⟩ = some (.slice aa w.ahead.length ca) := mem_cells yB 4
  have c5 : Y.cell? ⟨W.heap.size, 5, none⟩ = some (.slice aq w.queue.length cq) := mem_cells yB 5
  have c6 : Y.cell? ⟨W.heap.size, 6, none⟩ = some (.slice ap w.pk.length cp) := mem_cells yB 6
  have r0 : Y.cell? ⟨W.heap.size + 1, 0, none⟩ = some (.int .i64 0) := mem_cells yR 0
  have r1 : Y.cell? ⟨W.heap.size + 1, 1, none⟩ = some (.int .i64 0) := mem_cells yR 1
  have r2 : Y.cell? ⟨W.heap.size + 1, 2, none⟩ = some (.int .i64 0) := mem_cells yR 2
  have r3 : Y.cell? ⟨W.heap.size + 1, 3, none⟩ = some (.int .i64 0) := mem_cells yR 3
  have r4 : Y.cell? ⟨W.heap.size + 1, 4, none⟩ = some (.slice none 0 0) := mem_cells yR 4
  have r5 : Y.cell? ⟨W.heap.size + 1, 5, none⟩ = some (.slice none 0 0) := mem_cells yR 5
  have r6 : Y.cell? ⟨W.heap.size + 1, 6, none⟩ = some (.slice none 0 0) := mem_cells yR 6
  have fB : ∀ o, Y.frozen? ⟨W.heap.size, o, none⟩ = false := frozen_cells yB
  have fR : ∀ o, Y.frozen? ⟨W.heap.size + 1, o, none⟩ = false := frozen_cells yR
  have HYR := Lib.hid yR
  have HYB := Lib.hid yB
  clear yR yB
  by_cases h1 : n < 0
  · have HN := Lib.hid (show n < 0 ∨ w.next ≤ n from .inl h1)
    go_wp2
    have HBX := HB2
    have r1 := store7_block HYR.out (.int .i64 w.size) (.int .i64 w.room) (.int .i64 w.credits) (.int .i64 w.next) (.slice aa w.ahead.length ca) (.slice aq w.queue.length cq) (.slice ap w.pk.length cp)
    have hk := store7_keeps (Y) (W.heap.size + 1) (.int .i64 w.size) (.int .i64 w.room) (.int .i64 w.credits) (.int .i64 w.next) (.slice aa w.ahead.length ca) (.slice aq w.queue.length cq) (.slice ap w.pk.length cp)
    show bodyPost _ _ _ _ _ (store7 (Y) (W.heap.size + 1) (.int .i64 w.size) (.int .i64 w.room) (.int .i64 w.credits) (.int .i64 w.next) (.slice aa w.ahead.length ca) (.slice aq w.queue.length cq) (.slice ap w.pk.length cp))
    generalize store7 (Y) (W.heap.size + 1) (.int .i64 w.size) (.int .i64 w.room) (.int .i64 w.credits) (.int .i64 w.next) (.slice aa w.ahead.length ca) (.slice aq w.queue.length cq) (.slice ap w.pk.length cp) = w2 at r1 hk ⊢
    have hBz : Below W.heap.size W w2 := Keeps.belowStep HBX.out hk (fun k hk => by omega) HBX.out.size
    have g0 : w2.cell? ⟨(W.heap.size + 1), 0, none⟩ = some (.int .i64 w.size) := mem_cells r1 0
    have g1 : w2.cell? ⟨(W.heap.size + 1), 1, none⟩ = some (.int .i64 w.room) := mem_cells r1 1
    have g2 : w2.cell? ⟨(W.heap.size + 1), 2, none⟩ = some (.int .i64 w.credits) := mem_cells r1 2
    have g3 : w2.cell? ⟨(W.heap.size + 1), 3, none⟩ = some (.int .i64 w.next) := mem_cells r1 3
    have g4 : w2.cell? ⟨(W.heap.size + 1), 4, none⟩ = some (.slice aa w.ahead.length ca) := mem_cells r1 4
    have g5 : w2.cell? ⟨(W.heap.size + 1), 5, none⟩ = some (.slice aq w.queue.length cq) := mem_cells r1 5
    have g6 : w2.cell? ⟨(W.heap.size + 1), 6, none⟩ = some (.slice ap w.pk.length cp) := mem_cells r1 6
    exact bodyPost_ret (v := .tuple #[.agg #[.int .i64 w.size, .int .i64 w.room, .int .i64 w.credits, .int .i64 w.next, .slice aa w.ahead.length ca, .slice aq w.queue.length cq, .slice ap w.pk.length cp], .int .i64 8]) (by simp [results, Try.results50, go_sem, g0, g1, g2, g3, g4, g5, g6]) rfl ⟨.inl ⟨HN.out, rfl⟩, hBz⟩
  by_cases h2 : w.next ≤ n
  · have HN := Lib.hid (show n < 0 ∨ w.next ≤ n from .inr h2)
    go_wp2
    have HBX := HB2
    have r1 := store7_block HYR.out (.int .i64 w.size) (.int .i64 w.room) (.int .i64 w.credits) (.int .i64 w.next) (.slice aa w.ahead.length ca) (.slice aq w.queue.length cq) (.slice ap w.pk.length cp)
    have hk := store7_keeps (Y) (W.heap.size + 1) (.int .i64 w.size) (.int .i64 w.room) (.int .i64 w.credits) (.int .i64 w.next) (.slice aa w.ahead.length ca) (.slice aq w.queue.length cq) (.slice ap w.pk.length cp)
    show bodyPost _ _ _ _ _ (store7 (Y) (W.heap.size + 1) (.int .i64 w.size) (.int .i64 w.room) (.int .i64 w.credits) (.int .i64 w.next) (.slice aa w.ahead.length ca) (.slice aq w.queue.length cq) (.slice ap w.pk.length cp))
    generalize store7 (Y) (W.heap.size + 1) (.int .i64 w.size) (.int .i64 w.room) (.int .i64 w.credits) (.int .i64 w.next) (.slice aa w.ahead.length ca) (.slice aq w.queue.length cq) (.slice ap w.pk.length cp) = w2 at r1 hk ⊢
    have hBz : Below W.heap.size W w2 := Keeps.belowStep HBX.out hk (fun k hk => by omega) HBX.out.size
    have g0 : w2.cell? ⟨(W.heap.size + 1), 0, none⟩ = some (.int .i64 w.size) := mem_cells r1 0
    have g1 : w2.cell? ⟨(W.heap.size + 1), 1, none⟩ = some (.int .i64 w.room) := mem_cells r1 1
    have g2 : w2.cell? ⟨(W.heap.size + 1), 2, none⟩ = some (.int .i64 w.credits) := mem_cells r1 2
    have g3 : w2.cell? ⟨(W.heap.size + 1), 3, none⟩ = some (.int .i64 w.next) := mem_cells r1 3
    have g4 : w2.cell? ⟨(W.heap.size + 1), 4, none⟩ = some (.slice aa w.ahead.length ca) := mem_cells r1 4
    have g5 : w2.cell? ⟨(W.heap.size + 1), 5, none⟩ = some (.slice aq w.queue.length cq) := mem_cells r1 5
    have g6 : w2.cell? ⟨(W.heap.size + 1), 6, none⟩ = some (.slice ap w.pk.length cp) := mem_cells r1 6
    exact bodyPost_ret (v := .tuple #[.agg #[.int .i64 w.size, .int .i64 w.room, .int .i64 w.credits, .int .i64 w.next, .slice aa w.ahead.length ca, .slice aq w.queue.length cq, .slice ap w.pk.length cp], .int .i64 8]) (by simp [results, Try.results50, go_sem, g0, g1, g2, g3, g4, g5, g6]) rfl ⟨.inl ⟨HN.out, rfl⟩, hBz⟩
  have HN := Lib.hid (show 0 ≤ n ∧ n < w.next by omega)
  go_wp2_with fail
  refine (HF.out Y HB2.out).mono ?_
  rintro e w1 ⟨⟨i, rfl, hf⟩, hb⟩
  have yB := (hb.block W.heap.size (by omega)).trans HYB.out
  have yR := (hb.block (W.heap.size + 1) (by omega)).trans HYR.out
  have HBX := Lib.hid (HB2.out.trans (hb.mono HB2.out.size))
  have hsz1 := hb.size
  clear c0 c1 c2 c3 c4 c5 c6 r0 r1 r2 r3 r4 r5 r6 fR fB hb HF HYR HYB
  have HYR := Lib.hid yR
  have HYB := Lib.hid yB
  have c0 : w1.cell? ⟨W.heap.size, 0, none⟩ = some (.int .i64 w.size) := mem_cells yB 0
  have c1 : w1.cell? ⟨W.heap.size, 1, none⟩ = some (.int .i64 w.room) := mem_cells yB 1
  have c2 : w1.cell? ⟨W.heap.size, 2, none⟩ = some (.int .i64 w.credits) := mem_cells yB 2
  have c3 : w1.cell? ⟨W.heap.size, 3, none⟩ = some (.int .i64 w.next) := mem_cells yB 3
  have c4 : w1.cell? ⟨W.heap.size, 4, none⟩ = some (.slice aa w.ahead.length ca) := mem_cells yB 4
  have c5 : w1.cell? ⟨W.heap.size, 5, none⟩ = some (.slice aq w.queue.length cq) := mem_cells yB 5
  have c6 : w1.cell? ⟨W.heap.size, 6, none⟩ = some (.slice ap w.pk.length cp) := mem_cells yB 6
  have r0 : w1.cell? ⟨(W.heap.size + 1), 0, none⟩ = some (.int .i64 0) := mem_cells yR 0
  have r1 : w1.cell? ⟨(W.heap.size + 1), 1, none⟩ = some (.int .i64 0) := mem_cells yR 1
  have r2 : w1.cell? ⟨(W.heap.size + 1), 2, none⟩ = some (.int .i64 0) := mem_cells yR 2
  have r3 : w1.cell? ⟨(W.heap.size + 1), 3, none⟩ = some (.int .i64 0) := mem_cells yR 3
  have r4 : w1.cell? ⟨(W.heap.size + 1), 4, none⟩ = some (.slice none 0 0) := mem_cells yR 4
  have r5 : w1.cell? ⟨(W.heap.size + 1), 5, none⟩ = some (.slice none 0 0) := mem_cells yR 5
  have r6 : w1.cell? ⟨(W.heap.size + 1), 6, none⟩ = some (.slice none 0 0) := mem_cells yR 6
  have fR : ∀ o, w1.frozen? ⟨W.heap.size + 1, o, none⟩ = false := frozen_cells yR
  clear yB yR
  rcases hf with ⟨k, hk, rfl, hnum, hlt⟩ | ⟨rfl, hall⟩
  rotate_left
  · have HAL := Lib.hid hall
    clear hall
    go_wp2
    have r1 := store7_block HYR.out (.int .i64 w.size) (.int .i64 w.room) (.int .i64 w.credits) (.int .i64 w.next) (.slice aa w.ahead.length ca) (.slice aq w.queue.length cq) (.slice ap w.pk.length cp)
    have hk := store7_keeps (w1) (W.heap.size + 1) (.int .i64 w.size) (.int .i64 w.room) (.int .i64 w.credits) (.int .i64 w.next) (.slice aa w.ahead.length ca) (.slice aq w.queue.length cq) (.slice ap w.pk.length cp)
    show bodyPost _ _ _ _ _ (store7 (w1) (W.heap.size + 1) (.int .i64 w.size) (.int .i64 w.room) (.int .i64 w.credits) (.int .i64 w.next) (.slice aa w.ahead.length ca) (.slice aq w.queue.length cq) (.slice ap w.pk.length cp))
    generalize store7 (w1) (W.heap.size + 1) (.int .i64 w.size) (.int .i64 w.room) (.int .i64 w.credits) (.int .i64 w.next) (.slice aa w.ahead.length ca) (.slice aq w.queue.length cq) (.slice ap w.pk.length cp) = w2 at r1 hk ⊢
    have hBz : Below W.heap.size W w2 := Keeps.belowStep HBX.out hk (fun k hk => by omega) HBX.out.size
    have g0 : w2.cell? ⟨(W.heap.size + 1), 0, none⟩ = some (.int .i64 w.size) := mem_cells r1 0
    have g1 : w2.cell? ⟨(W.heap.size + 1), 1, none⟩ = some (.int .i64 w.room) := mem_cells r1 1
    have g2 : w2.cell? ⟨(W.heap.size + 1), 2, none⟩ = some (.int .i64 w.credits) := mem_cells r1 2
    have g3 : w2.cell? ⟨(W.heap.size + 1), 3, none⟩ = some (.int .i64 w.next) := mem_cells r1 3
    have g4 : w2.cell? ⟨(W.heap.size + 1), 4, none⟩ = some (.slice aa w.ahead.length ca) := mem_cells r1 4
    have g5 : w2.cell? ⟨(W.heap.size + 1), 5, none⟩ = some (.slice aq w.queue.length cq) := mem_cells r1 5
    have g6 : w2.cell? ⟨(W.heap.size + 1), 6, none⟩ = some (.slice ap w.pk.length cp) := mem_cells r1 6
    exact bodyPost_ret (v := .tuple #[.agg #[.int .i64 w.size, .int .i64 w.room, .int .i64 w.credits, .int .i64 w.next, .slice aa w.ahead.length ca, .slice aq w.queue.length cq, .slice ap w.pk.length cp], .int .i64 0]) (by simp [results, Try.results50, go_sem, g0, g1, g2, g3, g4, g5, g6]) rfl ⟨.inr (.inl ⟨HN.out, HAL.out, rfl⟩), hBz⟩
  have HNM := Lib.hid (And.intro hnum hlt)
  have HLT := Lib.hid (OwnsO.lit0 (tIn M tRP) w1 126)
  have hbA : Below w1.heap.size w1 (w1.alloc (.cells #[] 126)) := (Below.refl _ _).alloc (Nat.le_refl _) _
  have HRA := Lib.hid ((tSlice (tIn M tRP)).mono _ _ _ _ (Mem.le_trans HM.out (Mem.le_trans (below_mem HBX.out) (below_mem hbA))) (tRPs_in HP.out))
  have HL1 := Lib.hid (show ([] : List RP).length + w.pk.length ≤ maxLen by unfold maxLen; simp; omega)
  have HL2 := Lib.hid (show (([] : List RP).length + w.pk.length) * 40 ≤ 140737488355328 by simp; omega)
  have d6 : (w1.alloc (.cells #[] 126)).cell? ⟨W.heap.size, 6, none⟩ = some (.slice ap w.pk.length cp) := mem_cells (alloc_block HYB.out _) 6
  clear hbA hnum hlt
  go_wp2_with (at_builtin; refine wpList_append_os rfl (.tmp 21) (.tmp 23) 54 rfl (tIn M tRP) (tIn_flat _ _) tRPIn_one Try.underlying54 (infoRP _) rfl (Nat.succ_pos 2) _ [] w.pk rfl HLT.out _ _ _ rfl rfl HRA.out HL1.out HL2.out ?_)
  intro v3 w3 own3 happ
  have hsz3 : (w1.alloc (.cells #[] 126)).heap.size ≤ w3.heap.size := happ.grown.size
  rw [World.size_alloc] at hsz3
  have hold : ∀ k, k < w1.heap.size → w3.heap[k]? = w1.heap[k]? := fun k hk => (happ.grown.block k (by simp; omega) (fun e => by simp [Value.ownBlock] at e; omega)).trans (((Below.refl w1.heap.size w1).alloc (Nat.le_refl _) _).block k hk)
  have hv3 : ∀ k, v3.ownBlock = some k → w1.heap.size ≤ k := fun k e => by
    rcases happ.block with g | g
    · rw [g] at e; simp [Value.ownBlock] at e; omega
    · have := g k e; simp at this; omega
  have yB := (hold W.heap.size (by omega)).trans HYB.out
  have yR := (hold (W.heap.size + 1) (by omega)).trans HYR.out
  have hB3 : Below W.heap.size W w3 := ⟨happ.grown.os.trans HBX.out.os, happ.grown.tape.trans HBX.out.tape, happ.grown.output.trans HBX.out.output, by have := HBX.out.size; omega, fun k hk => (hold k (by have := HBX.out.size; omega)).trans (HBX.out.block k hk)⟩
  have HB3 := Lib.hid hB3
  try rw [List.nil_append] at own3
  obtain ⟨g, off, cap, cs, rfl, hc1, hc2, ⟨s, rfl, hin, hr⟩, h5⟩ := own3.at hk
  have hg : w1.heap.size ≤ g := hv3 g rfl
  have hX0 : Keeps (fun k => k = W.heap.size) w3 (w3.setCell ⟨W.heap.size, 6, none⟩ (.slice (some ⟨g, off, none⟩) w.pk.length cap)) := keepB 6 _
  have own4 := own_after own3 hX0 (fun k e => by have := hv3 k e; omega)
  have own5 : OwnsO (tIn M tRP) ((w3.setCell ⟨W.heap.size, 6, none⟩ (.slice (some ⟨g, off, none⟩) w.pk.length cap)).setCell ⟨g, off + k * 3 + 2, none⟩ (.bool true)) 126 (.slice (some ⟨g, off, none⟩) w.pk.length cap) (w.pk.set k { w.pk[k] with dl := true }) := by
    have h := own4.set (k := k) (j := 2) (u := .bool true) (y := { w.pk[k] with dl := true }) hk (show 2 < 3 by decide) (fun cs ⟨s, e, i, r⟩ => ⟨s, by rw [e]; rfl, i, r⟩)
    rw [show off + (k * (tIn M tRP).sz + 2) = off + k * 3 + 2 from by show off + (k * 3 + 2) = _; omega] at h
    exact h
  obtain ⟨cg, hcg⟩ := own4.cells g rfl
  have fg : ∀ o, (w3.setCell ⟨W.heap.size, 6, none⟩ (.slice (some ⟨g, off, none⟩) w.pk.length cap)).frozen? ⟨g, o, none⟩ = false := frozen_cells hcg
  have eg : (w3.setCell ⟨W.heap.size, 6, none⟩ (.slice (some ⟨g, off, none⟩) w.pk.length cap)).cell? ⟨g, off + k * 3 + 2, none⟩ = some (.bool w.pk[k].dl) := by
    have := (mem_of_block (hX0.block g (by have := own3.lt g rfl; omega) (by omega)) _).trans (h5 2 _ rfl)
    exact this
  have yBX : (w3.setCell ⟨W.heap.size, 6, none⟩ (.slice (some ⟨g, off, none⟩) w.pk.length cap)).heap[W.heap.size]? = some (.cells #[.int .i64 w.size, .int .i64 w.room, .int .i64 w.credits, .int .i64 w.next, .slice aa w.ahead.length ca, .slice aq w.queue.length cq, .slice (some ⟨g, off, none⟩) w.pk.length cap] 56 (0, 0)) := set_block yB
  have hkX : Keeps (fun k => k = g) (w3.setCell ⟨W.heap.size, 6, none⟩ (.slice (some ⟨g, off, none⟩) w.pk.length cap)) ((w3.setCell ⟨W.heap.size, 6, none⟩ (.slice (some ⟨g, off, none⟩) w.pk.length cap)).setCell ⟨g, off + k * 3 + 2, none⟩ (.bool true)) := keepB _ _
  have hBX : Below W.heap.size W ((w3.setCell ⟨W.heap.size, 6, none⟩ (.slice (some ⟨g, off, none⟩) w.pk.length cap)).setCell ⟨g, off + k * 3 + 2, none⟩ (.bool true)) := Keeps.belowStep (Keeps.belowStep HB3.out hX0 (fun k hk => by omega) HB3.out.size) hkX (fun k hk => by have := HBX.out.size; omega) (Nat.le_trans HB3.out.size hX0.size)
  have zB : ((w3.setCell ⟨W.heap.size, 6, none⟩ (.slice (some ⟨g, off, none⟩) w.pk.length cap)).setCell ⟨g, off + k * 3 + 2, none⟩ (.bool true)).heap[W.heap.size]? = _ := (set_block_other (by omega)).trans yBX
  have zR : ((w3.setCell ⟨W.heap.size, 6, none⟩ (.slice (some ⟨g, off, none⟩) w.pk.length cap)).setCell ⟨g, off + k * 3 + 2, none⟩ (.bool true)).heap[W.heap.size + 1]? = _ := (set_block_other (by omega)).trans ((set_block_other (by omega)).trans yR)
  have HZ := Lib.hid (And.intro hBX (And.intro own5 (And.intro zB zR)))
  have HG := Lib.hid (show g ≠ W.heap.size ∧ g ≠ W.heap.size + 1 ∧ W.heap.size ≤ g by omega)
  have e6 : w3.cell? ⟨W.heap.size, 6, none⟩ = some (.slice ap w.pk.length cp) := mem_cells yB 6
  have f6 : w3.frozen? ⟨W.heap.size, 6, none⟩ = false := frozen_cells yB 6
  have b6 : (w3.setCell ⟨W.heap.size, 6, none⟩ (.slice (some ⟨g, off, none⟩) w.pk.length cap)).cell? ⟨W.heap.size, 6, none⟩ = some (.slice (some ⟨g, off, none⟩) w.pk.length cap) := mem_cells yBX 6
  have hcap : cap ≤ 9223372036854775807 := by unfold maxLen at hc2; exact hc2
  clear own3 own4 own5 happ hold hv3 hB3 hX0 hkX hBX zB zR yB yR yBX hr h5 hcg hc2 HRA HL1 HL2 HLT c0 c1 c2 c3 c4 c5 c6 r0 r1 r2 r3 r4 r5 r6 fR d6
  try rw [List.nil_append]
  go_upto_region 7 with fail
  generalize ((w3.setCell ⟨W.heap.size, 6, none⟩ (.slice (some ⟨g, off, none⟩) w.pk.length cap)).setCell ⟨g, off + k * 3 + 2, none⟩ (.bool true)) = X at HZ ⊢
  have zB := HZ.out.2.2.1
  have zR := HZ.out.2.2.2
  have c0 : X.cell? ⟨W.heap.size, 0, none⟩ = some (.int .i64 w.size) := mem_cells zB 0
  have c1 : X.cell? ⟨W.heap.size, 1, none⟩ = some (.int .i64 w.room) := mem_cells zB 1
  have c2 : X.cell? ⟨W.heap.size, 2, none⟩ = some (.int .i64 w.credits) := mem_cells zB 2
  have c3 : X.cell? ⟨W.heap.size, 3, none⟩ = some (.int .i64 w.next) := mem_cells zB 3
  have c4 : X.cell? ⟨W.heap.size, 4, none⟩ = some (.slice aa w.ahead.length ca) := mem_cells zB 4
  have c5 : X.cell? ⟨W.heap.size, 5, none⟩ = some (.slice aq w.queue.length cq) := mem_cells zB 5
  have c6 : X.cell? ⟨W.heap.size, 6, none⟩ = some (.slice (some ⟨g, off, none⟩) w.pk.length cap) := mem_cells zB 6
  have r0 : X.cell? ⟨(W.heap.size + 1), 0, none⟩ = some (.int .i64 0) := mem_cells zR 0
  have r1 : X.cell? ⟨(W.heap.size + 1), 1, none⟩ = some (.int .i64 0) := mem_cells zR 1
  have r2 : X.cell? ⟨(W.heap.size + 1), 2, none⟩ = some (.int .i64 0) := mem_cells zR 2
  have r3 : X.cell? ⟨(W.heap.size + 1), 3, none⟩ = some (.int .i64 0) := mem_cells zR 3
  have r4 : X.cell? ⟨(W.heap.size + 1), 4, none⟩ = some (.slice none 0 0) := mem_cells zR 4
  have r5 : X.cell? ⟨(W.heap.size + 1), 5, none⟩ = some (.slice none 0 0) := mem_cells zR 5
  have r6 : X.cell? ⟨(W.heap.size + 1), 6, none⟩ = some (.slice none 0 0) := mem_cells zR 6
  have fR : ∀ o, X.frozen? ⟨W.heap.size + 1, o, none⟩ = false := frozen_cells zR
  clear e6 f6 b6 eg fg zB zR HBX
  have HBX := Lib.hid HZ.out.1
  go_wp2
  have r1 := store7_block HZ.out.2.2.2 (.int .i64 w.size) (.int .i64 w.room) (.int .i64 w.credits) (.int .i64 w.next) (.slice aa w.ahead.length ca) (.slice aq w.queue.length cq) (.slice (some ⟨g, off, none⟩) w.pk.length cap)
  have hk2 := store7_keeps (X) (W.heap.size + 1) (.int .i64 w.size) (.int .i64 w.room) (.int .i64 w.credits) (.int .i64 w.next) (.slice aa w.ahead.length ca) (.slice aq w.queue.length cq) (.slice (some ⟨g, off, none⟩) w.pk.length cap)
  show bodyPost _ _ _ _ _ (store7 (X) (W.heap.size + 1) (.int .i64 w.size) (.int .i64 w.room) (.int .i64 w.credits) (.int .i64 w.next) (.slice aa w.ahead.length ca) (.slice aq w.queue.length cq) (.slice (some ⟨g, off, none⟩) w.pk.length cap))
  generalize store7 (X) (W.heap.size + 1) (.int .i64 w.size) (.int .i64 w.room) (.int .i64 w.credits) (.int .i64 w.next) (.slice aa w.ahead.length ca) (.slice aq w.queue.length cq) (.slice (some ⟨g, off, none⟩) w.pk.length cap) = w2 at r1 hk2 ⊢
  have hBz : Below W.heap.size W w2 := Keeps.belowStep HBX.out hk2 (fun k hk => by omega) HBX.out.size
  have g0 : w2.cell? ⟨(W.heap.size + 1), 0, none⟩ = some (.int .i64 w.size) := mem_cells r1 0
  have g1 : w2.cell? ⟨(W.heap.size + 1), 1, none⟩ = some (.int .i64 w.room) := mem_cells r1 1
  have g2 : w2.cell? ⟨(W.heap.size + 1), 2, none⟩ = some (.int .i64 w.credits) := mem_cells r1 2
  have g3 : w2.cell? ⟨(W.heap.size + 1), 3, none⟩ = some (.int .i64 w.next) := mem_cells r1 3
  have g4 : w2.cell? ⟨(W.heap.size + 1), 4, none⟩ = some (.slice aa w.ahead.length ca) := mem_cells r1 4
  have g5 : w2.cell? ⟨(W.heap.size + 1), 5, none⟩ = some (.slice aq w.queue.length cq) := mem_cells r1 5
  have g6 : w2.cell? ⟨(W.heap.size + 1), 6, none⟩ = some (.slice (some ⟨g, off, none⟩) w.pk.length cap) := mem_cells r1 6
  exact bodyPost_ret (v := .tuple #[.agg #[.int .i64 w.size, .int .i64 w.room, .int .i64 w.credits, .int .i64 w.next, .slice aa w.ahead.length ca, .slice aq w.queue.length cq, .slice (some ⟨g, off, none⟩) w.pk.length cap], .int .i64 0]) (by simp [results, Try.results50, go_sem, g0, g1, g2, g3, g4, g5, g6]) rfl ⟨.inr (.inr ⟨HN.out, k, hk, HNM.out.1, HNM.out.2, _, rfl, ⟨HW.out.i1, HW.out.i2, HW.out.i3, HW.out.i4, tEls.mono _ _ _ _ (joinM_le HM.out) HW.out.ha, tEls.mono _ _ _ _ (joinM_le HM.out) HW.out.hq, own_join HM.out (own_after HZ.out.2.1 hk2 (fun k e => by cases e; exact HG.out.2.1)) (fun k e => by cases e; exact HG.out.2.2)⟩⟩), hBz⟩
end Go.Proofs.Ytfkphdmnelchmaa
