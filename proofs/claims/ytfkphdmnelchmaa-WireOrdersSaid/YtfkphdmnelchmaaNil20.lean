/- The methods of a nil wire. -/
import Derived.Test.YtfkphdmnelchmaaAwake20
namespace Go.Proofs.Ytfkphdmnelchmaa
open Go.RowKit Go.Maps

set_option maxHeartbeats 400000 in
theorem send_nil (w : World) : Calls Try.prog 17 #[.pointer none] w fun e w' => e = .returned (.tuple #[.int .i64 0, .int .i64 1]) ∧ w = w' := by
  go_enter Try.func17, Try.ntmps17
  go_wp2
  go_ret2
  exact ⟨rfl, rfl⟩
set_option maxHeartbeats 400000 in
theorem peek_nil (w : World) : Calls Try.prog 36 #[.pointer none] w fun e w' => e = .returned (.tuple #[elV noEl (.slice none 0 0), .int .i64 1]) ∧ Below w.heap.size w w' := by
  go_enter Try.func36, Try.ntmps36
  go_wp2
  exact bodyPost_ret (v := .tuple #[elV noEl (.slice none 0 0), .int .i64 1]) (by simp [results, Try.results36, go_sem, noEl]) rfl ⟨rfl, (Below.refl _ _).alloc (Nat.le_refl _) _⟩
set_option maxRecDepth 100000 in
set_option maxHeartbeats 1000000 in
theorem receive_nil (w : World) : Calls Try.prog 20 #[.pointer none] w fun e w' => e = .returned (.tuple #[elV noEl (.slice none 0 0), .int .i64 1]) ∧ Below w.heap.size w w' := by
  go_enter Try.func20, Try.ntmps20
  go_wp2_with fail
  refine (peek_nil _).mono ?_
  rintro e w1 ⟨rfl, hb⟩
  have q := alloc_block ((hb.block w.heap.size (by simp)).trans (heap_alloc_new w _)) (.cells #[.int .i64 noEl.kind, .int .i64 noEl.n, .int .i64 noEl.time, .slice none 0 0, .int .i64 noEl.cn] 42)
  have HB := Lib.hid ((((Below.refl _ _).alloc (Nat.le_refl _) _ : Below w.heap.size w (w.alloc (.cells #[.int .i64 0, .int .i64 0, .int .i64 0, .slice none 0 0, .int .i64 0] 42))).trans (hb.mono (by simp))).alloc (by have := hb.size; simp at this; omega) (.cells #[.int .i64 noEl.kind, .int .i64 noEl.n, .int .i64 noEl.time, .slice none 0 0, .int .i64 noEl.cn] 42))
  clear hb
  go_upto_region 2 with fail
  generalize (w1.alloc (.cells #[.int .i64 noEl.kind, .int .i64 noEl.n, .int .i64 noEl.time, .slice none 0 0, .int .i64 noEl.cn] 42)) = X at q HB ⊢
  have e0 : X.cell? ⟨w.heap.size, 0, none⟩ = some (.int .i64 0) := mem_cells q 0
  have e1 : X.cell? ⟨w.heap.size, 1, none⟩ = some (.int .i64 0) := mem_cells q 1
  have e2 : X.cell? ⟨w.heap.size, 2, none⟩ = some (.int .i64 0) := mem_cells q 2
  have e3 : X.cell? ⟨w.heap.size, 3, none⟩ = some (.slice none 0 0) := mem_cells q 3
  have e4 : X.cell? ⟨w.heap.size, 4, none⟩ = some (.int .i64 0) := mem_cells q 4
  have f0 : X.frozen? ⟨w.heap.size, 0, none⟩ = false := frozen_cells q 0
  have f1 : X.frozen? ⟨w.heap.size, 1, none⟩ = false := frozen_cells q 1
  have f2 : X.frozen? ⟨w.heap.size, 2, none⟩ = false := frozen_cells q 2
  have f3 : X.frozen? ⟨w.heap.size, 3, none⟩ = false := frozen_cells q 3
  have f4 : X.frozen? ⟨w.heap.size, 4, none⟩ = false := frozen_cells q 4
  have HQ := Lib.hid q
  clear q
  go_wp2
  have r1 := store5_block HQ.out (.int .i64 0) (.int .i64 0) (.int .i64 0) (.slice none 0 0) (.int .i64 0)
  have hk := store5_keeps X w.heap.size (.int .i64 0) (.int .i64 0) (.int .i64 0) (.slice none 0 0) (.int .i64 0)
  show bodyPost _ _ _ _ _ (store5 X w.heap.size (.int .i64 0) (.int .i64 0) (.int .i64 0) (.slice none 0 0) (.int .i64 0))
  generalize store5 X w.heap.size (.int .i64 0) (.int .i64 0) (.int .i64 0) (.slice none 0 0) (.int .i64 0) = w2 at r1 hk ⊢
  have g0 : w2.cell? ⟨w.heap.size, 0, none⟩ = some (.int .i64 0) := mem_cells r1 0
  have g1 : w2.cell? ⟨w.heap.size, 1, none⟩ = some (.int .i64 0) := mem_cells r1 1
  have g2 : w2.cell? ⟨w.heap.size, 2, none⟩ = some (.int .i64 0) := mem_cells r1 2
  have g3 : w2.cell? ⟨w.heap.size, 3, none⟩ = some (.slice none 0 0) := mem_cells r1 3
  have g4 : w2.cell? ⟨w.heap.size, 4, none⟩ = some (.int .i64 0) := mem_cells r1 4
  exact bodyPost_ret (v := .tuple #[elV noEl (.slice none 0 0), .int .i64 1]) (by simp [results, Try.results20, go_sem, noEl, g0, g1, g2, g3, g4]) rfl ⟨rfl, Keeps.belowStep HB.out hk (fun k hk => by omega) HB.out.size⟩
set_option maxHeartbeats 400000 in
theorem contents_nil (w : World) : Calls Try.prog 26 #[.pointer none] w fun e w' => e = .returned (.tuple #[.slice none 0 0, .int .i64 1]) ∧ w = w' := by
  go_enter Try.func26, Try.ntmps26
  go_wp2
  go_ret2
  exact ⟨rfl, rfl⟩
set_option maxHeartbeats 400000 in
theorem overtake_nil (x : El) (a : Option Addr) (n c : Nat) (w : World) : Calls Try.prog 27 #[.pointer none, elV x (.slice a n c)] w fun e w' => e = .returned (.tuple #[.slice none 0 0, .int .i64 1]) ∧ Below w.heap.size w w' := by
  have hb := fun o => (Below.refl w.heap.size w).alloc (Nat.le_refl _) o
  have HB := Lib.hid hb
  clear hb
  go_enter Try.func27, Try.ntmps27
  go_wp2
  go_ret2
  exact ⟨rfl, HB.out _⟩
set_option maxHeartbeats 400000 in
theorem put_nil (x : El) (a : Option Addr) (n c : Nat) (w : World) : Calls Try.prog 16 #[.pointer none, elV x (.slice a n c)] w fun e w' => e = .returned (.int .i64 1) ∧ Below w.heap.size w w' := by
  have hb := fun o => (Below.refl w.heap.size w).alloc (Nat.le_refl _) o
  have HB := Lib.hid hb
  clear hb
  go_enter Try.func16, Try.ntmps16
  go_wp2
  go_ret
  exact ⟨rfl, HB.out _⟩
set_option maxHeartbeats 400000 in
theorem deliver_nil (n : Int) (w : World) : Calls Try.prog 18 #[.pointer none, .int .i64 n] w fun e w' => e = .returned (.int .i64 1) ∧ w = w' := by
  go_enter Try.func18, Try.ntmps18
  go_wp2
  go_ret
  exact ⟨rfl, rfl⟩
set_option maxHeartbeats 400000 in
theorem lose_nil (n : Int) (w : World) : Calls Try.prog 19 #[.pointer none, .int .i64 n] w fun e w' => e = .returned (.int .i64 1) ∧ w = w' := by
  go_enter Try.func19, Try.ntmps19
  go_wp2
  go_ret
  exact ⟨rfl, rfl⟩
set_option maxHeartbeats 400000 in
theorem resize_nil (n : Int) (w : World) : Calls Try.prog 21 #[.pointer none, .int .i64 n] w fun e w' => e = .returned (.int .i64 1) ∧ w = w' := by
  go_enter Try.func21, Try.ntmps21
  go_wp2
  go_ret
  exact ⟨rfl, rfl⟩
set_option maxHeartbeats 400000 in
theorem waits_nil (w : World) : Calls Try.prog 29 #[.pointer none] w fun e w' => e = .returned (.bool false) ∧ w = w' := by
  go_enter Try.func29, Try.ntmps29
  go_wp2
  go_ret
  exact ⟨rfl, rfl⟩
set_option maxHeartbeats 400000 in
theorem queue_nil (w : World) : Calls Try.prog 30 #[.pointer none] w fun e w' => e = .returned (.int .i64 0) ∧ w = w' := by
  go_enter Try.func30, Try.ntmps30
  go_wp2
  go_ret
  exact ⟨rfl, rfl⟩
set_option maxHeartbeats 400000 in
theorem buffer_nil (w : World) : Calls Try.prog 31 #[.pointer none] w fun e w' => e = .returned (.int .i64 0) ∧ w = w' := by
  go_enter Try.func31, Try.ntmps31
  go_wp2
  go_ret
  exact ⟨rfl, rfl⟩
set_option maxHeartbeats 400000 in
theorem credits_nil (w : World) : Calls Try.prog 28 #[.pointer none] w fun e w' => e = .returned (.int .i64 0) ∧ w = w' := by
  go_enter Try.func28, Try.ntmps28
  go_wp2
  go_ret
  exact ⟨rfl, rfl⟩
set_option maxHeartbeats 400000 in
theorem spilled_nil (w : World) : Calls Try.prog 37 #[.pointer none] w fun e w' => e = .returned (.int .i64 0) ∧ w = w' := by
  go_enter Try.func37, Try.ntmps37
  go_wp2
  go_ret
  exact ⟨rfl, rfl⟩
set_option maxHeartbeats 400000 in
theorem way_nil (w : World) : Calls Try.prog 38 #[.pointer none] w fun e w' => e = .returned (.slice none 0 0) ∧ w = w' := by
  go_enter Try.func38, Try.ntmps38
  go_wp2
  go_ret
  exact ⟨rfl, rfl⟩
set_option maxRecDepth 100000 in
set_option maxHeartbeats 1000000 in
theorem great_any (x : El) (s : Value) (w : World) (hv : tRow.rv (mem w) [s] x.row) :
    Calls Try.prog 35 #[elV x s] w fun e w' => (∃ q, e = .returned (.bool q) ∧ (q = false → x.row.length ≤ 20)) ∧ Below w.heap.size w w' := by
  obtain ⟨a, cap, rfl, hl, hm, hv⟩ := slice_form hv
  have hcap : cap ≤ 9223372036854775807 := by unfold maxLen at hm; exact hm
  have hb := fun o => (Below.refl w.heap.size w).alloc (Nat.le_refl _) o
  have HV := Lib.hid hv
  have HB := Lib.hid hb
  clear hb hm hv
  go_enter Try.func35, Try.ntmps35
  go_wp2
  go_loopw [3] (fun i wr => ∃ k : Nat, k ≤ x.row.length ∧ i = .int .i64 k ∧ Below w.heap.size w wr ∧ wr.cell? ⟨w.heap.size, 3, none⟩ = some (.slice a x.row.length cap)) (fun i _ => x.row.length - (intOf i).toNat)
  case atStart => exact ⟨0, by omega, rfl, HB.out _, cell_new 3 rfl⟩
  case round =>
    obtain ⟨k, hk, rfl, hB, c3⟩ := hrel
    by_cases hlt : k < x.row.length
    · obtain ⟨b, o, rfl, hat⟩ := slice_at HV.out hlt
      obtain ⟨_, _, c2, _, _, hs⟩ := val_at (tVal.at_mono (below_mem hB) hat)
      have c2 : wr.cell? ⟨b, o + k * 3 + 2, none⟩ = some (.string x.row[k].s) := c2
      clear hat
      generalize x.row[k] = y at *
      generalize y.s = st at *
      go_wp2
      all_goals first
        | (go_roundw
           case rel => exact ⟨k + 1, by omega, by go_num, hB, c3⟩
           case measure => simp [intOf]; omega)
        | (go_ret
           exact ⟨⟨_, rfl, fun h => by cases h⟩, hB⟩)
    · obtain rfl : k = x.row.length := by omega
      go_wp2
      go_ret
      exact ⟨⟨_, rfl, fun h => by simp at h; omega⟩, hB⟩
end Go.Proofs.Ytfkphdmnelchmaa
