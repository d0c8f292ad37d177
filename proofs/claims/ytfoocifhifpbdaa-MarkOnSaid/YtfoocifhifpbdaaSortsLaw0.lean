/- The laws MarkSorts and MarkOn: SameEvents at equal lists, Late; the walks. -/
import Derived.Test.YtfoocifhifpbdaaSortedR
namespace Go.Proofs.Ytfoocifhifpbdaa
open Go.RowKit

theorem valEq_self (x : Val) : valEq x x = true := by obtain ⟨a, b, s⟩ := x; rw [valEq_mk]; exact ⟨rfl, rfl, rfl⟩
theorem sameRow_self (xs : List Val) : sameRow xs xs = true := sameRow_true rfl (fun _ _ _ => valEq_self _)

set_option maxRecDepth 100000 in
set_option maxHeartbeats 2000000 in
theorem sameEvents_self (xs : List Ev) (v u : Value) (w : World) (hv : tEvs.rv (mem w) [v] xs) (hu : tEvs.rv (mem w) [u] xs) :
    Calls Try.prog 16 #[v, u] w fun e w' => e = .returned (.bool true) ∧ Below w.heap.size w w' := by
  obtain ⟨a, cap, rfl, hl, hm, hv⟩ := slice_form hv
  obtain ⟨a', cap', rfl, hl', hm', hu⟩ := slice_form hu
  have hcap : cap ≤ 9223372036854775807 := by unfold maxLen at hm; exact hm
  have hcap' : cap' ≤ 9223372036854775807 := by unfold maxLen at hm'; exact hm'
  have HV := Lib.hid hv
  have HU := Lib.hid hu
  clear hm hm' hv hu
  go_enter Try.func16, Try.ntmps16
  go_wp2
  go_loopw [5] (fun i wr => ∃ k : Nat, k ≤ xs.length ∧ i = .int .i64 k ∧ Below w.heap.size w wr) (fun i _ => xs.length - (intOf i).toNat)
  case atStart => exact ⟨0, by omega, rfl, Below.refl _ _⟩
  case round =>
    obtain ⟨k, hk, rfl, hB⟩ := hrel
    by_cases hlt : k < xs.length
    · obtain ⟨b, o, rfl, hat⟩ := slice_at HV.out hlt
      obtain ⟨b', o', rfl, hat'⟩ := slice_at HU.out hlt
      obtain ⟨a2, cap2, c0, c1, i0, hr, hm2⟩ := ev_at (tEv.at_mono (below_mem hB) hat)
      obtain ⟨a3, cap3, d0, d1, j0, hr', hm3⟩ := ev_at (tEv.at_mono (below_mem hB) hat')
      have c0 : wr.cell? ⟨b, o + k * 2, none⟩ = some (.int .i64 xs[k].time) := c0
      have c1 : wr.cell? ⟨b, o + k * 2 + 1, none⟩ = some (.slice a2 xs[k].row.length cap2) := c1
      have d0 : wr.cell? ⟨b', o' + k * 2, none⟩ = some (.int .i64 xs[k].time) := d0
      have d1 : wr.cell? ⟨b', o' + k * 2 + 1, none⟩ = some (.slice a3 xs[k].row.length cap3) := d1
      have hs := same_any xs[k].row xs[k].row _ _ wr.drew hr hr'
      rw [sameRow_self] at hs
      have HS := Lib.hid hs
      clear hs hat hat' hr hr' hm2 hm3
      generalize xs[k] = x at *
      go_wp2_with fail
      go_region_held3 (fun w' => w'.cell? ⟨b, o + k * 2, none⟩ = some (.int .i64 x.time) ∧ w'.cell? ⟨b, o + k * 2 + 1, none⟩ = some (.slice a2 x.row.length cap2) ∧ w'.cell? ⟨b', o' + k * 2, none⟩ = some (.int .i64 x.time) ∧ w'.cell? ⟨b', o' + k * 2 + 1, none⟩ = some (.slice a3 x.row.length cap3))
        (first | go_keep | exact ⟨below_mem (by assumption) _ _ _ c0, below_mem (by assumption) _ _ _ c1, below_mem (by assumption) _ _ _ d0, below_mem (by assumption) _ _ _ d1⟩)
        ((first | (go_at_call 41; refine HS.out.mono ?_; rintro e w2 ⟨rfl, hb1⟩; have hb2 : Below wr.heap.size wr w2 := (Below.refl _ _).drew.trans hb1)))
      all_goals
        go_wp2
        go_roundw
        case rel => exact ⟨k + 1, by omega, by go_num, pure_trans hB (by assumption)⟩
        case measure => simp [intOf]; omega
    · obtain rfl : k = xs.length := by omega
      go_wp2
      go_ret
      exact ⟨rfl, hB⟩

set_option maxHeartbeats 400000 in
theorem mlate_any (n m : Int) (w : World) :
    Calls Try.prog 12 #[.int .i64 n, .int .i64 m] w fun e w' => e = .returned (.bool (decide (n < m))) ∧ w = w' := by
  go_enter Try.func12, Try.ntmps12
  go_wp2
  go_ret
  exact ⟨rfl, rfl⟩
set_option maxHeartbeats 400000 in
theorem rlate_any (n m : Int) (w : World) :
    Calls Try.prog 13 #[.int .i64 n, .int .i64 m] w fun e w' => e = .returned (.bool (decide (n < m))) ∧ w = w' := by
  go_enter Try.func13, Try.ntmps13
  go_wp2
  go_ret
  exact ⟨rfl, rfl⟩
end Go.Proofs.Ytfoocifhifpbdaa
