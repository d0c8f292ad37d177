/- Long of rows. -/
import Derived.Test.YtfoocifhifpbdaaRowA
namespace Go.Proofs.Ytfoocifhifpbdaa
open Go.RowKit

def tRows : Ty (List (List Val)) := tSlice tRow
theorem rows_at {m : Mem} {b o : Nat} {xs : List Val} (h : tRow.at m b o xs) : ∃ a cap, m b o = some (.slice a xs.length cap) ∧ tRow.rv m [.slice a xs.length cap] xs ∧ cap ≤ maxLen := by
  obtain ⟨v, h1, h2⟩ := slice_cell h
  obtain ⟨a, cap, rfl, _, h4, h5⟩ := slice_form h2
  exact ⟨a, cap, h1, h5, h4⟩

set_option maxRecDepth 100000 in
set_option maxHeartbeats 1000000 in
theorem long_any (ls : List (List Val)) (v : Value) (w : World) (hv : tRows.rv (mem w) [v] ls) :
    Calls Try.prog 28 #[v] w fun e w' => (∃ r, e = .returned (.bool r)) ∧ Below w.heap.size w w' := by
  obtain ⟨a, cap, rfl, hl, hm, hv⟩ := slice_form hv
  have hcap : cap ≤ 9223372036854775807 := by unfold maxLen at hm; exact hm
  clear hm
  go_enter Try.func28, Try.ntmps28
  go_wp2
  go_loopw [3, 4] (fun nv i wr => (∃ n, nv = .int .i64 n) ∧ ∃ k : Nat, k ≤ ls.length ∧ i = .int .i64 k ∧ Below w.heap.size w wr) (fun _ i _ => ls.length - (intOf i).toNat)
  case atStart => exact ⟨⟨_, rfl⟩, 0, by omega, rfl, Below.refl _ _⟩
  case round =>
    obtain ⟨⟨n, rfl⟩, k, hk, rfl, hB⟩ := hrel
    by_cases hlt : k < ls.length
    · obtain ⟨b, o, rfl, hat⟩ := slice_at hv hlt
      obtain ⟨a2, cap2, hc, hr, hm2⟩ := rows_at (tRow.at_mono (below_mem hB) hat)
      have hc : wr.cell? ⟨b, o + k, none⟩ = some (.slice a2 ls[k].length cap2) := by
        have e : k * tRow.sz = k := Nat.mul_one k
        rw [e] at hc; exact hc
      have hl2 := (slice_len hr).2.1
      have hm2 : cap2 ≤ 9223372036854775807 := by unfold maxLen at hm2; exact hm2
      clear hat hv
      generalize ls[k] = xs at *
      go_wp2
      go_loopw [3, 5] (fun nv i wr => (∃ n, nv = .int .i64 n) ∧ ∃ j : Nat, j ≤ xs.length ∧ i = .int .i64 j ∧ Below w.heap.size w wr ∧ wr.cell? ⟨b, o + k, none⟩ = some (.slice a2 xs.length cap2) ∧ tRow.rv (mem wr) [.slice a2 xs.length cap2] xs) (fun _ i _ => xs.length - (intOf i).toNat)
      case atStart => exact ⟨⟨_, rfl⟩, 0, by omega, rfl, hB, hc, hr⟩
      case round =>
        obtain ⟨⟨n, rfl⟩, j, hj, rfl, hB, hc, hr⟩ := hrel
        by_cases hlt2 : j < xs.length
        · obtain ⟨b2, o2, rfl, hat2⟩ := slice_at hr hlt2
          obtain ⟨c0, c1, c2, i0, i1, i2⟩ := val_at hat2
          have c2 : wr.cell? ⟨b2, o2 + j * 3 + 2, none⟩ = some (.string xs[j].s) := c2
          have hHr := Lib.hid hr
          clear hat2 c0 c1 i0 i1 i2 hr
          generalize xs[j].s = s at *
          go_wp2
          go_roundw
          case rel => exact ⟨⟨_, rfl⟩, j + 1, by omega, by go_num, hB, hc, hHr.out⟩
          case measure => simp [intOf]; omega
        · obtain rfl : j = xs.length := by omega
          go_wp2
          go_roundw
          case rel => exact ⟨⟨_, rfl⟩, k + 1, by omega, by go_num, hB⟩
          case measure => simp [intOf]; omega
    · obtain rfl : k = ls.length := by omega
      go_wp2
      go_ret
      exact ⟨⟨_, rfl⟩, hB⟩
end Go.Proofs.Ytfoocifhifpbdaa
