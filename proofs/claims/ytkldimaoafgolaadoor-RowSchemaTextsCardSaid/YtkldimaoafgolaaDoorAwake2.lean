/- Chapter 2's example. -/
import Derived.Test.YtkldimaoafgolaaDoorText
namespace Go.Proofs.YtkldimaoafgolaaDoor
open Go.RowKit

def wakeRow : List Val := [⟨0, 0, ⟨#[]⟩⟩, ⟨1, -5, ⟨#[]⟩⟩, ⟨2, 0, ⟨#[97, 34, 98]⟩⟩]
theorem wake_itoa : Lib.itoa (-5) = [45, 53] := by
  have h : Lib.decDigits 5 = [53] := by
    rw [Lib.decDigits, dif_pos (by decide)]
    rfl
  show 45 :: Lib.decDigits 5 = _
  rw [h]
theorem wakeText : (⟨(rowText wakeRow).toArray⟩ : ByteArray) = ⟨#[126, 44, 45, 53, 44, 34, 97, 92, 34, 98, 34]⟩ := by
  have hv : validRow wakeRow = true := by decide
  have e : wakeRow.map valText = [[126], [45, 53], [34, 97, 92, 34, 98, 34]] := by
    show [[126], Lib.itoa (-5), quoteList [97, 34, 98]] = _
    rw [wake_itoa]
    rfl
  unfold rowText
  rw [if_pos hv, e]
  rfl

theorem wake_rv {m : Mem} {b : Nat} (h : ∀ j v, ([.int .i64 0, .int .i64 0, .string ⟨#[]⟩, .int .i64 1, .int .i64 (-5), .string ⟨#[]⟩, .int .i64 2, .int .i64 0, .string ⟨#[97, 34, 98]⟩] : List Value)[j]? = some v → m b j = some v) :
    tRow.rv m [.slice (some ⟨b, 0, none⟩) 3 3] wakeRow := by
  refine ⟨some ⟨b, 0, none⟩, 3, rfl, by decide, by unfold maxLen; decide, fun _ => ⟨b, 0, rfl, fun k hk => ?_⟩⟩
  have hk : k < 3 := hk
  match k, hk with
  | 0, _ => exact ⟨_, fun j v hj => h (0 + 0 * 3 + j) v (by match j, hj with | 0, hj => exact hj | 1, hj => exact hj | 2, hj => exact hj), rfl, (show inI64 0 by unfold inI64; decide), (show inI64 0 by unfold inI64; decide), (show (ByteArray.mk #[]).size ≤ maxLen by unfold maxLen; decide)⟩
  | 1, _ => exact ⟨_, fun j v hj => h (0 + 1 * 3 + j) v (by match j, hj with | 0, hj => exact hj | 1, hj => exact hj | 2, hj => exact hj), rfl, (show inI64 1 by unfold inI64; decide), (show inI64 (-5) by unfold inI64; decide), (show (ByteArray.mk #[]).size ≤ maxLen by unfold maxLen; decide)⟩
  | 2, _ => exact ⟨_, fun j v hj => h (0 + 2 * 3 + j) v (by match j, hj with | 0, hj => exact hj | 1, hj => exact hj | 2, hj => exact hj), rfl, (show inI64 2 by unfold inI64; decide), (show inI64 0 by unfold inI64; decide), (show (ByteArray.mk #[97, 34, 98]).size ≤ maxLen by unfold maxLen; decide)⟩

set_option maxRecDepth 100000 in
set_option maxHeartbeats 1000000 in
theorem awake_any (w : World) (ht : Tryd.Tab w) :
    Calls Tryd.prog 12 #[] w fun e w' => e = .returned (.bool true) ∧ Below w.heap.size w w' := by
  have hb : ∀ o, Below w.heap.size w (w.alloc o) := fun o => (Below.refl _ _).alloc (Nat.le_refl _) o
  go_enter Tryd.func12, Tryd.ntmps12
  go_wp2_with fail
  refine (rowText_any wakeRow _ _ (wake_rv ?c1) (Tryd.tabStays ht (hb _))).mono ?_
  case c1 =>
    intro j v hj
    rw [mem, mem_cells_new]
    simpa using hj
  rintro e w' ⟨rfl, hb2⟩
  have hB := (hb _).trans (hb2.mono (by simp))
  rw [wakeText]
  clear hb2
  go_wp2
  go_ret
  exact ⟨rfl, hB⟩

def tRows : Ty (List (List Val)) := tSlice tRow
theorem rows_at {m : Mem} {b o : Nat} {xs : List Val} (h : tRow.at m b o xs) : ∃ a cap, m b o = some (.slice a xs.length cap) ∧ tRow.rv m [.slice a xs.length cap] xs ∧ cap ≤ maxLen := by
  obtain ⟨v, h1, h2⟩ := slice_cell h
  obtain ⟨a, cap, rfl, _, h4, h5⟩ := slice_form h2
  exact ⟨a, cap, h1, h5, h4⟩

set_option maxRecDepth 100000 in
set_option maxHeartbeats 1000000 in
theorem long_any (ls : List (List Val)) (v : Value) (w : World) (hv : tRows.rv (mem w) [v] ls) :
    Calls Tryd.prog 11 #[v] w fun e w' => (∃ r, e = .returned (.bool r)) ∧ Below w.heap.size w w' := by
  obtain ⟨a, cap, rfl, hl, hm, hv⟩ := slice_form hv
  have hcap : cap ≤ 9223372036854775807 := by unfold maxLen at hm; exact hm
  clear hm
  go_enter Tryd.func11, Tryd.ntmps11
  go_wp2
  go_loopw [3, 4] (fun nv i wr => (∃ n, nv = .int .i64 n) ∧ ∃ k : Nat, k ≤ ls.length ∧ i = .int .i64 k ∧ Below w.heap.size w wr) (fun _ i _ => ls.length - (intOf i).toNat)
  case atStart => exact ⟨⟨_, rfl⟩, 0, by omega, rfl, Below.refl _ _⟩
  case round =>
    obtain ⟨⟨n, rfl⟩, k, hk, rfl, hB⟩ := hrel
    by_cases hlt : k < ls.length
    · obtain ⟨b, o, rfl, hat⟩ := slice_at hv hlt
      obtain ⟨a2, cap2, hc, hr, hm2⟩ := rows_at (tRow.at_mono (below_mem hB) hat)
      have hc : wr.cell? ⟨b, o + k, none⟩ = some (.slice a2 ls[k].length cap2) := by
        have e : k * tRow.sz = k := Nat.mul_one k
        rw [e] at hc; exact hc
      have hl2 := (slice_len hr).2.1
      have hm2 : cap2 ≤ 9223372036854775807 := by unfold maxLen at hm2; exact hm2
      clear hat hv
      generalize ls[k] = xs at *
      go_wp2
      go_loopw [3, 5] (fun nv i wr => (∃ n, nv = .int .i64 n) ∧ ∃ j : Nat, j ≤ xs.length ∧ i = .int .i64 j ∧ Below w.heap.size w wr ∧ wr.cell? ⟨b, o + k, none⟩ = some (.slice a2 xs.length cap2) ∧ tRow.rv (mem wr) [.slice a2 xs.length cap2] xs) (fun _ i _ => xs.length - (intOf i).toNat)
      case atStart => exact ⟨⟨_, rfl⟩, 0, by omega, rfl, hB, hc, hr⟩
      case round =>
        obtain ⟨⟨n, rfl⟩, j, hj, rfl, hB, hc, hr⟩ := hrel
        by_cases hlt2 : j < xs.length
        · obtain ⟨b2, o2, rfl, hat2⟩ := slice_at hr hlt2
          obtain ⟨c0, c1, c2, i0, i1, i2⟩ := val_at hat2
          have c2 : wr.cell? ⟨b2, o2 + j * 3 + 2, none⟩ = some (.string xs[j].s) := c2
          have hHr := Lib.hid hr
          clear hat2 c0 c1 i0 i1 i2 hr
          generalize xs[j].s = s at *
          go_wp2
          go_roundw
          case rel => exact ⟨⟨_, rfl⟩, j + 1, by omega, by go_num, hB, hc, hHr.out⟩
          case measure => simp [intOf]; omega
        · obtain rfl : j = xs.length := by omega
          go_wp2
          go_roundw
          case rel => exact ⟨⟨_, rfl⟩, k + 1, by omega, by go_num, hB⟩
          case measure => simp [intOf]; omega
    · obtain rfl : k = ls.length := by omega
      go_wp2
      go_ret
      exact ⟨⟨_, rfl⟩, hB⟩
end Go.Proofs.YtkldimaoafgolaaDoor
