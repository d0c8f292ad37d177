/- The reference's SameInts; the law's own example (awake). -/
import Derived.Test.YtfoocifhifpbdaaMarkG
namespace Go.Proofs.Ytfoocifhifpbdaa
open Go.RowKit

set_option maxHeartbeats 1000000 in
theorem sameInts_any (xs ys : List Int) (u v : Value) (w : World) (hu : (tSlice tInt).rv (mem w) [u] xs) (hv : (tSlice tInt).rv (mem w) [v] ys) :
    Calls Try.prog 11 #[u, v] w fun e w' => e = .returned (.bool (decide (xs = ys))) ∧ Below w.heap.size w w' := by
  obtain ⟨a, cap, rfl, hl, hm, hu⟩ := slice_form hu
  obtain ⟨b, cap', rfl, hl', hm', hv⟩ := slice_form hv
  have hcap : cap ≤ 9223372036854775807 := by unfold maxLen at hm; exact hm
  have hcap' : cap' ≤ 9223372036854775807 := by unfold maxLen at hm'; exact hm'
  clear hm hm'
  by_cases hn : xs.length = ys.length
  · have hne : ((xs.length : Int) != (ys.length : Int)) = false := by simp [hn]
    have HN := Lib.hid hn
    have hle : ys.length ≤ xs.length := by omega
    have hle' : xs.length ≤ ys.length := by omega
    clear hn
    go_enter Try.func11, Try.ntmps11
    go_wp2
    go_loopw [5] (fun i wr => ∃ k : Nat, k ≤ xs.length ∧ i = .int .i64 k ∧ Hid (xs.take k = ys.take k) ∧ Below w.heap.size w wr) (fun i _ => xs.length - (intOf i).toNat)
    case atStart => exact ⟨0, by omega, rfl, Lib.hid rfl, Below.refl _ _⟩
    case round =>
      obtain ⟨k, hk, rfl, HT, hB⟩ := hrel
      by_cases hlt : k < xs.length
      · obtain ⟨b1, o1, rfl, hat⟩ := slice_at (t := tInt) hu hlt
        obtain ⟨b2, o2, rfl, hat2⟩ := slice_at (t := tInt) hv (show k < ys.length by omega)
        obtain ⟨hc, hin⟩ := int_at hat
        obtain ⟨hc2, hin2⟩ := int_at hat2
        have hc' : wr.cell? ⟨b1, o1 + k, none⟩ = some (.int .i64 xs[k]) := by
          have := (mem_of_block (hB.block b1 (mem_lt hc)) _).trans hc
          simpa [tInt, mem] using this
        have hc2' : wr.cell? ⟨b2, o2 + k, none⟩ = some (.int .i64 (ys[k]'(by omega))) := by
          have := (mem_of_block (hB.block b2 (mem_lt hc2)) _).trans hc2
          simpa [tInt, mem] using this
        have hlty : k < ys.length := by omega
        have HTx := Lib.hid (List.take_succ_eq_append_getElem hlt)
        have HTy := Lib.hid (List.take_succ_eq_append_getElem hlty)
        have HX := Lib.hid (show xs[k]? = some xs[k] from List.getElem?_eq_getElem hlt)
        have HY := Lib.hid (show ys[k]? = some ys[k] from List.getElem?_eq_getElem hlty)
        clear hc hc2 hat hat2 hu hv hin hin2
        generalize xs[k] = p at hc' HTx HX
        generalize ys[k]'hlty = q at hc2' HTy HY
        by_cases hpq : p = q
        · have hb : (p != q) = false := by simp [hpq]
          have HP := Lib.hid hpq
          clear hpq
          go_wp2
          go_quiet (fail)
          go_wp2
          go_roundw
          case rel => exact ⟨k + 1, by omega, by go_num, Lib.hid (by rw [HTx.out, HTy.out, HT.out, HP.out]), below_drewN hB _⟩
          case measure => simp [intOf]; omega
        · have hb : (p != q) = true := by simp [hpq]
          have HD := Lib.hid (show decide (xs = ys) = false by
            simp only [decide_eq_false_iff_not]
            intro e
            have h1 := HX.out; have h2 := HY.out
            rw [e, h2] at h1
            exact hpq (Option.some.inj h1).symm)
          clear hpq
          go_wp2
          go_quiet (fail)
          go_wp2
          go_ret
          exact ⟨by rw [HD.out]; rfl, below_drewN hB _⟩
      · obtain rfl : k = xs.length := by omega
        have HD := Lib.hid (show decide (xs = ys) = true by
          have := HT.out
          rw [List.take_length, List.take_of_length_le (by omega)] at this
          simpa using this)
        go_wp2
        go_ret
        exact ⟨by rw [HD.out]; rfl, hB⟩
  · have hne : ((xs.length : Int) != (ys.length : Int)) = true := by simp; omega
    have HD := Lib.hid (show decide (xs = ys) = false by simp only [decide_eq_false_iff_not]; intro e; exact hn (by rw [e]))
    clear hn
    go_enter Try.func11, Try.ntmps11
    go_wp2
    go_ret
    exact ⟨by rw [HD.out]; rfl, Below.refl _ _⟩

theorem four_rv (w : World) (a b c d : Int) (T : TypeId) (ha : inI64 a) (hb : inI64 b) (hc : inI64 c) (hd : inI64 d) :
    (tSlice tInt).rv (mem (w.alloc (.cells #[.int .i64 a, .int .i64 b, .int .i64 c, .int .i64 d] T (0, 0)))) [.slice (some ⟨w.heap.size, 0, none⟩) 4 4] [a, b, c, d] := by
  have hh := heap_alloc_new w (.cells #[.int .i64 a, .int .i64 b, .int .i64 c, .int .i64 d] T (0, 0))
  refine ⟨some ⟨w.heap.size, 0, none⟩, 4, rfl, Nat.le_refl _, by unfold maxLen; omega, fun _ => ⟨_, 0, rfl, fun k hk => ?_⟩⟩
  have hk4 : k = 0 ∨ k = 1 ∨ k = 2 ∨ k = 3 := by simp at hk; omega
  rcases hk4 with rfl | rfl | rfl | rfl
  · exact ⟨[.int .i64 a], fun j v hj => by match j, hj with | 0, hj => simp at hj; subst hj; exact mem_cells hh 0, rfl, ha⟩
  · exact ⟨[.int .i64 b], fun j v hj => by match j, hj with | 0, hj => simp at hj; subst hj; exact mem_cells hh 1, rfl, hb⟩
  · exact ⟨[.int .i64 c], fun j v hj => by match j, hj with | 0, hj => simp at hj; subst hj; exact mem_cells hh 2, rfl, hc⟩
  · exact ⟨[.int .i64 d], fun j v hj => by match j, hj with | 0, hj => simp at hj; subst hj; exact mem_cells hh 3, rfl, hd⟩

set_option maxHeartbeats 1000000 in
theorem awake_any (w : World) :
    Calls Try.prog 8 #[] w fun e w' => e = .returned (.bool true) ∧ Below w.heap.size w w' := by
  have hM := gmarks_any 5 [10, 7, 12, 7] (.slice (some ⟨w.heap.size, 0, none⟩) 4 4) _ (four_rv w 10 7 12 7 3 (by simp [inI64]) (by simp [inI64]) (by simp [inI64]) (by simp [inI64]))
  rw [show marksOf 5 [10, 7, 12, 7] = ([6, 6, 8, 8], 0) by decide] at hM
  have HM := Lib.hid hM
  clear hM
  go_enter Try.func8, Try.ntmps8
  go_wp2_with fail
  refine HM.out.mono ?_
  rintro e w1 ⟨v, rfl, hv, hB⟩
  clear HM
  have hB1 : Below w.heap.size w w1 := ((Below.refl _ _).alloc (Nat.le_refl _) _).trans (hB.mono (by simp))
  have hS := sameInts_any [6, 6, 8, 8] [6, 6, 8, 8] v (.slice (some ⟨w1.heap.size, 0, none⟩) 4 4) (w1.alloc (.cells #[.int .i64 6, .int .i64 6, .int .i64 8, .int .i64 8] 3 (0, 0)))
    ((tSlice tInt).mono _ _ _ _ (Mem.le_trans (Mem.on_le _ _) (below_mem ((Below.refl _ _).alloc (Nat.le_refl _) _))) hv) (four_rv w1 6 6 8 8 3 (by simp [inI64]) (by simp [inI64]) (by simp [inI64]) (by simp [inI64]))
  have HS := Lib.hid hS
  clear hS hv hB
  go_wp2_with fail
  refine HS.out.mono ?_
  rintro e w2 ⟨rfl, hB2⟩
  have hB3 : Below w.heap.size w w2 := (hB1.alloc hB1.size _).trans (hB2.mono (by have := hB1.size; simp; omega))
  go_wp2
  go_ret
  exact ⟨by simp, hB3⟩
end Go.Proofs.Ytfoocifhifpbdaa
