/- Reference chapter 12's helpers: SameInts, Has, Sorted. -/
import Derived.Test.YtfkphdmnelchmaaBackPlain
import Derived.Test.YtfkphdmnelchmaaFlat
namespace Go.Proofs.Ytfkphdmnelchmaa
open Go.RowKit

set_option maxHeartbeats 1000000 in
theorem sameInts_any (xs ys : List Int) (u v : Value) (w : World) (hu : (tSlice tInt).rv (mem w) [u] xs) (hv : (tSlice tInt).rv (mem w) [v] ys) :
    Calls Try.prog 13 #[u, v] w fun e w' => e = .returned (.bool (decide (xs = ys))) ∧ Below w.heap.size w w' := by
  obtain ⟨a, cap, rfl, hl, hm, hu⟩ := slice_form hu
  obtain ⟨b, cap', rfl, hl', hm', hv⟩ := slice_form hv
  have hcap : cap ≤ 9223372036854775807 := by unfold maxLen at hm; exact hm
  have hcap' : cap' ≤ 9223372036854775807 := by unfold maxLen at hm'; exact hm'
  clear hm hm'
  by_cases hn : xs.length = ys.length
  · have hne : ((xs.length : Int) != (ys.length : Int)) = false := by simp [hn]
    have HN := Lib.hid hn
    have hle : ys.length ≤ xs.length := by omega
    have hle' : xs.length ≤ ys.length := by omega
    clear hn
    go_enter Try.func13, Try.ntmps13
    go_wp2
    go_loopw [5] (fun i wr => ∃ k : Nat, k ≤ xs.length ∧ i = .int .i64 k ∧ Hid (xs.take k = ys.take k) ∧ Below w.heap.size w wr) (fun i _ => xs.length - (intOf i).toNat)
    case atStart => exact ⟨0, by omega, rfl, Lib.hid rfl, Below.refl _ _⟩
    case round =>
      obtain ⟨k, hk, rfl, HT, hB⟩ := hrel
      by_cases hlt : k < xs.length
      · obtain ⟨b1, o1, rfl, hat⟩ := slice_at (t := tInt) hu hlt
        obtain ⟨b2, o2, rfl, hat2⟩ := slice_at (t := tInt) hv (show k < ys.length by omega)
        obtain ⟨hc, hin⟩ := int_at hat
        obtain ⟨hc2, hin2⟩ := int_at hat2
        have hc' : wr.cell? ⟨b1, o1 + k, none⟩ = some (.int .i64 xs[k]) := by
          have := (mem_of_block (hB.block b1 (mem_lt hc)) _).trans hc
          simpa [tInt, mem] using this
        have hc2' : wr.cell? ⟨b2, o2 + k, none⟩ = some (.int .i64 (ys[k]'(by omega))) := by
          have := (mem_of_block (hB.block b2 (mem_lt hc2)) _).trans hc2
          simpa [tInt, mem] using this
        have hlty : k < ys.length := by omega
        have HTx := Lib.hid (List.take_succ_eq_append_getElem hlt)
        have HTy := Lib.hid (List.take_succ_eq_append_getElem hlty)
        have HX := Lib.hid (show xs[k]? = some xs[k] from List.getElem?_eq_getElem hlt)
        have HY := Lib.hid (show ys[k]? = some ys[k] from List.getElem?_eq_getElem hlty)
        clear hc hc2 hat hat2 hu hv hin hin2
        generalize xs[k] = p at hc' HTx HX
        generalize ys[k]'hlty = q at hc2' HTy HY
        by_cases hpq : p = q
        · have hb : (p != q) = false := by simp [hpq]
          have HP := Lib.hid hpq
          clear hpq
          go_wp2
          go_region
          go_wp2
          go_roundw
          case rel => exact ⟨k + 1, by omega, by go_num, Lib.hid (by rw [HTx.out, HTy.out, HT.out, HP.out]), below_drewN hB _⟩
          case measure => simp [intOf]; omega
        · have hb : (p != q) = true := by simp [hpq]
          have HD := Lib.hid (show decide (xs = ys) = false by
            simp only [decide_eq_false_iff_not]
            intro e
            have h1 := HX.out; have h2 := HY.out
            rw [e, h2] at h1
            exact hpq (Option.some.inj h1).symm)
          clear hpq
          go_wp2
          go_region
          go_wp2
          go_ret
          exact ⟨by rw [HD.out]; rfl, below_drewN hB _⟩
      · obtain rfl : k = xs.length := by omega
        have HD := Lib.hid (show decide (xs = ys) = true by
          have := HT.out
          rw [List.take_length, List.take_of_length_le (by omega)] at this
          simpa using this)
        go_wp2
        go_ret
        exact ⟨by rw [HD.out]; rfl, hB⟩
  · have hne : ((xs.length : Int) != (ys.length : Int)) = true := by simp; omega
    have HD := Lib.hid (show decide (xs = ys) = false by simp only [decide_eq_false_iff_not]; intro e; exact hn (by rw [e]))
    clear hn
    go_enter Try.func13, Try.ntmps13
    go_wp2
    go_ret
    exact ⟨by rw [HD.out]; rfl, Below.refl _ _⟩

set_option maxHeartbeats 1000000 in
theorem has_any (xs : List Int) (u : Value) (x : Int) (w : World) (hu : (tSlice tInt).rv (mem w) [u] xs) (hx : inI64 x) :
    Calls Try.prog 44 #[u, .int .i64 x] w fun e w' => e = .returned (.bool (decide (x ∈ xs))) ∧ Below w.heap.size w w' := by
  obtain ⟨a, cap, rfl, hl, hm, hu⟩ := slice_form hu
  have hcap : cap ≤ 9223372036854775807 := by unfold maxLen at hm; exact hm
  clear hm
  have HU := Lib.hid hu
  clear hu
  go_enter Try.func44, Try.ntmps44
  go_wp2
  go_loopw [5] (fun i wr => ∃ k : Nat, k ≤ xs.length ∧ i = .int .i64 k ∧ Hid (x ∉ xs.take k) ∧ Below w.heap.size w wr) (fun i _ => xs.length - (intOf i).toNat)
  case atStart => exact ⟨0, by omega, rfl, Lib.hid (by simp), Below.refl _ _⟩
  case round =>
    obtain ⟨k, hk, rfl, HT, hB⟩ := hrel
    by_cases hlt : k < xs.length
    · obtain ⟨b1, o1, rfl, hat⟩ := slice_at (t := tInt) HU.out hlt
      obtain ⟨hc, hin⟩ := int_at hat
      have hc' : wr.cell? ⟨b1, o1 + k, none⟩ = some (.int .i64 xs[k]) := by
        have := (mem_of_block (hB.block b1 (mem_lt hc)) _).trans hc
        simpa [tInt, mem] using this
      have HTx := Lib.hid (List.take_succ_eq_append_getElem hlt)
      have HX := Lib.hid (List.getElem_mem hlt)
      clear hc hat
      generalize xs[k] = p at hc' HTx HX hin
      by_cases hpq : p = x
      · subst hpq
        have HD := Lib.hid (show decide (p ∈ xs) = true by simpa using HX.out)
        go_wp2
        go_ret
        exact ⟨by rw [HD.out]; rfl, hB⟩
      · have hb : (p == x) = false := by simp [hpq]
        have HP := Lib.hid hpq
        clear hpq
        go_wp2
        go_roundw
        case rel => exact ⟨k + 1, by omega, by go_num, Lib.hid (by rw [HTx.out]; intro h; rcases List.mem_append.1 h with h | h; exact HT.out h; exact HP.out (List.mem_singleton.1 h).symm), hB⟩
        case measure => simp [intOf]; omega
    · obtain rfl : k = xs.length := by omega
      have HD := Lib.hid (show decide (x ∈ xs) = false by
        have := HT.out
        rw [List.take_length] at this
        simpa using this)
      go_wp2
      go_ret
      exact ⟨by rw [HD.out]; rfl, hB⟩
end Go.Proofs.Ytfkphdmnelchmaa
