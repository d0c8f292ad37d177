/- The reference's Project. -/
import Derived.Test.YtkldimaoafgolaaDoorPick
namespace Go.Proofs.YtkldimaoafgolaaDoor
open Go.RowKit

set_option maxRecDepth 100000 in
set_option maxHeartbeats 1000000 in
theorem picks_any (r : List Val) (cs : List Int) (v u : Value) (w : World) (hv : tRow.rv (mem w) [v] r) (hu : tInts.rv (mem w) [u] cs) (hin : cs.any (colBad r.length) = false) (h8 : ¬ 8 < cs.length) :
    Calls Tryd.prog 62 #[v, u] w fun e w' => ∃ x, e = .returned x ∧ tRow.rv (mem w') [x] (cs.map (pickAt r)) ∧ Below w.heap.size w w' := by
  have HIN := Lib.hid (fun k hk => pick_in (r := r) (cs := cs) hin (k := k) hk)
  clear hin
  obtain ⟨a1, cap1, rfl, hl1, hm1, hv⟩ := slice_form hv
  have hcap1 : cap1 ≤ 9223372036854775807 := by unfold maxLen at hm1; exact hm1
  obtain ⟨a2, cap2, rfl, hl2, hm2, hu⟩ := slice_form hu
  have hcap2 : cap2 ≤ 9223372036854775807 := by unfold maxLen at hm2; exact hm2
  clear hm1 hm2
  go_enter Tryd.func62, Tryd.ntmps62
  go_wp2
  go_loopw [5, 6] (fun ov i wr => ∃ k : Nat, k ≤ cs.length ∧ i = .int .i64 k ∧ Owns tVal wr w.heap.size 30 ov ((cs.take k).map (pickAt r)) ∧ Below w.heap.size w wr) (fun _ i _ => cs.length - (intOf i).toNat)
  case atStart => exact ⟨0, by omega, rfl, Owns.nil _ _ _ _, Below.refl _ _⟩
  case round =>
    obtain ⟨k, hk, rfl, hown, hB⟩ := hrel
    by_cases hlt : k < cs.length
    · obtain ⟨hc1, hc2⟩ := HIN.out k hlt
      obtain ⟨b, o, rfl, d0, hin⟩ := int_cell (tInts.mono _ _ _ _ (below_mem hB) hu) hlt
      have d0 : wr.cell? ⟨b, o + k, none⟩ = some (.int .i64 cs[k]) := d0
      obtain ⟨b1, o1, rfl, c0, c1, c2⟩ := row_cells (tRow.mono _ _ _ _ (below_mem hB) hv) hc2
      have c0 : wr.cell? ⟨b1, o1 + cs[k].toNat * 3, none⟩ = some (.int .i64 r[cs[k].toNat].kind) := c0
      have c1 : wr.cell? ⟨b1, o1 + cs[k].toNat * 3 + 1, none⟩ = some (.int .i64 r[cs[k].toNat].n) := c1
      have c2 : wr.cell? ⟨b1, o1 + cs[k].toNat * 3 + 2, none⟩ = some (.string r[cs[k].toNat].s) := c2
      have hrv := (row_val (tRow.mono _ _ _ _ (below_mem hB) hv) hc2)
      have HSN := Lib.hid ((map_snoc (pickAt r) hlt).trans (by rw [pick_eq hc2]))
      have HLEN := Lib.hid (show ((cs.take k).map (pickAt r)).length = k by rw [List.length_map, List.length_take]; omega)
      clear hu hv HIN
      generalize (cs.take k).map (pickAt r) = l at hown HSN HLEN
      generalize r[cs[k].toNat] = x at *
      generalize cs[k] = c at *
      obtain ⟨n, rfl⟩ : ∃ n : Nat, c = n := ⟨c.toNat, by omega⟩
      simp only [Int.toNat_natCast] at *
      obtain ⟨xk, xn, xs⟩ := x
      simp only at c0 c1 c2 hrv
      go_wp2_with (at_builtin; refine wpList_append_one rfl _ _ 25 rfl tVal Tryd.underlying25 Tryd.infoVal rfl (by decide) w.heap.size _ l rfl (hown.alloc _) _ _ ⟨xk, xn, xs⟩ rfl [.int .i64 xk, .int .i64 xn, .string xs] ?c1 ?c2 ?c3 ?c4 ?c5 ?c6 ?_)
      case c1 =>
        intro j u hj
        match j, hj with
        | 0, hj => simp at hj; subst hj; simp [mem]
        | 1, hj => simp at hj; subst hj; simp [mem]
        | 2, hj => simp at hj; subst hj; simp [mem]
      case c2 => exact ⟨rfl, hrv⟩
      case c3 => first | exact ⟨rfl, rfl, rfl⟩ | (intro u hu; simp at hu; rcases hu with rfl | rfl | rfl <;> rfl)
      case c4 => rw [HLEN.out]; unfold maxLen; omega
      case c5 => rw [HLEN.out]; omega
      case c6 => first | omega | (have := hB.size; simp; omega)
      · intro v' w3 hown' hgrow _
        have hB3 : Below w.heap.size w w3 := (hB.alloc hB.size _).grown hgrow (by have := hB.size; simp; omega) (fun k hk => (hown.lt k hk).1)
        clear hown hgrow hB c0 c1 c2 d0
        go_wp2
        go_roundw
        case rel => exact ⟨k + 1, by omega, by go_num, by rw [HSN.out]; exact hown', hB3⟩
        case measure => simp [intOf]; omega
    · obtain rfl : k = cs.length := by omega
      rw [List.take_length] at hown
      obtain ⟨a', cap', rfl, _⟩ := hown.len
      go_wp2
      go_ret
      exact ⟨_, rfl, hown.rv', hB⟩

set_option maxRecDepth 100000 in
set_option maxHeartbeats 1000000 in
theorem refProject_any (r : List Val) (cs : List Int) (v u : Value) (w : World) (hv : tRow.rv (mem w) [v] r) (hu : tInts.rv (mem w) [u] cs) :
    Calls Tryd.prog 26 #[v, u] w (Proj r cs w) := by
  have HV := Lib.hid (refValid_any r v w hv)
  have HK := Lib.hid (fun wr (h : Below w.heap.size w wr) hin h8 => picks_any r cs v u wr (tRow.mono _ _ _ _ (below_mem h) hv) (tInts.mono _ _ _ _ (below_mem h) hu) hin h8)
  have HP := Lib.hid (projOf_cases r cs)
  obtain ⟨a1, cap1, rfl, hl1, hm1, hv⟩ := slice_form hv
  have hcap1 : cap1 ≤ 9223372036854775807 := by unfold maxLen at hm1; exact hm1
  obtain ⟨a2, cap2, rfl, hl2, hm2, hu⟩ := slice_form hu
  have hcap2 : cap2 ≤ 9223372036854775807 := by unfold maxLen at hm2; exact hm2
  clear hm1 hm2 hv
  generalize validRow r = vr at HV HP
  go_enter Tryd.func26, Tryd.ntmps26
  go_wp2_with fail
  refine HV.out.mono ?_
  rintro e w1 ⟨rfl, hB⟩
  clear HV
  cases vr
  · have HQ := Lib.hid (HP.out.1 (by trivial))
    go_wp2
    go_ret2
    exact ⟨_, by rw [HQ.out]; rfl, by rw [HQ.out]; exact slice_nil _ _, hB⟩
  · go_wp2
    go_loopw [6] (fun i wr => ∃ k : Nat, k ≤ cs.length ∧ i = .int .i64 k ∧ Hid (∀ c ∈ cs.take k, colBad r.length c = false) ∧ Below w.heap.size w wr) (fun i _ => cs.length - (intOf i).toNat)
    case atStart => exact ⟨0, by omega, rfl, Lib.hid (by simp), hB⟩
    case round =>
      clear hB
      obtain ⟨k, hk, rfl, HT, hB⟩ := hrel
      by_cases hlt : k < cs.length
      · obtain ⟨b, o, rfl, d0, hin⟩ := int_cell (tInts.mono _ _ _ _ (below_mem hB) hu) hlt
        have d0 : wr.cell? ⟨b, o + k, none⟩ = some (.int .i64 cs[k]) := d0
        have HB1 := Lib.hid (show colBad r.length cs[k] = !decide (0 ≤ cs[k] ∧ cs[k] ≤ (r.length : Int) - 1) from rfl)
        have HI := Lib.hid (show colBad r.length cs[k] = true → cs.any (colBad r.length) = true from fun h => List.any_eq_true.2 ⟨_, List.getElem_mem hlt, h⟩)
        have HN := Lib.hid (show colBad r.length cs[k] = false → ∀ c ∈ cs.take (k + 1), colBad r.length c = false from fun h => mem_take_snoc hlt HT.out h)
        clear HT hu
        generalize colBad r.length cs[k] = z at *
        generalize cs[k] = c at *
        generalize hq : decide (0 ≤ c ∧ c ≤ (r.length : Int) - 1) = q at HB1
        have HQ := Lib.hid hq
        clear hq
        go_wp2_with fail
        refine (refRowWithin_any _ _ _ _).mono ?_
        rintro e w' ⟨rfl, rfl⟩
        rw [HQ.out]
        cases q
        · have hz : z = true := HB1.out
          have HR := Lib.hid (HP.out.2.1 (by trivial) (HI.out hz))
          go_wp2
          go_ret2
          exact ⟨_, by rw [HR.out]; rfl, by rw [HR.out]; exact slice_nil _ _, hB⟩
        · have hz : z = false := HB1.out
          have HN2 := Lib.hid (HN.out hz)
          go_wp2
          go_roundw
          case rel => exact ⟨k + 1, by omega, by go_num, HN2, hB⟩
          case measure => simp [intOf]; omega
      · obtain rfl : k = cs.length := by omega
        have hany : cs.any (colBad r.length) = false := by
          rw [List.any_eq_false]
          intro c hc
          have := HT.out c (by rw [List.take_length]; exact hc)
          rw [this]; exact Bool.false_ne_true
        by_cases h8 : 8 < cs.length
        · have HR := Lib.hid (HP.out.2.2.1 (by trivial) hany h8)
          clear hany
          go_wp2
          go_ret2
          exact ⟨_, by rw [HR.out]; rfl, by rw [HR.out]; exact slice_nil _ _, hB⟩
        · have HR := Lib.hid (HP.out.2.2.2 (by trivial) hany h8)
          have HK2 := Lib.hid (HK.out _ hB hany h8)
          clear hany
          go_wp2_with fail
          refine HK2.out.mono ?_
          rintro e w2 ⟨x, rfl, hx, hb2⟩
          have hB2 := pure_trans hB hb2
          go_wp2
          go_ret2
          exact ⟨_, by rw [HR.out]; rfl, by rw [HR.out]; exact hx, hB2⟩
end Go.Proofs.YtkldimaoafgolaaDoor
