/- The law MarkOn, walked. -/
import Derived.Test.YtfoocifhifpbdaaOnPlain
import Derived.BigQuiet
namespace Go.Proofs.Ytfoocifhifpbdaa
open Go.RowKit

theorem take_both {xs : List Ev} {k : Nat} {a b a' b' : Int} (hk : k < xs.length) (h : ∀ x ∈ xs.take k, a ≤ x.time ∧ x.time ≤ b) (h1 : a' ≤ xs[k].time ∧ xs[k].time ≤ b') (h2 : k = 0 ∨ (a' ≤ a ∧ b ≤ b')) : ∀ x ∈ xs.take (k + 1), a' ≤ x.time ∧ x.time ≤ b' := by
  intro x hx
  rw [List.take_succ_eq_append_getElem hk, List.mem_append] at hx
  rcases hx with hx | hx
  · rcases h2 with rfl | h2
    · simp at hx
    · have := h x hx; omega
  · simp at hx; subst hx; exact h1

set_option maxRecDepth 100000 in
set_option maxHeartbeats 4000000 in
theorem markOn_any (b : Int) (xs : List Ev) (v : Value) (w : World) (_h0 : inI64 b) (hv : tEvs.rv (mem w) [v] xs) :
    Calls Try.prog 4 #[.int .i64 b, v] w fun e w' => e = .returned (.bool true) ∧ Below w.heap.size w w' := by
  obtain ⟨a, cap, rfl, hl, hm, hv⟩ := slice_form hv
  have hcap : cap ≤ 9223372036854775807 := by unfold maxLen at hm; exact hm
  have HA := Lib.hid (fun (wq : World) => awake_any wq)
  have HL := Lib.hid (fun (wq : World) (h : Below w.heap.size w wq) => longEv_any xs _ wq (tEvs.mono _ _ _ _ (below_mem h) hv))
  have HS0 := (fun (wq : World) (h : Below w.heap.size w wq) => sorted_any b xs _ wq (tEvs.mono _ _ _ _ (below_mem h) hv))
  have HV := Lib.hid hv
  clear hm hv
  have hcase : (sortedOf b xs = ([], [], 1) ∨ sortedOf b xs = ([], [], 7)) ∨ ∃ on late, sortedOf b xs = (on, late, 0) ∧ OnFacts b xs on late := by
    by_cases h : xs.length ≤ 400 ∧ xs.all validEv = true
    · by_cases h2 : 0 ≤ b ∧ b ≤ 1000000000
      · exact .inr ⟨_, _, sortedOf_on h h2, onFacts h h2⟩
      · exact .inl (.inr (sortedOf_off h h2))
    · exact .inl (.inl (sortedOf_bad h))
  rcases hcase with h | ⟨on, late, h, hF⟩
  · rcases h with h | h
    all_goals
      rw [h] at HS0
      have HS := Lib.hid HS0
      clear HS0 h
      go_enter Try.func4, Try.ntmps4
      go_wp2_with fail
      refine (HL.out _ (Below.refl _ _)).mono ?_
      rintro e w1 ⟨⟨r, rfl, _⟩, hB1⟩
      cases r
      · go_wp2_with fail
        refine (HS.out _ hB1).mono ?_
        rintro e w2 ⟨p, p', rfl, hp, hp', hB2⟩
        clear hp hp'
        have hB2' := pure_trans hB1 hB2
        clear hB1 hB2
        go_wp2_with fail
        refine (HA.out _).mono ?_
        rintro e w3 ⟨rfl, hB⟩
        go_wp2
        go_ret
        exact ⟨rfl, pure_trans hB2' hB⟩
      · go_wp2_with fail
        refine (HA.out _).mono ?_
        rintro e w3 ⟨rfl, hB⟩
        go_wp2
        go_ret
        exact ⟨rfl, pure_trans hB1 hB⟩
  · rw [h] at HS0
    have HS := Lib.hid HS0
    have HF := Lib.hid hF
    have hb0 := hF.b0
    have hb1 := hF.b1
    have h400 := hF.le
    have hx1 : on.length ≤ 400 := by have := hF.len; omega
    have hx2 : late.length ≤ 400 := by have := hF.len; omega
    have hlen : ((on.length : Int) + (late.length : Int) == (xs.length : Int)) = true := by have := hF.len; simp; omega
    have hlen2 : ((on.length : Int) + (late.length : Int) != (xs.length : Int)) = false := by have := hF.len; simp; omega
    clear HS0 h hF
    go_enter Try.func4, Try.ntmps4
    go_wp2_with fail
    refine (HL.out _ (Below.refl _ _)).mono ?_
    rintro e w1 ⟨⟨r, rfl, _⟩, hB1⟩
    cases r
    · go_wp2_with fail
      refine (HS.out _ hB1).mono ?_
      rintro e w2 ⟨p, p', rfl, hp, hp', hB2⟩
      obtain ⟨ap, capp, rfl, hpl, hpm, hp⟩ := slice_form hp
      obtain ⟨aq, capq, rfl, hql, hqm, hp'⟩ := slice_form hp'
      have hcapp : capp ≤ 9223372036854775807 := by unfold maxLen at hpm; exact hpm
      have HP := Lib.hid hp
      have hB2' := pure_trans hB1 hB2
      have HB := Lib.hid hB2'
      clear hp hp' hB1 hB2 hB2' hpm hqm
      go_wp2
      go_loopw [8] (fun i wr => ∃ k : Nat, k ≤ on.length ∧ i = .int .i64 k ∧ Below w2.heap.size w2 wr) (fun i _ => on.length - (intOf i).toNat)
      case atStart => exact ⟨0, by omega, rfl, Below.refl _ _⟩
      case round =>
        obtain ⟨k, hk, rfl, hB⟩ := hrel
        by_cases hlt : k < on.length
        · go_wp2
          go_loopw [9] (fun i wr => ∃ j : Nat, j ≤ k ∧ i = .int .i64 j ∧ Below w2.heap.size w2 wr) (fun i _ => k - (intOf i).toNat)
          case atStart => exact ⟨0, by omega, rfl, hB⟩
          case round =>
            clear hB
            obtain ⟨j, hj, rfl, hB⟩ := hrel
            by_cases hjk : j < k
            · obtain ⟨bb, o, rfl, hat⟩ := slice_at HP.out hlt
              obtain ⟨bb', o', hoo, hat'⟩ := slice_at HP.out (show j < on.length by omega)
              simp only [Option.some.injEq, Addr.mk.injEq, and_true] at hoo
              obtain ⟨rfl, rfl⟩ := hoo
              obtain ⟨_, _, c0, _, _, _, _⟩ := ev_at (tEv.at_mono (below_mem hB) hat)
              obtain ⟨_, _, d0, _, _, _, _⟩ := ev_at (tEv.at_mono (below_mem hB) hat')
              have c0 : wr.cell? ⟨bb, o + k * 2, none⟩ = some (.int .i64 on[k].time) := c0
              have d0 : wr.cell? ⟨bb, o + j * 2, none⟩ = some (.int .i64 on[j].time) := d0
              have hg := HF.out.lt hlt hjk
              have t1 := HF.out.tmo on[k] (List.getElem_mem _)
              have t2 := HF.out.tmo on[j] (List.getElem_mem _)
              generalize on[k].time = tk at *
              generalize on[j].time = tj at *
              have hn : ¬ (tk < tj - b + 1) := by omega
              have hi1 : (k : Int) < (on.length : Int) := by omega
              have hi2 : (j : Int) < (on.length : Int) := by omega
              obtain ⟨t10, t11⟩ := t1
              obtain ⟨t20, t21⟩ := t2
              clear hat hat'
              go_wp2
              go_quiet (fail)
              go_wp2
              go_roundw
              case rel => first | exact ⟨j + 1, by omega, by go_num, below_drewN hB _⟩ | ((repeat apply Exists.intro); exact ⟨⟨j + 1, by omega, by go_num, below_drewN hB _⟩, rfl⟩)
              case measure => simp [intOf]; omega
            · obtain rfl : j = k := by omega
              go_wp2
              go_roundw
              case rel => exact ⟨j + 1, by omega, by go_num, hB⟩
              case measure => simp [intOf]; omega
        · obtain rfl : k = on.length := by omega
          go_wp2
          go_loopw [10, 11, 12] (fun lo hi i wr => ∃ k : Nat, k ≤ xs.length ∧ i = .int .i64 k ∧ ∃ a b : Int, lo = .int .i64 a ∧ hi = .int .i64 b ∧ -1000000000000 ≤ a ∧ b ≤ 1000000000000 ∧ a ≤ 1000000000000 ∧ -1000000000000 ≤ b ∧ Hid (∀ x ∈ xs.take k, a ≤ x.time ∧ x.time ≤ b) ∧ Below w2.heap.size w2 wr) (fun _ _ i _ => xs.length - (intOf i).toNat)
          case atStart => exact ⟨0, by omega, rfl, 0, 0, rfl, rfl, by omega, by omega, by omega, by omega, Lib.hid (by simp), hB⟩
          case round =>
            clear hB
            obtain ⟨k, hk, rfl, a, b', rfl, rfl, ha0, hb0', ha1, hb1', HT, hB⟩ := hrel
            by_cases hlt2 : k < xs.length
            · obtain ⟨bb, o, rfl, hat⟩ := slice_at HV.out hlt2
              have hBw := HB.out.trans (hB.mono HB.out.size)
              obtain ⟨_, _, c0, _, _, _, _⟩ := ev_at (tEv.at_mono (below_mem hBw) hat)
              have c0 : wr.cell? ⟨bb, o + k * 2, none⟩ = some (.int .i64 xs[k].time) := c0
              have t1 := HF.out.tm xs[k] (List.getElem_mem _)
              have HK := Lib.hid (fun (a' b'' : Int) => take_both (a' := a') (b' := b'') hlt2 HT.out)
              have hi1 : (k : Int) < (xs.length : Int) := by omega
              clear hat hBw
              generalize xs[k].time = tk at *
              obtain ⟨t10, t11⟩ := t1
              by_cases hk0 : k = 0
              · have H0 := Lib.hid hk0
                subst hk0
                have c0 : wr.cell? ⟨bb, o, none⟩ = some (.int .i64 tk) := by simpa using c0
                go_wp2
                go_quiet (fail)
                go_wp2
                go_region
                all_goals
                  go_wp2
                  go_roundw
                  case rel => first | exact ⟨1, by omega, by go_num, _, _, rfl, rfl, by omega, by omega, by omega, by omega, Lib.hid (HK.out _ _ (by omega) (by simp)), (below_drewN hB _).drew⟩ | ((repeat apply Exists.intro); exact ⟨⟨1, by omega, by go_num, _, _, rfl, rfl, by omega, by omega, by omega, by omega, Lib.hid (HK.out _ _ (by omega) (by simp)), (below_drewN hB _).drew⟩, rfl⟩)
                  case measure => simp [intOf]; omega
              · have hk1 : ((k : Int) == 0) = false := by simp; omega
                go_wp2
                go_region
                all_goals
                  go_wp2
                  go_roundw
                  case rel => exact ⟨k + 1, by omega, by go_num, _, _, rfl, rfl, by omega, by omega, by omega, by omega, Lib.hid (HK.out _ _ (by omega) (.inr (by omega))), hB.drew⟩
                  case measure => simp [intOf]; omega
            · obtain rfl : k = xs.length := by omega
              rw [List.take_length] at HT
              by_cases hle : b ≤ b' - a
              · go_wp2_with fail
                refine (HA.out _).mono ?_
                rintro e w3 ⟨rfl, hB3⟩
                go_wp2
                go_ret
                exact ⟨rfl, pure_trans (HB.out.trans (hB.mono HB.out.size)) hB3⟩
              · have hz : late.length = 0 := HF.out.late a b' HT.out hle
                go_wp2_with fail
                refine (HA.out _).mono ?_
                rintro e w3 ⟨rfl, hB3⟩
                go_wp2
                go_ret
                exact ⟨rfl, pure_trans (HB.out.trans (hB.mono HB.out.size)) hB3⟩
    · go_wp2_with fail
      refine (HA.out _).mono ?_
      rintro e w3 ⟨rfl, hB⟩
      go_wp2
      go_ret
      exact ⟨rfl, pure_trans hB1 hB⟩
end Go.Proofs.Ytfoocifhifpbdaa
