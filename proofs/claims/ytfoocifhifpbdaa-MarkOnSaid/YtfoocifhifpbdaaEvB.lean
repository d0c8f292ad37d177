/- Lists of events: IndexFunc, ContainsFunc, the reference's ValidEvents, long. -/
import Derived.Test.YtfoocifhifpbdaaEv
namespace Go.Proofs.Ytfoocifhifpbdaa
open Go.RowKit

set_option maxHeartbeats 1000000 in
theorem indexFuncEv (Fn : FuncId) (capt : Array Value) (p : Ev → Bool) (xs : List Ev) (v : Value) (w : World) (hv : tEvs.rv (mem w) [v] xs)
    (hcf : ∀ args w, Sem.run Try.prog (callFunc Fn args) w = .ok (.enter Fn args) w)
    (hf : ∀ x ∈ xs, ∀ wr, Below w.heap.size w wr → ∀ s, tRow.rv (mem wr) [s] x.row → Calls Try.prog Fn (#[.agg #[.int .i64 x.time, s]] ++ capt) wr fun e w' => e = .returned (.bool (p x)) ∧ Below wr.heap.size wr w') :
    Calls Try.prog 58 #[v, .func (.func Fn) #[] capt] w fun e w' => e = .returned (.int .i64 (idxOf p xs)) ∧ Below w.heap.size w w' := by
  obtain ⟨a, cap, rfl, hl, hm, hv⟩ := slice_form hv
  have hcap : cap ≤ 9223372036854775807 := by unfold maxLen at hm; exact hm
  clear hm
  have HF := Lib.hid hf
  clear hf
  go_enter Try.func58, Try.ntmps58
  go_wp2
  go_loopw [8] (fun i wr => ∃ k : Nat, k ≤ xs.length ∧ i = .int .i64 k ∧ Hid (∀ x ∈ xs.take k, p x = false) ∧ Below w.heap.size w wr) (fun i _ => xs.length - (intOf i).toNat)
  case atStart => exact ⟨0, by omega, rfl, Lib.hid (by simp), Below.refl _ _⟩
  case round =>
    obtain ⟨k, hk, rfl, HT, hB⟩ := hrel
    by_cases hlt : k < xs.length
    · obtain ⟨b, o, rfl, hat⟩ := slice_at hv hlt
      have hat := tEv.at_mono (below_mem hB) hat
      obtain ⟨a2, cap2, c0, c1, i0, hr, hm2⟩ := ev_at hat
      have c0 : wr.cell? ⟨b, o + k * 2, none⟩ = some (.int .i64 xs[k].time) := c0
      have c1 : wr.cell? ⟨b, o + k * 2 + 1, none⟩ = some (.slice a2 xs[k].row.length cap2) := c1
      have hcall := HF.out xs[k] (List.getElem_mem hlt) wr hB (.slice a2 xs[k].row.length cap2) hr
      have HI := Lib.hid (show p xs[k] = true → idxOf p xs = k from fun h => idxOf_at hlt h HT.out)
      have HN := Lib.hid (show p xs[k] = false → ∀ x ∈ xs.take (k + 1), p x = false from fun h => mem_take_snoc hlt HT.out h)
      clear hat hv HF HT hr
      generalize xs[k] = x at *
      generalize hpx : p x = r at hcall HI HN
      clear hpx
      have HC := Lib.hid hcall
      clear hcall
      go_wp2_with fail
      refine HC.out.mono ?_
      rintro e w1 ⟨rfl, hB1⟩
      have hB2 := pure_trans hB hB1
      clear HC hB hB1 c0 c1
      cases r
      · go_wp2
        go_roundw
        case rel => exact ⟨k + 1, by omega, by go_num, Lib.hid (HN.out (by trivial)), hB2⟩
        case measure => simp [intOf]; omega
      · go_wp2
        go_ret
        exact ⟨by rw [HI.out (by trivial)]; rfl, hB2⟩
    · obtain rfl : k = xs.length := by omega
      have HX := Lib.hid (idxOf_none (p := p) (l := xs) (fun x hx => HT.out x (by rw [List.take_length]; exact hx)))
      go_wp2
      go_ret
      exact ⟨by rw [HX.out]; rfl, hB⟩
set_option maxHeartbeats 1000000 in
theorem containsFuncEv (Fn : FuncId) (capt : Array Value) (p : Ev → Bool) (xs : List Ev) (v : Value) (w : World) (hv : tEvs.rv (mem w) [v] xs)
    (hcf : ∀ args w, Sem.run Try.prog (callFunc Fn args) w = .ok (.enter Fn args) w)
    (hf : ∀ x ∈ xs, ∀ wr, Below w.heap.size w wr → ∀ s, tRow.rv (mem wr) [s] x.row → Calls Try.prog Fn (#[.agg #[.int .i64 x.time, s]] ++ capt) wr fun e w' => e = .returned (.bool (p x)) ∧ Below wr.heap.size wr w') :
    Calls Try.prog 34 #[v, .func (.func Fn) #[] capt] w fun e w' => e = .returned (.bool (xs.any p)) ∧ Below w.heap.size w w' := by
  have H := Lib.hid (indexFuncEv Fn capt p xs v w hv hcf hf)
  have HA := Lib.hid (idxOf_any p xs)
  clear hcf hf hv
  generalize idxOf p xs = i at H HA
  go_enter Try.func34, Try.ntmps34
  go_wp2_with fail
  refine H.out.mono ?_
  rintro e w1 ⟨rfl, hB⟩
  go_wp2
  go_ret
  exact ⟨by rw [← HA.out]; rfl, hB⟩
theorem anyBad (l : List Ev) : (l.any fun x => !validEv x) = !l.all validEv := by simp [List.all_eq_not_any_not]
theorem badEvs_any (xs : List Ev) (v : Value) (w : World) (hv : tEvs.rv (mem w) [v] xs) :
    Calls Try.prog 34 #[v, .func (.func 35) #[] #[]] w fun e w' => e = .returned (.bool (!xs.all validEv)) ∧ Below w.heap.size w w' := by
  rw [← anyBad]
  exact containsFuncEv 35 #[] (fun x => !validEv x) xs v w hv (fun _ _ => rfl) (fun x _ wr _ s hs => sorted1_any x s wr hs)

set_option maxRecDepth 100000 in
set_option maxHeartbeats 1000000 in
theorem refValidEvents_any (xs : List Ev) (v : Value) (w : World) (hv : tEvs.rv (mem w) [v] xs) :
    Calls Try.prog 39 #[v, .int .i64 400] w fun e w' => e = .returned (.bool (decide (xs.length ≤ 400) && xs.all validEv)) ∧ Below w.heap.size w w' := by
  obtain ⟨a, cap, rfl, hl, hm, hv⟩ := slice_form hv
  have hcap : cap ≤ 9223372036854775807 := by unfold maxLen at hm; exact hm
  clear hm
  go_enter Try.func39, Try.ntmps39
  go_wp2
  go_loopw [5] (fun i wr => ∃ k : Nat, k ≤ xs.length ∧ i = .int .i64 k ∧ Hid (∀ x ∈ xs.take k, validEv x = true) ∧ Below w.heap.size w wr) (fun i _ => xs.length - (intOf i).toNat)
  case atStart => exact ⟨0, by omega, rfl, Lib.hid (by simp), Below.refl _ _⟩
  case round =>
    obtain ⟨k, hk, rfl, HT, hB⟩ := hrel
    by_cases hlt : k < xs.length
    · obtain ⟨b, o, rfl, hat⟩ := slice_at hv hlt
      have hat := tEv.at_mono (below_mem hB) hat
      obtain ⟨a2, cap2, c0, c1, i0, hr, hm2⟩ := ev_at hat
      have c0 : wr.cell? ⟨b, o + k * 2, none⟩ = some (.int .i64 xs[k].time) := c0
      have c1 : wr.cell? ⟨b, o + k * 2 + 1, none⟩ = some (.slice a2 xs[k].row.length cap2) := c1
      have HC := Lib.hid (refValidEvent_any xs[k] (.slice a2 xs[k].row.length cap2) wr hr)
      have HI := Lib.hid (show validEv xs[k] = false → (decide (xs.length ≤ 400) && xs.all validEv) = false from fun h => by
        have : xs.all validEv = false := by
          rw [List.all_eq_false]
          exact ⟨xs[k], List.getElem_mem hlt, by simp [h]⟩
        rw [this]; simp)
      have HN := Lib.hid (show validEv xs[k] = true → ∀ x ∈ xs.take (k + 1), validEv x = true from fun h => mem_take_snoc hlt HT.out h)
      clear hat hv HT hr
      generalize xs[k] = x at *
      generalize validEv x = r at HC HI HN
      go_wp2_with fail
      refine HC.out.mono ?_
      rintro e w1 ⟨rfl, hB1⟩
      have hB2 := pure_trans hB hB1
      clear HC hB hB1 c0 c1
      cases r
      · go_wp2
        go_ret
        exact ⟨by rw [HI.out (by trivial)]; rfl, hB2⟩
      · go_wp2
        go_roundw
        case rel => exact ⟨k + 1, by omega, by go_num, Lib.hid (HN.out (by trivial)), hB2⟩
        case measure => simp [intOf]; omega
    · obtain rfl : k = xs.length := by omega
      have HX := Lib.hid (show (decide (xs.length ≤ 400) && xs.all validEv) = decide ((xs.length : Int) ≤ 400) from by
        have : xs.all validEv = true := by
          rw [List.all_eq_true]
          exact fun x hx => HT.out x (by rw [List.take_length]; exact hx)
        rw [this]; simp; omega)
      go_wp2
      go_ret
      exact ⟨by rw [HX.out]; rfl, hB⟩

theorem one_row {w : World} {v : Value} {x : List Val} {T : TypeId} (h : tRow.rv (mem w) [v] x) : tRows.rv (mem (w.alloc (.cells #[v] T))) [.slice (some ⟨w.heap.size, 0, none⟩) 1 1] [x] := by
  refine ⟨some ⟨w.heap.size, 0, none⟩, 1, rfl, by simp, by unfold maxLen; omega, fun _ => ⟨w.heap.size, 0, rfl, fun k hk => ?_⟩⟩
  have hk0 : k = 0 := by simp at hk; omega
  subst hk0
  have hh := heap_alloc_new w (.cells #[v] T (0, 0))
  exact ⟨[v], fun j u hj => by match j, hj with | 0, hj => simp at hj; subst hj; exact mem_cells hh 0, tRow.mono _ _ _ _ (below_mem ((Below.refl _ _).alloc (Nat.le_refl _) _)) h⟩

set_option maxRecDepth 100000 in
set_option maxHeartbeats 1000000 in
theorem longEv_any (xs : List Ev) (v : Value) (w : World) (hv : tEvs.rv (mem w) [v] xs) :
    Calls Try.prog 7 #[v] w fun e w' => (∃ r, e = .returned (.bool r) ∧ (r = false → xs.length ≤ 500)) ∧ Below w.heap.size w w' := by
  obtain ⟨a, cap, rfl, hl, hm, hv⟩ := slice_form hv
  have hcap : cap ≤ 9223372036854775807 := by unfold maxLen at hm; exact hm
  clear hm
  go_enter Try.func7, Try.ntmps7
  go_wp2
  go_loopw [3] (fun i wr => ∃ k : Nat, k ≤ xs.length ∧ i = .int .i64 k ∧ Below w.heap.size w wr) (fun i _ => xs.length - (intOf i).toNat)
  case atStart => exact ⟨0, by omega, rfl, Below.refl _ _⟩
  case round =>
    obtain ⟨k, hk, rfl, hB⟩ := hrel
    by_cases hlt : k < xs.length
    · obtain ⟨b, o, rfl, hat⟩ := slice_at hv hlt
      have hat := tEv.at_mono (below_mem hB) hat
      obtain ⟨a2, cap2, c0, c1, i0, hr, hm2⟩ := ev_at hat
      have c1 : wr.cell? ⟨b, o + k * 2 + 1, none⟩ = some (.slice a2 xs[k].row.length cap2) := c1
      have HC := Lib.hid (fun T => long_any [xs[k].row] _ _ (one_row (T := T) hr))
      clear hat hv hr c0 i0
      generalize xs[k] = x at *
      go_wp2_with fail
      refine (HC.out _).mono ?_
      rintro e w1 ⟨⟨r, rfl⟩, hB1⟩
      have hB2 : Below w.heap.size w w1 := pure_trans hB (((Below.refl _ _).alloc (Nat.le_refl _) _).trans (hB1.mono (by simp)))
      clear HC hB hB1 c1
      cases r
      · go_wp2
        go_roundw
        case rel => exact ⟨k + 1, by omega, by go_num, hB2⟩
        case measure => simp [intOf]; omega
      · go_wp2
        go_ret
        exact ⟨⟨_, rfl, fun h => by cases h⟩, hB2⟩
    · obtain rfl : k = xs.length := by omega
      go_wp2
      go_ret
      exact ⟨⟨_, rfl, fun h => by simp at h; omega⟩, hB⟩
end Go.Proofs.Ytfoocifhifpbdaa
