/- Wires: Resize, Lose and what is told of a wire. -/
import Derived.Test.YtfkphdmnelchmaaWireB
import Derived.Deep.QuietTactic
import Derived.BigQuiet
namespace Go.Proofs.Ytfkphdmnelchmaa
open Go.RowKit Go.Maps

section
variable {W W' : World} {base b : Nat} {L : WL} {r : Raw}
/-- Numbers of the wire alone have changed. -/
theorem WireInv.nums (hI : WireInv W base b L r) (hk : Keeps (fun k => k = b) W W') (n : Raw) (hq : n.queue = r.queue) (hbf : n.buffer = r.buffer) (he : n.early = r.early) (hw : n.way = r.way) (hp : n.pt = r.pt)
    (hb' : W'.heap[b]? = some (.cells (wCells L n) 87 (0, 0))) : WireInv W' base b L n ∧ (safe W b L r).le (safe W' b L n) := by
  obtain ⟨n1, n2, n3, n4, n5, n6, n7, n8, n9, n10, n11⟩ := n
  simp only at hq hbf he hw hp
  subst hq; subst hbf; subst he; subst hw; subst hp
  have hm : ∀ k, mutB b L ⟨r.queue, n2, n3, n4, n5, n6, r.early, r.buffer, r.way, n10, r.pt⟩ k → mutB b L r k ∨ W.heap.size ≤ k := fun k h => .inl h
  have hs := safe_le (L' := L) (r' := ⟨r.queue, n2, n3, n4, n5, n6, r.early, r.buffer, r.way, n10, r.pt⟩) (hk.wide (fun k _ h => .inl h)) hm rfl
  have hap := hI.apart
  refine ⟨⟨hb', (hI.q.keeps (fun k e => ?_)).re hs, (hI.bf.keeps (fun k e => ?_)).re hs, hI.wm.at ?_, hI.em.at ?_, hI.we, fun p hp => ?_, hI.nd, hI.ge, Nat.le_trans hI.bw hk.size, fun k hx => Nat.lt_of_lt_of_le (hI.fl k hx) hk.size, hI.fd⟩, hs⟩
  · exact hk.block k (hI.q.lt k e) (hap.2.2.2.2 k e).1
  · exact hk.block k (hI.bf.lt k e) (hap.2.2.2.1 k e).1
  · exact hk.block _ hI.wm.lt (fun e => hap.1 e.symm)
  · exact hk.block _ hI.em.lt (fun e => hap.2.1 e.symm)
  · obtain ⟨lv, h1, h2⟩ := hI.pk p hp
    exact ⟨lv, (hk.block _ (Array.getElem?_eq_some_iff.1 h1).1 (hap.2.2.1 p hp).1).trans h1, tEls.mono _ _ _ _ hs h2⟩
theorem WireInv.numsStep (hI : WireInv W base b L r) (hk : Keeps (fun k => k = b) W W') (n : Raw) (hq : n.queue = r.queue) (hbf : n.buffer = r.buffer) (he : n.early = r.early) (hw : n.way = r.way) (hp : n.pt = r.pt)
    (hb' : W'.heap[b]? = some (.cells (wCells L n) 87 (0, 0))) : WStep base b W L r W' n :=
  let h := hI.nums hk n hq hbf he hw hp hb'
  ⟨L, h.1, hI.keepsB (hk.wide (fun _ _ h => .inl h)), h.2, Nat.le_succ _, Nat.le_succ _, hI.frK (hk.wide (fun _ _ h => .inl h)) rfl⟩
theorem WireInv.drewN (hI : WireInv W base b L r) (n : Nat) : WStep base b W L r (W.drewN n) r := hI.pureStep ⟨rfl, rfl, rfl, Nat.le_refl _, fun _ _ => rfl⟩
theorem WireInv.same (hI : WireInv W base b L r) : WStep base b W L r W r := hI.pureStep (Below.refl _ _)
end

set_option maxHeartbeats 400000 in
theorem resize_any (base b : Nat) (L : WL) (r : Raw) (n : Int) (W : World) (hI : WireInv W base b L r) :
    Calls Try.prog 21 #[.pointer (some ⟨b, 0, none⟩), .int .i64 n] W fun e W' => e = .returned (.int .i64 (if 1 ≤ n ∧ n ≤ 100 then 0 else 7)) ∧ WStep base b W L r W' (if 1 ≤ n ∧ n ≤ 100 then { r with size := n } else r) := by
  by_cases h1 : 1 ≤ n
  · by_cases h2 : n ≤ 100
    · have c1 : W.cell? ⟨b, 1, none⟩ = some (.int .i64 r.size) := hI.cell 1
      have f1 := hI.frozen 1
      have HI := Lib.hid hI
      rw [if_pos ⟨h1, h2⟩, if_pos ⟨h1, h2⟩]
      clear hI
      go_enter Try.func21, Try.ntmps21
      go_wp2
      go_ret
      exact ⟨rfl, HI.out.numsStep ((Keeps.refl (fun k => k = b) W).setCell (p := ⟨b, 1, none⟩) (fun _ => rfl) _) { r with size := n } rfl rfl rfl rfl rfl (set_block HI.out.hb)⟩
    · rw [if_neg (fun h => h2 h.2), if_neg (fun h => h2 h.2)]
      have HI := Lib.hid hI
      clear hI
      go_enter Try.func21, Try.ntmps21
      go_wp2
      go_ret
      exact ⟨rfl, HI.out.same⟩
  · rw [if_neg (fun h => h1 h.1), if_neg (fun h => h1 h.1)]
    have HI := Lib.hid hI
    clear hI
    go_enter Try.func21, Try.ntmps21
    go_wp2
    go_ret
    exact ⟨rfl, HI.out.same⟩

theorem zeroPk (w : World) : (zeroValue 89).run Try.prog w = .ok (.pointer none) w := by kernel_rfl

set_option maxHeartbeats 1000000 in
theorem lose_any (base b : Nat) (L : WL) (r : Raw) (n : Int) (W : World) (hI : WireInv W base b L r) (hn : inI64 n) :
    Calls Try.prog 19 #[.pointer (some ⟨b, 0, none⟩), .int .i64 n] W fun e W' => e = .returned (.int .i64 (if (r.way n).isSome then 0 else 8)) ∧ W = W' := by
  have c8 : W.cell? ⟨b, 8, none⟩ = some (.map (some L.wm)) := hI.cell 8
  have HM := Lib.hid hI.wm
  cases hw : r.way n with
  | none =>
    have HW := Lib.hid hw
    clear hw hI
    go_enter Try.func19, Try.ntmps19
    go_wp2_with (at_lookup; refine wpList_lookup_ok _ rfl _ _ 82 rfl 3 89 (int_keyed Try.underlying3) Try.underlying82 (zeroPk _) L.wm L.nw r.way rfl HM.out _ n rfl (keyOf_i64 hn) ?_; rw [HW.out]; intro v h1 _; obtain rfl := h1 rfl)
    go_ret
    exact ⟨rfl, rfl⟩
  | some a =>
    have HW := Lib.hid hw
    clear hw hI
    go_enter Try.func19, Try.ntmps19
    go_wp2_with (at_lookup; refine wpList_lookup_ok _ rfl _ _ 82 rfl 3 89 (int_keyed Try.underlying3) Try.underlying82 (zeroPk _) L.wm L.nw r.way rfl HM.out _ n rfl (keyOf_i64 hn) ?_; rw [HW.out]; intro v _ h1; obtain rfl : v = ptrTo a := h1 a rfl)
    go_ret
    exact ⟨rfl, rfl⟩

set_option maxHeartbeats 400000 in
theorem credits_any (base b : Nat) (L : WL) (r : Raw) (W : World) (hI : WireInv W base b L r) :
    Calls Try.prog 28 #[.pointer (some ⟨b, 0, none⟩)] W fun e W' => e = .returned (.int .i64 r.credits) ∧ W = W' := by
  have c2 : W.cell? ⟨b, 2, none⟩ = some (.int .i64 r.credits) := hI.cell 2
  clear hI
  go_enter Try.func28, Try.ntmps28
  go_wp2
  go_ret
  exact ⟨rfl, rfl⟩
set_option maxHeartbeats 400000 in
theorem queue_any (base b : Nat) (L : WL) (r : Raw) (W : World) (hI : WireInv W base b L r) :
    Calls Try.prog 30 #[.pointer (some ⟨b, 0, none⟩)] W fun e W' => e = .returned (.int .i64 r.queue.length) ∧ W = W' := by
  obtain ⟨aq, cq, hqv, hq1, hq2⟩ := hI.q.form
  have c0 : W.cell? ⟨b, 0, none⟩ = some (.slice aq r.queue.length cq) := by rw [← hqv]; exact hI.cell 0
  clear hI hqv
  go_enter Try.func30, Try.ntmps30
  go_wp2
  go_ret
  exact ⟨rfl, rfl⟩
set_option maxHeartbeats 400000 in
theorem buffer_any (base b : Nat) (L : WL) (r : Raw) (W : World) (hI : WireInv W base b L r) :
    Calls Try.prog 31 #[.pointer (some ⟨b, 0, none⟩)] W fun e W' => e = .returned (.int .i64 r.buffer.length) ∧ W = W' := by
  obtain ⟨aq, cq, hqv, hq1, hq2⟩ := hI.bf.form
  have c0 : W.cell? ⟨b, 7, none⟩ = some (.slice aq r.buffer.length cq) := by rw [← hqv]; exact hI.cell 7
  clear hI hqv
  go_enter Try.func31, Try.ntmps31
  go_wp2
  go_ret
  exact ⟨rfl, rfl⟩
set_option maxHeartbeats 400000 in
theorem waits_any (base b : Nat) (L : WL) (r : Raw) (W : World) (hI : WireInv W base b L r) :
    Calls Try.prog 29 #[.pointer (some ⟨b, 0, none⟩)] W fun e W' => e = .returned (.bool (decide (0 < r.queue.length) && decide (r.credits = 0))) ∧ W = W' := by
  obtain ⟨aq, cq, hqv, hq1, hq2⟩ := hI.q.form
  have c0 : W.cell? ⟨b, 0, none⟩ = some (.slice aq r.queue.length cq) := by rw [← hqv]; exact hI.cell 0
  have c2 : W.cell? ⟨b, 2, none⟩ = some (.int .i64 r.credits) := hI.cell 2
  clear hI hqv
  by_cases hz : 0 < r.queue.length
  · have HR := Lib.hid (show (decide (0 < r.queue.length) && decide (r.credits = 0)) = (r.credits == 0) by rw [decide_eq_true hz]; by_cases h : r.credits = 0 <;> simp [h])
    have hz1 : (0 : Int) < (r.queue.length : Int) := by omega
    go_enter Try.func29, Try.ntmps29
    go_wp2
    go_ret
    exact ⟨by rw [HR.out]; rfl, rfl⟩
  · have hz0 : r.queue.length = 0 := by omega
    have HR := Lib.hid (show (decide (0 < r.queue.length) && decide (r.credits = 0)) = false by rw [hz0]; simp)
    rw [hz0] at c0
    clear hz hq1
    go_enter Try.func29, Try.ntmps29
    go_wp2
    go_ret
    exact ⟨by rw [HR.out]; rfl, rfl⟩
set_option maxHeartbeats 1000000 in
theorem spilled_any (base b : Nat) (L : WL) (r : Raw) (W : World) (hI : WireInv W base b L r) (h1 : 1 ≤ r.room) (h2 : r.room ≤ 1000) (hq : r.queue.length ≤ 4000) :
    Calls Try.prog 37 #[.pointer (some ⟨b, 0, none⟩)] W fun e W' => e = .returned (.int .i64 (max 0 ((r.queue.length : Int) - r.room))) ∧ ∃ n, W' = W.drewN n := by
  obtain ⟨aq, cq, hqv, hq1, hq2⟩ := hI.q.form
  have c0 : W.cell? ⟨b, 0, none⟩ = some (.slice aq r.queue.length cq) := by rw [← hqv]; exact hI.cell 0
  have c3 : W.cell? ⟨b, 3, none⟩ = some (.int .i64 r.room) := hI.cell 3
  clear hI hqv
  generalize r.queue.length = n at *
  generalize r.room = m at *
  go_enter Try.func37, Try.ntmps37
  go_wp2
  go_region
  all_goals
    go_wp2
    all_goals
      go_ret
      first | exact ⟨by rw [show max 0 ((n : Int) - m) = (n : Int) - m by omega]; rfl, 1, rfl⟩ | exact ⟨by rw [show max 0 ((n : Int) - m) = 0 by omega]; rfl, 1, rfl⟩
end Go.Proofs.Ytfkphdmnelchmaa
