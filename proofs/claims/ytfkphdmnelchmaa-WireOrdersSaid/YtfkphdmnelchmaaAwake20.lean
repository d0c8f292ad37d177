/- Chapter 20's example. -/
import Derived.Test.YtfkphdmnelchmaaWireI
namespace Go.Proofs.Ytfkphdmnelchmaa
open Go.RowKit Go.Maps

@[reducible] def mk (n : Int) : El := ⟨2, n, 0, [], 0⟩
theorem mk_ok {n : Int} (h : inI64 n) : (mk n).ok := ⟨by unfold inI64; simp, h, by unfold inI64; simp, by unfold inI64; simp⟩
def aw (k : Nat) : Raw := ⟨([mk 1, mk 2, mk 3]).take k, 2, 1, 10, 0, 0, fun _ => none, [], fun _ => none, k, []⟩
theorem aw_put (k : Nat) (h : k < 3) : putR (aw k) (mk (k + 1)) = aw (k + 1) ∧ putE (aw k) (mk (k + 1)) = 0 := by
  match k, h with
  | 0, _ => exact ⟨rfl, rfl⟩
  | 1, _ => exact ⟨rfl, rfl⟩
  | 2, _ => exact ⟨rfl, rfl⟩
theorem aw_fine (k : Nat) (h : k ≤ 3) : Fine (aw k) := by
  refine ⟨by simp [aw], by simp [aw], by simp [aw], by simp [aw], by simp [aw], by simp [aw], by simp [aw], by simp [aw], by simp [aw], by simp [aw]; omega, by simp [aw]; omega, by simp [aw], .inr rfl, fun i hi => (by cases hi), fun i hi => (by cases hi), fun k a e => (by cases e), fun k a e => (by cases e), fun p hp => (by cases hp), by simp [aw]⟩
noncomputable def bw (a : Nat) : Raw := sendR (aw 3) a
theorem bw_eq (a : Nat) : bw a = ⟨[mk 3], 2, 0, 10, 1, 0, fun _ => none, [], putAt (fun _ => none) 0 a, 3, [⟨a, [mk 1, mk 2], 2⟩]⟩ := rfl
theorem bw_fine (a : Nat) : Fine (bw a) := by
  rw [bw_eq]
  refine ⟨by simp, by simp, by simp, by simp, by simp, by simp, by simp, by simp, by simp, by simp, by simp, by simp, .inr rfl, fun i hi => (by cases hi), fun i hi => (by cases hi), fun k c e => ?_, fun k a e => (by cases e), fun p hp => ?_, by simp⟩
  · by_cases hk : k = 0
    · subst hk; simp only [putAt_same] at e; cases e; exact ⟨by simp, _, List.mem_singleton.2 rfl, rfl⟩
    · simp only [putAt_other _ _ hk] at e; cases e
  · simp only [List.mem_singleton] at hp; subst hp; simp
noncomputable def cw (a : Nat) : Raw := ⟨[mk 3], 2, 0, 10, 1, 1, delAt (putAt (fun _ => none) 0 a) 0, [⟨mk 1, some a⟩, ⟨mk 2, some a⟩], delAt (putAt (fun _ => none) 0 a) 0, 3, [⟨a, [mk 1, mk 2], 2⟩]⟩
theorem del_put_none (a : Nat) (k : Int) : delAt (putAt (fun _ : Int => (none : Option Nat)) 0 a) 0 k = none := by
  by_cases hk : k = 0
  · subst hk; rw [delAt_same]
  · rw [delAt_other _ hk, putAt_other _ _ hk]
theorem cw_moves {a : Nat} {r' : Raw} (h : Moves (takenR (bw a) 0 a) r') : r' = cw a := by
  rw [bw_eq] at h
  cases h with
  | done h => simp only [takenR, putAt_same] at h; cases h
  | step hp h hm =>
    rename_i p
    simp only [takenR, List.mem_singleton] at hp
    subst hp
    cases hm with
    | done h => rfl
    | step hp h hm =>
      have e : delAt (putAt (fun _ : Int => (none : Option Nat)) 0 a) 0 (0 + 1) = some _ := h
      rw [del_put_none] at e; cases e
theorem cw_fine (a : Nat) : Fine (cw a) := by
  refine ⟨by simp [cw], by simp [cw], by simp [cw], by simp [cw], by simp [cw], by simp [cw], by simp [cw], by simp [cw], by simp [cw], by simp [cw], by simp [cw], by simp [cw], .inl (by simp [cw]), fun i hi => ?_, fun i hi c hc => ?_, fun k c e => ?_, fun k c e => ?_, fun p hp => ?_, by simp [cw]⟩
  · simp only [cw, List.mem_cons, List.not_mem_nil, or_false] at hi; rcases hi with rfl | rfl <;> simp
  · simp only [cw, List.mem_cons, List.not_mem_nil, or_false] at hi
    refine ⟨⟨a, [mk 1, mk 2], 2⟩, by simp [cw], ?_, by simp, by simp⟩
    rcases hi with rfl | rfl <;> simpa using hc
  · simp only [cw, del_put_none] at e; cases e
  · simp only [cw, del_put_none] at e; cases e
  · simp only [cw, List.mem_singleton] at hp; subst hp; simp
noncomputable def dw (a : Nat) : Raw := { cw a with buffer := [⟨mk 2, some a⟩], count := 2, pt := [⟨a, [mk 1, mk 2], 1⟩] }
theorem cw_recv (a : Nat) : recvR (cw a) = dw a := by
  simp [recvR, cw, dw, leftAt, decPt]
theorem dw_fine (a : Nat) : Fine (dw a) := by
  refine ⟨by simp [dw, cw], by simp [dw, cw], by simp [dw, cw], by simp [dw, cw], by simp [dw, cw], by simp [dw, cw], by simp [dw, cw], by simp [dw, cw], by simp [dw, cw], by simp [dw, cw], by simp [dw, cw], by simp [dw, cw], .inl (by simp [dw, cw]), fun i hi => ?_, fun i hi c hc => ?_, fun k c e => ?_, fun k c e => ?_, fun p hp => ?_, by simp [dw, cw]⟩
  · simp only [dw, cw, List.mem_singleton] at hi; subst hi; simp
  · simp only [dw, cw, List.mem_singleton] at hi
    refine ⟨⟨a, [mk 1, mk 2], 1⟩, by simp [dw, cw], ?_, by simp, by simp⟩
    subst hi; simpa using hc
  · simp only [dw, cw, del_put_none] at e; cases e
  · simp only [dw, cw, del_put_none] at e; cases e
  · simp only [dw, cw, List.mem_singleton] at hp; subst hp; simp
noncomputable def ew (a : Nat) : Raw := { cw a with buffer := [], count := 1, credits := 1, pt := [⟨a, [mk 1, mk 2], 0⟩] }
theorem dw_recv (a : Nat) : recvR (dw a) = ew a := by
  simp [recvR, cw, dw, ew, leftAt, decPt]
theorem ew_fine (a : Nat) : Fine (ew a) := by
  refine ⟨by simp [ew, cw], by simp [ew, cw], by simp [ew, cw], by simp [ew, cw], by simp [ew, cw], by simp [ew, cw], by simp [ew, cw], by simp [ew, cw], by simp [ew, cw], by simp [ew, cw], by simp [ew, cw], by simp [ew, cw], .inl (by simp [ew, cw]), fun i hi => ?_, fun i hi c hc => ?_, fun k c e => ?_, fun k c e => ?_, fun p hp => ?_, by simp [ew, cw]⟩
  · simp [ew] at hi
  · simp [ew] at hi
  · simp only [ew, cw, del_put_none] at e; cases e
  · simp only [ew, cw, del_put_none] at e; cases e
  · simp only [ew, cw, List.mem_singleton] at hp; subst hp; simp

set_option maxRecDepth 100000 in
set_option maxHeartbeats 4000000 in
theorem awake20 (W : World) : Calls Try.prog 10 #[] W fun e W' => e = .returned (.bool true) ∧ Below W.heap.size W W' := by
  have i64 : ∀ n : Int, 0 ≤ n → n ≤ 10 → inI64 n := fun n h1 h2 => by unfold inI64; omega
  have HI64 := Lib.hid i64
  clear i64
  go_enter Try.func10, Try.ntmps10
  go_wp2_with fail
  refine (st_new 2 1 10 (fun _ => False) W (fun _ h => h.elim)).mono ?_
  rintro e w1 ⟨hB1, ⟨_, b, rfl, hS1⟩ | ⟨h, _⟩⟩
  rotate_left
  · exact absurd (by unfold okNew; decide) h
  have HB1 := Lib.hid hB1
  clear hB1
  go_wp2_with fail
  refine (mark_any 1 _).mono ?_
  rintro e w2 ⟨rfl, hk⟩
  have hS2 := hS1.pure hk
  have hp := st_put hS2 (aw_fine 0 (by omega)) (mk 1) (.slice none 0 0) (mk_ok (HI64.out 1 (by omega) (by omega))) (slice_nil _ _)
  rw [show putE (newRaw 2 1 10) (mk 1) = 0 from (aw_put 0 (by omega)).2, show putR (newRaw 2 1 10) (mk 1) = aw 1 from (aw_put 0 (by omega)).1] at hp
  have HP := Lib.hid hp
  have HB2 := Lib.hid (HB1.out.trans (hk.mono HB1.out.size))
  clear hp hS1 hS2 hk
  go_wp2_with fail
  refine HP.out.mono ?_
  rintro e w3 ⟨rfl, hS3, hB3, _⟩
  have HB := Lib.hid (HB2.out.trans hB3)
  clear HB2 hB3 HB1 HP
  go_wp2_with fail
  refine (mark_any 2 _).mono ?_
  rintro e w4 ⟨rfl, hk⟩
  have hp := st_put (hS3.pure hk) (aw_fine 1 (by omega)) (mk 2) (.slice none 0 0) (mk_ok (HI64.out 2 (by omega) (by omega))) (slice_nil _ _)
  rw [show putE (aw 1) (mk 2) = 0 from (aw_put 1 (by omega)).2, show putR (aw 1) (mk 2) = aw 2 from (aw_put 1 (by omega)).1] at hp
  have HP1 := Lib.hid hp
  have HC1 := Lib.hid (HB.out.trans (hk.mono HB.out.size))
  clear hp hS3 hk HB
  go_wp2_with fail
  refine HP1.out.mono ?_
  rintro e w4x ⟨rfl, hS3, hB3, _⟩
  have HB := Lib.hid (HC1.out.trans hB3)
  clear hB3 HC1 HP1
  go_wp2_with fail
  refine (mark_any 3 _).mono ?_
  rintro e w6 ⟨rfl, hk⟩
  have hp := st_put (hS3.pure hk) (aw_fine 2 (by omega)) (mk 3) (.slice none 0 0) (mk_ok (HI64.out 3 (by omega) (by omega))) (slice_nil _ _)
  rw [show putE (aw 2) (mk 3) = 0 from (aw_put 2 (by omega)).2, show putR (aw 2) (mk 3) = aw 3 from (aw_put 2 (by omega)).1] at hp
  have HP2 := Lib.hid hp
  have HC2 := Lib.hid (HB.out.trans (hk.mono HB.out.size))
  clear hp hS3 hk HB
  go_wp2_with fail
  refine HP2.out.mono ?_
  rintro e w6x ⟨rfl, hS3, hB3, _⟩
  have HB := Lib.hid (HC2.out.trans hB3)
  clear hB3 HC2 HP2
  have HS := Lib.hid (st_send hS3 (aw_fine 3 (by omega)) (by omega))
  clear hS3
  go_wp2_with fail
  refine HS.out.mono ?_
  rintro e w7 (⟨h, _⟩ | ⟨_, h, _⟩ | ⟨_, _, rfl, a, _, hS4, hB3, _⟩)
  · exact absurd h (by simp [aw])
  · exact absurd h (by simp [aw])
  have HC := Lib.hid (HB.out.trans hB3)
  have HS2 := Lib.hid (st_send (show St W.heap.size b w7 (bw a) _ _ _ from hS4) (bw_fine a) (by omega))
  clear HS HB hB3 hS4
  simp only [aw]
  go_wp2_with fail
  refine HS2.out.mono ?_
  rintro e w8 (⟨h, _⟩ | ⟨_, _, rfl, hS5, hB3, _⟩ | ⟨_, h, _⟩)
  · exact absurd h (by simp [bw_eq])
  rotate_left
  · exact absurd rfl h
  have HD := Lib.hid (HC.out.trans hB3)
  have HV := Lib.hid (st_deliv hS5 (bw_fine a) (by omega) (HI64.out 0 (by omega) (by omega)))
  clear HS2 HC hB3 hS5
  go_wp2_with fail
  refine HV.out.mono ?_
  rintro e w9 (⟨h, _⟩ | ⟨_, h, _⟩ | ⟨_, a', h1, rfl, r', hm, hS6, hB3, _⟩)
  · rw [bw_eq] at h; simp at h
  · rw [bw_eq] at h; simp only [putAt_same] at h; cases h
  have ha : a' = a := by rw [bw_eq] at h1; simp only [putAt_same] at h1; cases h1; rfl
  subst ha
  obtain rfl := cw_moves hm
  have HE := Lib.hid (HD.out.trans hB3)
  have HR := Lib.hid (st_recv hS6 (cw_fine a'))
  clear HV HD hB3 hS6 h1 hm
  go_wp2_with fail
  refine HR.out.mono ?_
  rintro e w10 ⟨N1, hN1, ⟨hS7, hB3, _⟩, ⟨h, _⟩ | ⟨i, is, a1, c1, h, rfl, hu⟩⟩
  · simp [cw] at h
  obtain ⟨rfl, rfl⟩ : i = ⟨mk 1, some a'⟩ ∧ is = [⟨mk 2, some a'⟩] := by simp [cw] at h; exact ⟨h.1.symm, h.2.symm⟩
  rw [cw_recv] at hS7
  have HF := Lib.hid (HE.out.trans hB3)
  have HS7 := Lib.hid hS7
  clear HR HE hB3 hS7 hu h
  simp only
  go_wp2_with fail
  obtain ⟨M1, hS8, _, hM1, _⟩ := HS7.out.grow ((Below.refl _ _).alloc (Nat.le_refl _) (.cells #[.int .i64 2, .int .i64 1, .int .i64 0, .slice a1 0 c1, .int .i64 0] 42))
  have b1 : M1 w10.heap.size 1 = some (.int .i64 1) := hM1 _ _ _ (Mem.on_some (cell_new 1 rfl) (Nat.le_refl _))
  have HR2 := Lib.hid (st_recv hS8 (dw_fine a'))
  have HF2 := Lib.hid (HF.out.alloc HF.out.size (.cells #[.int .i64 2, .int .i64 1, .int .i64 0, .slice a1 0 c1, .int .i64 0] 42))
  have B1 := Lib.hid b1
  clear hS8 hM1 b1 HS7 HF
  refine HR2.out.mono ?_
  rintro e w11 ⟨N2, hN2, ⟨hS9, hB3, _⟩, ⟨h, _⟩ | ⟨i, is, a2, c2, h, rfl, hu⟩⟩
  · simp [dw] at h
  obtain ⟨rfl, rfl⟩ : i = ⟨mk 2, some a'⟩ ∧ is = [] := by simp [dw] at h; exact ⟨h.1.symm, h.2⟩
  rw [dw_recv] at hS9
  have HF3 := Lib.hid (HF2.out.trans hB3)
  have HS9 := Lib.hid hS9
  clear HR2 HF2 hB3 hS9 hu h
  simp only
  go_wp2_with fail
  obtain ⟨M2, hS10, hM12, hM2, _⟩ := HS9.out.grow ((Below.refl _ _).alloc (Nat.le_refl _) (.cells #[.int .i64 2, .int .i64 2, .int .i64 0, .slice a2 0 c2, .int .i64 0] 42))
  have b2 : M2 w11.heap.size 1 = some (.int .i64 2) := hM2 _ _ _ (Mem.on_some (cell_new 1 rfl) (Nat.le_refl _))
  have b1 := hM12 _ _ _ (hN2 _ _ _ B1.out)
  have HS3 := Lib.hid (st_send hS10 (ew_fine a') (by omega))
  have HF4 := Lib.hid (HF3.out.alloc HF3.out.size (.cells #[.int .i64 2, .int .i64 2, .int .i64 0, .slice a2 0 c2, .int .i64 0] 42))
  have B2 := Lib.hid (And.intro b1 b2)
  clear hS10 hM2 hM12 b2 b1 HS9 HF3 B1
  refine HS3.out.mono ?_
  rintro e w12 (⟨h, _⟩ | ⟨_, h, _⟩ | ⟨_, _, rfl, a3, _, hS11, hB3, _⟩)
  · exact absurd h (by simp [ew, cw])
  · exact absurd h (by simp [ew])
  have d1 : w12.cell? ⟨w10.heap.size, 1, none⟩ = some (.int .i64 1) := hS11.mem _ _ _ B2.out.1
  have d2 : w12.cell? ⟨w11.heap.size, 1, none⟩ = some (.int .i64 2) := hS11.mem _ _ _ B2.out.2
  have HZ := Lib.hid (HF4.out.trans hB3)
  clear HS3 HF4 hB3 hS11 B2
  have hnx : (ew a').next = 1 := rfl
  rw [hnx]
  go_wp2
  go_ret
  exact ⟨rfl, HZ.out⟩
end Go.Proofs.Ytfkphdmnelchmaa
