/- Contracts of the reference's meet. -/
import Derived.Test.YtfoocifhifpbdaaMarkD
namespace Go.Proofs.Ytfoocifhifpbdaa
open Go.RowKit

set_option maxHeartbeats 400000 in
theorem rwithin_any (n lo hi : Int) (w : World) :
    Calls Try.prog 47 #[.int .i64 n, .int .i64 lo, .int .i64 hi] w fun e w' => e = .returned (.bool (decide (lo ≤ n ∧ n ≤ hi))) ∧ w = w' := by
  by_cases h1 : lo ≤ n <;> by_cases h2 : n ≤ hi
  all_goals
    go_enter Try.func47, Try.ntmps47
    go_wp2
    go_ret
    exact ⟨by simp [*], rfl⟩

set_option maxHeartbeats 800000 in
theorem rleast_any (g h : Nat) (m : Meet) (w : World) (hm : MeetAt w g h m) :
    Calls Try.prog 75 #[.pointer (some ⟨g, 0, none⟩)] w fun e w' => e = .returned (.tuple #[.int .i64 (leastOf m.ins).1, .bool (leastOf m.ins).2]) ∧ w = w' := by
  obtain ⟨cap, hs⟩ := hm.s
  have hmost := hm.most
  have hc := hm.i.cells
  clear hm
  go_enter Try.func75, Try.ntmps75
  go_wp2
  go_loop [4, 5, 6] (fun b f i => ∃ k : Nat, k ≤ m.ins.length ∧ i = .int .i64 k ∧ b = .int .i64 (leastOf (m.ins.take k)).1 ∧ f = .bool (leastOf (m.ins.take k)).2) (fun _ _ i => m.ins.length - (intOf i).toNat)
  case atStart => exact ⟨0, by omega, rfl, rfl, rfl⟩
  case round =>
    obtain ⟨k, hk, rfl, rfl, rfl⟩ := hrel
    by_cases hlt : k < m.ins.length
    · obtain ⟨c0, c1, c2⟩ := hc k hlt
      have HS := Lib.hid (leastOf_snoc m.ins k hlt)
      clear hc
      generalize leastOf (m.ins.take k) = q at HS ⊢
      generalize m.ins[k] = x at HS c0 c1 c2 ⊢
      obtain ⟨b0, f0⟩ := q
      obtain ⟨mm, i, c⟩ := x
      simp only at c0 c1 c2 ⊢
      cases i <;> cases f0 <;> by_cases hlt : mm < b0
      all_goals
        go_wp2
        go_round
        case rel => exact ⟨k + 1, by omega, by go_num, by rw [HS.out]; first | (simp [leastStep, *]; done) | (simp only [leastStep]; rw [if_neg (by simp; omega)]), by rw [HS.out]; first | (simp [leastStep, *]; done) | (simp only [leastStep]; rw [if_neg (by simp; omega)])⟩
        case measure => simp [intOf]; omega
    · obtain rfl : k = m.ins.length := by omega
      go_wp2
      go_ret2
      exact ⟨by simp, rfl⟩

set_option maxHeartbeats 400000 in
theorem rmark_any (g h : Nat) (m : Meet) (w : World) (hm : MeetAt w g h m) :
    Calls Try.prog 24 #[.pointer (some ⟨g, 0, none⟩)] w fun e w' => e = .returned (.int .i64 m.mark) ∧ w = w' := by
  have hk := hm.k
  go_enter Try.func24, Try.ntmps24
  go_wp2
  go_ret
  exact ⟨rfl, rfl⟩

set_option maxHeartbeats 800000 in
theorem ron_any (g h : Nat) (m : Meet) (w : World) (hm : MeetAt w g h m) :
    Calls Try.prog 70 #[.pointer (some ⟨g, 0, none⟩)] w (MeetDoes w g h (m.on, 0)) := by
  have hk := hm.k
  have hf := hm.fg 1
  have HL := Lib.hid (rleast_any g h m w hm)
  by_cases hl : (leastOf m.ins).2 = true
  · have HT := Lib.hid hl
    generalize hq : (leastOf m.ins) = q at HL hl
    have Hq := Lib.hid hq
    clear hq
    obtain ⟨n, fd⟩ := q
    simp only at hl HL
    subst hl
    go_enter Try.func70, Try.ntmps70
    go_wp2_with (first | (go_at_call 75; refine HL.out.mono ?_; rintro e w' ⟨rfl, rfl⟩))
    all_goals
      go_ret
      refine ⟨rfl, ?_, (Keeps.refl _ _).setCell (by simp) _⟩
      exact hm.on HT.out (by rw [Hq.out]; simp only; omega)
  · have hl : (leastOf m.ins).2 = false := by simpa using hl
    have HT := Lib.hid hl
    generalize hq : (leastOf m.ins) = q at HL hl
    have Hq := Lib.hid hq
    clear hq
    obtain ⟨n, fd⟩ := q
    simp only at hl HL
    subst hl
    go_enter Try.func70, Try.ntmps70
    go_wp2_with (first | (go_at_call 75; refine HL.out.mono ?_; rintro e w' ⟨rfl, rfl⟩))
    go_ret
    exact ⟨rfl, by rw [Meet.on_no HT.out]; exact hm, Keeps.refl _ _⟩

def inRange (m : Meet) (i : Int) : Bool := decide (0 ≤ i ∧ i ≤ (m.ins.length : Int) - 1)
def wrongCode (m : Meet) (i : Int) : Int := if inRange m i then 0 else 7
theorem wrong_yes {m : Meet} {i : Int} (h : 0 ≤ i ∧ i ≤ (m.ins.length : Int) - 1) : wrongCode m i = 0 := by simp [wrongCode, inRange, h]
theorem wrong_no {m : Meet} {i : Int} (h : ¬ (0 ≤ i ∧ i ≤ (m.ins.length : Int) - 1)) : wrongCode m i = 7 := by simp [wrongCode, inRange, h]

set_option maxHeartbeats 400000 in
theorem rwrong_any (g h : Nat) (m : Meet) (w : World) (i : Int) (hi64 : inI64 i) (hm : MeetAt w g h m) :
    Calls Try.prog 56 #[.pointer (some ⟨g, 0, none⟩), .int .i64 i] w fun e w' => e = .returned (.int .i64 (wrongCode m i)) ∧ w = w' := by
  obtain ⟨cap, hs⟩ := hm.s
  have hmost := hm.most
  have hpos := hm.pos
  have hlo : -9223372036854775808 ≤ i := hi64.1
  have hhi : i ≤ 9223372036854775807 := hi64.2
  clear hm hi64
  by_cases hr : 0 ≤ i ∧ i ≤ (m.ins.length : Int) - 1
  · have HR := Lib.hid (wrong_yes hr)
    go_enter Try.func56, Try.ntmps56
    go_wp2_with (go_at_call 47; refine (rwithin_any _ _ _ _).mono ?_; rintro e w' ⟨rfl, rfl⟩)
    go_ret
    exact ⟨by rw [HR.out]; rfl, rfl⟩
  · have HR := Lib.hid (wrong_no hr)
    go_enter Try.func56, Try.ntmps56
    go_wp2_with (go_at_call 47; refine (rwithin_any _ _ _ _).mono ?_; rintro e w' ⟨rfl, rfl⟩)
    go_ret
    exact ⟨by rw [HR.out]; rfl, rfl⟩

def turnF (idle done : Bool) (x : In) : Option In := if x.closed then none else some ⟨if done then 1000000000001 else x.mark, idle, done⟩
theorem turnF_sleep : turnF true false = sleepF := by
  funext x; unfold turnF sleepF; obtain ⟨a, b, c⟩ := x; cases c <;> rfl
theorem turnF_wake : turnF false false = wakeF := by
  funext x; unfold turnF wakeF; obtain ⟨a, b, c⟩ := x; cases c <;> rfl
theorem turnF_close : turnF false true = closeF := by
  funext x; unfold turnF closeF; obtain ⟨a, b, c⟩ := x; cases c <;> rfl

set_option maxHeartbeats 2000000 in
theorem rturn_any (g h : Nat) (m : Meet) (w : World) (i : Int) (idle done : Bool) (hi64 : inI64 i) (hm : MeetAt w g h m) :
    Calls Try.prog 72 #[.pointer (some ⟨g, 0, none⟩), .int .i64 i, .bool idle, .bool done] w (MeetDoes w g h (m.turn i (turnF idle done))) := by
  have HW := Lib.hid (rwrong_any g h m w i hi64 hm)
  obtain ⟨cap, hs⟩ := hm.s
  have hmost := hm.most
  have hlo : -9223372036854775808 ≤ i := hi64.1
  have hhi : i ≤ 9223372036854775807 := hi64.2
  by_cases hr : 0 ≤ i ∧ i ≤ (m.ins.length : Int) - 1
  · obtain ⟨j, rfl⟩ := Int.eq_ofNat_of_zero_le hr.1
    have hj : j < m.ins.length := by omega
    have he : m.ins.getD j default = m.ins[j] := by simp [List.getD, hj]
    have HW2 := HW.out
    rw [wrong_yes hr] at HW2
    have HW3 := Lib.hid HW2
    clear HW HW2
    have hI := hm.i.cells j hj
    obtain ⟨c0, c1, c2⟩ := hI
    by_cases hcl : m.ins[j].closed = true
    · have HT := Lib.hid (show m.turn (j : Int) (turnF idle done) = (m, 10) by unfold Meet.turn; rw [if_pos hr]; simp only [Int.toNat_natCast, he, turnF, hcl, if_true])
      rw [hcl] at c2
      clear hcl hr he
      go_enter Try.func72, Try.ntmps72
      go_wp2_with (first | (go_at_call 56; refine HW3.out.mono ?_; rintro e w' ⟨rfl, rfl⟩))
      go_ret
      exact ⟨by rw [HT.out]; rfl, by rw [HT.out]; exact hm, Keeps.refl _ _⟩
    · have hcl : m.ins[j].closed = false := by simpa using hcl
      have HT := Lib.hid (show m.turn (j : Int) (turnF idle done) = (Meet.on { m with ins := m.ins.set j ⟨if done then 1000000000001 else m.ins[j].mark, idle, done⟩ }, 0) by unfold Meet.turn; rw [if_pos hr]; simp only [Int.toNat_natCast, he, turnF, hcl]; rfl)
      have hokm := hm.ok _ (List.getElem_mem hj)
      have hf0 := hm.i.free (j * 3)
      have hf1 := hm.i.free (j * 3 + 1)
      have hf2 := hm.i.free (j * 3 + 2)
      rw [hcl] at c2
      have hne := hm.ne
      have hs1 : ((w.setCell ⟨h, j * 3 + 1, none⟩ (.bool idle)).setCell ⟨h, j * 3 + 2, none⟩ (.bool done)).cell? ⟨g, 0, none⟩ = some (.slice (some ⟨h, 0, none⟩) m.ins.length cap) := by
        rw [cell_other _ (by simp [Ne.symm hne]), cell_other _ (by simp [Ne.symm hne])]; exact hs
      cases done
      · have hm1 : MeetAt ((w.setCell ⟨h, j * 3 + 1, none⟩ (.bool idle)).setCell ⟨h, j * 3 + 2, none⟩ (.bool false)).drew g h { m with ins := m.ins.set j ⟨m.ins[j].mark, idle, false⟩ } := by
          refine MeetAt.keeps (w := (w.setCell ⟨h, j * 3 + 1, none⟩ (.bool idle)).setCell ⟨h, j * 3 + 2, none⟩ (.bool false)) ?_ rfl rfl
          refine hm.ins (hm.i.set ⟨?_, ?_, ?_⟩ (fun o ho => ?_) (fun o => ?_)) (by simp) (((Keeps.refl _ _).setCell (by simp) _).setCell (by simp) _) (fun x hx => ?_)
          · rw [cell_other _ (by simp), cell_other _ (by simp)]; exact c0
          · rw [cell_other _ (by simp)]; exact World.cell?_setCell_same _ _ _ c1
          · exact World.cell?_setCell_same _ _ _ ((cell_other _ (by simp)).trans c2)
          · rw [cell_other _ (by simp; try omega), cell_other _ (by simp; try omega)]
          · rw [frozen_set, frozen_set]
          · rcases List.mem_or_eq_of_mem_set hx with hx | rfl
            · exact hm.ok x hx
            · exact hokm
        have hK : Keeps (fun k => k = g ∨ k = h) w ((w.setCell ⟨h, j * 3 + 1, none⟩ (.bool idle)).setCell ⟨h, j * 3 + 2, none⟩ (.bool false)).drew := (((Keeps.refl _ _).setCell (by simp) _).setCell (by simp) _).drew
        have HO := Lib.hid (ron_any g h _ _ hm1)
        clear hm hm1 hcl hr he hokm hne
        go_enter Try.func72, Try.ntmps72
        go_wp2_with (first | (go_at_call 56; refine HW3.out.mono ?_; rintro e w' ⟨rfl, rfl⟩))
        go_region
        all_goals
          go_wp2_with fail
          refine HO.out.mono ?_
          rintro e w2 ⟨rfl, hm2, hK2⟩
          go_wp2
          go_ret
          exact ⟨by rw [HT.out]; rfl, by rw [HT.out]; exact hm2, hK.trans hK2⟩
      · have hm1 : MeetAt (((w.setCell ⟨h, j * 3 + 1, none⟩ (.bool idle)).setCell ⟨h, j * 3 + 2, none⟩ (.bool true)).setCell ⟨h, j * 3, none⟩ (.int .i64 1000000000001)).drew g h { m with ins := m.ins.set j ⟨1000000000001, idle, true⟩ } := by
          refine MeetAt.keeps (w := ((w.setCell ⟨h, j * 3 + 1, none⟩ (.bool idle)).setCell ⟨h, j * 3 + 2, none⟩ (.bool true)).setCell ⟨h, j * 3, none⟩ (.int .i64 1000000000001)) ?_ rfl rfl
          refine hm.ins (hm.i.set ⟨?_, ?_, ?_⟩ (fun o ho => ?_) (fun o => ?_)) (by simp) ((((Keeps.refl _ _).setCell (by simp) _).setCell (by simp) _).setCell (by simp) _) (fun x hx => ?_)
          · exact World.cell?_setCell_same _ _ _ ((cell_other _ (by simp)).trans ((cell_other _ (by simp)).trans c0))
          · rw [cell_other _ (by simp), cell_other _ (by simp)]; exact World.cell?_setCell_same _ _ _ c1
          · rw [cell_other _ (by simp)]; exact World.cell?_setCell_same _ _ _ ((cell_other _ (by simp)).trans c2)
          · rw [cell_other _ (by simp; try omega), cell_other _ (by simp; try omega), cell_other _ (by simp; try omega)]
          · rw [frozen_set, frozen_set, frozen_set]
          · rcases List.mem_or_eq_of_mem_set hx with hx | rfl
            · exact hm.ok x hx
            · simp [okMark]
        have hK : Keeps (fun k => k = g ∨ k = h) w (((w.setCell ⟨h, j * 3 + 1, none⟩ (.bool idle)).setCell ⟨h, j * 3 + 2, none⟩ (.bool true)).setCell ⟨h, j * 3, none⟩ (.int .i64 1000000000001)).drew := ((((Keeps.refl _ _).setCell (by simp) _).setCell (by simp) _).setCell (by simp) _).drew
        have HO := Lib.hid (ron_any g h _ _ hm1)
        have hc0' : ((w.setCell ⟨h, j * 3 + 1, none⟩ (.bool idle)).setCell ⟨h, j * 3 + 2, none⟩ (.bool true)).cell? ⟨h, j * 3, none⟩ = some (.int .i64 m.ins[j].mark) := by
          rw [cell_other _ (by simp), cell_other _ (by simp)]; exact c0
        clear hm hm1 hcl hr he hokm hne
        generalize m.ins[j].mark = q0 at c0 hc0'
        generalize m.ins[j].idle = q1 at c1
        go_enter Try.func72, Try.ntmps72
        go_wp2_with (first | (go_at_call 56; refine HW3.out.mono ?_; rintro e w' ⟨rfl, rfl⟩))
        go_region
        all_goals
          go_wp2_with fail
          refine HO.out.mono ?_
          rintro e w2 ⟨rfl, hm2, hK2⟩
          go_wp2
          go_ret
          exact ⟨by rw [HT.out]; rfl, by rw [HT.out]; exact hm2, hK.trans hK2⟩
  · have HT := Lib.hid (show m.turn i (turnF idle done) = (m, 7) by unfold Meet.turn; rw [if_neg hr])
    have HW2 := HW.out
    rw [wrong_no hr] at HW2
    have HW3 := Lib.hid HW2
    clear HW HW2 hr
    go_enter Try.func72, Try.ntmps72
    go_wp2_with (first | (go_at_call 56; refine HW3.out.mono ?_; rintro e w' ⟨rfl, rfl⟩))
    go_ret
    exact ⟨by rw [HT.out]; rfl, by rw [HT.out]; exact hm, Keeps.refl _ _⟩

set_option maxHeartbeats 400000 in
theorem rIdle_any (g h : Nat) (m : Meet) (w : World) (i : Int) (hi : inI64 i) (hm : MeetAt w g h m) :
    Calls Try.prog 50 #[.pointer (some ⟨g, 0, none⟩), .int .i64 i] w (MeetDoes w g h (m.turn i sleepF)) := by
  have H := Lib.hid (rturn_any g h m w i true false hi hm)
  rw [turnF_sleep] at H
  clear hm hi
  go_enter Try.func50, Try.ntmps50
  go_wp2_with fail
  refine H.out.mono ?_
  rintro e w1 ⟨rfl, hm1, hK⟩
  go_wp2
  go_ret
  exact ⟨rfl, hm1, hK⟩

set_option maxHeartbeats 400000 in
theorem rBusy_any (g h : Nat) (m : Meet) (w : World) (i : Int) (hi : inI64 i) (hm : MeetAt w g h m) :
    Calls Try.prog 52 #[.pointer (some ⟨g, 0, none⟩), .int .i64 i] w (MeetDoes w g h (m.turn i wakeF)) := by
  have H := Lib.hid (rturn_any g h m w i false false hi hm)
  rw [turnF_wake] at H
  clear hm hi
  go_enter Try.func52, Try.ntmps52
  go_wp2_with fail
  refine H.out.mono ?_
  rintro e w1 ⟨rfl, hm1, hK⟩
  go_wp2
  go_ret
  exact ⟨rfl, hm1, hK⟩

set_option maxHeartbeats 400000 in
theorem rClose_any (g h : Nat) (m : Meet) (w : World) (i : Int) (hi : inI64 i) (hm : MeetAt w g h m) :
    Calls Try.prog 53 #[.pointer (some ⟨g, 0, none⟩), .int .i64 i] w (MeetDoes w g h (m.turn i closeF)) := by
  have H := Lib.hid (rturn_any g h m w i false true hi hm)
  rw [turnF_close] at H
  clear hm hi
  go_enter Try.func53, Try.ntmps53
  go_wp2_with fail
  refine H.out.mono ?_
  rintro e w1 ⟨rfl, hm1, hK⟩
  go_wp2
  go_ret
  exact ⟨rfl, hm1, hK⟩
end Go.Proofs.Ytfoocifhifpbdaa
