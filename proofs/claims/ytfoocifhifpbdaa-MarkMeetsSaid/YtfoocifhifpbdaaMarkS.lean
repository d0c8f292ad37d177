/- Contracts of the reference's meet, second part; Held. -/
import Derived.Test.YtfoocifhifpbdaaMarkR
import Derived.Test.YtfoocifhifpbdaaMarkH
namespace Go.Proofs.Ytfoocifhifpbdaa
open Go.RowKit

theorem MeetAt.setM {w : World} {g h : Nat} {m : Meet} (hm : MeetAt w g h m) {j : Nat} (hj : j < m.ins.length) {n : Int} (hn : okMark n) :
    MeetAt ((w.setCell ⟨h, j * 3, none⟩ (.int .i64 n)).setCell ⟨h, j * 3 + 1, none⟩ (.bool false)) g h { m with ins := m.ins.set j { m.ins[j] with mark := n, idle := false } } := by
  refine hm.ins (hm.i.set ((hm.i.cells j hj).setM n) (fun o ho => ?_) (fun o => ?_)) (by simp) (((Keeps.refl _ _).setCell (by simp) _).setCell (by simp) _) (fun x hx => ?_)
  · rw [cell_other _ (by simp; try omega), cell_other _ (by simp; try omega)]
  · rw [frozen_set, frozen_set]
  · rcases List.mem_or_eq_of_mem_set hx with hx | rfl
    · exact hm.ok x hx
    · exact hn

set_option maxHeartbeats 2000000 in
theorem rSet_any (g h : Nat) (m : Meet) (w : World) (i n : Int) (hi64 : inI64 i) (hm : MeetAt w g h m) :
    Calls Try.prog 48 #[.pointer (some ⟨g, 0, none⟩), .int .i64 i, .int .i64 n] w (MeetDoes w g h (m.setM i n)) := by
  have HW := rwrong_any g h m w i hi64 hm
  obtain ⟨cap, hs⟩ := hm.s
  have hmost := hm.most
  have hlo : -9223372036854775808 ≤ i := hi64.1
  have hhi : i ≤ 9223372036854775807 := hi64.2
  by_cases hr : 0 ≤ i ∧ i ≤ (m.ins.length : Int) - 1
  · rw [wrong_yes hr] at HW
    have HW3 := Lib.hid HW
    clear HW
    obtain ⟨j, rfl⟩ := Int.eq_ofNat_of_zero_le hr.1
    have hj : j < m.ins.length := by omega
    have he : m.ins.getD j default = m.ins[j] := by simp [List.getD, hj]
    by_cases hn : okMark n
    · have hd : decide (-1000000000000 ≤ n ∧ n ≤ 1000000000001) = true := by simpa [okMark] using hn
      have hI := hm.i.cells j hj
      obtain ⟨c0, c1, c2⟩ := hI
      by_cases hlt : n < m.ins[j].mark
      · have HT := Lib.hid (show m.setM (j : Int) n = (m, 10) by unfold Meet.setM; rw [if_pos hn]; unfold Meet.turn; rw [if_pos hr]; simp only [Int.toNat_natCast, he, setF, if_pos hlt])
        clear hr he c1 c2 hn
        generalize m.ins[j].mark = q at c0 hlt
        go_enter Try.func48, Try.ntmps48
        go_wp2_with (first | (go_at_call 56; refine HW3.out.mono ?_; rintro e w' ⟨rfl, rfl⟩) | (go_at_call 47; refine (rwithin_any _ _ _ _).mono ?_; rintro e w' ⟨rfl, rfl⟩))
        go_ret
        exact ⟨by rw [HT.out]; rfl, by rw [HT.out]; exact hm, Keeps.refl _ _⟩
      · have HT := Lib.hid (show m.setM (j : Int) n = (Meet.on { m with ins := m.ins.set j { m.ins[j] with mark := n, idle := false } }, 0) by unfold Meet.setM; rw [if_pos hn]; unfold Meet.turn; rw [if_pos hr]; simp only [Int.toNat_natCast, he, setF, if_neg hlt])
        have hf0 := hm.i.free (j * 3)
        have hf1 := hm.i.free (j * 3 + 1)
        have hne := hm.ne
        have hm1 : MeetAt ((w.setCell ⟨h, j * 3, none⟩ (.int .i64 n)).setCell ⟨h, j * 3 + 1, none⟩ (.bool false)).drew g h { m with ins := m.ins.set j { m.ins[j] with mark := n, idle := false } } :=
          MeetAt.keeps (w := (w.setCell ⟨h, j * 3, none⟩ (.int .i64 n)).setCell ⟨h, j * 3 + 1, none⟩ (.bool false)) (hm.setM hj hn) rfl rfl
        have hK : Keeps (fun k => k = g ∨ k = h) w ((w.setCell ⟨h, j * 3, none⟩ (.int .i64 n)).setCell ⟨h, j * 3 + 1, none⟩ (.bool false)).drew := (((Keeps.refl _ _).setCell (by simp) _).setCell (by simp) _).drew
        have HO := Lib.hid (ron_any g h _ _ hm1)
        clear hm hm1 hr he hne c2 hn
        generalize m.ins.set j { m.ins[j] with mark := n, idle := false } = ys at HO HT
        generalize m.ins[j].mark = q at c0 hlt
        generalize m.ins[j].idle = q1 at c1
        go_enter Try.func48, Try.ntmps48
        go_wp2_with (first | (go_at_call 56; refine HW3.out.mono ?_; rintro e w' ⟨rfl, rfl⟩) | (go_at_call 47; refine (rwithin_any _ _ _ _).mono ?_; rintro e w' ⟨rfl, rfl⟩))
        go_region
        all_goals
          go_wp2_with fail
          refine HO.out.mono ?_
          rintro e w2 ⟨rfl, hm2, hK2⟩
          go_wp2
          go_ret
          exact ⟨by rw [HT.out]; rfl, by rw [HT.out]; exact hm2, hK.trans hK2⟩
    · have hd : decide (-1000000000000 ≤ n ∧ n ≤ 1000000000001) = false := by simpa [okMark] using hn
      have HT := Lib.hid (show m.setM (j : Int) n = (m, 7) by unfold Meet.setM; rw [if_neg hn])
      clear hn hr he
      go_enter Try.func48, Try.ntmps48
      go_wp2_with (first | (go_at_call 56; refine HW3.out.mono ?_; rintro e w' ⟨rfl, rfl⟩) | (go_at_call 47; refine (rwithin_any _ _ _ _).mono ?_; rintro e w' ⟨rfl, rfl⟩))
      go_ret
      exact ⟨by rw [HT.out]; rfl, by rw [HT.out]; exact hm, Keeps.refl _ _⟩
  · rw [wrong_no hr] at HW
    have HW3 := Lib.hid HW
    have HT := Lib.hid (show m.setM i n = (m, 7) by unfold Meet.setM; unfold Meet.turn; rw [if_neg hr]; split <;> rfl)
    clear HW hr
    go_enter Try.func48, Try.ntmps48
    go_wp2_with (first | (go_at_call 56; refine HW3.out.mono ?_; rintro e w' ⟨rfl, rfl⟩))
    go_ret
    exact ⟨by rw [HT.out]; rfl, by rw [HT.out]; exact hm, Keeps.refl _ _⟩

set_option maxHeartbeats 1000000 in
theorem rInputs_any (g h : Nat) (m : Meet) (w : World) (hm : MeetAt w g h m) :
    Calls Try.prog 25 #[.pointer (some ⟨g, 0, none⟩)] w (NewInts w (m.ins.map (·.mark))) := by
  obtain ⟨cap, hs⟩ := hm.s
  have hmost := hm.most
  have hlg := hm.ltg
  go_enter Try.func25, Try.ntmps25
  go_wp2
  go_loopw [3, 4] (fun v i wr => ∃ k : Nat, k ≤ m.ins.length ∧ i = .int .i64 k ∧ Owns tInt wr w.heap.size 3 v ((m.ins.map (·.mark)).take k) ∧ Below w.heap.size w wr) (fun _ i _ => m.ins.length - (intOf i).toNat)
  case atStart => exact ⟨0, by omega, rfl, Owns.nil _ _ _ _, Below.refl _ _⟩
  case round =>
    obtain ⟨k, hk, rfl, hown, hB⟩ := hrel
    have hs' := (mem_of_block (hB.block g hlg) 0).trans hs
    simp only [mem] at hs'
    by_cases hlt : k < m.ins.length
    · have hI := (hm.i.cells k hlt).keeps (hB.block h (hm.i.cells k hlt).lt)
      obtain ⟨c0, c1, c2⟩ := hI
      have hsz := hB.size
      have hok := hm.ok _ (List.getElem_mem hlt)
      have hin : inI64 m.ins[k].mark := by unfold okMark at hok; unfold inI64; omega
      have HT := Lib.hid (show (m.ins.map (·.mark)).take (k + 1) = (m.ins.map (·.mark)).take k ++ [m.ins[k].mark] by rw [List.take_succ_eq_append_getElem (by simpa using hlt)]; simp)
      have hlen : ((m.ins.map (·.mark)).take k).length = k := by simp; omega
      have Hlen := Lib.hid hlen
      clear hlen hok hm hs
      generalize (m.ins.map (·.mark)).take k = l at hown HT Hlen
      generalize m.ins[k] = x at c0 c1 c2 hin HT
      go_wp2_with (at_builtin; refine wpList_append_int rfl _ _ 22 rfl Try.underlying22 Try.infoInt w.heap.size _ l rfl (hown.alloc _) _ _ x.mark rfl ?c1 ?c2 ?c3 ?c4 ?_)
      case c1 => exact cell_new 0 (by simp)
      case c2 => exact hin
      case c3 => rw [Hlen.out]; omega
      case c4 => simp; omega
      · intro v' w1 hown' hgrow _
        have hB1 : Below w.heap.size w w1 := (hB.alloc hsz _).grown hgrow (by simp; omega) (fun k hk => (hown.lt k hk).1)
        clear hgrow hB hown c0 c1 c2
        go_wp2
        go_roundw
        case rel => exact ⟨k + 1, by omega, by go_num, by rw [HT.out]; exact hown', hB1⟩
        case measure => simp [intOf]; omega
    · obtain rfl : k = m.ins.length := by omega
      go_wp2
      go_ret
      rw [List.take_of_length_le (by simp)] at hown
      exact ⟨_, rfl, owns_ints hown, hB⟩

def idleAt (m : Meet) (i : Int) : Bool := decide (0 ≤ i ∧ i ≤ (m.ins.length : Int) - 1) && (m.ins.getD i.toNat default).idle
set_option maxHeartbeats 1000000 in
theorem rIsIdle_any (g h : Nat) (m : Meet) (w : World) (i : Int) (hi64 : inI64 i) (hm : MeetAt w g h m) :
    Calls Try.prog 27 #[.pointer (some ⟨g, 0, none⟩), .int .i64 i] w fun e w' => e = .returned (.bool (idleAt m i)) ∧ w = w' := by
  have HW := rwrong_any g h m w i hi64 hm
  obtain ⟨cap, hs⟩ := hm.s
  have hmost := hm.most
  by_cases hr : 0 ≤ i ∧ i ≤ (m.ins.length : Int) - 1
  · rw [wrong_yes hr] at HW
    obtain ⟨j, rfl⟩ := Int.eq_ofNat_of_zero_le hr.1
    have hj : j < m.ins.length := by omega
    have hc := (hm.i.cells j hj).c1
    have he : (m.ins.getD j default) = m.ins[j] := by simp [List.getD, hj]
    have HE := Lib.hid (show idleAt m (j : Int) = m.ins[j].idle by simp only [idleAt, Int.toNat_natCast, he]; simp; omega)
    have HW3 := Lib.hid HW
    generalize m.ins[j].idle = q at hc HE
    clear he hm hi64 HW hr
    go_enter Try.func27, Try.ntmps27
    go_wp2_with (first | (go_at_call 56; refine HW3.out.mono ?_; rintro e w' ⟨rfl, rfl⟩))
    go_ret
    exact ⟨by rw [HE.out]; rfl, rfl⟩
  · rw [wrong_no hr] at HW
    have HE := Lib.hid (show idleAt m i = false by simp [idleAt, hr])
    have HW3 := Lib.hid HW
    clear hm hi64 HW hr
    go_enter Try.func27, Try.ntmps27
    go_wp2_with (first | (go_at_call 56; refine HW3.out.mono ?_; rintro e w' ⟨rfl, rfl⟩))
    go_ret
    exact ⟨by rw [HE.out]; rfl, rfl⟩
end Go.Proofs.Ytfoocifhifpbdaa
