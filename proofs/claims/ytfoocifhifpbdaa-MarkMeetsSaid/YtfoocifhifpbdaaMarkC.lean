/- Contracts of package mark: Set, Inputs, IsIdle, Held. -/
import Derived.Test.YtfoocifhifpbdaaMarkB
namespace Go.Proofs.Ytfoocifhifpbdaa
open Go.RowKit

theorem Try.infoInt : (Try.prog.info? 3).map (fun i => (i.zero, i.size, i.bytes)) = some (some (.int .i64 0), 1, 8) := by kernel_rfl

instance (n : Int) : Decidable (okMark n) := by unfold okMark; infer_instance
def Meet.setM (m : Meet) (i n : Int) : Meet × Int :=
  if okMark n then m.turn i (setF n) else (m, 7)

theorem setF_ok (n : Int) (hn : okMark n) (x y : In) (_h : okMark x.mark) (e : setF n x = some y) : okMark y.mark := by
  unfold setF at e
  split at e
  · cases e
  · simp only [Option.some.injEq] at e
    subst e
    exact hn

theorem InAt.setM {w : World} {h o : Nat} {x : In} (k : InAt w h o x) (n : Int) : InAt ((w.setCell ⟨h, o, none⟩ (.int .i64 n)).setCell ⟨h, o + 1, none⟩ (.bool false)) h o { x with mark := n, idle := false } :=
  ⟨(cell_other _ (by simp)).trans (World.cell?_setCell_same _ _ _ k.c0), World.cell?_setCell_same _ _ _ ((cell_other _ (by simp)).trans k.c1), (cell_other _ (by simp)).trans ((cell_other _ (by simp)).trans k.c2)⟩

set_option maxHeartbeats 1000000 in
theorem mSet_range (g h : Nat) (m : Meet) (w : World) (i n : Int) (hi64 : inI64 i) (hm : MeetAt w g h m) (hr : ¬ (0 ≤ i ∧ i ≤ (m.ins.length : Int) - 1) ∨ ¬ okMark n) :
    Calls Try.prog 19 #[.pointer (some ⟨g, 0, none⟩), .int .i64 i, .int .i64 n] w fun e w' => e = .returned (.int .i64 7) ∧ w = w' := by
  obtain ⟨cap, hs⟩ := hm.s
  have hmost := hm.most
  have hpos := hm.pos
  have hlo : -9223372036854775808 ≤ i := hi64.1
  have hhi : i ≤ 9223372036854775807 := hi64.2
  by_cases h1 : 0 ≤ i ∧ i ≤ (m.ins.length : Int) - 1
  · have h2 : ¬ (-1000000000000 ≤ n ∧ n ≤ 1000000000001) := by rcases hr with h | h; exact absurd h1 h; exact h
    clear hr hi64 hm
    go_enter Try.func19, Try.ntmps19
    go_wp2_with (go_at_call 42; refine (mwithin_any _ _ _ _).mono ?_; rintro e w' ⟨rfl, rfl⟩)
    go_ret
    exact ⟨rfl, rfl⟩
  · clear hr hi64 hm
    go_enter Try.func19, Try.ntmps19
    go_wp2_with (go_at_call 42; refine (mwithin_any _ _ _ _).mono ?_; rintro e w' ⟨rfl, rfl⟩)
    go_ret
    exact ⟨rfl, rfl⟩

set_option maxHeartbeats 1000000 in
theorem mSet_state (g h : Nat) (m : Meet) (w : World) (j : Nat) (n : Int) (hj : j < m.ins.length) (hm : MeetAt w g h m) (hn : okMark n) (hlt : n < m.ins[j].mark) :
    Calls Try.prog 19 #[.pointer (some ⟨g, 0, none⟩), .int .i64 j, .int .i64 n] w fun e w' => e = .returned (.int .i64 10) ∧ w = w' := by
  obtain ⟨cap, hs⟩ := hm.s
  have hmost := hm.most
  obtain ⟨hn0, hn1⟩ := hn
  have hc := (hm.i.cells j hj).c0
  clear hm
  generalize m.ins[j].mark = q at hlt hc
  go_enter Try.func19, Try.ntmps19
  go_wp2
  go_ret
  exact ⟨rfl, rfl⟩

set_option maxHeartbeats 1000000 in
theorem mSet_ok (g h : Nat) (m : Meet) (w : World) (j : Nat) (n : Int) (hj : j < m.ins.length) (hm : MeetAt w g h m) (hn : okMark n) (hlt : ¬ n < m.ins[j].mark) :
    Calls Try.prog 19 #[.pointer (some ⟨g, 0, none⟩), .int .i64 j, .int .i64 n] w (MeetDoes w g h (Meet.on { m with ins := m.ins.set j { m.ins[j] with mark := n, idle := false } }, 0)) := by
  obtain ⟨cap, hs⟩ := hm.s
  have hmost := hm.most
  have hn' := hn
  obtain ⟨hn0, hn1⟩ := hn
  have hI := hm.i.cells j hj
  obtain ⟨hc, hc1, hc2⟩ := hI
  have hf0 := hm.i.free (j * 3)
  have hf1 := hm.i.free (j * 3 + 1)
  have hm1 : MeetAt ((w.setCell ⟨h, j * 3, none⟩ (.int .i64 n)).setCell ⟨h, j * 3 + 1, none⟩ (.bool false)) g h { m with ins := m.ins.set j { m.ins[j] with mark := n, idle := false } } := by
    refine hm.ins (hm.i.set ((hm.i.cells j hj).setM n) (fun o ho => ?_) (fun o => ?_)) (by simp) (((Keeps.refl _ _).setCell (by simp) _).setCell (by simp) _) (fun x hx => ?_)
    · rw [cell_other _ (by simp; try omega), cell_other _ (by simp; try omega)]
    · rw [frozen_set, frozen_set]
    · rcases List.mem_or_eq_of_mem_set hx with hx | rfl
      · exact hm.ok x hx
      · exact hn'
  have hK : Keeps (fun k => k = g ∨ k = h) w ((w.setCell ⟨h, j * 3, none⟩ (.int .i64 n)).setCell ⟨h, j * 3 + 1, none⟩ (.bool false)) := ((Keeps.refl _ _).setCell (by simp) _).setCell (by simp) _
  clear hm hc2
  generalize m.ins.set j { m.ins[j] with mark := n, idle := false } = ys at hm1 ⊢
  generalize m.ins[j].mark = q at hlt hc
  generalize m.ins[j].idle = q' at hc1
  go_enter Try.func19, Try.ntmps19
  go_wp2_with (go_at_call 42; refine (mwithin_any _ _ _ _).mono ?_; rintro e w' ⟨rfl, rfl⟩)
  refine (mbusy_any g h _ _ hm1).mono ?_
  rintro e w2 ⟨rfl, hb2⟩
  have hm2 := hm1.pure hb2
  have hK2 := hK.pure hb2
  clear hm1 hK hb2 hs hc hc1 hf0 hf1 hlt
  generalize hq : (leastOf ys) = q
  have Hq := Lib.hid hq
  clear hq
  obtain ⟨b, fd⟩ := q
  simp only
  cases fd
  · go_wp2
    go_ret
    exact ⟨rfl, by rw [Meet.on_no (by show (leastOf ys).2 = false; rw [Hq.out])]; exact hm2, hK2⟩
  · have hc := hm2.k
    have hfz := hm2.fg 1
    simp only at hc
    go_wp2
    all_goals
      go_ret
      refine ⟨rfl, ?_, hK2.setCell (by simp) _⟩
      exact hm2.on (by show (leastOf ys).2 = true; rw [Hq.out]) (by show _ = max m.mark (leastOf ys).1; rw [Hq.out]; simp only; omega)

theorem mSet_any (g h : Nat) (m : Meet) (w : World) (i n : Int) (hi64 : inI64 i) (hm : MeetAt w g h m) :
    Calls Try.prog 19 #[.pointer (some ⟨g, 0, none⟩), .int .i64 i, .int .i64 n] w (MeetDoes w g h (m.setM i n)) := by
  unfold Meet.setM
  by_cases hn : okMark n
  · rw [if_pos hn]
    unfold Meet.turn
    by_cases hr : 0 ≤ i ∧ i ≤ (m.ins.length : Int) - 1
    · rw [if_pos hr]
      obtain ⟨j, rfl⟩ := Int.eq_ofNat_of_zero_le hr.1
      have hj : j < m.ins.length := by omega
      have he : m.ins.getD j default = m.ins[j] := by simp [List.getD, hj]
      simp only [Int.toNat_natCast, he]
      by_cases hlt : n < m.ins[j].mark
      · refine (mSet_state g h m w j n hj hm hn hlt).mono fun e w' ⟨h1, h2⟩ => ?_
        subst h2
        simp only [setF, if_pos hlt]
        exact ⟨h1, hm, Keeps.refl _ _⟩
      · simp only [setF, if_neg hlt]
        exact mSet_ok g h m w j n hj hm hn hlt
    · rw [if_neg hr]
      refine (mSet_range g h m w i n hi64 hm (.inl hr)).mono fun e w' ⟨h1, h2⟩ => ?_
      subst h2
      exact ⟨h1, hm, Keeps.refl _ _⟩
  · rw [if_neg hn]
    refine (mSet_range g h m w i n hi64 hm (.inr hn)).mono fun e w' ⟨h1, h2⟩ => ?_
    subst h2
    exact ⟨h1, hm, Keeps.refl _ _⟩

/-- A result that is a new slice of numbers. -/
def NewInts (w : World) (xs : List Int) (e : Ending) (w' : World) : Prop :=
  ∃ v, e = .returned v ∧ (tSlice tInt).rv ((mem w').on (w.heap.size ≤ ·)) [v] xs ∧ Below w.heap.size w w'
theorem owns_ints {w' : World} {B : Nat} {e : TypeId} {v : Value} {xs : List Int} (h : Owns tInt w' B e v xs) : (tSlice tInt).rv ((mem w').on (B ≤ ·)) [v] xs :=
  h.rv (fun _ hb => hb) (fun _ _ _ hk => hk)

set_option maxHeartbeats 1000000 in
theorem mInputs_any (g h : Nat) (m : Meet) (w : World) (hm : MeetAt w g h m) :
    Calls Try.prog 20 #[.pointer (some ⟨g, 0, none⟩)] w (NewInts w (m.ins.map (·.mark))) := by
  obtain ⟨cap, hs⟩ := hm.s
  have hmost := hm.most
  go_enter Try.func20, Try.ntmps20
  go_wp2
  go_loopw [3, 13] (fun v i wr => ∃ k : Nat, k ≤ m.ins.length ∧ i = .int .i64 k ∧ Owns tInt wr w.heap.size 3 v ((m.ins.map (·.mark)).take k) ∧ Below w.heap.size w wr) (fun _ i _ => m.ins.length - (intOf i).toNat)
  case atStart => exact ⟨0, by omega, rfl, Owns.nil _ _ _ _, Below.refl _ _⟩
  case round =>
    obtain ⟨k, hk, rfl, hown, hB⟩ := hrel
    by_cases hlt : k < m.ins.length
    · have hI := (hm.i.cells k hlt).keeps (hB.block h (hm.i.cells k hlt).lt)
      obtain ⟨c0, c1, c2⟩ := hI
      have hsz := hB.size
      have hok := hm.ok _ (List.getElem_mem hlt)
      have hin : inI64 m.ins[k].mark := by unfold okMark at hok; unfold inI64; omega
      have HT := Lib.hid (show (m.ins.map (·.mark)).take (k + 1) = (m.ins.map (·.mark)).take k ++ [m.ins[k].mark] by rw [List.take_succ_eq_append_getElem (by simpa using hlt)]; simp)
      have hlen : ((m.ins.map (·.mark)).take k).length = k := by simp; omega
      have Hlen := Lib.hid hlen
      clear hlen hok hm hs
      generalize (m.ins.map (·.mark)).take k = l at hown HT Hlen
      generalize m.ins[k] = x at c0 c1 c2 hin HT
      go_wp2_with (at_builtin; refine wpList_append_int rfl _ _ 22 rfl Try.underlying22 Try.infoInt w.heap.size _ l rfl ((hown.alloc _).alloc _) _ _ x.mark rfl ?c1 ?c2 ?c3 ?c4 ?_)
      case c1 => exact cell_new 0 (by simp)
      case c2 => exact hin
      case c3 => rw [Hlen.out]; omega
      case c4 => simp; omega
      · intro v' w1 hown' hgrow _
        have hB1 : Below w.heap.size w w1 := ((hB.alloc hsz _).alloc (by simp; omega) _).grown hgrow (by simp; omega) (fun k hk => (hown.lt k hk).1)
        clear hgrow hB hown c0 c1 c2
        go_wp2
        go_roundw
        case rel => exact ⟨k + 1, by omega, by go_num, by rw [HT.out]; exact hown', hB1⟩
        case measure => simp [intOf]; omega
    · obtain rfl : k = m.ins.length := by omega
      go_wp2
      go_ret
      rw [List.take_of_length_le (by simp)] at hown
      exact ⟨_, rfl, owns_ints hown, hB⟩
end Go.Proofs.Ytfoocifhifpbdaa
