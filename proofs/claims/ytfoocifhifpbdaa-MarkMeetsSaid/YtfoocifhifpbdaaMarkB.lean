/- Contracts of package mark: the meet's methods that change it. -/
import Derived.Test.YtfoocifhifpbdaaMarkA
namespace Go.Proofs.Ytfoocifhifpbdaa
open Go.RowKit

def Meet.on (m : Meet) : Meet := if (leastOf m.ins).2 then { m with mark := max m.mark (leastOf m.ins).1 } else m
def Meet.turn (m : Meet) (i : Int) (f : In → Option In) : Meet × Int :=
  if 0 ≤ i ∧ i ≤ (m.ins.length : Int) - 1 then
    match f (m.ins.getD i.toNat default) with
    | none => (m, 10)
    | some y => (Meet.on { m with ins := m.ins.set i.toNat y }, 0)
  else (m, 7)
def sleepF (x : In) : Option In := if x.closed then none else some { x with idle := true }
def wakeF (x : In) : Option In := if x.closed then none else some { x with idle := false }
def closeF (x : In) : Option In := if x.closed then none else some ⟨1000000000001, false, true⟩
def setF (n : Int) (x : In) : Option In := if n < x.mark then none else some { x with mark := n, idle := false }

theorem InsAt.set {w w' : World} {h : Nat} {xs : List In} (k : InsAt w h xs) {i : Nat} {y : In} (hy : InAt w' h (i * 3) y)
    (ho : ∀ o, (o < i * 3 ∨ i * 3 + 3 ≤ o) → w'.cell? ⟨h, o, none⟩ = w.cell? ⟨h, o, none⟩) (hf : ∀ o, w'.frozen? ⟨h, o, none⟩ = w.frozen? ⟨h, o, none⟩) : InsAt w' h (xs.set i y) := by
  refine ⟨fun j hj => ?_, fun o => (hf o).trans (k.free o)⟩
  rw [List.length_set] at hj
  by_cases e : i = j
  · subst e
    rw [List.getElem_set_self]; exact hy
  · rw [List.getElem_set_ne e]
    have hc := k.cells j hj
    exact ⟨(ho _ (by omega)).trans hc.c0, (ho _ (by omega)).trans hc.c1, (ho _ (by omega)).trans hc.c2⟩

theorem leastOf_ok : ∀ (xs : List In), (∀ x ∈ xs, okMark x.mark) → (leastOf xs).2 = true → okMark (leastOf xs).1 := by
  have key : ∀ (xs : List In) (a : Int × Bool), (∀ x ∈ xs, okMark x.mark) → (a.2 = true → okMark a.1) → (xs.foldl leastStep a).2 = true → okMark (xs.foldl leastStep a).1 := by
    intro xs
    induction xs with
    | nil => intro a _ h; exact h
    | cons x xs ih =>
      intro a hx h
      rw [List.foldl_cons]
      refine ih _ (fun y hy => hx y (by simp [hy])) ?_
      unfold leastStep
      split
      · intro _; exact hx x (by simp)
      · exact h
  exact fun xs h => key xs _ h (by simp)

theorem MeetAt.on {w : World} {g h : Nat} {m : Meet} (k : MeetAt w g h m) (hf : (leastOf m.ins).2 = true) {v : Int} (hv : v = max m.mark (leastOf m.ins).1) : MeetAt (w.setCell ⟨g, 1, none⟩ (.int .i64 v)) g h m.on := by
  subst hv
  have hok := leastOf_ok m.ins k.ok hf
  have hokm := k.okm
  have hne := k.ne
  have hb : ∀ o, (w.setCell ⟨g, 1, none⟩ (.int .i64 (max m.mark (leastOf m.ins).1))).cell? ⟨h, o, none⟩ = w.cell? ⟨h, o, none⟩ := fun o => cell_other _ (by simp [hne])
  unfold Meet.on
  rw [if_pos hf]
  refine ⟨let ⟨cap, e⟩ := k.s; ⟨cap, ?_⟩, ?_, fun o => (frozen_set _ _ _ _).trans (k.fg o), k.ne, k.pos, k.most, ⟨fun j hj => ?_, fun o => (frozen_set _ _ _ _).trans (k.i.free o)⟩, k.ok, ?_⟩
  · rw [cell_other _ (by simp)]; exact e
  · exact World.cell?_setCell_same _ _ _ k.k
  · have hc := k.i.cells j hj
    exact ⟨(hb _).trans hc.c0, (hb _).trans hc.c1, (hb _).trans hc.c2⟩
  · simp only [okMark] at *; omega

theorem Meet.on_no {m : Meet} (h : (leastOf m.ins).2 = false) : m.on = m := by unfold Meet.on; rw [if_neg (by simp [h])]

theorem InAt.upd {w : World} {h o : Nat} {x : In} (k : InAt w h o x) : InAt (w.setCell ⟨h, o + 1, none⟩ (.bool true)) h o { x with idle := true } ∧ InAt (w.setCell ⟨h, o + 1, none⟩ (.bool false)) h o { x with idle := false } :=
  ⟨⟨(cell_other _ (by simp)).trans k.c0, World.cell?_setCell_same _ _ _ k.c1, (cell_other _ (by simp)).trans k.c2⟩,
   ⟨(cell_other _ (by simp)).trans k.c0, World.cell?_setCell_same _ _ _ k.c1, (cell_other _ (by simp)).trans k.c2⟩⟩

/-- What a method of an input does to the inputs. -/
def InTurn (w : World) (h : Nat) (xs : List In) (i : Nat) (f : In → Option In) (e : Ending) (w' : World) : Prop :=
  match f (xs.getD i default) with
  | none => e = .returned (.int .i64 10) ∧ w = w'
  | some y => e = .returned (.int .i64 0) ∧ InsAt w' h (xs.set i y) ∧ Keeps (fun k => k = h) w w'

theorem sleep_turn (h i : Nat) (xs : List In) (w : World) (hx : InsAt w h xs) (hi : i < xs.length) :
    Calls Try.prog 71 #[.pointer (some ⟨h, i * 3, none⟩)] w (InTurn w h xs i sleepF) := by
  have hc := hx.cells i hi
  have e : xs.getD i default = xs[i] := by simp [List.getD, hi]
  by_cases c : xs[i].closed = true
  · refine (sleep_bad h _ _ w hc c).mono fun e w' he => ?_
    simpa [InTurn, sleepF, hi, c] using he
  · simp only [Bool.not_eq_true] at c
    refine (sleep_ok h _ _ w hc c (hx.free _)).mono fun e w' ⟨he, hw⟩ => ?_
    subst hw
    simp only [InTurn, sleepF, hi, c, List.getD_eq_getElem?_getD, List.getElem?_eq_getElem, Option.getD_some]
    refine ⟨he, hx.set (c ▸ hc.upd.1) (fun o ho => cell_other _ (by simp; try omega)) (fun o => frozen_set _ _ _ _), (Keeps.refl _ _).setCell (by simp) _⟩

theorem wake_turn (h i : Nat) (xs : List In) (w : World) (hx : InsAt w h xs) (hi : i < xs.length) :
    Calls Try.prog 73 #[.pointer (some ⟨h, i * 3, none⟩)] w (InTurn w h xs i wakeF) := by
  have hc := hx.cells i hi
  by_cases c : xs[i].closed = true
  · refine (wake_bad h _ _ w hc c).mono fun e w' he => ?_
    simpa [InTurn, wakeF, hi, c] using he
  · simp only [Bool.not_eq_true] at c
    refine (wake_ok h _ _ w hc c (hx.free _)).mono fun e w' ⟨he, hw⟩ => ?_
    subst hw
    simp only [InTurn, wakeF, hi, c, List.getD_eq_getElem?_getD, List.getElem?_eq_getElem, Option.getD_some]
    refine ⟨he, hx.set (c ▸ hc.upd.2) (fun o ho => cell_other _ (by simp; try omega)) (fun o => frozen_set _ _ _ _), (Keeps.refl _ _).setCell (by simp) _⟩

theorem close_turn (h i : Nat) (xs : List In) (w : World) (hx : InsAt w h xs) (hi : i < xs.length) :
    Calls Try.prog 45 #[.pointer (some ⟨h, i * 3, none⟩)] w (InTurn w h xs i closeF) := by
  have hc := hx.cells i hi
  by_cases c : xs[i].closed = true
  · refine (close_bad h _ _ w hc c).mono fun e w' he => ?_
    simpa [InTurn, closeF, hi, c] using he
  · simp only [Bool.not_eq_true] at c
    refine (close_ok h _ _ w hc c hx.free).mono fun e w' ⟨he, hw⟩ => ?_
    subst hw
    simp only [InTurn, closeF, hi, c, List.getD_eq_getElem?_getD, List.getElem?_eq_getElem, Option.getD_some]
    refine ⟨he, hx.set ⟨?_, ?_, ?_⟩ (fun o ho => ?_) (fun o => ?_), (((Keeps.refl _ _).setCell (by simp) _).setCell (by simp) _).setCell (by simp) _⟩
    · rw [cell_other _ (by simp), cell_other _ (by simp)]; exact World.cell?_setCell_same _ _ _ hc.c0
    · rw [cell_other _ (by simp)]; exact World.cell?_setCell_same _ _ _ ((cell_other _ (by simp)).trans hc.c1)
    · exact World.cell?_setCell_same _ _ _ (((cell_other _ (by simp)).trans ((cell_other _ (by simp)).trans hc.c2)))
    · rw [cell_other _ (by simp; try omega), cell_other _ (by simp; try omega), cell_other _ (by simp; try omega)]
    · rw [frozen_set, frozen_set, frozen_set]

def MeetDoes (w : World) (g h : Nat) (r : Meet × Int) (e : Ending) (w' : World) : Prop :=
  e = .returned (.int .i64 r.2) ∧ MeetAt w' g h r.1 ∧ Keeps (fun k => k = g ∨ k = h) w w'

theorem MeetAt.ins {w w' : World} {g h : Nat} {m : Meet} (k : MeetAt w g h m) {ys : List In} (hi : InsAt w' h ys) (hl : ys.length = m.ins.length) (hk : Keeps (fun b => b = h) w w') (hok : ∀ x ∈ ys, okMark x.mark) : MeetAt w' g h { m with ins := ys } := by
  have hg := hk.block g k.ltg (fun e => k.ne e)
  exact ⟨let ⟨cap, e⟩ := k.s; ⟨cap, by rw [hl]; exact (mem_of_block hg _).trans e⟩, (mem_of_block hg _).trans k.k, fun o => (World.frozen?_of_block (w := w) (a := ⟨g, o, none⟩) hg).trans (k.fg o), k.ne, by rw [hl]; exact k.pos, by rw [hl]; exact k.most, hi, hok, k.okm⟩

set_option maxHeartbeats 1000000 in
theorem change_any (g h : Nat) (m : Meet) (w : World) (i : Int) (F : FuncId) (f : In → Option In) (hi64 : inI64 i) (hm : MeetAt w g h m) (hok : ∀ x y, okMark x.mark → f x = some y → okMark y.mark)
    (hcf : ∀ args w, Sem.run Try.prog (callFunc F args) w = .ok (.enter F args) w) (hF : ∀ i, i < m.ins.length → Calls Try.prog F #[.pointer (some ⟨h, i * 3, none⟩)] w (InTurn w h m.ins i f)) :
    Calls Try.prog 44 #[.pointer (some ⟨g, 0, none⟩), .int .i64 i, .func (.func F) #[] #[]] w (MeetDoes w g h (m.turn i f)) := by
  obtain ⟨cap, hs⟩ := hm.s
  have hmost := hm.most
  have hpos := hm.pos
  have HF := Lib.hid hF
  clear hF
  have hlo : -9223372036854775808 ≤ i := hi64.1
  have hhi : i ≤ 9223372036854775807 := hi64.2
  by_cases hr : 0 ≤ i ∧ i ≤ (m.ins.length : Int) - 1
  · obtain ⟨j, rfl⟩ := Int.eq_ofNat_of_zero_le hr.1
    have hj : j < m.ins.length := by omega
    go_enter Try.func44, Try.ntmps44
    go_wp2_with (go_at_call 42; refine (mwithin_any _ _ _ _).mono ?_; rintro e w' ⟨rfl, rfl⟩)
    refine (HF.out j hj).mono ?_
    clear HF hcf hlo hhi hi64 hs
    intro e w1 hI
    unfold InTurn at hI
    have hxok : okMark (m.ins.getD j default).mark := by
      have : m.ins.getD j default = m.ins[j] := by simp [List.getD, hj]
      rw [this]; exact hm.ok _ (List.getElem_mem _)
    cases hfx : f (m.ins.getD j default) with
    | none =>
      rw [hfx] at hI
      obtain ⟨rfl, rfl⟩ := hI
      have HT := Lib.hid (show m.turn (j : Int) f = (m, 10) from by unfold Meet.turn; rw [if_pos hr]; simp only [Int.toNat_natCast, hfx])
      clear hfx hr
      go_wp2
      go_ret
      exact ⟨by rw [HT.out]; rfl, by rw [HT.out]; exact hm, Keeps.refl _ _⟩
    | some y =>
      rw [hfx] at hI
      obtain ⟨rfl, hI, hK⟩ := hI
      have hyok := hok _ _ hxok hfx
      have hm1 := hm.ins hI (by simp) hK (fun x hx => by
        rcases List.mem_or_eq_of_mem_set hx with hx | rfl
        · exact hm.ok x hx
        · exact hyok)
      have HT := Lib.hid (show m.turn (j : Int) f = (Meet.on { m with ins := m.ins.set j y }, 0) from by unfold Meet.turn; rw [if_pos hr]; simp only [Int.toNat_natCast, hfx])
      clear hfx hI hr
      have hK1 : Keeps (fun k => k = g ∨ k = h) w w1 := hK.wide (fun k _ e => .inr e)
      clear hK
      go_wp2_with fail
      refine (mbusy_any g h _ _ hm1).mono ?_
      rintro e w2 ⟨rfl, hb2⟩
      have hm2 := hm1.pure hb2
      have hK2 := hK1.pure hb2
      clear hm1 hK1 hb2 hm
      generalize m.ins.set j y = ys at hm2 HT ⊢
      generalize hq : (leastOf ys) = q
      have Hq := Lib.hid hq
      clear hq
      obtain ⟨n, fd⟩ := q
      simp only
      cases fd
      · go_wp2
        go_ret
        exact ⟨by rw [HT.out]; rfl, by rw [HT.out, Meet.on_no (by show (leastOf ys).2 = false; rw [Hq.out])]; exact hm2, hK2⟩
      · have hc := hm2.k
        have hfz := hm2.fg 1
        simp only at hc
        go_wp2
        all_goals
          go_ret
          refine ⟨by rw [HT.out]; rfl, ?_, hK2.setCell (by simp) _⟩
          rw [HT.out]
          exact hm2.on (by show (leastOf ys).2 = true; rw [Hq.out]) (by show _ = max m.mark (leastOf ys).1; rw [Hq.out]; simp only; omega)
  · go_enter Try.func44, Try.ntmps44
    go_wp2_with (go_at_call 42; refine (mwithin_any _ _ _ _).mono ?_; rintro e w' ⟨rfl, rfl⟩)
    go_ret
    refine ⟨?_, ?_, Keeps.refl _ _⟩
    · simp [Meet.turn, hr]
    · simpa [Meet.turn, hr] using hm

theorem sleepF_ok (x y : In) (h : okMark x.mark) (e : sleepF x = some y) : okMark y.mark := by
  unfold sleepF at e
  split at e
  · cases e
  · simp only [Option.some.injEq] at e
    subst e
    first | exact h | (simp [okMark])
set_option maxHeartbeats 400000 in
theorem mIdle_any (g h : Nat) (m : Meet) (w : World) (i : Int) (hi : inI64 i) (hm : MeetAt w g h m) :
    Calls Try.prog 49 #[.pointer (some ⟨g, 0, none⟩), .int .i64 i] w (MeetDoes w g h (m.turn i sleepF)) := by
  have H := Lib.hid (change_any g h m w i 71 sleepF hi hm sleepF_ok (fun _ _ => rfl) (fun i hi => sleep_turn h i m.ins w hm.i hi))
  clear hm hi
  go_enter Try.func49, Try.ntmps49
  go_wp2_with fail
  refine H.out.mono ?_
  rintro e w1 ⟨rfl, hm1, hK⟩
  go_wp2
  go_ret
  exact ⟨rfl, hm1, hK⟩

theorem wakeF_ok (x y : In) (h : okMark x.mark) (e : wakeF x = some y) : okMark y.mark := by
  unfold wakeF at e
  split at e
  · cases e
  · simp only [Option.some.injEq] at e
    subst e
    first | exact h | (simp [okMark])
set_option maxHeartbeats 400000 in
theorem mBusy_any (g h : Nat) (m : Meet) (w : World) (i : Int) (hi : inI64 i) (hm : MeetAt w g h m) :
    Calls Try.prog 51 #[.pointer (some ⟨g, 0, none⟩), .int .i64 i] w (MeetDoes w g h (m.turn i wakeF)) := by
  have H := Lib.hid (change_any g h m w i 73 wakeF hi hm wakeF_ok (fun _ _ => rfl) (fun i hi => wake_turn h i m.ins w hm.i hi))
  clear hm hi
  go_enter Try.func51, Try.ntmps51
  go_wp2_with fail
  refine H.out.mono ?_
  rintro e w1 ⟨rfl, hm1, hK⟩
  go_wp2
  go_ret
  exact ⟨rfl, hm1, hK⟩

theorem closeF_ok (x y : In) (h : okMark x.mark) (e : closeF x = some y) : okMark y.mark := by
  unfold closeF at e
  split at e
  · cases e
  · simp only [Option.some.injEq] at e
    subst e
    first | exact h | (simp [okMark])
set_option maxHeartbeats 400000 in
theorem mClose_any (g h : Nat) (m : Meet) (w : World) (i : Int) (hi : inI64 i) (hm : MeetAt w g h m) :
    Calls Try.prog 18 #[.pointer (some ⟨g, 0, none⟩), .int .i64 i] w (MeetDoes w g h (m.turn i closeF)) := by
  have H := Lib.hid (change_any g h m w i 45 closeF hi hm closeF_ok (fun _ _ => rfl) (fun i hi => close_turn h i m.ins w hm.i hi))
  clear hm hi
  go_enter Try.func18, Try.ntmps18
  go_wp2_with fail
  refine H.out.mono ?_
  rintro e w1 ⟨rfl, hm1, hK⟩
  go_wp2
  go_ret
  exact ⟨rfl, hm1, hK⟩
end Go.Proofs.Ytfoocifhifpbdaa
