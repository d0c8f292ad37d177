/- A meet that may be nil: the methods of both, in one word; the law's function do. -/
import Derived.Test.YtfoocifhifpbdaaMarkV
import Derived.Test.YtfoocifhifpbdaaMarkL
import Derived.Deep.RegionHeld3
namespace Go.Proofs.Ytfoocifhifpbdaa
open Go.RowKit

def pv (p : Option (Nat × Nat)) : Value := match p with | none => .pointer none | some (g, _) => .pointer (some ⟨g, 0, none⟩)
def fpOf (p : Option (Nat × Nat)) (k : Nat) : Prop := match p with | none => False | some (g, h) => k = g ∨ k = h
def MS (w : World) (p : Option (Nat × Nat)) (m : Meet) : Prop := match p with | none => m = ⟨[], -1000000000000⟩ | some (g, h) => MeetAt w g h m
theorem MS.frame {w w' : World} {q : Option (Nat × Nat)} {m : Meet} {F : Nat → Prop} (h : MS w q m) (hk : Keeps F w w') (hd : ∀ k, fpOf q k → ¬ F k) : MS w' q m := by
  cases q with
  | none => exact h
  | some gh => obtain ⟨g, hh⟩ := gh; exact MeetAt.keeps h (hk.block _ (MeetAt.ltg h) (hd _ (.inl rfl))) (hk.block _ (MeetAt.lth h) (hd _ (.inr rfl)))
theorem MS.pure {w w' : World} {q : Option (Nat × Nat)} {m : Meet} (h : MS w q m) (hb : Below w.heap.size w w') : MS w' q m := by
  cases q with
  | none => exact h
  | some gh => obtain ⟨g, hh⟩ := gh; exact MeetAt.pure h hb
def UDoes (w : World) (p : Option (Nat × Nat)) (r : Meet × Int) (e : Ending) (w' : World) : Prop := e = .returned (.int .i64 r.2) ∧ MS w' p r.1 ∧ Keeps (fpOf p) w w'
def uT (p : Option (Nat × Nat)) (m : Meet) (r : Meet × Int) : Meet × Int := match p with | none => (m, 1) | some _ => r
def uHeld (p : Option (Nat × Nat)) (m : Meet) (d : Int) : List Int × Int := match p with | none => ([], 1) | some _ => m.held d
def uIdle (p : Option (Nat × Nat)) (m : Meet) (i : Int) : Bool := match p with | none => false | some _ => idleAt m i
theorem keeps_none {w : World} (F : Nat → Prop) : Keeps F w w := Keeps.refl F w

theorem umSet (p : Option (Nat × Nat)) (m : Meet) (w : World) (i n : Int) (hi : inI64 i) (h : MS w p m) : Calls Try.prog 19 #[pv p, .int .i64 i, .int .i64 n] w (UDoes w p (uT p m (m.setM i n))) := by
  cases p with
  | none => exact (mSet_nil i n w).mono fun e w' ⟨h1, h2⟩ => by subst h2; exact ⟨h1, h, Keeps.refl _ _⟩
  | some gh => obtain ⟨g, hh⟩ := gh; exact mSet_any g hh m w i n hi h
theorem umMark (p : Option (Nat × Nat)) (m : Meet) (w : World) (h : MS w p m) : Calls Try.prog 21 #[pv p] w fun e w' => e = .returned (.int .i64 m.mark) ∧ w = w' := by
  cases p with
  | none => exact (mMark_nil w).mono fun e w' ⟨h1, h2⟩ => ⟨by rw [h1]; have h : m = ⟨[], -1000000000000⟩ := h; rw [h], h2⟩
  | some gh => obtain ⟨g, hh⟩ := gh; exact mmark_any g hh m w h
theorem umInputs (p : Option (Nat × Nat)) (m : Meet) (w : World) (h : MS w p m) : Calls Try.prog 20 #[pv p] w (NewInts w (m.ins.map (·.mark))) := by
  cases p with
  | none => exact (mInputs_nil w).mono fun e w' ⟨h1, h2⟩ => by subst h2; have h : m = ⟨[], -1000000000000⟩ := h; subst h; exact ⟨_, h1, slice_nil _ _, Below.refl _ _⟩
  | some gh => obtain ⟨g, hh⟩ := gh; exact mInputs_any g hh m w h
theorem umIsIdle (p : Option (Nat × Nat)) (m : Meet) (w : World) (i : Int) (hi : inI64 i) (h : MS w p m) : Calls Try.prog 26 #[pv p, .int .i64 i] w fun e w' => e = .returned (.bool (uIdle p m i)) ∧ w = w' := by
  cases p with
  | none => exact mIsIdle_nil i w
  | some gh => obtain ⟨g, hh⟩ := gh; exact mIdle2_any g hh m w i hi h
theorem umHeld (p : Option (Nat × Nat)) (m : Meet) (w : World) (d : Int) (h : MS w p m) : Calls Try.prog 54 #[pv p, .int .i64 d] w (NewInts2 w (uHeld p m d)) := by
  cases p with
  | none => exact (mHeld_nil d w).mono fun e w' ⟨h1, h2⟩ => by subst h2; exact ⟨_, h1, slice_nil _ _, Below.refl _ _⟩
  | some gh => obtain ⟨g, hh⟩ := gh; exact mHeld_any g hh m w d h
theorem umIdle (p : Option (Nat × Nat)) (m : Meet) (w : World) (i : Int) (hi : inI64 i) (h : MS w p m) : Calls Try.prog 49 #[pv p, .int .i64 i] w (UDoes w p (uT p m (m.turn i sleepF))) := by
  cases p with
  | none => exact (mIdle_nil i w).mono fun e w' ⟨h1, h2⟩ => by subst h2; exact ⟨h1, h, Keeps.refl _ _⟩
  | some gh => obtain ⟨g, hh⟩ := gh; exact mIdle_any g hh m w i hi h
theorem umBusy (p : Option (Nat × Nat)) (m : Meet) (w : World) (i : Int) (hi : inI64 i) (h : MS w p m) : Calls Try.prog 51 #[pv p, .int .i64 i] w (UDoes w p (uT p m (m.turn i wakeF))) := by
  cases p with
  | none => exact (mBusy_nil i w).mono fun e w' ⟨h1, h2⟩ => by subst h2; exact ⟨h1, h, Keeps.refl _ _⟩
  | some gh => obtain ⟨g, hh⟩ := gh; exact mBusy_any g hh m w i hi h
theorem umClose (p : Option (Nat × Nat)) (m : Meet) (w : World) (i : Int) (hi : inI64 i) (h : MS w p m) : Calls Try.prog 18 #[pv p, .int .i64 i] w (UDoes w p (uT p m (m.turn i closeF))) := by
  cases p with
  | none => exact (mClose_nil i w).mono fun e w' ⟨h1, h2⟩ => by subst h2; exact ⟨h1, h, Keeps.refl _ _⟩
  | some gh => obtain ⟨g, hh⟩ := gh; exact mClose_any g hh m w i hi h

theorem urSet (p : Option (Nat × Nat)) (m : Meet) (w : World) (i n : Int) (hi : inI64 i) (h : MS w p m) : Calls Try.prog 48 #[pv p, .int .i64 i, .int .i64 n] w (UDoes w p (uT p m (m.setM i n))) := by
  cases p with
  | none => exact (rSet_nil i n w).mono fun e w' ⟨h1, h2⟩ => by subst h2; exact ⟨h1, h, Keeps.refl _ _⟩
  | some gh => obtain ⟨g, hh⟩ := gh; exact rSet_any g hh m w i n hi h
theorem urMark (p : Option (Nat × Nat)) (m : Meet) (w : World) (h : MS w p m) : Calls Try.prog 24 #[pv p] w fun e w' => e = .returned (.int .i64 m.mark) ∧ w = w' := by
  cases p with
  | none => exact (rMark_nil w).mono fun e w' ⟨h1, h2⟩ => ⟨by rw [h1]; have h : m = ⟨[], -1000000000000⟩ := h; rw [h], h2⟩
  | some gh => obtain ⟨g, hh⟩ := gh; exact rmark_any g hh m w h
theorem urInputs (p : Option (Nat × Nat)) (m : Meet) (w : World) (h : MS w p m) : Calls Try.prog 25 #[pv p] w (NewInts w (m.ins.map (·.mark))) := by
  cases p with
  | none => exact (rInputs_nil w).mono fun e w' ⟨h1, h2⟩ => by subst h2; have h : m = ⟨[], -1000000000000⟩ := h; subst h; exact ⟨_, h1, slice_nil _ _, Below.refl _ _⟩
  | some gh => obtain ⟨g, hh⟩ := gh; exact rInputs_any g hh m w h
theorem urIsIdle (p : Option (Nat × Nat)) (m : Meet) (w : World) (i : Int) (hi : inI64 i) (h : MS w p m) : Calls Try.prog 27 #[pv p, .int .i64 i] w fun e w' => e = .returned (.bool (uIdle p m i)) ∧ w = w' := by
  cases p with
  | none => exact rIsIdle_nil i w
  | some gh => obtain ⟨g, hh⟩ := gh; exact rIsIdle_any g hh m w i hi h
theorem urHeld (p : Option (Nat × Nat)) (m : Meet) (w : World) (d : Int) (h : MS w p m) : Calls Try.prog 55 #[pv p, .int .i64 d] w (NewInts2 w (uHeld p m d)) := by
  cases p with
  | none => exact (rHeld_nil d w).mono fun e w' ⟨h1, h2⟩ => by subst h2; exact ⟨_, h1, slice_nil _ _, Below.refl _ _⟩
  | some gh => obtain ⟨g, hh⟩ := gh; exact rHeld_any g hh m w d h
theorem urIdle (p : Option (Nat × Nat)) (m : Meet) (w : World) (i : Int) (hi : inI64 i) (h : MS w p m) : Calls Try.prog 50 #[pv p, .int .i64 i] w (UDoes w p (uT p m (m.turn i sleepF))) := by
  cases p with
  | none => exact (rIdle_nil i w).mono fun e w' ⟨h1, h2⟩ => by subst h2; exact ⟨h1, h, Keeps.refl _ _⟩
  | some gh => obtain ⟨g, hh⟩ := gh; exact rIdle_any g hh m w i hi h
theorem urBusy (p : Option (Nat × Nat)) (m : Meet) (w : World) (i : Int) (hi : inI64 i) (h : MS w p m) : Calls Try.prog 52 #[pv p, .int .i64 i] w (UDoes w p (uT p m (m.turn i wakeF))) := by
  cases p with
  | none => exact (rBusy_nil i w).mono fun e w' ⟨h1, h2⟩ => by subst h2; exact ⟨h1, h, Keeps.refl _ _⟩
  | some gh => obtain ⟨g, hh⟩ := gh; exact rBusy_any g hh m w i hi h
theorem urClose (p : Option (Nat × Nat)) (m : Meet) (w : World) (i : Int) (hi : inI64 i) (h : MS w p m) : Calls Try.prog 53 #[pv p, .int .i64 i] w (UDoes w p (uT p m (m.turn i closeF))) := by
  cases p with
  | none => exact (rClose_nil i w).mono fun e w' ⟨h1, h2⟩ => by subst h2; exact ⟨h1, h, Keeps.refl _ _⟩
  | some gh => obtain ⟨g, hh⟩ := gh; exact rClose_any g hh m w i hi h

theorem turn_mark (m : Meet) (i : Int) (f : In → Option In) : m.mark ≤ (m.turn i f).1.mark := by
  unfold Meet.turn
  split
  · split
    · exact Int.le_refl _
    · unfold Meet.on
      split <;> simp only
      · omega
      · exact Int.le_refl _
  · exact Int.le_refl _
theorem setM_mark (m : Meet) (i n : Int) : m.mark ≤ (m.setM i n).1.mark := by
  unfold Meet.setM
  split
  · exact turn_mark _ _ _
  · exact Int.le_refl _
theorem uT_mark {p : Option (Nat × Nat)} {m : Meet} {r : Meet × Int} (h : m.mark ≤ r.1.mark) : m.mark ≤ (uT p m r).1.mark := by
  cases p with
  | none => exact Int.le_refl _
  | some _ => exact h

/-- What do does: both answer alike, and hold the same behind it. -/
def Did (w : World) (p q : Option (Nat × Nat)) (m : Meet) (e : Ending) (w' : World) : Prop :=
  e = .returned (.bool true) ∧ ∃ m', MS w' p m' ∧ MS w' q m' ∧ m.mark ≤ m'.mark ∧ Keeps (fun k => fpOf p k ∨ fpOf q k) w w'
def sameKind (p q : Option (Nat × Nat)) : Prop := p.isSome = q.isSome
theorem uT_same {p q : Option (Nat × Nat)} (h : sameKind p q) (m : Meet) (r : Meet × Int) : uT p m r = uT q m r := by
  cases p <;> cases q <;> first | rfl | (simp [sameKind] at h)
theorem uHeld_same {p q : Option (Nat × Nat)} (h : sameKind p q) (m : Meet) (d : Int) : uHeld p m d = uHeld q m d := by
  cases p <;> cases q <;> first | rfl | (simp [sameKind] at h)
theorem uIdle_same {p q : Option (Nat × Nat)} (h : sameKind p q) (m : Meet) (d : Int) : uIdle p m d = uIdle q m d := by
  cases p <;> cases q <;> first | rfl | (simp [sameKind] at h)
theorem keepsL {F G : Nat → Prop} {w w' : World} (h : Keeps F w w') : Keeps (fun k => F k ∨ G k) w w' := h.wide (fun _ _ e => .inl e)
theorem keepsR {F G : Nat → Prop} {w w' : World} (h : Keeps G w w') : Keeps (fun k => F k ∨ G k) w w' := h.wide (fun _ _ e => .inr e)

structure BoxAt (w : World) (b : Nat) (kd inp nn : Int) : Prop where
  c0 : w.cell? ⟨b, 0, none⟩ = some (.int .i64 kd)
  c1 : w.cell? ⟨b, 1, none⟩ = some (.int .i64 inp)
  c2 : w.cell? ⟨b, 2, none⟩ = some (.int .i64 nn)
theorem BoxAt.frame {w w' : World} {b : Nat} {kd inp nn : Int} {F : Nat → Prop} (h : BoxAt w b kd inp nn) (hk : Keeps F w w') (hn : ¬ F b) : BoxAt w' b kd inp nn :=
  have hb := hk.block b (mem_lt h.c0) hn
  ⟨(mem_of_block hb _).trans h.c0, (mem_of_block hb _).trans h.c1, (mem_of_block hb _).trans h.c2⟩
theorem MS.fp_lt {w : World} {p : Option (Nat × Nat)} {m : Meet} (h : MS w p m) : ∀ k, fpOf p k → k < w.heap.size := by
  intro k hk
  cases p with
  | none => exact hk.elim
  | some gh => obtain ⟨g, hh⟩ := gh; rcases hk with rfl | rfl; exact MeetAt.ltg h; exact MeetAt.lth h

structure Pre (w : World) (p q : Option (Nat × Nat)) (m : Meet) (kd inp nn : Int) (W : World) : Prop where
  hp : MS W p m
  hq : MS W q m
  hK : Keeps (fun k => fpOf p k ∨ fpOf q k) w W
  hb : BoxAt W w.heap.size kd inp nn
theorem Pre.mk' {w : World} {p q : Option (Nat × Nat)} {m : Meet} {kd inp nn : Int} (hp : MS w p m) (hq : MS w q m) (T : TypeId) : Pre w p q m kd inp nn (w.alloc (.cells #[.int .i64 kd, .int .i64 inp, .int .i64 nn] T (0, 0))) :=
  ⟨hp.pure ((Below.refl _ _).alloc (Nat.le_refl _) _), hq.pure ((Below.refl _ _).alloc (Nat.le_refl _) _), (Keeps.refl _ _).alloc _, ⟨cell_new 0 rfl, cell_new 1 rfl, cell_new 2 rfl⟩⟩
theorem Pre.drew {w : World} {p q : Option (Nat × Nat)} {m : Meet} {kd inp nn : Int} {W : World} (h : Pre w p q m kd inp nn W) : Pre w p q m kd inp nn W.drew :=
  ⟨h.hp.frame (Keeps.refl (fun _ => False) _).drew (fun _ _ h => h), h.hq.frame (Keeps.refl (fun _ => False) _).drew (fun _ _ h => h), h.hK.drew, ⟨h.hb.c0, h.hb.c1, h.hb.c2⟩⟩

set_option maxHeartbeats 4000000 in
theorem doSet (p q : Option (Nat × Nat)) (m : Meet) (w : World) (kd inp nn : Int) (hi : inI64 inp) (hs : sameKind p q) (hd : ∀ k, fpOf p k → ¬ fpOf q k) (hp : MS w p m) (hq : MS w q m) (hk : kd = 0) :
    Calls Try.prog 23 #[pv p, pv q, .agg #[.int .i64 kd, .int .i64 inp, .int .i64 nn]] w (Did w p q m) := by
  have HD := Lib.hid hd
  have HD' := Lib.hid (show ∀ k, fpOf q k → ¬ fpOf p k from fun k h1 h2 => hd k h2 h1)
  have HR := Lib.hid (uT_same hs m (m.setM inp nn))
  have HM := Lib.hid (uT_mark (p := p) (m := m) (r := (m.setM inp nn)) (setM_mark m inp nn))
  have HBp := Lib.hid (show ¬ fpOf p w.heap.size from fun h => by have := hp.fp_lt _ h; omega)
  have HBq := Lib.hid (show ¬ fpOf q w.heap.size from fun h => by have := hq.fp_lt _ h; omega)
  have hk0 : (kd == 0) = true := by simp; omega
  obtain ⟨hp, hq, hK, hb⟩ := (Pre.mk' (kd := kd) (inp := inp) (nn := nn) hp hq 46).drew
  clear hs hd hk
  go_enter Try.func23, Try.ntmps23
  go_wp2_with fail
  go_region_held3 (fun w' => w'.cell? ⟨w.heap.size, 1, none⟩ = some (.int .i64 inp) ∧ w'.cell? ⟨w.heap.size, 2, none⟩ = some (.int .i64 nn))
    (first | go_keep | exact ⟨hb.c1, hb.c2⟩ | exact ⟨hb2.c1, hb2.c2⟩ | exact ⟨hb3.c1, hb3.c2⟩)
    ((first
      | (go_at_call 19; refine (umSet p m _ inp nn hi (by assumption)).mono ?_; rintro e wp ⟨rfl, hp2, hkp⟩; have hq2 := MS.frame (q := q) (by assumption) hkp HD'.out; have hK2 := Keeps.trans (F := fun k => fpOf p k ∨ fpOf q k) (by assumption) (keepsL (G := fpOf q) hkp); have hb2 := BoxAt.frame (by assumption) hkp HBp.out)
      | (go_at_call 48; refine (urSet q m _ inp nn hi (by assumption)).mono ?_; rintro e wq ⟨rfl, hq3, hkq⟩; have hp3 := MS.frame (q := p) (by assumption) hkq HD.out; have hK3 := Keeps.trans (F := fun k => fpOf p k ∨ fpOf q k) (by assumption) (keepsR (F := fpOf p) hkq); have hb3 := BoxAt.frame (by assumption) hkq HBq.out)))
  all_goals
    rw [HR.out]
    have heq : ((uT q m (m.setM inp nn)).2 == (uT q m (m.setM inp nn)).2) = true := by simp
    go_wp2
    go_ret
    refine ⟨by first | rfl | simp [Act.put], _, by assumption, ?_, HM.out, by assumption⟩
    rw [HR.out]
    assumption

set_option maxHeartbeats 4000000 in
theorem doIdle (p q : Option (Nat × Nat)) (m : Meet) (w : World) (kd inp nn : Int) (hi : inI64 inp) (hs : sameKind p q) (hd : ∀ k, fpOf p k → ¬ fpOf q k) (hp : MS w p m) (hq : MS w q m) (hk : kd = 1) :
    Calls Try.prog 23 #[pv p, pv q, .agg #[.int .i64 kd, .int .i64 inp, .int .i64 nn]] w (Did w p q m) := by
  have HD := Lib.hid hd
  have HD' := Lib.hid (show ∀ k, fpOf q k → ¬ fpOf p k from fun k h1 h2 => hd k h2 h1)
  have HR := Lib.hid (uT_same hs m (m.turn inp sleepF))
  have HM := Lib.hid (uT_mark (p := p) (m := m) (r := (m.turn inp sleepF)) (turn_mark m inp _))
  have HBp := Lib.hid (show ¬ fpOf p w.heap.size from fun h => by have := hp.fp_lt _ h; omega)
  have HBq := Lib.hid (show ¬ fpOf q w.heap.size from fun h => by have := hq.fp_lt _ h; omega)
  have hk0 : (kd == 0) = false := by simp; omega
  have hk1 : (kd == 1) = true := by simp; omega
  obtain ⟨hp, hq, hK, hb⟩ := (Pre.mk' (kd := kd) (inp := inp) (nn := nn) hp hq 46).drew
  clear hs hd hk
  go_enter Try.func23, Try.ntmps23
  go_wp2_with fail
  go_region_held3 (fun w' => w'.cell? ⟨w.heap.size, 1, none⟩ = some (.int .i64 inp) ∧ w'.cell? ⟨w.heap.size, 2, none⟩ = some (.int .i64 nn))
    (first | go_keep | exact ⟨hb.c1, hb.c2⟩ | exact ⟨hb2.c1, hb2.c2⟩ | exact ⟨hb3.c1, hb3.c2⟩)
    ((first
      | (go_at_call 49; refine (umIdle p m _ inp hi (by assumption)).mono ?_; rintro e wp ⟨rfl, hp2, hkp⟩; have hq2 := MS.frame (q := q) (by assumption) hkp HD'.out; have hK2 := Keeps.trans (F := fun k => fpOf p k ∨ fpOf q k) (by assumption) (keepsL (G := fpOf q) hkp); have hb2 := BoxAt.frame (by assumption) hkp HBp.out)
      | (go_at_call 50; refine (urIdle q m _ inp hi (by assumption)).mono ?_; rintro e wq ⟨rfl, hq3, hkq⟩; have hp3 := MS.frame (q := p) (by assumption) hkq HD.out; have hK3 := Keeps.trans (F := fun k => fpOf p k ∨ fpOf q k) (by assumption) (keepsR (F := fpOf p) hkq); have hb3 := BoxAt.frame (by assumption) hkq HBq.out)))
  all_goals
    rw [HR.out]
    have heq : ((uT q m (m.turn inp sleepF)).2 == (uT q m (m.turn inp sleepF)).2) = true := by simp
    go_wp2
    go_ret
    refine ⟨by first | rfl | simp [Act.put], _, by assumption, ?_, HM.out, by assumption⟩
    rw [HR.out]
    assumption

set_option maxHeartbeats 4000000 in
theorem doBusy (p q : Option (Nat × Nat)) (m : Meet) (w : World) (kd inp nn : Int) (hi : inI64 inp) (hs : sameKind p q) (hd : ∀ k, fpOf p k → ¬ fpOf q k) (hp : MS w p m) (hq : MS w q m) (hk : kd = 2) :
    Calls Try.prog 23 #[pv p, pv q, .agg #[.int .i64 kd, .int .i64 inp, .int .i64 nn]] w (Did w p q m) := by
  have HD := Lib.hid hd
  have HD' := Lib.hid (show ∀ k, fpOf q k → ¬ fpOf p k from fun k h1 h2 => hd k h2 h1)
  have HR := Lib.hid (uT_same hs m (m.turn inp wakeF))
  have HM := Lib.hid (uT_mark (p := p) (m := m) (r := (m.turn inp wakeF)) (turn_mark m inp _))
  have HBp := Lib.hid (show ¬ fpOf p w.heap.size from fun h => by have := hp.fp_lt _ h; omega)
  have HBq := Lib.hid (show ¬ fpOf q w.heap.size from fun h => by have := hq.fp_lt _ h; omega)
  have hk0 : (kd == 0) = false := by simp; omega
  have hk1 : (kd == 1) = false := by simp; omega
  have hk2 : (kd == 2) = true := by simp; omega
  obtain ⟨hp, hq, hK, hb⟩ := (Pre.mk' (kd := kd) (inp := inp) (nn := nn) hp hq 46).drew
  clear hs hd hk
  go_enter Try.func23, Try.ntmps23
  go_wp2_with fail
  go_region_held3 (fun w' => w'.cell? ⟨w.heap.size, 1, none⟩ = some (.int .i64 inp) ∧ w'.cell? ⟨w.heap.size, 2, none⟩ = some (.int .i64 nn))
    (first | go_keep | exact ⟨hb.c1, hb.c2⟩ | exact ⟨hb2.c1, hb2.c2⟩ | exact ⟨hb3.c1, hb3.c2⟩)
    ((first
      | (go_at_call 51; refine (umBusy p m _ inp hi (by assumption)).mono ?_; rintro e wp ⟨rfl, hp2, hkp⟩; have hq2 := MS.frame (q := q) (by assumption) hkp HD'.out; have hK2 := Keeps.trans (F := fun k => fpOf p k ∨ fpOf q k) (by assumption) (keepsL (G := fpOf q) hkp); have hb2 := BoxAt.frame (by assumption) hkp HBp.out)
      | (go_at_call 52; refine (urBusy q m _ inp hi (by assumption)).mono ?_; rintro e wq ⟨rfl, hq3, hkq⟩; have hp3 := MS.frame (q := p) (by assumption) hkq HD.out; have hK3 := Keeps.trans (F := fun k => fpOf p k ∨ fpOf q k) (by assumption) (keepsR (F := fpOf p) hkq); have hb3 := BoxAt.frame (by assumption) hkq HBq.out)))
  all_goals
    rw [HR.out]
    have heq : ((uT q m (m.turn inp wakeF)).2 == (uT q m (m.turn inp wakeF)).2) = true := by simp
    go_wp2
    go_ret
    refine ⟨by first | rfl | simp [Act.put], _, by assumption, ?_, HM.out, by assumption⟩
    rw [HR.out]
    assumption

set_option maxHeartbeats 4000000 in
theorem doClose (p q : Option (Nat × Nat)) (m : Meet) (w : World) (kd inp nn : Int) (hi : inI64 inp) (hs : sameKind p q) (hd : ∀ k, fpOf p k → ¬ fpOf q k) (hp : MS w p m) (hq : MS w q m) (hk : kd = 3) :
    Calls Try.prog 23 #[pv p, pv q, .agg #[.int .i64 kd, .int .i64 inp, .int .i64 nn]] w (Did w p q m) := by
  have HD := Lib.hid hd
  have HD' := Lib.hid (show ∀ k, fpOf q k → ¬ fpOf p k from fun k h1 h2 => hd k h2 h1)
  have HR := Lib.hid (uT_same hs m (m.turn inp closeF))
  have HM := Lib.hid (uT_mark (p := p) (m := m) (r := (m.turn inp closeF)) (turn_mark m inp _))
  have HBp := Lib.hid (show ¬ fpOf p w.heap.size from fun h => by have := hp.fp_lt _ h; omega)
  have HBq := Lib.hid (show ¬ fpOf q w.heap.size from fun h => by have := hq.fp_lt _ h; omega)
  have hk0 : (kd == 0) = false := by simp; omega
  have hk1 : (kd == 1) = false := by simp; omega
  have hk2 : (kd == 2) = false := by simp; omega
  have hk3 : (kd == 3) = true := by simp; omega
  obtain ⟨hp, hq, hK, hb⟩ := (Pre.mk' (kd := kd) (inp := inp) (nn := nn) hp hq 46).drew
  clear hs hd hk
  go_enter Try.func23, Try.ntmps23
  go_wp2_with fail
  go_region_held3 (fun w' => w'.cell? ⟨w.heap.size, 1, none⟩ = some (.int .i64 inp) ∧ w'.cell? ⟨w.heap.size, 2, none⟩ = some (.int .i64 nn))
    (first | go_keep | exact ⟨hb.c1, hb.c2⟩ | exact ⟨hb2.c1, hb2.c2⟩ | exact ⟨hb3.c1, hb3.c2⟩)
    ((first
      | (go_at_call 18; refine (umClose p m _ inp hi (by assumption)).mono ?_; rintro e wp ⟨rfl, hp2, hkp⟩; have hq2 := MS.frame (q := q) (by assumption) hkp HD'.out; have hK2 := Keeps.trans (F := fun k => fpOf p k ∨ fpOf q k) (by assumption) (keepsL (G := fpOf q) hkp); have hb2 := BoxAt.frame (by assumption) hkp HBp.out)
      | (go_at_call 53; refine (urClose q m _ inp hi (by assumption)).mono ?_; rintro e wq ⟨rfl, hq3, hkq⟩; have hp3 := MS.frame (q := p) (by assumption) hkq HD.out; have hK3 := Keeps.trans (F := fun k => fpOf p k ∨ fpOf q k) (by assumption) (keepsR (F := fpOf p) hkq); have hb3 := BoxAt.frame (by assumption) hkq HBq.out)))
  all_goals
    rw [HR.out]
    have heq : ((uT q m (m.turn inp closeF)).2 == (uT q m (m.turn inp closeF)).2) = true := by simp
    go_wp2
    go_ret
    refine ⟨by first | rfl | simp [Act.put], _, by assumption, ?_, HM.out, by assumption⟩
    rw [HR.out]
    assumption

def heldPost (w : World) (p q : Option (Nat × Nat)) (m : Meet) : Prop := True
end Go.Proofs.Ytfoocifhifpbdaa
