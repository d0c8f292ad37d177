/- The reference's order of rows, walked. -/
import Derived.Test.YtfkphdmnelchmaaOrd
import Derived.Deep.RegionHeld3
namespace Go.Proofs.Ytfkphdmnelchmaa
open Go.RowKit

@[reducible] def Val.v (x : Val) : Value := .agg #[.int .i64 x.kind, .int .i64 x.n, .string x.s]
set_option maxHeartbeats 400000 in
theorem refClass_any (x : Val) (w : World) :
    Calls Try.prog 108 #[x.v] w fun e w' => e = .returned (.int .i64 (cls x)) ∧ Below w.heap.size w w' := by
  have hb : ∀ o, Below w.heap.size w (w.alloc o) := fun o => (Below.refl _ _).alloc (Nat.le_refl _) o
  have HC := Lib.hid (show cls x = if x.kind = 1 ∨ x.kind = 2 then x.kind else 0 from rfl)
  obtain ⟨xk, xn, xs⟩ := x
  simp only at HC
  by_cases h1 : xk = 1
  · subst h1
    go_enter Try.func108, Try.ntmps108
    go_wp2
    go_ret
    exact ⟨by rw [HC.out]; rfl, hb _⟩
  by_cases h2 : xk = 2
  · subst h2
    go_enter Try.func108, Try.ntmps108
    go_wp2
    go_ret
    exact ⟨by rw [HC.out]; rfl, hb _⟩
  · have b1 : (xk == 1) = false := by simpa using h1
    have b2 : (xk == 2) = false := by simpa using h2
    have HC := Lib.hid (HC.out.trans (if_neg (by omega)))
    go_enter Try.func108, Try.ntmps108
    go_wp2
    all_goals try (exfalso; simp only [beq_iff_eq, beq_eq_false_iff_ne, Bool.or_eq_true] at *; omega)
    go_ret
    exact ⟨by rw [HC.out]; rfl, hb _⟩

/-- Two values in two boxes of the call's own. -/
structure Box2 (w wr : World) (a b : Val) : Prop where
  a0 : wr.cell? ⟨w.heap.size, 0, none⟩ = some (.int .i64 a.kind)
  a1 : wr.cell? ⟨w.heap.size, 1, none⟩ = some (.int .i64 a.n)
  a2 : wr.cell? ⟨w.heap.size, 2, none⟩ = some (.string a.s)
  b0 : wr.cell? ⟨w.heap.size + 1, 0, none⟩ = some (.int .i64 b.kind)
  b1 : wr.cell? ⟨w.heap.size + 1, 1, none⟩ = some (.int .i64 b.n)
  b2 : wr.cell? ⟨w.heap.size + 1, 2, none⟩ = some (.string b.s)
  size : w.heap.size + 2 ≤ wr.heap.size
  below : Below w.heap.size w wr
theorem Box2.start (w : World) (a b : Val) (T : TypeId) : Box2 w ((w.alloc (.cells #[.int .i64 a.kind, .int .i64 a.n, .string a.s] T)).alloc (.cells #[.int .i64 b.kind, .int .i64 b.n, .string b.s] T)) a b := by
  have h1 : ∀ o, ((w.alloc (.cells #[.int .i64 a.kind, .int .i64 a.n, .string a.s] T)).alloc (.cells #[.int .i64 b.kind, .int .i64 b.n, .string b.s] T)).cell? ⟨w.heap.size, o, none⟩ = (#[Value.int .i64 a.kind, .int .i64 a.n, .string a.s] : Array Value)[o]? := fun o => by
    have e := mem_of_block (Lib.alloc_old (w.alloc (.cells #[.int .i64 a.kind, .int .i64 a.n, .string a.s] T)) (.cells #[.int .i64 b.kind, .int .i64 b.n, .string b.s] T) w.heap.size (by simp)) o
    exact e.trans (mem_cells_new w _ T (0, 0) o)
  have h2 : ∀ o, ((w.alloc (.cells #[.int .i64 a.kind, .int .i64 a.n, .string a.s] T)).alloc (.cells #[.int .i64 b.kind, .int .i64 b.n, .string b.s] T)).cell? ⟨w.heap.size + 1, o, none⟩ = (#[Value.int .i64 b.kind, .int .i64 b.n, .string b.s] : Array Value)[o]? := fun o => cell_new o (by simp)
  exact ⟨h1 0, h1 1, h1 2, h2 0, h2 1, h2 2, by simp, ((Below.refl _ _).alloc (Nat.le_refl _) _).alloc (by simp) _⟩
theorem Box2.pure {w wr w1 : World} {a b : Val} (h : Box2 w wr a b) (k : Below wr.heap.size wr w1) : Box2 w w1 a b := by
  have e : ∀ x o v, wr.cell? ⟨x, o, none⟩ = some v → w1.cell? ⟨x, o, none⟩ = some v := fun x o v hx => below_mem k x o v hx
  exact ⟨e _ _ _ h.a0, e _ _ _ h.a1, e _ _ _ h.a2, e _ _ _ h.b0, e _ _ _ h.b1, e _ _ _ h.b2, Nat.le_trans h.size k.size, pure_trans h.below k⟩
theorem Box2.six {w wr : World} {a b : Val} (h : Box2 w wr a b) : wr.cell? ⟨w.heap.size, 0, none⟩ = some (.int .i64 a.kind) ∧ wr.cell? ⟨w.heap.size, 1, none⟩ = some (.int .i64 a.n) ∧ wr.cell? ⟨w.heap.size, 2, none⟩ = some (.string a.s) ∧
    wr.cell? ⟨w.heap.size + 1, 0, none⟩ = some (.int .i64 b.kind) ∧ wr.cell? ⟨w.heap.size + 1, 1, none⟩ = some (.int .i64 b.n) ∧ wr.cell? ⟨w.heap.size + 1, 2, none⟩ = some (.string b.s) := ⟨h.a0, h.a1, h.a2, h.b0, h.b1, h.b2⟩
theorem Box2.drew {w wr : World} {a b : Val} (h : Box2 w wr a b) : Box2 w wr.drew a b := h.pure (Below.refl _ _).drew
set_option maxRecDepth 100000 in
set_option maxHeartbeats 1000000 in
theorem refCmpVals_any (a b : Val) (w : World) :
    Calls Try.prog 95 #[a.v, b.v] w fun e w' => e = .returned (.int .i64 (cmpVal a b)) ∧ Below w.heap.size w w' := by
  obtain ⟨ak, an, as'⟩ := a
  obtain ⟨bk, bn, bs⟩ := b
  have H0 := (Box2.start w ⟨ak, an, as'⟩ ⟨bk, bn, bs⟩ 118).drew
  obtain ⟨a0, a1, a2, b0, b1, b2, hsz, hbl⟩ := id H0
  simp only at a0 a1 a2 b0 b1 b2 H0
  go_enter Try.func95, Try.ntmps95
  by_cases hab : cls ⟨ak, an, as'⟩ = cls ⟨bk, bn, bs⟩
  · have hq : (cls ⟨ak, an, as'⟩ == cls ⟨bk, bn, bs⟩) = true := by simpa using hab
    go_wp2_with fail
    go_region_held3 (fun w' => w'.cell? ⟨w.heap.size, 0, none⟩ = some (.int .i64 ak) ∧ w'.cell? ⟨w.heap.size, 1, none⟩ = some (.int .i64 an) ∧ w'.cell? ⟨w.heap.size, 2, none⟩ = some (.string as') ∧
        w'.cell? ⟨w.heap.size + 1, 0, none⟩ = some (.int .i64 bk) ∧ w'.cell? ⟨w.heap.size + 1, 1, none⟩ = some (.int .i64 bn) ∧ w'.cell? ⟨w.heap.size + 1, 2, none⟩ = some (.string bs))
      (first | go_keep | exact Box2.six (a := ⟨ak, an, as'⟩) (b := ⟨bk, bn, bs⟩) (by assumption))
      ((go_at_call 108; refine (refClass_any ⟨_, _, _⟩ _).mono ?_; rintro e wa ⟨rfl, hba⟩; have hbx := Box2.pure (w := w) (a := ⟨ak, an, as'⟩) (b := ⟨bk, bn, bs⟩) (by assumption) hba; clear hba))
    all_goals
      clear H0 a0 a1 a2 b0 b1 b2 hsz hbl
      obtain ⟨a0, a1, a2, b0, b1, b2, hsz, hbl⟩ := id hbx
      simp only at a0 a1 a2 b0 b1 b2
      rcases cls_cases ⟨ak, an, as'⟩ with h0 | h0 | h0
      · have HR := Lib.hid (cmpVal_0 (a := ⟨ak, an, as'⟩) (b := ⟨bk, bn, bs⟩) h0 (hab.symm.trans h0))
        clear hab hq
        have q1 : (cls ⟨ak, an, as'⟩ == 1) = false := by rw [h0]; rfl
        have q2 : (cls ⟨ak, an, as'⟩ == 2) = false := by rw [h0]; rfl
        go_wp2_with (go_at_call 108; refine (refClass_any ⟨_, _, _⟩ _).mono ?_; rintro e wa ⟨rfl, hba⟩; have hbx := Box2.pure (w := w) (a := ⟨ak, an, as'⟩) (b := ⟨bk, bn, bs⟩) (by assumption) hba; clear hba; obtain ⟨a0, a1, a2, b0, b1, b2, hsz, hbl⟩ := id hbx; simp only at a0 a1 a2 b0 b1 b2)
        go_ret
        exact ⟨by rw [HR.out]; rfl, Box2.below (w := w) (a := ⟨ak, an, as'⟩) (b := ⟨bk, bn, bs⟩) (by assumption)⟩
      · have HR := Lib.hid (cmpVal_1 (a := ⟨ak, an, as'⟩) (b := ⟨bk, bn, bs⟩) h0 (hab.symm.trans h0))
        clear hab hq
        have q1 : (cls ⟨ak, an, as'⟩ == 1) = true := by rw [h0]; rfl
        have q2 : (cls ⟨ak, an, as'⟩ == 2) = false := by rw [h0]; rfl
        have HI := Lib.hid (show cmpInt an bn = if an < bn then -1 else if bn < an then 1 else 0 from rfl)
        rcases Int.lt_trichotomy an bn with hlt | heq | hgt
        · have HI := Lib.hid (HI.out.trans (if_pos hlt))
          go_wp2_with (go_at_call 108; refine (refClass_any ⟨_, _, _⟩ _).mono ?_; rintro e wa ⟨rfl, hba⟩; have hbx := Box2.pure (w := w) (a := ⟨ak, an, as'⟩) (b := ⟨bk, bn, bs⟩) (by assumption) hba; clear hba; obtain ⟨a0, a1, a2, b0, b1, b2, hsz, hbl⟩ := id hbx; simp only at a0 a1 a2 b0 b1 b2)
          go_ret
          exact ⟨by rw [HR.out]; show _ = Ending.returned (Value.int .i64 (cmpInt an bn)); rw [HI.out]; rfl, Box2.below (w := w) (a := ⟨ak, an, as'⟩) (b := ⟨bk, bn, bs⟩) (by assumption)⟩
        · have HI := Lib.hid ((HI.out.trans (if_neg (by omega))).trans (if_neg (by omega)))
          go_wp2_with (go_at_call 108; refine (refClass_any ⟨_, _, _⟩ _).mono ?_; rintro e wa ⟨rfl, hba⟩; have hbx := Box2.pure (w := w) (a := ⟨ak, an, as'⟩) (b := ⟨bk, bn, bs⟩) (by assumption) hba; clear hba; obtain ⟨a0, a1, a2, b0, b1, b2, hsz, hbl⟩ := id hbx; simp only at a0 a1 a2 b0 b1 b2)
          go_ret
          exact ⟨by rw [HR.out]; show _ = Ending.returned (Value.int .i64 (cmpInt an bn)); rw [HI.out]; rfl, Box2.below (w := w) (a := ⟨ak, an, as'⟩) (b := ⟨bk, bn, bs⟩) (by assumption)⟩
        · have HI := Lib.hid ((HI.out.trans (if_neg (by omega))).trans (if_pos hgt))
          go_wp2_with (go_at_call 108; refine (refClass_any ⟨_, _, _⟩ _).mono ?_; rintro e wa ⟨rfl, hba⟩; have hbx := Box2.pure (w := w) (a := ⟨ak, an, as'⟩) (b := ⟨bk, bn, bs⟩) (by assumption) hba; clear hba; obtain ⟨a0, a1, a2, b0, b1, b2, hsz, hbl⟩ := id hbx; simp only at a0 a1 a2 b0 b1 b2)
          go_ret
          exact ⟨by rw [HR.out]; show _ = Ending.returned (Value.int .i64 (cmpInt an bn)); rw [HI.out]; rfl, Box2.below (w := w) (a := ⟨ak, an, as'⟩) (b := ⟨bk, bn, bs⟩) (by assumption)⟩
      · have HR := Lib.hid (cmpVal_2 (a := ⟨ak, an, as'⟩) (b := ⟨bk, bn, bs⟩) h0 (hab.symm.trans h0))
        clear hab hq
        have q1 : (cls ⟨ak, an, as'⟩ == 1) = false := by rw [h0]; rfl
        have q2 : (cls ⟨ak, an, as'⟩ == 2) = true := by rw [h0]; rfl
        have HR := Lib.hid (show cmpVal ⟨ak, an, as'⟩ ⟨bk, bn, bs⟩ = cmpBytes as'.toList bs.toList from HR.out)
        have hl0 := bytesLess_cmp as'.toList bs.toList
        have hg0 := bytesGtr_cmp as'.toList bs.toList
        rcases cmpBytes_good.range as'.toList bs.toList with hc | hc | hc
        · have HI := Lib.hid hc
          have hl : Op.bytesLess as'.toList bs.toList = true := by rw [hl0, hc]; rfl
          clear hl0 hg0 hc
          go_wp2_with (go_at_call 108; refine (refClass_any ⟨_, _, _⟩ _).mono ?_; rintro e wa ⟨rfl, hba⟩; have hbx := Box2.pure (w := w) (a := ⟨ak, an, as'⟩) (b := ⟨bk, bn, bs⟩) (by assumption) hba; clear hba; obtain ⟨a0, a1, a2, b0, b1, b2, hsz, hbl⟩ := id hbx; simp only at a0 a1 a2 b0 b1 b2)
          go_ret
          exact ⟨by rw [HR.out, HI.out]; rfl, Box2.below (w := w) (a := ⟨ak, an, as'⟩) (b := ⟨bk, bn, bs⟩) (by assumption)⟩
        · have HI := Lib.hid hc
          have hl : Op.bytesLess as'.toList bs.toList = false := by rw [hl0, hc]; rfl
          have hg : (!(Op.bytesLess as'.toList bs.toList || as'.toList == bs.toList)) = false := by rw [hg0, hc]; rfl
          rw [hl, Bool.false_or] at hg
          clear hl0 hg0 hc
          go_wp2_with (go_at_call 108; refine (refClass_any ⟨_, _, _⟩ _).mono ?_; rintro e wa ⟨rfl, hba⟩; have hbx := Box2.pure (w := w) (a := ⟨ak, an, as'⟩) (b := ⟨bk, bn, bs⟩) (by assumption) hba; clear hba; obtain ⟨a0, a1, a2, b0, b1, b2, hsz, hbl⟩ := id hbx; simp only at a0 a1 a2 b0 b1 b2)
          go_ret
          exact ⟨by rw [HR.out, HI.out]; rfl, Box2.below (w := w) (a := ⟨ak, an, as'⟩) (b := ⟨bk, bn, bs⟩) (by assumption)⟩
        · have HI := Lib.hid hc
          have hl : Op.bytesLess as'.toList bs.toList = false := by rw [hl0, hc]; rfl
          have hg : (!(Op.bytesLess as'.toList bs.toList || as'.toList == bs.toList)) = true := by rw [hg0, hc]; rfl
          rw [hl, Bool.false_or] at hg
          clear hl0 hg0 hc
          go_wp2_with (go_at_call 108; refine (refClass_any ⟨_, _, _⟩ _).mono ?_; rintro e wa ⟨rfl, hba⟩; have hbx := Box2.pure (w := w) (a := ⟨ak, an, as'⟩) (b := ⟨bk, bn, bs⟩) (by assumption) hba; clear hba; obtain ⟨a0, a1, a2, b0, b1, b2, hsz, hbl⟩ := id hbx; simp only at a0 a1 a2 b0 b1 b2)
          go_ret
          exact ⟨by rw [HR.out, HI.out]; rfl, Box2.below (w := w) (a := ⟨ak, an, as'⟩) (b := ⟨bk, bn, bs⟩) (by assumption)⟩
  · have hq : (cls ⟨ak, an, as'⟩ == cls ⟨bk, bn, bs⟩) = false := by simpa using hab
    have HR := Lib.hid (cmpVal_cls (a := ⟨ak, an, as'⟩) (b := ⟨bk, bn, bs⟩) hab)
    have HI := Lib.hid (show cmpInt (cls ⟨ak, an, as'⟩) (cls ⟨bk, bn, bs⟩) = if cls ⟨ak, an, as'⟩ < cls ⟨bk, bn, bs⟩ then -1 else if cls ⟨bk, bn, bs⟩ < cls ⟨ak, an, as'⟩ then 1 else 0 from rfl)
    go_wp2_with fail
    go_region_held3 (fun w' => w'.cell? ⟨w.heap.size, 0, none⟩ = some (.int .i64 ak) ∧ w'.cell? ⟨w.heap.size, 1, none⟩ = some (.int .i64 an) ∧ w'.cell? ⟨w.heap.size, 2, none⟩ = some (.string as') ∧
        w'.cell? ⟨w.heap.size + 1, 0, none⟩ = some (.int .i64 bk) ∧ w'.cell? ⟨w.heap.size + 1, 1, none⟩ = some (.int .i64 bn) ∧ w'.cell? ⟨w.heap.size + 1, 2, none⟩ = some (.string bs))
      (first | go_keep | exact Box2.six (a := ⟨ak, an, as'⟩) (b := ⟨bk, bn, bs⟩) (by assumption))
      ((go_at_call 108; refine (refClass_any ⟨_, _, _⟩ _).mono ?_; rintro e wa ⟨rfl, hba⟩; have hbx := Box2.pure (w := w) (a := ⟨ak, an, as'⟩) (b := ⟨bk, bn, bs⟩) (by assumption) hba; clear hba))
    all_goals
      go_wp2_with fail
      clear H0 a0 a1 a2 b0 b1 b2 hsz hbl
      obtain ⟨a0, a1, a2, b0, b1, b2, hsz, hbl⟩ := id (Box2.drew (w := w) (a := ⟨ak, an, as'⟩) (b := ⟨bk, bn, bs⟩) hbx)
      simp only at a0 a1 a2 b0 b1 b2
      have hby := Box2.drew (w := w) (a := ⟨ak, an, as'⟩) (b := ⟨bk, bn, bs⟩) hbx
      clear hbx
      go_region_held3 (fun w' => w'.cell? ⟨w.heap.size, 0, none⟩ = some (.int .i64 ak) ∧ w'.cell? ⟨w.heap.size, 1, none⟩ = some (.int .i64 an) ∧ w'.cell? ⟨w.heap.size, 2, none⟩ = some (.string as') ∧
        w'.cell? ⟨w.heap.size + 1, 0, none⟩ = some (.int .i64 bk) ∧ w'.cell? ⟨w.heap.size + 1, 1, none⟩ = some (.int .i64 bn) ∧ w'.cell? ⟨w.heap.size + 1, 2, none⟩ = some (.string bs))
        (first | go_keep | exact Box2.six (a := ⟨ak, an, as'⟩) (b := ⟨bk, bn, bs⟩) (by assumption))
        ((go_at_call 108; refine (refClass_any ⟨_, _, _⟩ _).mono ?_; rintro e wa ⟨rfl, hba⟩; have hbx := Box2.pure (w := w) (a := ⟨ak, an, as'⟩) (b := ⟨bk, bn, bs⟩) (by assumption) hba; clear hba))
      all_goals
        by_cases hlt : cls ⟨ak, an, as'⟩ < cls ⟨bk, bn, bs⟩
        · have HI := Lib.hid (HI.out.trans (if_pos hlt))
          go_wp2
          go_ret
          exact ⟨by rw [HR.out, HI.out]; rfl, hbx.below⟩
        · have HI := Lib.hid ((HI.out.trans (if_neg hlt)).trans (if_pos (by omega)))
          go_wp2
          go_ret
          exact ⟨by rw [HR.out, HI.out]; rfl, hbx.below⟩
/-- The cells of a row's element. -/
theorem row_cells {m : Mem} {xs : List Val} {a : Option Addr} {n cap : Nat} (h : tRow.rv m [.slice a n cap] xs) {k : Nat} (hk : k < xs.length) :
    ∃ b o, a = some ⟨b, o, none⟩ ∧ m b (o + k * 3) = some (.int .i64 xs[k].kind) ∧ m b (o + k * 3 + 1) = some (.int .i64 xs[k].n) ∧ m b (o + k * 3 + 2) = some (.string xs[k].s) := by
  obtain ⟨b, o, rfl, hat⟩ := slice_at h hk
  obtain ⟨c0, c1, c2, _⟩ := val_at hat
  exact ⟨b, o, rfl, c0, c1, c2⟩

set_option maxRecDepth 100000 in
set_option maxHeartbeats 1000000 in
theorem refCmp_any (xs ys : List Val) (v u : Value) (w : World) (hv : tRow.rv (mem w) [v] xs) (hu : tRow.rv (mem w) [u] ys) :
    Calls Try.prog 72 #[v, u] w fun e w' => e = .returned (.int .i64 (cmpRow xs ys)) ∧ Below w.heap.size w w' := by
  obtain ⟨a, cap, rfl, hl, hm, hv⟩ := slice_form hv
  have hcap : cap ≤ 9223372036854775807 := by unfold maxLen at hm; exact hm
  obtain ⟨a2, cap2, rfl, hl2, hm2, hu⟩ := slice_form hu
  have hcap2 : cap2 ≤ 9223372036854775807 := by unfold maxLen at hm2; exact hm2
  clear hm hm2
  go_enter Try.func72, Try.ntmps72
  go_wp2
  go_loopw [5] (fun i wr => ∃ k : Nat, k ≤ xs.length ∧ k ≤ ys.length ∧ i = .int .i64 k ∧ Hid (cmpRow xs ys = cmpRow (xs.drop k) (ys.drop k)) ∧ Below w.heap.size w wr) (fun i _ => xs.length - (intOf i).toNat)
  case atStart => exact ⟨0, by omega, by omega, rfl, Lib.hid rfl, Below.refl _ _⟩
  case round =>
    obtain ⟨k, hk, hk2, rfl, HT, hB⟩ := hrel
    by_cases hlt : k < xs.length
    · by_cases hlt2 : k < ys.length
      · have hB := hB.drew
        obtain ⟨b, o, rfl, c0, c1, c2⟩ := row_cells (tRow.mono _ _ _ _ (below_mem hB) hv) hlt
        have c0 : wr.drew.cell? ⟨b, o + k * 3, none⟩ = some (.int .i64 xs[k].kind) := c0
        have c1 : wr.drew.cell? ⟨b, o + k * 3 + 1, none⟩ = some (.int .i64 xs[k].n) := c1
        have c2 : wr.drew.cell? ⟨b, o + k * 3 + 2, none⟩ = some (.string xs[k].s) := c2
        obtain ⟨b', o', rfl, d0, d1, d2⟩ := row_cells (tRow.mono _ _ _ _ (below_mem hB) hu) hlt2
        have d0 : wr.drew.cell? ⟨b', o' + k * 3, none⟩ = some (.int .i64 ys[k].kind) := d0
        have d1 : wr.drew.cell? ⟨b', o' + k * 3 + 1, none⟩ = some (.int .i64 ys[k].n) := d1
        have d2 : wr.drew.cell? ⟨b', o' + k * 3 + 2, none⟩ = some (.string ys[k].s) := d2
        have HS := Lib.hid (HT.out.trans (cmpRow_step hlt hlt2))
        have HC := Lib.hid (refCmpVals_any xs[k] ys[k])
        clear hv hu HT
        generalize cmpVal xs[k] ys[k] = r at HS HC
        generalize xs[k] = x at *
        generalize ys[k] = y at *
        obtain ⟨xk, xn, xs'⟩ := x
        obtain ⟨yk, yn, ys'⟩ := y
        simp only at c0 c1 c2 d0 d1 d2
        go_wp2_with fail
        go_region_held3 (fun w' => w'.cell? ⟨b, o + k * 3, none⟩ = some (.int .i64 xk) ∧ w'.cell? ⟨b, o + k * 3 + 1, none⟩ = some (.int .i64 xn) ∧ w'.cell? ⟨b, o + k * 3 + 2, none⟩ = some (.string xs') ∧
            w'.cell? ⟨b', o' + k * 3, none⟩ = some (.int .i64 yk) ∧ w'.cell? ⟨b', o' + k * 3 + 1, none⟩ = some (.int .i64 yn) ∧ w'.cell? ⟨b', o' + k * 3 + 2, none⟩ = some (.string ys'))
          (first | go_keep | exact ⟨below_mem hb _ _ _ c0, below_mem hb _ _ _ c1, below_mem hb _ _ _ c2, below_mem hb _ _ _ d0, below_mem hb _ _ _ d1, below_mem hb _ _ _ d2⟩)
          ((first | (go_at_call 95; refine (HC.out _).mono ?_; rintro e w1 ⟨rfl, hb⟩)))
        all_goals
          have hB1 := pure_trans hB hb
          clear hb hB HC c0 c1 c2 d0 d1 d2
          by_cases hr : r = 0
          · subst hr
            go_wp2
            go_roundw
            case rel => exact ⟨k + 1, by omega, by omega, by go_num, Lib.hid (by rw [HS.out]; rfl), hB1⟩
            case measure => simp [intOf]; omega
          · have hr1 : (r == 0) = false := by simpa using hr
            have HS := Lib.hid (HS.out.trans (if_pos hr))
            go_wp2
            go_ret
            exact ⟨by rw [HS.out]; rfl, hB1⟩
      · have HE := Lib.hid (HT.out.trans (cmpRow_end (.inr (by omega)) hk hk2))
        have HE := Lib.hid ((HE.out.trans (if_neg (by omega))).trans (if_pos (by omega)))
        clear HT
        go_wp2
        go_ret
        exact ⟨by rw [HE.out]; rfl, hB⟩
    · obtain rfl : k = xs.length := by omega
      have HE := Lib.hid (HT.out.trans (cmpRow_end (.inl (by omega)) hk hk2))
      clear HT
      by_cases hlt2 : xs.length < ys.length
      · have HE := Lib.hid (HE.out.trans (if_pos hlt2))
        go_wp2
        go_ret
        exact ⟨by rw [HE.out]; rfl, hB⟩
      · have HE := Lib.hid ((HE.out.trans (if_neg hlt2)).trans (if_neg (by omega)))
        go_wp2
        go_ret
        exact ⟨by rw [HE.out]; rfl, hB⟩
end Go.Proofs.Ytfkphdmnelchmaa
