/- The order of rows: walks. -/
import Derived.Test.YtkldimaoafgolaaDoorOrd
import Derived.Test.YtkldimaoafgolaaDoorAwake2
import Derived.Deep.RegionHeld3
namespace Go.Proofs.YtkldimaoafgolaaDoor
open Go.RowKit

abbrev Val.v (x : Val) : Value := .agg #[.int .i64 x.kind, .int .i64 x.n, .string x.s]

set_option maxHeartbeats 400000 in
theorem rowKind_any (x : Val) (w : World) :
    Calls Tryd.prog 65 #[x.v] w fun e w' => e = .returned (.int .i64 (cls x)) ∧ Below w.heap.size w w' := by
  have hb : ∀ o, Below w.heap.size w (w.alloc o) := fun o => (Below.refl _ _).alloc (Nat.le_refl _) o
  have HC := Lib.hid (show cls x = if (decide (1 ≤ x.kind ∧ x.kind ≤ 2)) = true then x.kind else 0 by
    unfold cls
    by_cases h : x.kind = 1 ∨ x.kind = 2
    · rw [if_pos h, if_pos (by simp; omega)]
    · rw [if_neg h, if_neg (by simp; omega)])
  obtain ⟨xk, xn, xs⟩ := x
  simp only at HC
  go_enter Tryd.func65, Tryd.ntmps65
  go_wp2_with fail
  refine (rowWithin_any _ _ _ _).mono ?_
  rintro e w' ⟨rfl, rfl⟩
  generalize decide (1 ≤ xk ∧ xk ≤ 2) = r at *
  cases r
  · go_wp2
    go_ret
    exact ⟨by rw [HC.out]; rfl, hb _⟩
  · go_wp2
    go_ret
    exact ⟨by rw [HC.out]; rfl, hb _⟩

set_option maxHeartbeats 400000 in
theorem refClass_any (x : Val) (w : World) :
    Calls Tryd.prog 71 #[x.v] w fun e w' => e = .returned (.int .i64 (cls x)) ∧ Below w.heap.size w w' := by
  have hb : ∀ o, Below w.heap.size w (w.alloc o) := fun o => (Below.refl _ _).alloc (Nat.le_refl _) o
  have HC := Lib.hid (show cls x = if x.kind = 1 ∨ x.kind = 2 then x.kind else 0 from rfl)
  obtain ⟨xk, xn, xs⟩ := x
  simp only at HC
  by_cases h1 : xk = 1
  · subst h1
    go_enter Tryd.func71, Tryd.ntmps71
    go_wp2
    go_ret
    exact ⟨by rw [HC.out]; rfl, hb _⟩
  by_cases h2 : xk = 2
  · subst h2
    go_enter Tryd.func71, Tryd.ntmps71
    go_wp2
    go_ret
    exact ⟨by rw [HC.out]; rfl, hb _⟩
  · have b1 : (xk == 1) = false := by simpa using h1
    have b2 : (xk == 2) = false := by simpa using h2
    have HC := Lib.hid (HC.out.trans (if_neg (by omega)))
    go_enter Tryd.func71, Tryd.ntmps71
    go_wp2
    all_goals try (exfalso; simp only [beq_iff_eq, beq_eq_false_iff_ne, Bool.or_eq_true] at *; omega)
    go_ret
    exact ⟨by rw [HC.out]; rfl, hb _⟩

set_option maxHeartbeats 400000 in
theorem nanStr_any (s : ByteArray) (w : World) :
    Calls Tryd.prog 92 #[.string s] w fun e w' => e = .returned (.bool false) ∧ w = w' := by
  go_enter Tryd.func92, Tryd.ntmps92
  go_wp2
  go_ret
  exact ⟨by simp, rfl⟩

set_option maxHeartbeats 400000 in
theorem cmpStr_any (s t : ByteArray) (w : World) :
    Calls Tryd.prog 70 #[.string s, .string t] w fun e w' => e = .returned (.int .i64 (cmpBytes s.toList t.toList)) ∧ w = w' := by
  have HL := Lib.hid (bytesLess_cmp s.toList t.toList)
  have HG := Lib.hid (bytesGtr_cmp s.toList t.toList)
  have hr := cmpBytes_good.range s.toList t.toList
  generalize cmpBytes s.toList t.toList = c at *
  go_enter Tryd.func70, Tryd.ntmps70
  go_wp2_with (go_at_call 92; refine (nanStr_any _ _).mono ?_; rintro e w' ⟨rfl, rfl⟩)
  · have h : Op.bytesLess s.toList t.toList = true := by assumption
    have hl := HL.out
    rw [h] at hl
    have : c = -1 := by have := of_decide_eq_true hl.symm; omega
    subst this
    go_ret
    exact ⟨rfl, rfl⟩
  · have h1 : Op.bytesLess s.toList t.toList = false := by assumption
    have h2 : (!s.toList == t.toList) = true := by assumption
    have hg := HG.out
    rw [h1, Bool.false_or, h2] at hg
    have : c = 1 := by have := of_decide_eq_true hg.symm; omega
    subst this
    go_ret
    exact ⟨rfl, rfl⟩
  · have h1 : Op.bytesLess s.toList t.toList = false := by assumption
    have h2 : (!s.toList == t.toList) = false := by assumption
    have hl := HL.out
    have hg := HG.out
    rw [h1] at hl
    rw [h1, Bool.false_or, h2] at hg
    have : c = 0 := by have := of_decide_eq_false hl.symm; have := of_decide_eq_false hg.symm; omega
    subst this
    go_ret
    exact ⟨rfl, rfl⟩

theorem compareInt_eq (x y : Int) : Lib.compareInt x y = cmpInt x y := rfl
theorem cmpInt_any (x y : Int) (w : World) :
    Calls Tryd.prog 66 #[.int .i64 x, .int .i64 y] w fun e w' => e = .returned (.int .i64 (cmpInt x y)) ∧ w' = w := Tryd.cmp_Compare_int x y w

set_option maxHeartbeats 400000 in
theorem cmpV1_any (a b : Val) (w : World) :
    Calls Tryd.prog 67 #[a.v, b.v] w fun e w' => e = .returned (.int .i64 0) ∧ Below w.heap.size w w' := by
  obtain ⟨ak, an, as'⟩ := a
  obtain ⟨bk, bn, bs⟩ := b
  have hb : ∀ o o', Below w.heap.size w ((w.alloc o).alloc o') := fun o o' => ((Below.refl _ _).alloc (Nat.le_refl _) o).alloc (by simp) o'
  go_enter Tryd.func67, Tryd.ntmps67
  go_wp2
  go_ret
  exact ⟨rfl, hb _ _⟩
set_option maxHeartbeats 400000 in
theorem cmpV2_any (a b : Val) (w : World) :
    Calls Tryd.prog 68 #[a.v, b.v] w fun e w' => e = .returned (.int .i64 (cmpInt a.n b.n)) ∧ Below w.heap.size w w' := by
  obtain ⟨ak, an, as'⟩ := a
  obtain ⟨bk, bn, bs⟩ := b
  have hb : ∀ o o', Below w.heap.size w ((w.alloc o).alloc o') := fun o o' => ((Below.refl _ _).alloc (Nat.le_refl _) o).alloc (by simp) o'
  show Calls _ _ _ _ fun e w' => e = .returned (.int .i64 (cmpInt an bn)) ∧ _
  go_enter Tryd.func68, Tryd.ntmps68
  go_wp2_with (go_at_call 66; refine (cmpInt_any _ _ _).mono ?_; rintro e w' ⟨rfl, rfl⟩)
  go_ret
  exact ⟨rfl, hb _ _⟩
set_option maxHeartbeats 400000 in
theorem cmpV3_any (a b : Val) (w : World) :
    Calls Tryd.prog 69 #[a.v, b.v] w fun e w' => e = .returned (.int .i64 (cmpBytes a.s.toList b.s.toList)) ∧ Below w.heap.size w w' := by
  obtain ⟨ak, an, as'⟩ := a
  obtain ⟨bk, bn, bs⟩ := b
  have hb : ∀ o o', Below w.heap.size w ((w.alloc o).alloc o') := fun o o' => ((Below.refl _ _).alloc (Nat.le_refl _) o).alloc (by simp) o'
  show Calls _ _ _ _ fun e w' => e = .returned (.int .i64 (cmpBytes as'.toList bs.toList)) ∧ _
  go_enter Tryd.func69, Tryd.ntmps69
  go_wp2_with (go_at_call 70; refine (cmpStr_any _ _ _).mono ?_; rintro e w' ⟨rfl, rfl⟩)
  go_ret
  exact ⟨rfl, hb _ _⟩

theorem idxFn0 (w : World) : Sem.run Tryd.prog (Instr.index 81 (.agg #[.func (.func 67) #[] #[], .func (.func 68) #[] #[], .func (.func 69) #[] #[]]) (.int .i64 0)) w = .ok (.func (.func 67) #[] #[]) w := by kernel_rfl
theorem idxFn1 (w : World) : Sem.run Tryd.prog (Instr.index 81 (.agg #[.func (.func 67) #[] #[], .func (.func 68) #[] #[], .func (.func 69) #[] #[]]) (.int .i64 1)) w = .ok (.func (.func 68) #[] #[]) w := by kernel_rfl
theorem idxFn2 (w : World) : Sem.run Tryd.prog (Instr.index 81 (.agg #[.func (.func 67) #[] #[], .func (.func 68) #[] #[], .func (.func 69) #[] #[]]) (.int .i64 2)) w = .ok (.func (.func 69) #[] #[]) w := by kernel_rfl
/-- Two values in two boxes of the call's own. -/
structure Box2 (w wr : World) (a b : Val) : Prop where
  a0 : wr.cell? ⟨w.heap.size, 0, none⟩ = some (.int .i64 a.kind)
  a1 : wr.cell? ⟨w.heap.size, 1, none⟩ = some (.int .i64 a.n)
  a2 : wr.cell? ⟨w.heap.size, 2, none⟩ = some (.string a.s)
  b0 : wr.cell? ⟨w.heap.size + 1, 0, none⟩ = some (.int .i64 b.kind)
  b1 : wr.cell? ⟨w.heap.size + 1, 1, none⟩ = some (.int .i64 b.n)
  b2 : wr.cell? ⟨w.heap.size + 1, 2, none⟩ = some (.string b.s)
  size : w.heap.size + 2 ≤ wr.heap.size
  below : Below w.heap.size w wr
theorem Box2.start (w : World) (a b : Val) (T : TypeId) : Box2 w ((w.alloc (.cells #[.int .i64 a.kind, .int .i64 a.n, .string a.s] T)).alloc (.cells #[.int .i64 b.kind, .int .i64 b.n, .string b.s] T)) a b := by
  have h1 : ∀ o, ((w.alloc (.cells #[.int .i64 a.kind, .int .i64 a.n, .string a.s] T)).alloc (.cells #[.int .i64 b.kind, .int .i64 b.n, .string b.s] T)).cell? ⟨w.heap.size, o, none⟩ = (#[Value.int .i64 a.kind, .int .i64 a.n, .string a.s] : Array Value)[o]? := fun o => by
    have e := mem_of_block (Lib.alloc_old (w.alloc (.cells #[.int .i64 a.kind, .int .i64 a.n, .string a.s] T)) (.cells #[.int .i64 b.kind, .int .i64 b.n, .string b.s] T) w.heap.size (by simp)) o
    exact e.trans (mem_cells_new w _ T (0, 0) o)
  have h2 : ∀ o, ((w.alloc (.cells #[.int .i64 a.kind, .int .i64 a.n, .string a.s] T)).alloc (.cells #[.int .i64 b.kind, .int .i64 b.n, .string b.s] T)).cell? ⟨w.heap.size + 1, o, none⟩ = (#[Value.int .i64 b.kind, .int .i64 b.n, .string b.s] : Array Value)[o]? := fun o => cell_new o (by simp)
  exact ⟨h1 0, h1 1, h1 2, h2 0, h2 1, h2 2, by simp, ((Below.refl _ _).alloc (Nat.le_refl _) _).alloc (by simp) _⟩
theorem Box2.pure {w wr w1 : World} {a b : Val} (h : Box2 w wr a b) (k : Below wr.heap.size wr w1) : Box2 w w1 a b := by
  have e : ∀ x o v, wr.cell? ⟨x, o, none⟩ = some v → w1.cell? ⟨x, o, none⟩ = some v := fun x o v hx => below_mem k x o v hx
  exact ⟨e _ _ _ h.a0, e _ _ _ h.a1, e _ _ _ h.a2, e _ _ _ h.b0, e _ _ _ h.b1, e _ _ _ h.b2, Nat.le_trans h.size k.size, pure_trans h.below k⟩
theorem Box2.six {w wr : World} {a b : Val} (h : Box2 w wr a b) : wr.cell? ⟨w.heap.size, 0, none⟩ = some (.int .i64 a.kind) ∧ wr.cell? ⟨w.heap.size, 1, none⟩ = some (.int .i64 a.n) ∧ wr.cell? ⟨w.heap.size, 2, none⟩ = some (.string a.s) ∧
    wr.cell? ⟨w.heap.size + 1, 0, none⟩ = some (.int .i64 b.kind) ∧ wr.cell? ⟨w.heap.size + 1, 1, none⟩ = some (.int .i64 b.n) ∧ wr.cell? ⟨w.heap.size + 1, 2, none⟩ = some (.string b.s) := ⟨h.a0, h.a1, h.a2, h.b0, h.b1, h.b2⟩
theorem Box2.drew {w wr : World} {a b : Val} (h : Box2 w wr a b) : Box2 w wr.drew a b := h.pure (Below.refl _ _).drew

set_option maxRecDepth 100000 in
set_option maxHeartbeats 2000000 in
theorem cmpVals_any (a b : Val) (w : World) :
    Calls Tryd.prog 30 #[a.v, b.v] w fun e w' => e = .returned (.int .i64 (cmpVal a b)) ∧ Below w.heap.size w w' := by
  have hb : ∀ o o', Below w.heap.size w ((w.alloc o).alloc o') := fun o o' => ((Below.refl _ _).alloc (Nat.le_refl _) o).alloc (by simp) o'
  have HA := Lib.hid (rowKind_any a)
  have HB := Lib.hid (rowKind_any b)
  have H1 := Lib.hid (cmpV1_any a b)
  have H2 := Lib.hid (cmpV2_any a b)
  have H3 := Lib.hid (cmpV3_any a b)
  have hca := cls_cases a
  have E0 := Lib.hid (fun (ha : cls a = 0) hb => cmpVal_0 (b := b) ha hb)
  have E1 := Lib.hid (fun (ha : cls a = 1) hb => cmpVal_1 (b := b) ha hb)
  have E2 := Lib.hid (fun (ha : cls a = 2) hb => cmpVal_2 (b := b) ha hb)
  have EN := Lib.hid (fun (h : cls a ≠ cls b) => cmpVal_cls h)
  generalize cls a = ca at *
  generalize cls b = cb at *
  generalize cmpVal a b = r at *
  obtain ⟨ak, an, as'⟩ := a
  obtain ⟨bk, bn, bs⟩ := b
  go_enter Tryd.func30, Tryd.ntmps30
  go_wp2_with fail
  refine (HA.out _).mono ?_
  rintro e w1 ⟨rfl, hb1⟩
  have hx := (Box2.start w ⟨ak, an, as'⟩ ⟨bk, bn, bs⟩ _).pure hb1
  obtain ⟨a0, a1, a2, b0, b1, b2, hsz, hbl⟩ := hx
  simp only at a0 a1 a2 b0 b1 b2
  go_wp2_with fail
  refine (HB.out _).mono ?_
  rintro e w2 ⟨rfl, hb2⟩
  obtain ⟨a0, a1, a2, b0, b1, b2, hsz, hbl⟩ := Box2.pure (w := w) (a := ⟨ak, an, as'⟩) (b := ⟨bk, bn, bs⟩) ⟨a0, a1, a2, b0, b1, b2, hsz, hbl⟩ hb2
  simp only at a0 a1 a2 b0 b1 b2
  go_wp2_with fail
  refine (cmpInt_any _ _ _).mono ?_
  rintro e w3 ⟨rfl, rfl⟩
  by_cases hab : ca = cb
  · subst hab
    rw [cmpInt_good.refl]
    rcases hca with rfl | rfl | rfl
    · have hr := E0.out rfl rfl
      have hix := idxFn0
      have hbx := (Box2.mk (w := w) (wr := _) (a := ⟨ak, an, as'⟩) (b := ⟨bk, bn, bs⟩) a0 a1 a2 b0 b1 b2 hsz hbl).drew
      obtain ⟨a0, a1, a2, b0, b1, b2, hsz, hbl⟩ := Box2.drew (w := w) (a := ⟨ak, an, as'⟩) (b := ⟨bk, bn, bs⟩) ⟨a0, a1, a2, b0, b1, b2, hsz, hbl⟩
      simp only at a0 a1 a2 b0 b1 b2
      go_wp2_with fail
      go_region_held3 (fun w' => w'.cell? ⟨w.heap.size, 0, none⟩ = some (.int .i64 ak) ∧ w'.cell? ⟨w.heap.size, 1, none⟩ = some (.int .i64 an) ∧ w'.cell? ⟨w.heap.size, 2, none⟩ = some (.string as') ∧
          w'.cell? ⟨w.heap.size + 1, 0, none⟩ = some (.int .i64 bk) ∧ w'.cell? ⟨w.heap.size + 1, 1, none⟩ = some (.int .i64 bn) ∧ w'.cell? ⟨w.heap.size + 1, 2, none⟩ = some (.string bs))
        (first | go_keep | exact hbx.six | exact hby.six)
        ((first | (go_at_call 67; refine (H1.out _).mono ?_; rintro e w4 ⟨rfl, hb4⟩; have hby := hbx.pure hb4)))
      all_goals
        go_wp2
        go_ret
        exact ⟨by rw [hr]; rfl, hby.below⟩
    · have hr := E1.out rfl rfl
      have hix := idxFn1
      have hbx := (Box2.mk (w := w) (wr := _) (a := ⟨ak, an, as'⟩) (b := ⟨bk, bn, bs⟩) a0 a1 a2 b0 b1 b2 hsz hbl).drew
      obtain ⟨a0, a1, a2, b0, b1, b2, hsz, hbl⟩ := Box2.drew (w := w) (a := ⟨ak, an, as'⟩) (b := ⟨bk, bn, bs⟩) ⟨a0, a1, a2, b0, b1, b2, hsz, hbl⟩
      simp only at a0 a1 a2 b0 b1 b2
      go_wp2_with fail
      go_region_held3 (fun w' => w'.cell? ⟨w.heap.size, 0, none⟩ = some (.int .i64 ak) ∧ w'.cell? ⟨w.heap.size, 1, none⟩ = some (.int .i64 an) ∧ w'.cell? ⟨w.heap.size, 2, none⟩ = some (.string as') ∧
          w'.cell? ⟨w.heap.size + 1, 0, none⟩ = some (.int .i64 bk) ∧ w'.cell? ⟨w.heap.size + 1, 1, none⟩ = some (.int .i64 bn) ∧ w'.cell? ⟨w.heap.size + 1, 2, none⟩ = some (.string bs))
        (first | go_keep | exact hbx.six | exact hby.six)
        ((first | (go_at_call 68; refine (H2.out _).mono ?_; rintro e w4 ⟨rfl, hb4⟩; have hby := hbx.pure hb4)))
      all_goals
        go_wp2
        go_ret
        exact ⟨by rw [hr]; rfl, hby.below⟩
    · have hr := E2.out rfl rfl
      have hix := idxFn2
      have hbx := (Box2.mk (w := w) (wr := _) (a := ⟨ak, an, as'⟩) (b := ⟨bk, bn, bs⟩) a0 a1 a2 b0 b1 b2 hsz hbl).drew
      obtain ⟨a0, a1, a2, b0, b1, b2, hsz, hbl⟩ := Box2.drew (w := w) (a := ⟨ak, an, as'⟩) (b := ⟨bk, bn, bs⟩) ⟨a0, a1, a2, b0, b1, b2, hsz, hbl⟩
      simp only at a0 a1 a2 b0 b1 b2
      go_wp2_with fail
      go_region_held3 (fun w' => w'.cell? ⟨w.heap.size, 0, none⟩ = some (.int .i64 ak) ∧ w'.cell? ⟨w.heap.size, 1, none⟩ = some (.int .i64 an) ∧ w'.cell? ⟨w.heap.size, 2, none⟩ = some (.string as') ∧
          w'.cell? ⟨w.heap.size + 1, 0, none⟩ = some (.int .i64 bk) ∧ w'.cell? ⟨w.heap.size + 1, 1, none⟩ = some (.int .i64 bn) ∧ w'.cell? ⟨w.heap.size + 1, 2, none⟩ = some (.string bs))
        (first | go_keep | exact hbx.six | exact hby.six)
        ((first | (go_at_call 69; refine (H3.out _).mono ?_; rintro e w4 ⟨rfl, hb4⟩; have hby := hbx.pure hb4)))
      all_goals
        go_wp2
        go_ret
        exact ⟨by rw [hr]; rfl, hby.below⟩
  · have hne : (cmpInt ca cb == 0) = false := by
      unfold cmpInt
      repeat' split
      all_goals first | rfl | omega
    rw [← EN.out hab] at hne ⊢
    go_wp2_with fail
    go_ret
    exact ⟨rfl, hbl⟩
end Go.Proofs.YtkldimaoafgolaaDoor
