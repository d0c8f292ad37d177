/- The methods of a nil state. -/
import Derived.Test.YtbmpoecmjmmngaaHAct
namespace Go.Proofs.Ytbmpoecmjmmngaa
open Go.RowKit Go.Maps Go.Shelf
attribute [local go_sem] Oper.semAt_some

theorem getNil (g : Int) (nm key : ByteArray) (w : World) :
    Calls Try.prog 10 #[.pointer none, .int .i64 g, .string nm, .string key] w fun e w' => e = .returned (.tuple #[.string ⟨#[]⟩, .int .i64 1]) ∧ Below w.heap.size w w' := by
  have hb0 : ∀ o, Below w.heap.size w (w.alloc o) := fun o => (Below.refl _ _).alloc (Nat.le_refl _) o
  go_enter Try.func10, Try.ntmps10
  go_wp2_with fail
  refine (checked_nil _ _ _ _).mono ?_
  rintro e w1 ⟨rfl, hb⟩
  have hB := pure_trans (hb0 _) hb
  go_wp2
  go_ret2
  exact ⟨rfl, hB⟩
theorem putNil (g : Int) (nm key val : ByteArray) (w : World) :
    Calls Try.prog 9 #[.pointer none, .int .i64 g, .string nm, .string key, .string val] w fun e w' => e = .returned (.int .i64 1) ∧ Below w.heap.size w w' := by
  have hb0 : ∀ o, Below w.heap.size w (w.alloc o) := fun o => (Below.refl _ _).alloc (Nat.le_refl _) o
  go_enter Try.func9, Try.ntmps9
  go_wp2_with fail
  refine (checked_nil _ _ _ _).mono ?_
  rintro e w1 ⟨rfl, hb⟩
  have hB := pure_trans (hb0 _) hb
  go_wp2
  go_ret
  exact ⟨rfl, hB⟩
theorem deleteNil (g : Int) (nm key : ByteArray) (w : World) :
    Calls Try.prog 23 #[.pointer none, .int .i64 g, .string nm, .string key] w fun e w' => e = .returned (.int .i64 1) ∧ Below w.heap.size w w' := by
  go_enter Try.func23, Try.ntmps23
  go_wp2_with fail
  refine (getNil _ _ _ _).mono ?_
  rintro e w1 ⟨rfl, hb⟩
  go_wp2
  go_ret
  exact ⟨rfl, hb⟩
theorem snapshotNil (w : World) : Calls Try.prog 15 #[.pointer none] w fun e w' => e = .returned (.tuple #[.int .i64 0, .int .i64 1]) ∧ Below w.heap.size w w' := by
  go_enter Try.func15, Try.ntmps15
  go_wp2
  go_ret2
  exact ⟨rfl, Below.refl _ _⟩
theorem groupsNil (a b : Int) (w : World) : Calls Try.prog 22 #[.pointer none, .int .i64 a, .int .i64 b] w fun e w' => e = .returned (.tuple #[.slice none 0 0, .int .i64 1]) ∧ Below w.heap.size w w' := by
  go_enter Try.func22, Try.ntmps22
  go_wp2
  go_ret2
  exact ⟨rfl, Below.refl _ _⟩
theorem snapNil (k : Int) (w : World) : Calls Try.prog 47 #[.pointer none, .int .i64 k] w fun e w' => e = .returned (.tuple #[.slice none 0 0, .int .i64 1]) ∧ w = w' := by
  go_enter Try.func47, Try.ntmps47
  go_wp2
  go_ret2
  exact ⟨rfl, rfl⟩
theorem dropNil (k : Int) (w : World) : Calls Try.prog 26 #[.pointer none, .int .i64 k] w fun e w' => e = .returned (.int .i64 1) ∧ Below w.heap.size w w' := by
  go_enter Try.func26, Try.ntmps26
  go_wp2_with fail
  refine (snapNil _ _).mono ?_
  rintro e w1 ⟨rfl, rfl⟩
  go_wp2
  go_ret
  exact ⟨rfl, Below.refl _ _⟩
theorem resetNil (k : Int) (w : World) : Calls Try.prog 20 #[.pointer none, .int .i64 k] w fun e w' => e = .returned (.int .i64 1) ∧ Below w.heap.size w w' := by
  go_enter Try.func20, Try.ntmps20
  go_wp2_with fail
  refine (snapNil _ _).mono ?_
  rintro e w1 ⟨rfl, rfl⟩
  go_wp2
  go_ret
  exact ⟨rfl, Below.refl _ _⟩
theorem allNil (w : World) : Calls Try.prog 16 #[.pointer none] w fun e w' => e = .returned (.slice none 0 0) ∧ Below w.heap.size w w' := by
  go_enter Try.func16, Try.ntmps16
  go_wp2
  go_ret
  exact ⟨rfl, Below.refl _ _⟩
theorem countNil (w : World) : Calls Try.prog 24 #[.pointer none] w fun e w' => e = .returned (.int .i64 0) ∧ Below w.heap.size w w' := by
  go_enter Try.func24, Try.ntmps24
  go_wp2
  go_ret
  exact ⟨rfl, Below.refl _ _⟩
theorem snapshotsNil (w : World) : Calls Try.prog 25 #[.pointer none] w fun e w' => e = .returned (.slice none 0 0) ∧ Below w.heap.size w w' := by
  go_enter Try.func25, Try.ntmps25
  go_wp2
  go_ret
  exact ⟨rfl, Below.refl _ _⟩
set_option maxRecDepth 100000 in
set_option maxHeartbeats 1000000 in
theorem scanNil (g : Int) (nm a b : ByteArray) (w : World) :
    Calls Try.prog 38 #[.pointer none, .int .i64 g, .string nm, .string a, .string b] w fun e w' => e = .returned (.tuple #[.slice none 0 0, .int .i64 1]) ∧ Below w.heap.size w w' := by
  have hb0 : ∀ o1 o2 o3 o4, Below w.heap.size w ((((w.alloc o1).alloc o2).alloc o3).alloc o4) := fun o1 o2 o3 o4 => ((((Below.refl _ _).alloc (Nat.le_refl _) o1).alloc (by simp) o2).alloc (by simp; omega) o3).alloc (by simp; omega) o4
  refine (callsIn_wide (n := 0)).1 (callsIn_of_wp_marks Try.func38 rfl trivial ?_ rfl)
  simp only [Try.ntmps38, List.size_toArray, List.length_cons, List.length_nil, Nat.reduceAdd, Nat.reduceSub, Array.replicate_succ, Array.replicate_zero, List.push_toArray, List.append_toArray, List.nil_append, List.cons_append]
  gi_wp2
  refine ⟨trivial, rfl, ((callsIn_wide (n := 0)).2 (checked_nil _ _ _ _)).mono ?_⟩
  rintro e w1 ⟨rfl, hb⟩
  have HB := Lib.hid (pure_trans (hb0 _ _ _ _) hb)
  clear hb hb0
  gi_wp2
  refine ⟨.tuple #[.slice none 0 0, .int .i64 1], ?_, ⟨rfl, HB.out⟩⟩
  unfold results
  rw [show Try.f38.results = #[.tmp 10, .tmp 11] from rfl]
  simp [go_sem, Result.andThen]
theorem clearNil (g : Int) (nm : ByteArray) (w : World) : Calls Try.prog 21 #[.pointer none, .int .i64 g, .string nm] w fun e w' => e = .returned (.tuple #[.int .i64 0, .int .i64 1]) ∧ Below w.heap.size w w' := by
  go_enter Try.func21, Try.ntmps21
  go_wp2_with fail
  refine (scanNil _ _ _ _ _).mono ?_
  rintro e w1 ⟨rfl, hb⟩
  go_wp2
  refine wp_loop_rounds 1 ?_
  rw [rounds_succ]
  go_wp2
  go_ret2
  exact ⟨rfl, hb⟩
end Go.Proofs.Ytbmpoecmjmmngaa
