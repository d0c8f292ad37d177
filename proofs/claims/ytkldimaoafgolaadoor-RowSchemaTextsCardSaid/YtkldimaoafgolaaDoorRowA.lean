/- Values, rows, events as plain data; contracts of package row and its reference: validity. -/
import Derived.Test.YtkldimaoafgolaaDoorRows
import Derived.Test.YtkldimaoafgolaaDoorLib
namespace Go.Proofs.YtkldimaoafgolaaDoor
open Go.RowKit

structure Val where
  kind : Int
  n : Int
  s : ByteArray
deriving DecidableEq, Inhabited
abbrev Val.cells (x : Val) : List Value := [.int .i64 x.kind, .int .i64 x.n, .string x.s]
def tVal : Ty Val := ⟨3, fun _ cs x => cs = [.int .i64 x.kind, .int .i64 x.n, .string x.s] ∧ inI64 x.kind ∧ inI64 x.n ∧ x.s.size ≤ maxLen, fun _ _ _ h => by rw [h.1]; rfl, fun _ _ _ _ _ h => h⟩
def tRow : Ty (List Val) := tSlice tVal
theorem tVal_flat : tVal.flat := fun _ _ _ _ h => h
theorem val_at {m : Mem} {b o : Nat} {x : Val} (h : tVal.at m b o x) : m b o = some (.int .i64 x.kind) ∧ m b (o + 1) = some (.int .i64 x.n) ∧ m b (o + 2) = some (.string x.s) ∧ inI64 x.kind ∧ inI64 x.n ∧ x.s.size ≤ maxLen := by
  obtain ⟨cs, h1, rfl, h3⟩ := h
  exact ⟨h1 0 _ rfl, h1 1 _ rfl, h1 2 _ rfl, h3⟩

def validVal (x : Val) : Bool :=
  if x.kind = 0 then decide (x.n = 0 ∧ x.s.size = 0) else if x.kind = 1 then decide (-1000000000000000 ≤ x.n ∧ x.n ≤ 1000000000000000 ∧ x.s.size = 0) else if x.kind = 2 then decide (x.n = 0 ∧ x.s.size ≤ 200) else false
def validRow (r : List Val) : Bool := decide (r.length ≤ 8) && r.all validVal

/-- The number of the first element that a test takes; -1 if there is none. -/
def idxOf {α : Type} (p : α → Bool) (l : List α) : Int := match l.findIdx? p with | none => -1 | some i => i
theorem idxOf_any {α : Type} (p : α → Bool) (l : List α) : decide (0 ≤ idxOf p l) = l.any p := by
  unfold idxOf
  cases h : l.findIdx? p with
  | none =>
    rw [List.findIdx?_eq_none_iff] at h
    have : l.any p = false := by simpa using h
    rw [this]; rfl
  | some i =>
    rw [List.findIdx?_eq_some_iff_getElem] at h
    obtain ⟨h1, h2, _⟩ := h
    have : l.any p = true := List.any_eq_true.2 ⟨l[i], List.getElem_mem h1, h2⟩
    rw [this]; simp
theorem idxOf_none {α : Type} {p : α → Bool} {l : List α} (h : ∀ x ∈ l, p x = false) : idxOf p l = -1 := by
  unfold idxOf
  rw [List.findIdx?_eq_none_iff.2 (by simpa using h)]
theorem idxOf_at {α : Type} {p : α → Bool} {l : List α} {k : Nat} (hk : k < l.length) (hp : p l[k] = true) (h : ∀ x ∈ l.take k, p x = false) : idxOf p l = k := by
  unfold idxOf
  have : l.findIdx? p = some k := by
    rw [List.findIdx?_eq_some_iff_getElem]
    refine ⟨hk, hp, fun j hj => ?_⟩
    have := h l[j] (List.mem_take_iff_getElem.2 ⟨j, by omega, rfl⟩)
    simp [this]
  rw [this]

theorem mem_take_snoc {α : Type} {l : List α} {k : Nat} (hk : k < l.length) {q : α → Prop} (h : ∀ x ∈ l.take k, q x) (hx : q l[k]) : ∀ x ∈ l.take (k + 1), q x := fun x hm => by
  rw [List.take_succ_eq_append_getElem hk] at hm
  rcases List.mem_append.1 hm with hm | hm
  · exact h x hm
  · simp at hm; subst hm; exact hx

def rowWithinF : Nat := 52
set_option maxHeartbeats 400000 in
theorem rowWithin_any (n lo hi : Int) (w : World) :
    Calls Tryd.prog 52 #[.int .i64 n, .int .i64 lo, .int .i64 hi] w fun e w' => e = .returned (.bool (decide (lo ≤ n ∧ n ≤ hi))) ∧ w = w' := by
  by_cases h1 : lo ≤ n <;> by_cases h2 : n ≤ hi
  all_goals
    go_enter Tryd.func52, Tryd.ntmps52
    go_wp2
    go_ret
    exact ⟨by simp [*], rfl⟩
set_option maxHeartbeats 400000 in
theorem refRowWithin_any (n lo hi : Int) (w : World) :
    Calls Tryd.prog 53 #[.int .i64 n, .int .i64 lo, .int .i64 hi] w fun e w' => e = .returned (.bool (decide (lo ≤ n ∧ n ≤ hi))) ∧ w = w' := by
  by_cases h1 : lo ≤ n <;> by_cases h2 : n ≤ hi
  all_goals
    go_enter Tryd.func53, Tryd.ntmps53
    go_wp2
    go_ret
    exact ⟨by simp [*], rfl⟩

/-! GEN -/

theorem empty_iff (s : ByteArray) : s.toList.isEmpty = decide (s.size = 0) := by
  rw [ByteArray.toList_eq]
  obtain ⟨⟨l⟩⟩ := s
  cases l with
  | nil => rfl
  | cons a l => simp [ByteArray.size]
theorem validVal_0 (n : Int) (s : ByteArray) : validVal ⟨0, n, s⟩ = (n == 0 && s.toList.isEmpty) := by
  have : s.toList.isEmpty = decide (s.size = 0) := by rw [empty_iff]
  rw [this]; simp [validVal, Bool.decide_and]; rfl
theorem validVal_1 (n : Int) (s : ByteArray) : validVal ⟨1, n, s⟩ = (decide (-1000000000000000 ≤ n ∧ n ≤ 1000000000000000) && s.toList.isEmpty) := by
  rw [empty_iff]; simp [validVal, Bool.decide_and, Bool.and_assoc]
theorem validVal_2 (n : Int) (s : ByteArray) : validVal ⟨2, n, s⟩ = (n == 0 && decide ((s.size : Int) ≤ 200)) := by
  have : decide ((s.size : Int) ≤ 200) = decide (s.size ≤ 200) := by simp; omega
  rw [this]; simp [validVal, Bool.decide_and]; rfl

set_option maxHeartbeats 1000000 in
theorem validValue_any (x : Val) (w : World) (hs : x.s.size ≤ maxLen) :
    Calls Tryd.prog 13 #[.agg #[.int .i64 x.kind, .int .i64 x.n, .string x.s]] w fun e w' => e = .returned (.bool (validVal x)) ∧ Below w.heap.size w w' := by
  obtain ⟨k, n, s⟩ := x
  simp only at hs ⊢
  unfold maxLen at hs
  have hB : ∀ o, Below w.heap.size w (w.alloc o) := fun o => (Below.refl _ _).alloc (Nat.le_refl _) o
  have HB := Lib.hid hB
  clear hB
  by_cases h0 : k = 0
  · subst h0
    have HV := Lib.hid (show validVal ⟨0, n, s⟩ = (n == 0 && s.toList.isEmpty) from validVal_0 n s)
    have hk0 : ((0 : Int) == 0) = true := by decide
    by_cases hn : n = 0 <;> by_cases hs0 : s.toList = []
    · have e2 : s.toList.isEmpty = true := by simp [hs0]
      have e1 : (n == 0) = true := by simp [hn]
      rw [e1, e2] at HV
      clear hs0 hn
      go_enter Tryd.func13, Tryd.ntmps13
      go_wp2_with (go_at_call 52; refine (rowWithin_any _ _ _ _).mono ?_; rintro e w' ⟨rfl, rfl⟩)
      go_ret
      exact ⟨by rw [HV.out]; rfl, HB.out _⟩
    · have e2 : s.toList.isEmpty = false := by simp [hs0]
      have e1 : (n == 0) = true := by simp [hn]
      rw [e1, e2] at HV
      clear hs0 hn
      go_enter Tryd.func13, Tryd.ntmps13
      go_wp2_with (go_at_call 52; refine (rowWithin_any _ _ _ _).mono ?_; rintro e w' ⟨rfl, rfl⟩)
      go_ret
      exact ⟨by rw [HV.out]; rfl, HB.out _⟩
    · have e2 : s.toList.isEmpty = true := by simp [hs0]
      have e1 : (n == 0) = false := by simp [hn]
      rw [e1, e2] at HV
      clear hs0 hn
      go_enter Tryd.func13, Tryd.ntmps13
      go_wp2_with (go_at_call 52; refine (rowWithin_any _ _ _ _).mono ?_; rintro e w' ⟨rfl, rfl⟩)
      go_ret
      exact ⟨by rw [HV.out]; rfl, HB.out _⟩
    · have e2 : s.toList.isEmpty = false := by simp [hs0]
      have e1 : (n == 0) = false := by simp [hn]
      rw [e1, e2] at HV
      clear hs0 hn
      go_enter Tryd.func13, Tryd.ntmps13
      go_wp2_with (go_at_call 52; refine (rowWithin_any _ _ _ _).mono ?_; rintro e w' ⟨rfl, rfl⟩)
      go_ret
      exact ⟨by rw [HV.out]; rfl, HB.out _⟩
  by_cases h1 : k = 1
  · subst h1
    have HV := Lib.hid (show validVal ⟨1, n, s⟩ = (decide (-1000000000000000 ≤ n ∧ n ≤ 1000000000000000) && s.toList.isEmpty) from validVal_1 n s)
    have hk0 : ((1 : Int) == 0) = false := by decide
    have hk1 : ((1 : Int) == 1) = true := by decide
    by_cases hn : -1000000000000000 ≤ n ∧ n ≤ 1000000000000000 <;> by_cases hs0 : s.toList = []
    · have e2 : s.toList.isEmpty = true := by simp [hs0]
      have e1 : decide (-1000000000000000 ≤ n ∧ n ≤ 1000000000000000) = true := by simpa using hn
      rw [e1, e2] at HV
      clear hs0 hn
      go_enter Tryd.func13, Tryd.ntmps13
      go_wp2_with (go_at_call 52; refine (rowWithin_any _ _ _ _).mono ?_; rintro e w' ⟨rfl, rfl⟩)
      go_ret
      exact ⟨by rw [HV.out]; rfl, HB.out _⟩
    · have e2 : s.toList.isEmpty = false := by simp [hs0]
      have e1 : decide (-1000000000000000 ≤ n ∧ n ≤ 1000000000000000) = true := by simpa using hn
      rw [e1, e2] at HV
      clear hs0 hn
      go_enter Tryd.func13, Tryd.ntmps13
      go_wp2_with (go_at_call 52; refine (rowWithin_any _ _ _ _).mono ?_; rintro e w' ⟨rfl, rfl⟩)
      go_ret
      exact ⟨by rw [HV.out]; rfl, HB.out _⟩
    · have e2 : s.toList.isEmpty = true := by simp [hs0]
      have e1 : decide (-1000000000000000 ≤ n ∧ n ≤ 1000000000000000) = false := by simpa using hn
      rw [e1, e2] at HV
      clear hs0 hn
      go_enter Tryd.func13, Tryd.ntmps13
      go_wp2_with (go_at_call 52; refine (rowWithin_any _ _ _ _).mono ?_; rintro e w' ⟨rfl, rfl⟩)
      go_ret
      exact ⟨by rw [HV.out]; rfl, HB.out _⟩
    · have e2 : s.toList.isEmpty = false := by simp [hs0]
      have e1 : decide (-1000000000000000 ≤ n ∧ n ≤ 1000000000000000) = false := by simpa using hn
      rw [e1, e2] at HV
      clear hs0 hn
      go_enter Tryd.func13, Tryd.ntmps13
      go_wp2_with (go_at_call 52; refine (rowWithin_any _ _ _ _).mono ?_; rintro e w' ⟨rfl, rfl⟩)
      go_ret
      exact ⟨by rw [HV.out]; rfl, HB.out _⟩
  by_cases h2 : k = 2
  · subst h2
    have HV := Lib.hid (show validVal ⟨2, n, s⟩ = (n == 0 && decide ((s.size : Int) ≤ 200)) from validVal_2 n s)
    have hk0 : ((2 : Int) == 0) = false := by decide
    have hk1 : ((2 : Int) == 1) = false := by decide
    have hk2 : ((2 : Int) == 2) = true := by decide
    by_cases hn : n = 0 <;> by_cases hs0 : (s.size : Int) ≤ 200
    · have e2 : decide ((s.size : Int) ≤ 200) = true := by simpa using hs0
      have e1 : (n == 0) = true := by simp [hn]
      rw [e1, e2] at HV
      clear hs0 hn
      go_enter Tryd.func13, Tryd.ntmps13
      go_wp2_with (go_at_call 52; refine (rowWithin_any _ _ _ _).mono ?_; rintro e w' ⟨rfl, rfl⟩)
      go_ret
      exact ⟨by rw [HV.out]; rfl, HB.out _⟩
    · have e2 : decide ((s.size : Int) ≤ 200) = false := by simpa using hs0
      have e1 : (n == 0) = true := by simp [hn]
      rw [e1, e2] at HV
      clear hs0 hn
      go_enter Tryd.func13, Tryd.ntmps13
      go_wp2_with (go_at_call 52; refine (rowWithin_any _ _ _ _).mono ?_; rintro e w' ⟨rfl, rfl⟩)
      go_ret
      exact ⟨by rw [HV.out]; rfl, HB.out _⟩
    · have e2 : decide ((s.size : Int) ≤ 200) = true := by simpa using hs0
      have e1 : (n == 0) = false := by simp [hn]
      rw [e1, e2] at HV
      clear hs0 hn
      go_enter Tryd.func13, Tryd.ntmps13
      go_wp2_with (go_at_call 52; refine (rowWithin_any _ _ _ _).mono ?_; rintro e w' ⟨rfl, rfl⟩)
      go_ret
      exact ⟨by rw [HV.out]; rfl, HB.out _⟩
    · have e2 : decide ((s.size : Int) ≤ 200) = false := by simpa using hs0
      have e1 : (n == 0) = false := by simp [hn]
      rw [e1, e2] at HV
      clear hs0 hn
      go_enter Tryd.func13, Tryd.ntmps13
      go_wp2_with (go_at_call 52; refine (rowWithin_any _ _ _ _).mono ?_; rintro e w' ⟨rfl, rfl⟩)
      go_ret
      exact ⟨by rw [HV.out]; rfl, HB.out _⟩
  have HV := Lib.hid (show validVal ⟨k, n, s⟩ = false by simp [validVal, h0, h1, h2])
  have hk0 : (k == 0) = false := by simp; omega
  have hk1 : (k == 1) = false := by simp; omega
  have hk2 : (k == 2) = false := by simp; omega
  clear h0 h1 h2
  go_enter Tryd.func13, Tryd.ntmps13
  go_wp2
  go_ret
  exact ⟨by rw [HV.out]; rfl, HB.out _⟩

set_option maxHeartbeats 1000000 in
theorem refValidValue_any (x : Val) (w : World) (hs : x.s.size ≤ maxLen) :
    Calls Tryd.prog 14 #[.agg #[.int .i64 x.kind, .int .i64 x.n, .string x.s]] w fun e w' => e = .returned (.bool (validVal x)) ∧ Below w.heap.size w w' := by
  obtain ⟨k, n, s⟩ := x
  simp only at hs ⊢
  unfold maxLen at hs
  have hB : ∀ o, Below w.heap.size w (w.alloc o) := fun o => (Below.refl _ _).alloc (Nat.le_refl _) o
  have HB := Lib.hid hB
  clear hB
  by_cases h0 : k = 0
  · subst h0
    have HV := Lib.hid (show validVal ⟨0, n, s⟩ = (n == 0 && s.toList.isEmpty) from validVal_0 n s)
    have hk0 : ((0 : Int) == 0) = true := by decide
    by_cases hn : n = 0 <;> by_cases hs0 : s.toList = []
    · have e2 : s.toList.isEmpty = true := by simp [hs0]
      have e1 : (n == 0) = true := by simp [hn]
      rw [e1, e2] at HV
      clear hs0 hn
      go_enter Tryd.func14, Tryd.ntmps14
      go_wp2_with (go_at_call 53; refine (refRowWithin_any _ _ _ _).mono ?_; rintro e w' ⟨rfl, rfl⟩)
      go_ret
      exact ⟨by rw [HV.out]; rfl, HB.out _⟩
    · have e2 : s.toList.isEmpty = false := by simp [hs0]
      have e1 : (n == 0) = true := by simp [hn]
      rw [e1, e2] at HV
      clear hs0 hn
      go_enter Tryd.func14, Tryd.ntmps14
      go_wp2_with (go_at_call 53; refine (refRowWithin_any _ _ _ _).mono ?_; rintro e w' ⟨rfl, rfl⟩)
      go_ret
      exact ⟨by rw [HV.out]; rfl, HB.out _⟩
    · have e2 : s.toList.isEmpty = true := by simp [hs0]
      have e1 : (n == 0) = false := by simp [hn]
      rw [e1, e2] at HV
      clear hs0 hn
      go_enter Tryd.func14, Tryd.ntmps14
      go_wp2_with (go_at_call 53; refine (refRowWithin_any _ _ _ _).mono ?_; rintro e w' ⟨rfl, rfl⟩)
      go_ret
      exact ⟨by rw [HV.out]; rfl, HB.out _⟩
    · have e2 : s.toList.isEmpty = false := by simp [hs0]
      have e1 : (n == 0) = false := by simp [hn]
      rw [e1, e2] at HV
      clear hs0 hn
      go_enter Tryd.func14, Tryd.ntmps14
      go_wp2_with (go_at_call 53; refine (refRowWithin_any _ _ _ _).mono ?_; rintro e w' ⟨rfl, rfl⟩)
      go_ret
      exact ⟨by rw [HV.out]; rfl, HB.out _⟩
  by_cases h1 : k = 1
  · subst h1
    have HV := Lib.hid (show validVal ⟨1, n, s⟩ = (decide (-1000000000000000 ≤ n ∧ n ≤ 1000000000000000) && s.toList.isEmpty) from validVal_1 n s)
    have hk0 : ((1 : Int) == 0) = false := by decide
    have hk1 : ((1 : Int) == 1) = true := by decide
    by_cases hn : -1000000000000000 ≤ n ∧ n ≤ 1000000000000000 <;> by_cases hs0 : s.toList = []
    · have e2 : s.toList.isEmpty = true := by simp [hs0]
      have e1 : decide (-1000000000000000 ≤ n ∧ n ≤ 1000000000000000) = true := by simpa using hn
      rw [e1, e2] at HV
      clear hs0 hn
      go_enter Tryd.func14, Tryd.ntmps14
      go_wp2_with (go_at_call 53; refine (refRowWithin_any _ _ _ _).mono ?_; rintro e w' ⟨rfl, rfl⟩)
      go_ret
      exact ⟨by rw [HV.out]; rfl, HB.out _⟩
    · have e2 : s.toList.isEmpty = false := by simp [hs0]
      have e1 : decide (-1000000000000000 ≤ n ∧ n ≤ 1000000000000000) = true := by simpa using hn
      rw [e1, e2] at HV
      clear hs0 hn
      go_enter Tryd.func14, Tryd.ntmps14
      go_wp2_with (go_at_call 53; refine (refRowWithin_any _ _ _ _).mono ?_; rintro e w' ⟨rfl, rfl⟩)
      go_ret
      exact ⟨by rw [HV.out]; rfl, HB.out _⟩
    · have e2 : s.toList.isEmpty = true := by simp [hs0]
      have e1 : decide (-1000000000000000 ≤ n ∧ n ≤ 1000000000000000) = false := by simpa using hn
      rw [e1, e2] at HV
      clear hs0 hn
      go_enter Tryd.func14, Tryd.ntmps14
      go_wp2_with (go_at_call 53; refine (refRowWithin_any _ _ _ _).mono ?_; rintro e w' ⟨rfl, rfl⟩)
      go_ret
      exact ⟨by rw [HV.out]; rfl, HB.out _⟩
    · have e2 : s.toList.isEmpty = false := by simp [hs0]
      have e1 : decide (-1000000000000000 ≤ n ∧ n ≤ 1000000000000000) = false := by simpa using hn
      rw [e1, e2] at HV
      clear hs0 hn
      go_enter Tryd.func14, Tryd.ntmps14
      go_wp2_with (go_at_call 53; refine (refRowWithin_any _ _ _ _).mono ?_; rintro e w' ⟨rfl, rfl⟩)
      go_ret
      exact ⟨by rw [HV.out]; rfl, HB.out _⟩
  by_cases h2 : k = 2
  · subst h2
    have HV := Lib.hid (show validVal ⟨2, n, s⟩ = (n == 0 && decide ((s.size : Int) ≤ 200)) from validVal_2 n s)
    have hk0 : ((2 : Int) == 0) = false := by decide
    have hk1 : ((2 : Int) == 1) = false := by decide
    have hk2 : ((2 : Int) == 2) = true := by decide
    by_cases hn : n = 0 <;> by_cases hs0 : (s.size : Int) ≤ 200
    · have e2 : decide ((s.size : Int) ≤ 200) = true := by simpa using hs0
      have e1 : (n == 0) = true := by simp [hn]
      rw [e1, e2] at HV
      clear hs0 hn
      go_enter Tryd.func14, Tryd.ntmps14
      go_wp2_with (go_at_call 53; refine (refRowWithin_any _ _ _ _).mono ?_; rintro e w' ⟨rfl, rfl⟩)
      go_ret
      exact ⟨by rw [HV.out]; rfl, HB.out _⟩
    · have e2 : decide ((s.size : Int) ≤ 200) = false := by simpa using hs0
      have e1 : (n == 0) = true := by simp [hn]
      rw [e1, e2] at HV
      clear hs0 hn
      go_enter Tryd.func14, Tryd.ntmps14
      go_wp2_with (go_at_call 53; refine (refRowWithin_any _ _ _ _).mono ?_; rintro e w' ⟨rfl, rfl⟩)
      go_ret
      exact ⟨by rw [HV.out]; rfl, HB.out _⟩
    · have e2 : decide ((s.size : Int) ≤ 200) = true := by simpa using hs0
      have e1 : (n == 0) = false := by simp [hn]
      rw [e1, e2] at HV
      clear hs0 hn
      go_enter Tryd.func14, Tryd.ntmps14
      go_wp2_with (go_at_call 53; refine (refRowWithin_any _ _ _ _).mono ?_; rintro e w' ⟨rfl, rfl⟩)
      go_ret
      exact ⟨by rw [HV.out]; rfl, HB.out _⟩
    · have e2 : decide ((s.size : Int) ≤ 200) = false := by simpa using hs0
      have e1 : (n == 0) = false := by simp [hn]
      rw [e1, e2] at HV
      clear hs0 hn
      go_enter Tryd.func14, Tryd.ntmps14
      go_wp2_with (go_at_call 53; refine (refRowWithin_any _ _ _ _).mono ?_; rintro e w' ⟨rfl, rfl⟩)
      go_ret
      exact ⟨by rw [HV.out]; rfl, HB.out _⟩
  have HV := Lib.hid (show validVal ⟨k, n, s⟩ = false by simp [validVal, h0, h1, h2])
  have hk0 : (k == 0) = false := by simp; omega
  have hk1 : (k == 1) = false := by simp; omega
  have hk2 : (k == 2) = false := by simp; omega
  clear h0 h1 h2
  go_enter Tryd.func14, Tryd.ntmps14
  go_wp2
  go_ret
  exact ⟨by rw [HV.out]; rfl, HB.out _⟩

/-! slices.IndexFunc, slices.ContainsFunc at tidewright/api.Row,tidewright/api.Value -/
set_option maxHeartbeats 1000000 in
theorem indexFuncRow (Fn : FuncId) (capt : Array Value) (p : Val → Bool) (xs : List Val) (v : Value) (w : World) (hv : (tSlice tVal).rv (mem w) [v] xs)
    (hcf : ∀ args w, Sem.run Tryd.prog (callFunc Fn args) w = .ok (.enter Fn args) w)
    (hf : ∀ x ∈ xs, ∀ wr, Below w.heap.size w wr → ∀ u, tVal.rv (mem wr) u.cells.toList x → u = .agg #[.int .i64 x.kind, .int .i64 x.n, .string x.s] → Calls Tryd.prog Fn (#[u] ++ capt) wr fun e w' => e = .returned (.bool (p x)) ∧ Below wr.heap.size wr w') :
    Calls Tryd.prog 88 #[v, .func (.func Fn) #[] capt] w fun e w' => e = .returned (.int .i64 (idxOf p xs)) ∧ Below w.heap.size w w' := by
  obtain ⟨a, cap, rfl, hl, hm, hv⟩ := slice_form hv
  have hcap : cap ≤ 9223372036854775807 := by unfold maxLen at hm; exact hm
  clear hm
  have HF := Lib.hid hf
  clear hf
  go_enter Tryd.func88, Tryd.ntmps88
  go_wp2
  go_loopw [8] (fun i wr => ∃ k : Nat, k ≤ xs.length ∧ i = .int .i64 k ∧ Hid (∀ x ∈ xs.take k, p x = false) ∧ Below w.heap.size w wr) (fun i _ => xs.length - (intOf i).toNat)
  case atStart => exact ⟨0, by omega, rfl, Lib.hid (by simp), Below.refl _ _⟩
  case round =>
    obtain ⟨k, hk, rfl, HT, hB⟩ := hrel
    by_cases hlt : k < xs.length
    · obtain ⟨b, o, rfl, hat⟩ := slice_at hv hlt
      have hat := tVal.at_mono (below_mem hB) hat
      obtain ⟨c0, c1, c2, i0, i1, i2⟩ := val_at hat
      have c0 : wr.cell? ⟨b, o + k * 3, none⟩ = some (.int .i64 xs[k].kind) := c0
      have c1 : wr.cell? ⟨b, o + k * 3 + 1, none⟩ = some (.int .i64 xs[k].n) := c1
      have c2 : wr.cell? ⟨b, o + k * 3 + 2, none⟩ = some (.string xs[k].s) := c2
      have hcall := HF.out xs[k] (List.getElem_mem hlt) wr hB (.agg #[.int .i64 xs[k].kind, .int .i64 xs[k].n, .string xs[k].s]) ⟨rfl, i0, i1, i2⟩ rfl
      have HI : p xs[k] = true → idxOf p xs = k := fun h => idxOf_at hlt h HT.out
      have HN : p xs[k] = false → ∀ x ∈ xs.take (k + 1), p x = false := fun h => mem_take_snoc hlt HT.out h
      have HI := Lib.hid HI
      have HN := Lib.hid HN
      clear hat hv HF HT
      generalize xs[k] = x at *
      generalize hpx : p x = r at hcall HI HN
      clear hpx
      have HC := Lib.hid hcall
      clear hcall
      go_wp2_with fail
      refine HC.out.mono ?_
      rintro e w1 ⟨rfl, hB1⟩
      have hB2 := pure_trans hB hB1
      clear HC hB hB1 c0 c1 c2
      cases r
      · go_wp2
        go_roundw
        case rel => exact ⟨k + 1, by omega, by go_num, Lib.hid (HN.out (by trivial)), hB2⟩
        case measure => simp [intOf]; omega
      · go_wp2
        go_ret
        exact ⟨by rw [HI.out (by trivial)]; rfl, hB2⟩
    · obtain rfl : k = xs.length := by omega
      have HX := Lib.hid (idxOf_none (p := p) (l := xs) (fun x hx => HT.out x (by rw [List.take_length]; exact hx)))
      go_wp2
      go_ret
      exact ⟨by rw [HX.out]; rfl, hB⟩
set_option maxHeartbeats 1000000 in
theorem containsFuncRow (Fn : FuncId) (capt : Array Value) (p : Val → Bool) (xs : List Val) (v : Value) (w : World) (hv : (tSlice tVal).rv (mem w) [v] xs)
    (hcf : ∀ args w, Sem.run Tryd.prog (callFunc Fn args) w = .ok (.enter Fn args) w)
    (hf : ∀ x ∈ xs, ∀ wr, Below w.heap.size w wr → ∀ u, tVal.rv (mem wr) u.cells.toList x → u = .agg #[.int .i64 x.kind, .int .i64 x.n, .string x.s] → Calls Tryd.prog Fn (#[u] ++ capt) wr fun e w' => e = .returned (.bool (p x)) ∧ Below wr.heap.size wr w') :
    Calls Tryd.prog 54 #[v, .func (.func Fn) #[] capt] w fun e w' => e = .returned (.bool (xs.any p)) ∧ Below w.heap.size w w' := by
  have H := Lib.hid (indexFuncRow Fn capt p xs v w hv hcf hf)
  have HA := Lib.hid (idxOf_any p xs)
  clear hcf hf hv
  generalize idxOf p xs = i at H HA
  go_enter Tryd.func54, Tryd.ntmps54
  go_wp2_with fail
  refine H.out.mono ?_
  rintro e w1 ⟨rfl, hB⟩
  go_wp2
  go_ret
  exact ⟨by rw [← HA.out]; rfl, hB⟩

set_option maxHeartbeats 400000 in
theorem valid1_any (x : Val) (w : World) (hs : x.s.size ≤ maxLen) :
    Calls Tryd.prog 55 #[.agg #[.int .i64 x.kind, .int .i64 x.n, .string x.s]] w fun e w' => e = .returned (.bool (!validVal x)) ∧ Below w.heap.size w w' := by
  have H := fun o => validValue_any x (w.alloc o) hs
  have HH := Lib.hid H
  clear H
  generalize validVal x = r at HH
  go_enter Tryd.func55, Tryd.ntmps55
  go_wp2_with fail
  refine (HH.out _).mono ?_
  rintro e w1 ⟨rfl, hB⟩
  go_wp2
  go_ret
  exact ⟨rfl, ((Below.refl _ _).alloc (Nat.le_refl _) _).trans (hB.mono (by simp))⟩
theorem not_any (l : List Val) : (!l.any fun x => !validVal x) = l.all validVal := by simp [List.all_eq_not_any_not]
set_option maxRecDepth 100000 in
set_option maxHeartbeats 400000 in
theorem rowValid_any (xs : List Val) (v : Value) (w : World) (hv : tRow.rv (mem w) [v] xs) :
    Calls Tryd.prog 15 #[v] w fun e w' => e = .returned (.bool (validRow xs)) ∧ Below w.heap.size w w' := by
  have HC := Lib.hid (containsFuncRow 55 #[] (fun x => !validVal x) xs v w hv (fun _ _ => rfl) (fun x hx wr hB u hu e => by subst e; exact valid1_any x wr hu.2.2.2))
  obtain ⟨a, cap, rfl, hl, hm, _⟩ := slice_form hv
  have hcap : cap ≤ 9223372036854775807 := by unfold maxLen at hm; exact hm
  have HV := Lib.hid (show validRow xs = (decide (xs.length ≤ 8) && !xs.any fun x => !validVal x) by unfold validRow; rw [not_any])
  clear hm hv
  generalize (xs.any fun x => !validVal x) = r at HC HV
  by_cases h8 : xs.length ≤ 8
  · have hd : decide (xs.length ≤ 8) = true := by simpa using h8
    rw [hd] at HV
    go_enter Tryd.func15, Tryd.ntmps15
    go_wp2_with (go_at_call 54; refine HC.out.mono ?_; rintro e w1 ⟨rfl, hB⟩)
    go_ret
    exact ⟨by rw [HV.out]; rfl, hB⟩
  · have hd : decide (xs.length ≤ 8) = false := by simpa using h8
    rw [hd] at HV
    go_enter Tryd.func15, Tryd.ntmps15
    go_wp2_with fail
    go_ret
    exact ⟨by rw [HV.out]; rfl, Below.refl _ _⟩

set_option maxHeartbeats 1000000 in
theorem refValid_any (xs : List Val) (v : Value) (w : World) (hv : tRow.rv (mem w) [v] xs) :
    Calls Tryd.prog 16 #[v] w fun e w' => e = .returned (.bool (validRow xs)) ∧ Below w.heap.size w w' := by
  obtain ⟨a, cap, rfl, hl, hm, hv⟩ := slice_form hv
  have hcap : cap ≤ 9223372036854775807 := by unfold maxLen at hm; exact hm
  clear hm
  go_enter Tryd.func16, Tryd.ntmps16
  go_wp2
  go_loopw [3] (fun i wr => ∃ k : Nat, k ≤ xs.length ∧ i = .int .i64 k ∧ Hid (∀ x ∈ xs.take k, validVal x = true) ∧ Below w.heap.size w wr) (fun i _ => xs.length - (intOf i).toNat)
  case atStart => exact ⟨0, by omega, rfl, Lib.hid (by simp), Below.refl _ _⟩
  case round =>
    obtain ⟨k, hk, rfl, HT, hB⟩ := hrel
    by_cases hlt : k < xs.length
    · obtain ⟨b, o, rfl, hat⟩ := slice_at hv hlt
      have hat := tVal.at_mono (below_mem hB) hat
      obtain ⟨c0, c1, c2, i0, i1, i2⟩ := val_at hat
      have c0 : wr.cell? ⟨b, o + k * 3, none⟩ = some (.int .i64 xs[k].kind) := c0
      have c1 : wr.cell? ⟨b, o + k * 3 + 1, none⟩ = some (.int .i64 xs[k].n) := c1
      have c2 : wr.cell? ⟨b, o + k * 3 + 2, none⟩ = some (.string xs[k].s) := c2
      have hcall := refValidValue_any xs[k] wr i2
      have HI := Lib.hid (show validVal xs[k] = false → validRow xs = false from fun h => by
        unfold validRow
        have : xs.all validVal = false := by
          rw [List.all_eq_false]
          exact ⟨xs[k], List.getElem_mem hlt, by simp [h]⟩
        rw [this]; simp)
      have HN := Lib.hid (show validVal xs[k] = true → ∀ x ∈ xs.take (k + 1), validVal x = true from fun h => mem_take_snoc hlt HT.out h)
      clear hat hv HT
      generalize xs[k] = x at *
      generalize validVal x = r at hcall HI HN
      have HC := Lib.hid hcall
      clear hcall i0 i1 i2
      go_wp2_with fail
      refine HC.out.mono ?_
      rintro e w1 ⟨rfl, hB1⟩
      have hB2 := pure_trans hB hB1
      clear HC hB hB1 c0 c1 c2
      cases r
      · go_wp2
        go_ret
        exact ⟨by rw [HI.out (by trivial)]; rfl, hB2⟩
      · go_wp2
        go_roundw
        case rel => exact ⟨k + 1, by omega, by go_num, Lib.hid (HN.out (by trivial)), hB2⟩
        case measure => simp [intOf]; omega
    · obtain rfl : k = xs.length := by omega
      have HX := Lib.hid (show validRow xs = decide ((xs.length : Int) ≤ 8) from by
        unfold validRow
        have : xs.all validVal = true := by
          rw [List.all_eq_true]
          exact fun x hx => HT.out x (by rw [List.take_length]; exact hx)
        rw [this]; simp; omega)
      go_wp2
      go_ret
      exact ⟨by rw [HX.out]; rfl, hB⟩
end Go.Proofs.YtkldimaoafgolaaDoor
