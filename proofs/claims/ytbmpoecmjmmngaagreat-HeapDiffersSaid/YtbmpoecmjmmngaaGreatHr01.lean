/- Part 1 of the texts that the law's proof stands on, merged. -/
import Derived.Shelf.SlSortCmp.WholeK
import Derived.Ground.SlsfProg
import Derived.Shelf.SlMaps.Clone
import Derived.Ground.SlmcProg
import Derived.Test.YtbmpoecmjmmngaaGreatProg
import Derived.Deep.RegionHeld3
import Derived.RangeFuncKeeps
import Derived.RangeFuncLeaves
import Derived.RangeFuncGives
import Derived.Shelf.Abstract
import Derived.WalkKit
import Derived.OwnWalkIn
import Derived.TacticsInMore
import Derived.LoopNIn
import Derived.LoopIn
import Derived.RegionIn
import Derived.Test.YtbmpoecmjmmngaaGreatHr00
set_option linter.unusedVariables false
set_option linter.unusedSimpArgs false
/- row.Name, its reference, IndexFunc and ContainsFunc at strings (printed by gen_hname.py out of chapter 02's texts). -/
namespace Go.Proofs.YtbmpoecmjmmngaaGreat
open Go.RowKit
def idxOf {α : Type} (p : α → Bool) (l : List α) : Int := match l.findIdx? p with | none => -1 | some i => i
theorem idxOf_any {α : Type} (p : α → Bool) (l : List α) : decide (0 ≤ idxOf p l) = l.any p := by
  unfold idxOf
  cases h : l.findIdx? p with
  | none =>
    rw [List.findIdx?_eq_none_iff] at h
    have : l.any p = false := by simpa using h
    rw [this]; rfl
  | some i =>
    rw [List.findIdx?_eq_some_iff_getElem] at h
    obtain ⟨h1, h2, _⟩ := h
    have : l.any p = true := List.any_eq_true.2 ⟨l[i], List.getElem_mem h1, h2⟩
    rw [this]; simp
theorem idxOf_none {α : Type} {p : α → Bool} {l : List α} (h : ∀ x ∈ l, p x = false) : idxOf p l = -1 := by
  unfold idxOf
  rw [List.findIdx?_eq_none_iff.2 (by simpa using h)]
theorem idxOf_at {α : Type} {p : α → Bool} {l : List α} {k : Nat} (hk : k < l.length) (hp : p l[k] = true) (h : ∀ x ∈ l.take k, p x = false) : idxOf p l = k := by
  unfold idxOf
  have : l.findIdx? p = some k := by
    rw [List.findIdx?_eq_some_iff_getElem]
    refine ⟨hk, hp, fun j hj => ?_⟩
    have := h l[j] (List.mem_take_iff_getElem.2 ⟨j, by omega, rfl⟩)
    simp [this]
  rw [this]

theorem mem_take_snoc {α : Type} {l : List α} {k : Nat} (hk : k < l.length) {q : α → Prop} (h : ∀ x ∈ l.take k, q x) (hx : q l[k]) : ∀ x ∈ l.take (k + 1), q x := fun x hm => by
  rw [List.take_succ_eq_append_getElem hk] at hm
  rcases List.mem_append.1 hm with hm | hm
  · exact h x hm
  · simp at hm; subst hm; exact hx

def rowWithinF : Nat := 100
set_option maxHeartbeats 400000 in
theorem rowWithin_any (n lo hi : Int) (w : World) :
    Calls Tryz.prog 100 #[.int .i64 n, .int .i64 lo, .int .i64 hi] w fun e w' => e = .returned (.bool (decide (lo ≤ n ∧ n ≤ hi))) ∧ w = w' := by
  by_cases h1 : lo ≤ n <;> by_cases h2 : n ≤ hi
  all_goals
    go_enter Tryz.func100, Tryz.ntmps100
    go_wp2
    go_ret
    exact ⟨by simp [*], rfl⟩
set_option maxHeartbeats 400000 in
theorem refRowWithin_any (n lo hi : Int) (w : World) :
    Calls Tryz.prog 121 #[.int .i64 n, .int .i64 lo, .int .i64 hi] w fun e w' => e = .returned (.bool (decide (lo ≤ n ∧ n ≤ hi))) ∧ w = w' := by
  by_cases h1 : lo ≤ n <;> by_cases h2 : n ≤ hi
  all_goals
    go_enter Tryz.func121, Tryz.ntmps121
    go_wp2
    go_ret
    exact ⟨by simp [*], rfl⟩

def lowC (c : Int) : Bool := decide (97 ≤ c ∧ c ≤ 122)
def nameOk (i : Nat) (c : Int) : Bool := lowC c || (decide (i ≠ 0) && (decide (48 ≤ c ∧ c ≤ 57) || decide (c = 95)))
def byteAt (s : ByteArray) (i : Nat) : Int := (s.data.toList.getD i 0).toNat
def isName (s : ByteArray) : Bool := (List.range s.size).all (fun i => nameOk i (byteAt s i)) && decide (1 ≤ s.size ∧ s.size ≤ 16)
theorem isName_all {s : ByteArray} (h : ∀ i, i < s.size → nameOk i (byteAt s i) = true) : isName s = decide (1 ≤ (s.size : Int) ∧ (s.size : Int) ≤ 16) := by
  unfold isName
  have : (List.range s.size).all (fun i => nameOk i (byteAt s i)) = true := by rw [List.all_eq_true]; intro i hi; exact h i (by simpa using hi)
  rw [this, Bool.true_and]
  congr 1
  apply propext; omega
theorem isName_bad {s : ByteArray} {i : Nat} (hi : i < s.size) (h : nameOk i (byteAt s i) = false) : isName s = false := by
  unfold isName
  have : (List.range s.size).all (fun i => nameOk i (byteAt s i)) = false := by rw [List.all_eq_false]; exact ⟨i, by simpa using hi, by simp [h]⟩
  rw [this]; rfl
theorem isName_size {s : ByteArray} (h : isName s = true) : 1 ≤ s.size ∧ s.size ≤ 16 := by
  unfold isName at h
  rw [Bool.and_eq_true] at h
  simpa using h.2
theorem byteAt_get (s : ByteArray) (k : Nat) (h : k < s.size) : ((s[k]).toNat : Int) = byteAt s k := by
  unfold byteAt
  have h' : k < s.data.toList.length := h
  rw [List.getD_eq_getElem?_getD, List.getElem?_eq_getElem h', Option.getD_some]
  rfl

set_option maxHeartbeats 1000000 in
theorem rowName_any (s : ByteArray) (w : World) (hs : s.size ≤ maxLen) :
    Calls Tryz.prog 70 #[.string s] w fun e w' => e = .returned (.bool (isName s)) ∧ w = w' := by
  unfold maxLen at hs
  go_enter Tryz.func70, Tryz.ntmps70
  go_wp2
  go_loop [7] (fun i => ∃ k : Nat, k ≤ s.size ∧ i = .int .i64 k ∧ Hid (∀ i, i < k → nameOk i (byteAt s i) = true)) (fun i => s.size - (intOf i).toNat)
  case atStart => exact ⟨0, by omega, rfl, Lib.hid (fun i hi => absurd hi (by omega))⟩
  case round =>
    obtain ⟨k, hk, rfl, HT⟩ := hrel
    by_cases hlt : k < s.size
    · have HB := Lib.hid (byteAt_get s k hlt)
      have HN := Lib.hid (show nameOk k (byteAt s k) = true → ∀ i, i < k + 1 → nameOk i (byteAt s i) = true from fun h i hi => by
        by_cases e : i = k
        · subst e; exact h
        · exact HT.out i (by omega))
      have HX := Lib.hid (fun h => isName_bad (s := s) (i := k) hlt h)
      have HU := Lib.hid (show ((s[k]).toNat : Int) = byteAt s k from HB.out)
      have hb1 : 0 ≤ ((s[k]).toNat : Int) := by omega
      have hb2 : ((s[k]).toNat : Int) ≤ 255 := by have := (s[k]).toNat_lt; omega
      have HD := Lib.hid (show nameOk k (byteAt s k) = (lowC (s[k]).toNat || (decide (k ≠ 0) && (decide (48 ≤ ((s[k]).toNat : Int) ∧ ((s[k]).toNat : Int) ≤ 57) || decide (((s[k]).toNat : Int) = 95)))) by rw [HB.out]; rfl)
      clear HT HB
      generalize nameOk k (byteAt s k) = r at HD HN HX
      by_cases h1 : 97 ≤ ((s[k]).toNat : Int) ∧ ((s[k]).toNat : Int) ≤ 122
      · have e1 : decide (97 ≤ ((s[k]).toNat : Int) ∧ ((s[k]).toNat : Int) ≤ 122) = true := by simpa using h1
        have HR := Lib.hid (show r = true by rw [HD.out]; unfold lowC; rw [e1]; rfl)
        clear h1
        go_wp2_with (go_at_call 100; refine (rowWithin_any _ _ _ _).mono ?_; rintro e w' ⟨rfl, rfl⟩)
        go_round
        case rel => exact ⟨k + 1, by omega, by go_num, Lib.hid (HN.out HR.out)⟩
        case measure => simp [intOf]; omega
      · have e1 : decide (97 ≤ ((s[k]).toNat : Int) ∧ ((s[k]).toNat : Int) ≤ 122) = false := by simpa using h1
        clear h1
        by_cases h0 : k = 0
        · have HR := Lib.hid (show r = false by rw [HD.out]; unfold lowC; rw [e1]; simp [h0])
          have e0 : ((k : Int) == 0) = true := by simp [h0]
          clear h0
          go_wp2_with (go_at_call 100; refine (rowWithin_any _ _ _ _).mono ?_; rintro e w' ⟨rfl, rfl⟩)
          go_ret
          exact ⟨by rw [HX.out HR.out]; rfl, rfl⟩
        · have e0 : ((k : Int) == 0) = false := by simp; omega
          by_cases h2 : 48 ≤ ((s[k]).toNat : Int) ∧ ((s[k]).toNat : Int) ≤ 57
          · have e2 : decide (48 ≤ ((s[k]).toNat : Int) ∧ ((s[k]).toNat : Int) ≤ 57) = true := by simpa using h2
            have HR := Lib.hid (show r = true by rw [HD.out, e2]; simp [h0])
            clear h2 h0
            go_wp2_with (go_at_call 100; refine (rowWithin_any _ _ _ _).mono ?_; rintro e w' ⟨rfl, rfl⟩)
            go_round
            case rel => exact ⟨k + 1, by omega, by go_num, Lib.hid (HN.out HR.out)⟩
            case measure => simp [intOf]; omega
          · have e2 : decide (48 ≤ ((s[k]).toNat : Int) ∧ ((s[k]).toNat : Int) ≤ 57) = false := by simpa using h2
            clear h2
            by_cases h3 : ((s[k]).toNat : Int) = 95
            · have HR := Lib.hid (show r = true by rw [HD.out]; simp [h0, h3])
              have e3 : (((s[k]).toNat : Int) == 95) = true := by simp [h3]
              clear h3 h0
              go_wp2_with (go_at_call 100; refine (rowWithin_any _ _ _ _).mono ?_; rintro e w' ⟨rfl, rfl⟩)
              go_round
              case rel => exact ⟨k + 1, by omega, by go_num, Lib.hid (HN.out HR.out)⟩
              case measure => simp [intOf]; omega
            · have HR := Lib.hid (show r = false by rw [HD.out, e2]; unfold lowC; rw [e1]; simp [h3])
              have e3 : (((s[k]).toNat : Int) == 95) = false := by simp [h3]
              clear h3 h0
              go_wp2_with (go_at_call 100; refine (rowWithin_any _ _ _ _).mono ?_; rintro e w' ⟨rfl, rfl⟩)
              go_ret
              exact ⟨by rw [HX.out HR.out]; rfl, rfl⟩
    · obtain rfl : k = s.size := by omega
      have HA := Lib.hid (isName_all HT.out)
      go_wp2_with (go_at_call 100; refine (rowWithin_any _ _ _ _).mono ?_; rintro e w' ⟨rfl, rfl⟩)
      go_ret
      exact ⟨by rw [HA.out, Bool.decide_and]; rfl, rfl⟩

set_option maxHeartbeats 400000 in
theorem small_any (c : Int) (w : World) (h0 : 0 ≤ c) (h1 : c ≤ 255) :
    Calls Tryz.prog 120 #[.int .u8 c] w fun e w' => e = .returned (.bool (lowC c)) ∧ w = w' := by
  have HL := Lib.hid (show lowC c = decide (97 ≤ c ∧ c ≤ 122) from rfl)
  by_cases a : 97 ≤ c <;> by_cases b : c ≤ 122
  all_goals
    have HR := Lib.hid (show lowC c = decide (97 ≤ c ∧ c ≤ 122) from rfl)
    go_enter Tryz.func120, Tryz.ntmps120
    go_wp2
    go_ret
    exact ⟨by rw [HR.out]; simp [*], rfl⟩

set_option maxHeartbeats 1000000 in
theorem refName_any (s : ByteArray) (w : World) (hs : s.size ≤ maxLen) :
    Calls Tryz.prog 107 #[.string s] w fun e w' => e = .returned (.bool (isName s)) ∧ w = w' := by
  unfold maxLen at hs
  go_enter Tryz.func107, Tryz.ntmps107
  go_wp2
  go_loop [3] (fun i => ∃ k : Nat, k ≤ s.size ∧ i = .int .i64 k ∧ Hid (∀ i, i < k → nameOk i (byteAt s i) = true)) (fun i => s.size - (intOf i).toNat)
  case atStart => exact ⟨0, by omega, rfl, Lib.hid (fun i hi => absurd hi (by omega))⟩
  case round =>
    obtain ⟨k, hk, rfl, HT⟩ := hrel
    by_cases hlt : k < s.size
    · have HB := Lib.hid (byteAt_get s k hlt)
      have HN := Lib.hid (show nameOk k (byteAt s k) = true → ∀ i, i < k + 1 → nameOk i (byteAt s i) = true from fun h i hi => by
        by_cases e : i = k
        · subst e; exact h
        · exact HT.out i (by omega))
      have HX := Lib.hid (fun h => isName_bad (s := s) (i := k) hlt h)
      have hb1 : 0 ≤ ((s[k]).toNat : Int) := by omega
      have hb2 : ((s[k]).toNat : Int) ≤ 255 := by have := (s[k]).toNat_lt; omega
      have HD := Lib.hid (show nameOk k (byteAt s k) = (lowC (s[k]).toNat || (decide (k ≠ 0) && (decide (48 ≤ ((s[k]).toNat : Int) ∧ ((s[k]).toNat : Int) ≤ 57) || decide (((s[k]).toNat : Int) = 95)))) by rw [HB.out]; rfl)
      have HS := Lib.hid (fun w => small_any ((s[k]).toNat : Int) w hb1 hb2)
      clear HT HB
      generalize nameOk k (byteAt s k) = r at HD HN HX
      generalize lowC (s[k]).toNat = q at HD HS
      cases q
      · by_cases h0 : k = 0
        · have HR := Lib.hid (show r = false by rw [HD.out]; simp [h0])
          have e0 : ((k : Int) == 0) = true := by simp [h0]
          clear h0
          go_wp2_with (go_at_call 120; refine (HS.out _).mono ?_; rintro e w' ⟨rfl, rfl⟩)
          go_ret
          exact ⟨by rw [HX.out HR.out]; rfl, rfl⟩
        · have e0 : ((k : Int) == 0) = false := by simp; omega
          by_cases h3 : ((s[k]).toNat : Int) = 95
          · have HR := Lib.hid (show r = true by rw [HD.out]; simp [h0, h3])
            have e3 : (((s[k]).toNat : Int) != 95) = false := by simp [h3]
            clear h3 h0
            go_wp2_with (go_at_call 120; refine (HS.out _).mono ?_; rintro e w' ⟨rfl, rfl⟩)
            go_round
            case rel => exact ⟨k + 1, by omega, by go_num, Lib.hid (HN.out HR.out)⟩
            case measure => simp [intOf]; omega
          · have e3 : (((s[k]).toNat : Int) != 95) = true := by simp [h3]
            by_cases h4 : ((s[k]).toNat : Int) < 48
            · have HR := Lib.hid (show r = false by rw [HD.out]; simp [h3]; omega)
              clear h3 h0
              go_wp2_with (go_at_call 120; refine (HS.out _).mono ?_; rintro e w' ⟨rfl, rfl⟩)
              go_ret
              exact ⟨by rw [HX.out HR.out]; rfl, rfl⟩
            · by_cases h5 : 57 < ((s[k]).toNat : Int)
              · have HR := Lib.hid (show r = false by rw [HD.out]; simp [h3]; omega)
                clear h3 h0
                go_wp2_with (go_at_call 120; refine (HS.out _).mono ?_; rintro e w' ⟨rfl, rfl⟩)
                go_ret
                exact ⟨by rw [HX.out HR.out]; rfl, rfl⟩
              · have HR := Lib.hid (show r = true by rw [HD.out]; simp [h0]; omega)
                clear h3 h0
                go_wp2_with (go_at_call 120; refine (HS.out _).mono ?_; rintro e w' ⟨rfl, rfl⟩)
                go_round
                case rel => exact ⟨k + 1, by omega, by go_num, Lib.hid (HN.out HR.out)⟩
                case measure => simp [intOf]; omega
      · have HR := Lib.hid (show r = true by rw [HD.out]; rfl)
        go_wp2_with (go_at_call 120; refine (HS.out _).mono ?_; rintro e w' ⟨rfl, rfl⟩)
        go_round
        case rel => exact ⟨k + 1, by omega, by go_num, Lib.hid (HN.out HR.out)⟩
        case measure => simp [intOf]; omega
    · obtain rfl : k = s.size := by omega
      have HA := Lib.hid (isName_all HT.out)
      go_wp2_with (go_at_call 121; refine (refRowWithin_any _ _ _ _).mono ?_; rintro e w' ⟨rfl, rfl⟩)
      go_ret
      exact ⟨by rw [HA.out, Bool.decide_and]; rfl, rfl⟩

abbrev tStrs : Ty (List ByteArray) := tSlice tStr
theorem str_cell {m : Mem} {xs : List ByteArray} {a : Option Addr} {n cap : Nat} (h : tStrs.rv m [.slice a n cap] xs) {k : Nat} (hk : k < xs.length) :
    ∃ b o, a = some ⟨b, o, none⟩ ∧ m b (o + k) = some (.string xs[k]) ∧ xs[k].size ≤ maxLen := by
  obtain ⟨b, o, rfl, hat⟩ := slice_at h hk
  have e : k * tStr.sz = k := Nat.mul_one k
  rw [e] at hat
  obtain ⟨cs, h1, rfl, h3⟩ := hat
  exact ⟨b, o, rfl, h1 0 _ rfl, h3⟩
set_option maxHeartbeats 1000000 in
theorem indexFuncStr (Fn : FuncId) (capt : Array Value) (p : ByteArray → Bool) (xs : List ByteArray) (v : Value) (w : World) (hv : tStrs.rv (mem w) [v] xs)
    (hcf : ∀ args w, Sem.run Tryz.prog (callFunc Fn args) w = .ok (.enter Fn args) w)
    (hf : ∀ x : ByteArray, x.size ≤ maxLen → ∀ wr, Below w.heap.size w wr → Calls Tryz.prog Fn (#[.string x] ++ capt) wr fun e w' => e = .returned (.bool (p x)) ∧ Below wr.heap.size wr w') :
    Calls Tryz.prog 101 #[v, .func (.func Fn) #[] capt] w fun e w' => e = .returned (.int .i64 (idxOf p xs)) ∧ Below w.heap.size w w' := by
  obtain ⟨a, cap, rfl, hl, hm, hv⟩ := slice_form hv
  have hcap : cap ≤ 9223372036854775807 := by unfold maxLen at hm; exact hm
  clear hm
  have HF := Lib.hid hf
  clear hf
  go_enter Tryz.func101, Tryz.ntmps101
  go_wp2
  go_loopw [8] (fun i wr => ∃ k : Nat, k ≤ xs.length ∧ i = .int .i64 k ∧ Hid (∀ x ∈ xs.take k, p x = false) ∧ Below w.heap.size w wr) (fun i _ => xs.length - (intOf i).toNat)
  case atStart => exact ⟨0, by omega, rfl, Lib.hid (by simp), Below.refl _ _⟩
  case round =>
    obtain ⟨k, hk, rfl, HT, hB⟩ := hrel
    by_cases hlt : k < xs.length
    · obtain ⟨b, o, rfl, c0, hin⟩ := str_cell (tStrs.mono _ _ _ _ (below_mem hB) hv) hlt
      have c0 : wr.cell? ⟨b, o + k, none⟩ = some (.string xs[k]) := c0
      have hcall := HF.out xs[k] hin wr hB
      have HI := Lib.hid (show p xs[k] = true → idxOf p xs = k from fun h => idxOf_at hlt h HT.out)
      have HN := Lib.hid (show p xs[k] = false → ∀ x ∈ xs.take (k + 1), p x = false from fun h => mem_take_snoc hlt HT.out h)
      clear hv HF HT
      generalize xs[k] = x at *
      generalize hpx : p x = r at hcall HI HN
      clear hpx
      have HC := Lib.hid hcall
      clear hcall
      go_wp2_with fail
      refine HC.out.mono ?_
      rintro e w1 ⟨rfl, hB1⟩
      have hB2 := pure_trans hB hB1
      clear HC hB hB1 c0
      cases r
      · go_wp2
        go_roundw
        case rel => exact ⟨k + 1, by omega, by go_num, Lib.hid (HN.out (by trivial)), hB2⟩
        case measure => simp [intOf]; omega
      · go_wp2
        go_ret
        exact ⟨by rw [HI.out (by trivial)]; rfl, hB2⟩
    · obtain rfl : k = xs.length := by omega
      have HX := Lib.hid (idxOf_none (p := p) (l := xs) (fun x hx => HT.out x (by rw [List.take_length]; exact hx)))
      go_wp2
      go_ret
      exact ⟨by rw [HX.out]; rfl, hB⟩
set_option maxHeartbeats 1000000 in
theorem containsFuncStr (Fn : FuncId) (capt : Array Value) (p : ByteArray → Bool) (xs : List ByteArray) (v : Value) (w : World) (hv : tStrs.rv (mem w) [v] xs)
    (hcf : ∀ args w, Sem.run Tryz.prog (callFunc Fn args) w = .ok (.enter Fn args) w)
    (hf : ∀ x : ByteArray, x.size ≤ maxLen → ∀ wr, Below w.heap.size w wr → Calls Tryz.prog Fn (#[.string x] ++ capt) wr fun e w' => e = .returned (.bool (p x)) ∧ Below wr.heap.size wr w') :
    Calls Tryz.prog 71 #[v, .func (.func Fn) #[] capt] w fun e w' => e = .returned (.bool (xs.any p)) ∧ Below w.heap.size w w' := by
  have H := Lib.hid (indexFuncStr Fn capt p xs v w hv hcf hf)
  have HA := Lib.hid (idxOf_any p xs)
  clear hcf hf hv
  generalize idxOf p xs = i at H HA
  go_enter Tryz.func71, Tryz.ntmps71
  go_wp2_with fail
  refine H.out.mono ?_
  rintro e w1 ⟨rfl, hB⟩
  go_wp2
  go_ret
  exact ⟨by rw [← HA.out]; rfl, hB⟩

end Go.Proofs.YtbmpoecmjmmngaaGreat
/- package heap: checked, Get; what look-ups in the maps say. -/
namespace Go.Proofs.YtbmpoecmjmmngaaGreat
open Go.RowKit Go.Maps

def big (t : ByteArray) : Bool := decide (65536 < t.size)
/-- checked's answer. -/
def chk (N : Nat) (g : Int) (nm : ByteArray) (ts : List ByteArray) : Int := if isName nm = true ∧ ts.any big = false then (if 0 ≤ g ∧ g < N then 0 else 7) else 1
theorem chk_ok {N : Nat} {g : Int} {nm : ByteArray} {ts : List ByteArray} (h : chk N g nm ts = 0) : isName nm = true ∧ ts.any big = false ∧ 0 ≤ g ∧ g < N := by
  unfold chk at h
  split at h
  · next h1 =>
    split at h
    · next h2 => exact ⟨h1.1, h1.2, h2⟩
    · cases h
  · cases h
theorem chk_cases (N : Nat) (g : Int) (nm : ByteArray) (ts : List ByteArray) : chk N g nm ts = 0 ∨ chk N g nm ts = 1 ∨ chk N g nm ts = 7 := by
  unfold chk
  split
  · split
    · exact .inl rfl
    · exact .inr (.inr rfl)
  · exact .inr (.inl rfl)
set_option maxHeartbeats 400000 in
theorem checked1_any (t : ByteArray) (w : World) (ht : t.size ≤ maxLen) :
    Calls Tryz.prog 72 #[.string t] w fun e w' => e = .returned (.bool (big t)) ∧ Below w.heap.size w w' := by
  unfold maxLen at ht
  by_cases h : (65536 : Int) < t.size
  all_goals
    have h' : decide (65536 < t.size) = decide ((65536 : Int) < t.size) := by congr 1; apply propext; omega
    have HB := Lib.hid h'
    clear h'
    go_enter Tryz.func72, Tryz.ntmps72
    go_wp2
    go_ret
    exact ⟨by unfold big; rw [HB.out]; simp [h], Below.refl _ _⟩
set_option maxHeartbeats 1000000 in
theorem checked_nil (g : Int) (nm : ByteArray) (v : Value) (w : World) :
    Calls Tryz.prog 35 #[.pointer none, .int .i64 g, .string nm, v] w fun e w' => e = .returned (.int .i64 1) ∧ Below w.heap.size w w' := by
  go_enter Tryz.func35, Tryz.ntmps35
  go_wp2
  go_ret
  exact ⟨rfl, Below.refl _ _⟩
set_option maxRecDepth 100000 in
set_option maxHeartbeats 2000000 in
theorem checked_any {base p : Nat} {r : HS} (g : Int) (nm : ByteArray) (ts : List ByteArray) (v : Value) (w : World) (hI : HeapInv w base p r) (hg : inI64 g) (hn : nm.size ≤ maxLen) (hv : tStrs.rv (mem w) [v] ts) :
    Calls Tryz.prog 35 #[.pointer (some ⟨p, 0, none⟩), .int .i64 g, .string nm, v] w fun e w' => e = .returned (.int .i64 (chk r.cur.length g nm ts)) ∧ Below w.heap.size w w' := by
  have HCF := Lib.hid (fun wr (h : Below w.heap.size w wr) => containsFuncStr 72 #[] big ts v wr (tStrs.mono _ _ _ _ (below_mem h) hv)
    (fun _ _ => rfl) (fun x hx wr _ => checked1_any x wr hx))
  have HCV := Lib.hid (fun wr (h : Below w.heap.size w wr) => (show wr.cell? ⟨p, 0, none⟩ = some r.cv from by have := mem_cells (h.block p (hI.cells_kind p (.inl rfl)) |>.trans hI.hb) 0; exact this))
  obtain ⟨b, off, cap, arr, hcv, hlc, hmx, -⟩ := hI.cu
  obtain ⟨a, k, rfl, _⟩ := slice_form hv
  have hcap : cap ≤ 9223372036854775807 := by unfold maxLen at hmx; exact hmx
  rw [hcv] at HCV
  clear hI hv hcv hmx
  generalize r.cur.length = N at *
  go_enter Tryz.func35, Tryz.ntmps35
  go_wp2_with fail
  refine (rowName_any nm _ hn).mono ?_
  rintro e w1 ⟨rfl, rfl⟩
  cases hnm : isName nm with
  | false =>
    have HE := Lib.hid (show chk N g nm ts = 1 from by unfold chk; rw [hnm]; simp)
    clear hnm
    go_wp2
    go_ret
    exact ⟨by rw [HE.out] <;> rfl, Below.refl _ _⟩
  | true =>
  go_wp2_with fail
  refine (HCF.out _ (Below.refl _ _)).mono ?_
  rintro e w1 ⟨rfl, hB⟩
  cases hts : ts.any big with
  | true =>
    have HE := Lib.hid (show chk N g nm ts = 1 from by unfold chk; rw [hts]; simp)
    clear hnm hts
    go_wp2
    go_ret
    exact ⟨by rw [HE.out] <;> rfl, hB⟩
  | false =>
  have HE := Lib.hid (show chk N g nm ts = if 0 ≤ g ∧ g < N then 0 else 7 from by unfold chk; rw [hnm, hts]; simp)
  have hcell := HCV.out _ hB
  clear hnm hts HCF HCV
  by_cases h0 : g < 0
  · have HF := Lib.hid (show ¬ (0 ≤ g ∧ g < N) by omega)
    go_wp2
    go_ret
    exact ⟨by rw [HE.out, if_neg HF.out] <;> rfl, hB⟩
  · by_cases h1 : (N : Int) ≤ g
    · have HF := Lib.hid (show ¬ (0 ≤ g ∧ g < N) by omega)
      go_wp2
      go_ret
      exact ⟨by rw [HE.out, if_neg HF.out] <;> rfl, hB⟩
    · have HF := Lib.hid (show (0 ≤ g ∧ g < N) by omega)
      go_wp2
      go_ret
      exact ⟨by rw [HE.out, if_pos HF.out] <;> rfl, hB⟩
end Go.Proofs.YtbmpoecmjmmngaaGreat
/- What look-ups, stores and deletes in the maps of package heap do, as runs. -/
namespace Go.Proofs.YtbmpoecmjmmngaaGreat
open Go.RowKit Go.Maps

open Classical in
noncomputable def delAt {κ α : Type} (f : κ → Option α) (x : κ) : κ → Option α := fun y => if y = x then none else f y
theorem delAt_same {κ α : Type} (f : κ → Option α) (x : κ) : delAt f x x = none := by simp [delAt]
theorem delAt_other {κ α : Type} (f : κ → Option α) {x y : κ} (h : y ≠ x) : delAt f x y = f y := by simp [delAt, h]
section
variable {κ α : Type} {P : Program} {k : TypeId} {lk : κ → Lit} {vr : VR α} {w : World} {b n : Nat} {f : κ → Option α}
theorem MapOf.look {t e : TypeId} (h : MapOf P k lk vr w b n f) (K : Keyed P k) (ht : P.underlying t = some (.map k e)) {z : Value} (hz : (zeroValue e).run P w = .ok z w) {key : Value} {y : κ} (hkey : keyOf P k key = some (lk y)) :
    ∃ v, (Instr.lookup t (.map (some b)) key false).run P w = .ok v w ∧ (f y = none → v = z) ∧ (∀ c, f y = some c → vr.rel (mem w) v c) := by
  obtain ⟨D, hown, h1, h2, _⟩ := h
  obtain ⟨v, ps, hrun, hv⟩ := hown.lookup K ht hz (zd := .held z) (zp := []) rfl hkey
  simp only [rawE, Option.some.injEq, Prod.mk.injEq] at hv
  refine ⟨v, hrun, fun e => ?_, fun c e => ?_⟩
  · have := hv.1
    rw [atKey_of_not_has (h1 y e)] at this
    injection this
  · obtain ⟨_, u, g1, g2⟩ := h2 y c e
    have := hv.1
    rw [g1] at this
    injection this with this
    rw [this]; exact g2
theorem MapOf.lookOk {t e : TypeId} (h : MapOf P k lk vr w b n f) (K : Keyed P k) (ht : P.underlying t = some (.map k e)) {z : Value} (hz : (zeroValue e).run P w = .ok z w) {key : Value} {y : κ} (hkey : keyOf P k key = some (lk y)) :
    ∃ v, (Instr.lookup t (.map (some b)) key true).run P w = .ok (.tuple #[v, .bool (f y).isSome]) w ∧ (f y = none → v = z) ∧ (∀ c, f y = some c → vr.rel (mem w) v c) := by
  obtain ⟨D, hown, h1, h2, _⟩ := h
  obtain ⟨v, ps, hrun, hv⟩ := hown.look_ok K ht hz (zd := .held z) (zp := []) rfl hkey
  have hs : Maps.has D (lk y) = (f y).isSome := by
    cases hf : f y with
    | none => exact h1 y hf
    | some c => exact (h2 y c hf).1
  rw [hs] at hrun
  simp only [rawE, Option.some.injEq, Prod.mk.injEq] at hv
  refine ⟨v, hrun, fun e => ?_, fun c e => ?_⟩
  · have := hv.1
    rw [atKey_of_not_has (h1 y e)] at this
    injection this
  · obtain ⟨_, u, g1, g2⟩ := h2 y c e
    have := hv.1
    rw [g1] at this
    injection this with this
    rw [this]; exact g2
end
theorem turned_grown {w w' : World} {b : Nat} (h : w.mapTurned w' b) : w.grownBy w' (some b) := by
  obtain ⟨es, c, es', c', hb, rfl⟩ := h
  exact ⟨rfl, rfl, rfl, by simp [ChangeMaps.setBlock], fun i _ hi => ChangeMaps.heap_setBlock_other hb _ (fun e => hi (by rw [e]))⟩
theorem zeroStr (W : World) : (zeroValue 9).run Tryz.prog W = .ok (.string .empty) W := Tryz.zeroValue9 W
theorem zeroRow (W : World) : (zeroValue 78).run Tryz.prog W = .ok (.slice none 0 0) W := Tryz.zeroValue78 W
section
variable {W : World} {b n : Nat}
def strOr : Option ByteArray → ByteArray
  | none => .empty
  | some a => a
theorem GMap.lookOk {f : FMap} (h : GMap W b n f) {x y : ByteArray} (hx : okSpot (x, y)) : (Instr.lookup 74 (.map (some b)) (.agg #[.string x, .string y]) true).run Tryz.prog W = .ok (.tuple #[.string (strOr (f (x, y))), .bool (f (x, y)).isSome]) W := by
  obtain ⟨v, h1, h2, h3⟩ := MapOf.lookOk h keyS Tryz.underlying74 (zeroStr W) (keyOf_spot hx)
  rw [show (Value.agg #[.string x, .string y]) = spotV (x, y) from rfl, h1]
  cases hf : f (x, y) with
  | none => rw [h2 hf]; rfl
  | some a => rw [show v = .string a from (h3 a hf).1]; rfl
theorem GMap.look {f : FMap} (h : GMap W b n f) {x y : ByteArray} (hx : okSpot (x, y)) : (Instr.lookup 74 (.map (some b)) (.agg #[.string x, .string y]) false).run Tryz.prog W = .ok (.string (strOr (f (x, y)))) W := by
  obtain ⟨v, h1, h2, h3⟩ := MapOf.look h keyS Tryz.underlying74 (zeroStr W) (keyOf_spot hx)
  rw [show (Value.agg #[.string x, .string y]) = spotV (x, y) from rfl, h1]
  cases hf : f (x, y) with
  | none => rw [h2 hf]; rfl
  | some a => rw [show v = .string a from (h3 a hf).1]; rfl
theorem GMap.val {f : FMap} (h : GMap W b n f) {k : Spot} {a : ByteArray} (e : f k = some a) : a.size ≤ maxLen := by
  obtain ⟨D, _, hs⟩ := h
  obtain ⟨_, v, _, hv⟩ := hs.2.1 k a e
  exact hv.2
theorem GMap.put {f : FMap} (h : GMap W b n f) (hn : n < maxLen) {x y : ByteArray} (hx : okSpot (x, y)) (s : ByteArray) (hsz : s.size ≤ maxLen) :
    ∃ W', (Instr.mapUpdate 74 (.map (some b)) (.agg #[.string x, .string y]) (.string s)).run Tryz.prog W = .ok () W' ∧ GMap W' b (n + 1) (putAt f (x, y) s) ∧ W.grownBy W' (some b) := by
  obtain ⟨D, hown, hs⟩ := h
  obtain ⟨W', hrun, ho, hgr⟩ := hown.update keyS Tryz.underlying74 hn (keyOf_spot hx) (R := rawE) (val := .string s) (d := .held (.string s)) (ps := []) rfl
  have hle := grown_mem hown hgr
  exact ⟨W', hrun, ⟨_, ho, hs.put1 hle hown.isMap (fun y e => lkSpot_inj hx y e) (lkSpot_key hx) ⟨rfl, hsz⟩⟩, hgr⟩
theorem GMap.drop {f : FMap} (h : GMap W b n f) {x y : ByteArray} (hx : okSpot (x, y)) (ty : TypeId) :
    ∃ W', (Builtin.delete_ #[74, 77] ty #[.map (some b), .agg #[.string x, .string y]]).run Tryz.prog W = .ok (.tuple #[]) W' ∧ GMap W' b n (delAt f (x, y)) ∧ W.grownBy W' (some b) := by
  obtain ⟨D, hown, h1, h2, h3⟩ := h
  obtain ⟨W', hrun, ho, ht⟩ := hown.drop keyS Tryz.underlying74 (keyOf_spot hx) ty
  refine ⟨W', hrun, ⟨_, ho, fun z hy => ?_, fun z c hy => ?_, fun l hl => ?_⟩, turned_grown ht⟩
  · by_cases e : z = (x, y)
    · subst e; exact has_del_same
    · rw [delAt_other _ e] at hy
      rw [has_del_other (fun e' => e (lkSpot_inj hx _ e'))]; exact h1 z hy
  · by_cases e : z = (x, y)
    · subst e; rw [delAt_same] at hy; cases hy
    · rw [delAt_other _ e] at hy
      obtain ⟨g, u, g1, g2⟩ := h2 z c hy
      have hne : lkSpot z ≠ lkSpot (x, y) := fun e' => e (lkSpot_inj hx _ e')
      exact ⟨by rw [has_del_other hne]; exact g, u, fun q => by rw [atKey_del_other hne]; exact g1 q, g2⟩
  · by_cases e : l = lkSpot (x, y)
    · exact ⟨_, e⟩
    · rw [has_del_other e] at hl; exact h3 l hl
def rowOr : Option (Value × List Nat) → Value
  | none => .slice none 0 0
  | some a => a.1
theorem SMap.lookOk {f : Int → Option (Value × List Nat)} (h : SMap W b n f) {k : Int} (hk : inI64 k) : (Instr.lookup 79 (.map (some b)) (.int .i64 k) true).run Tryz.prog W = .ok (.tuple #[rowOr (f k), .bool (f k).isSome]) W := by
  obtain ⟨v, h1, h2, h3⟩ := MapOf.lookOk h keyK Tryz.underlying79 (zeroRow W) (keyOf_i64 hk)
  rw [h1]
  cases hf : f k with
  | none => rw [h2 hf]; rfl
  | some a => rw [show v = a.1 from h3 a hf]; rfl
theorem SMap.put {f : Int → Option (Value × List Nat)} (h : SMap W b n f) (hn : n < maxLen) {k : Int} (hk : inI64 k) (a : Value × List Nat) :
    ∃ W', (Instr.mapUpdate 79 (.map (some b)) (.int .i64 k) a.1).run Tryz.prog W = .ok () W' ∧ SMap W' b (n + 1) (putAt f k a) ∧ W.grownBy W' (some b) := by
  obtain ⟨D, hown, hs⟩ := h
  obtain ⟨W', hrun, ho, hgr⟩ := hown.update keyK Tryz.underlying79 hn (keyOf_i64 hk) (R := rawE) (val := a.1) (d := .held a.1) (ps := []) rfl
  have hle := grown_mem hown hgr
  exact ⟨W', hrun, ⟨_, ho, hs.put hle hown.isMap intKey_inj (keyK.key (keyOf_i64 hk)) rfl⟩, hgr⟩
theorem SMap.drop {f : Int → Option (Value × List Nat)} (h : SMap W b n f) {k : Int} (hk : inI64 k) (ty : TypeId) :
    ∃ W', (Builtin.delete_ #[79, 3] ty #[.map (some b), .int .i64 k]).run Tryz.prog W = .ok (.tuple #[]) W' ∧ SMap W' b n (delAt f k) ∧ W.grownBy W' (some b) := by
  obtain ⟨D, hown, h1, h2, h3⟩ := h
  obtain ⟨W', hrun, ho, ht⟩ := hown.drop keyK Tryz.underlying79 (keyOf_i64 hk) ty
  refine ⟨W', hrun, ⟨_, ho, fun y hy => ?_, fun y c hy => ?_, fun l hl => ?_⟩, turned_grown ht⟩
  · by_cases e : y = k
    · subst e; exact has_del_same
    · rw [delAt_other _ e] at hy
      rw [has_del_other (fun e' => e (intKey_inj _ _ e'))]; exact h1 y hy
  · by_cases e : y = k
    · subst e; rw [delAt_same] at hy; cases hy
    · rw [delAt_other _ e] at hy
      obtain ⟨g, u, g1, g2⟩ := h2 y c hy
      have hne : intKey y ≠ intKey k := fun e' => e (intKey_inj _ _ e')
      exact ⟨by rw [has_del_other hne]; exact g, u, fun z => by rw [atKey_del_other hne]; exact g1 z, g2⟩
  · by_cases e : l = intKey k
    · exact ⟨k, e⟩
    · rw [has_del_other e] at hl; exact h3 l hl
end
/-- Texts that stand in new cells. -/
theorem strs_rv1 {m : Mem} {b : Nat} {x : ByteArray} (h0 : m b 0 = some (.string x)) (hx : x.size ≤ maxLen) : tStrs.rv m [.slice (some ⟨b, 0, none⟩) 1 1] [x] := by
  refine ⟨some ⟨b, 0, none⟩, 1, rfl, Nat.le_refl 1, by unfold maxLen; decide, fun _ => ⟨b, 0, rfl, fun k hk => ?_⟩⟩
  have hk : k < 1 := hk
  match k, hk with
  | 0, _ => exact ⟨[.string x], fun j v hj => by match j, hj with | 0, hj => simp at hj; subst hj; exact h0, rfl, hx⟩
theorem strs_rv2 {m : Mem} {b : Nat} {x y : ByteArray} (h0 : m b 0 = some (.string x)) (h1 : m b 1 = some (.string y)) (hx : x.size ≤ maxLen) (hy : y.size ≤ maxLen) : tStrs.rv m [.slice (some ⟨b, 0, none⟩) 2 2] [x, y] := by
  refine ⟨some ⟨b, 0, none⟩, 2, rfl, Nat.le_refl 2, by unfold maxLen; decide, fun _ => ⟨b, 0, rfl, fun k hk => ?_⟩⟩
  have hk : k < 2 := hk
  match k, hk with
  | 0, _ => exact ⟨[.string x], fun j v hj => by match j, hj with | 0, hj => simp at hj; subst hj; exact h0, rfl, hx⟩
  | 1, _ => exact ⟨[.string y], fun j v hj => by match j, hj with | 0, hj => simp at hj; subst hj; exact h1, rfl, hy⟩
end Go.Proofs.YtbmpoecmjmmngaaGreat
/- package heap: Get. -/
namespace Go.Proofs.YtbmpoecmjmmngaaGreat
open Go.RowKit Go.Maps

/-- What stands where, at a group. -/
structure GrpAt (W : World) (p : Nat) (r : HS) (i a cb off cap : Nat) : Prop where
  cv : W.cell? ⟨p, 0, none⟩ = some (.slice (some ⟨cb, off, none⟩) r.cur.length cap)
  lc : r.cur.length ≤ cap
  mx : cap ≤ 9223372036854775807
  el : W.cell? ⟨cb, off + i, none⟩ = some (ptrTo a)
  mp : W.cell? ⟨a, 0, none⟩ = some (.map (some (r.g a).mb))
  sh : W.cell? ⟨a, 1, none⟩ = some (.bool (r.g a).sh)
  gm : GMap W (r.g a).mb r.nn (r.g a).f
def adAt (r : HS) (g : Int) : Nat := r.cur.getD g.toNat 0
def grpF (r : HS) (g : Int) : FMap := (r.g (adAt r g)).f
theorem adAt_eq {r : HS} {i : Nat} (hi : i < r.cur.length) : adAt r i = r.cur[i] := by
  unfold adAt
  rw [Int.toNat_natCast, List.getD_eq_getElem?_getD, List.getElem?_eq_getElem hi]
  rfl
theorem HeapInv.grp {W : World} {base p : Nat} {r : HS} (h : HeapInv W base p r) {i : Nat} (hi : i < r.cur.length) : ∃ cb off cap, GrpAt W p r i (adAt r i) cb off cap ∧ used r (adAt r i) := by
  obtain ⟨cb, off, cap, arr, hcv, h2, h3, h4, h5, h6⟩ := h.cu
  have hu : used r (adAt r i) := by rw [adAt_eq hi]; exact .inl (List.getElem_mem hi)
  obtain ⟨g1, g2⟩ := h.gb _ hu
  refine ⟨cb, off, cap, ⟨?_, h2, by unfold maxLen at h3; exact h3, ?_, ?_, ?_, g2⟩, hu⟩
  · have := mem_cells h.hb 0
    rw [show (hCells r)[0]? = some r.cv from rfl, hcv] at this
    exact this
  · have := mem_cells h4 (off + i)
    rw [h6 i hi, ← adAt_eq hi] at this
    exact this
  · exact mem_cells g1 0
  · exact mem_cells g1 1
theorem GrpAt.below {W W' : World} {p : Nat} {r : HS} {i a cb off cap : Nat} (h : GrpAt W p r i a cb off cap) (hb : Below W.heap.size W W') : GrpAt W' p r i a cb off cap :=
  ⟨below_mem hb _ _ _ h.cv, h.lc, h.mx, below_mem hb _ _ _ h.el, below_mem hb _ _ _ h.mp, below_mem hb _ _ _ h.sh, h.gm.below hb⟩
def getAns (N : Nat) (F : FMap) (g : Int) (nm key : ByteArray) : ByteArray × Int :=
  if chk N g nm [key] = 0 then (strOr (F (nm, key)), if (F (nm, key)).isSome = true then 0 else 8) else (.empty, chk N g nm [key])
theorem chk_size {N : Nat} {g : Int} {nm : ByteArray} {ts : List ByteArray} (h : chk N g nm ts = 0) : nm.size ≤ 16 ∧ ∀ t ∈ ts, t.size ≤ 65536 := by
  obtain ⟨h1, h2, _⟩ := chk_ok h
  refine ⟨(isName_size h1).2, fun t ht => ?_⟩
  rw [List.any_eq_false] at h2
  have := h2 t ht
  unfold big at this
  simpa using this
theorem okSpot_of {N : Nat} {g : Int} {nm key : ByteArray} {ts : List ByteArray} (h : chk N g nm ts = 0) (hk : key ∈ ts) : okSpot (nm, key) := by
  obtain ⟨h1, h2⟩ := chk_size h
  have := h2 key hk
  exact ⟨by unfold maxLen; show nm.size ≤ _; omega, by unfold maxLen; show key.size ≤ _; omega⟩
set_option maxRecDepth 100000 in
set_option maxHeartbeats 2000000 in
theorem get_any {base p : Nat} {r : HS} (g : Int) (nm key : ByteArray) (w : World) (hI : HeapInv w base p r) (hg : inI64 g) (hn : nm.size ≤ maxLen) (hk : key.size ≤ maxLen) :
    Calls Tryz.prog 33 #[.pointer (some ⟨p, 0, none⟩), .int .i64 g, .string nm, .string key] w fun e w' =>
      e = .returned (.tuple #[.string (getAns r.cur.length (grpF r g) g nm key).1, .int .i64 (getAns r.cur.length (grpF r g) g nm key).2]) ∧ Below w.heap.size w w' := by
  have HB0 := Lib.hid (fun o => (show Below w.heap.size w (w.alloc o) from (Below.refl _ _).alloc (Nat.le_refl _) o))
  have HCH := Lib.hid (fun (o : Obj) (v : Value) (hv : tStrs.rv (mem (w.alloc o)) [v] [key]) => checked_any g nm [key] v (w.alloc o) (hI.pure (HB0.out o)) hg hn hv)
  have HST := Lib.hid (fun (T : TypeId) => (show tStrs.rv (mem (w.alloc (.cells #[.string key] T))) [.slice (some ⟨w.heap.size, 0, none⟩) 1 1] [key] from strs_rv1 (mem_cells_new w _ T (0, 0) 0) hk))
  have HA := Lib.hid (show getAns r.cur.length (grpF r g) g nm key = if chk r.cur.length g nm [key] = 0 then (strOr (grpF r g (nm, key)), if (grpF r g (nm, key)).isSome = true then 0 else 8) else (.empty, chk r.cur.length g nm [key]) from rfl)
  have HGR := Lib.hid (fun (h : chk r.cur.length g nm [key] = 0) => (show ∃ (cb off cap i : Nat), g = (i : Int) ∧ i < r.cur.length ∧ GrpAt w p r i (adAt r g) cb off cap ∧ okSpot (nm, key) from by
    obtain ⟨_, _, h0, h1⟩ := chk_ok h
    obtain ⟨i, rfl⟩ := Int.eq_ofNat_of_zero_le h0
    obtain ⟨cb, off, cap, hg, _⟩ := hI.grp (i := i) (by omega)
    exact ⟨cb, off, cap, i, rfl, by omega, hg, okSpot_of h (by simp)⟩))
  have hcs := chk_cases r.cur.length g nm [key]
  clear hI hg hn hk
  generalize getAns r.cur.length (grpF r g) g nm key = ans at HA ⊢
  generalize hc : chk r.cur.length g nm [key] = c at *
  clear hc
  go_enter Tryz.func33, Tryz.ntmps33
  go_wp2_with fail
  refine (HCH.out _ _ (HST.out _)).mono ?_
  rintro e w1 ⟨rfl, hb1⟩
  have hB := pure_trans (HB0.out _) hb1
  clear hb1 HCH HST HB0
  rcases hcs with rfl | hcs
  · obtain ⟨cb, off, cap, i, rfl, hi, hG, hok⟩ := HGR.out rfl
    have hG := hG.below hB
    obtain ⟨c1, h2, h3, c4, c5, c6, hgm⟩ := hG
    have hl := hgm.lookOk hok
    have HF := Lib.hid (show (r.g (adAt r i)).f = grpF r i from rfl)
    rw [HF.out] at hl
    generalize grpF r i (nm, key) = q at hl HA
    generalize (r.g (adAt r i)).mb = mb at *
    clear HGR hgm HF c6
    generalize adAt r i = a at *
    generalize r.cur.length = N at *
    cases q with
    | none =>
      have hl' : (Instr.lookup 74 (.map (some mb)) (.agg #[.string nm, .string key]) true).run Tryz.prog w1 = .ok (.tuple #[.string .empty, .bool false]) w1 := hl
      clear hl
      go_wp2
      go_ret2
      exact ⟨by rw [HA.out]; rfl, hB⟩
    | some s =>
      have hl' : (Instr.lookup 74 (.map (some mb)) (.agg #[.string nm, .string key]) true).run Tryz.prog w1 = .ok (.tuple #[.string s, .bool true]) w1 := hl
      clear hl
      go_wp2
      go_ret2
      exact ⟨by rw [HA.out]; rfl, hB⟩
  · have HN := Lib.hid (show ans = (.empty, c) from by rw [HA.out, if_neg (by omega)])
    have hne : (c == 0) = false := by rcases hcs with rfl | rfl <;> rfl
    clear hcs HGR
    go_wp2
    go_ret2
    exact ⟨by rw [HN.out] <;> rfl, hB⟩
end Go.Proofs.YtbmpoecmjmmngaaGreat
/- package heap: the steps of the state: a group of its own, a map that changes, marks, snapshots. -/
namespace Go.Proofs.YtbmpoecmjmmngaaGreat
open Go.RowKit Go.Maps

theorem nodup_set {β : Type} {x : β} : ∀ {l : List β} {i : Nat}, l.Nodup → x ∉ l → (l.set i x).Nodup
  | [], _, h, _ => h
  | y :: l, 0, h, hx => by
    rw [List.nodup_cons] at h
    exact List.nodup_cons.2 ⟨fun hm => hx (List.mem_cons_of_mem _ hm), h.2⟩
  | y :: l, i + 1, h, hx => by
    rw [List.nodup_cons] at h
    refine List.nodup_cons.2 ⟨fun hm => ?_, nodup_set h.2 (fun hm => hx (List.mem_cons_of_mem _ hm))⟩
    rcases List.mem_or_eq_of_mem_set hm with e | e
    · exact h.1 e
    · subst e; exact hx List.mem_cons_self
/-- The state told plainly. -/
structure PS where
  grps : List FMap
  cnt : Int
  last : Int
  sn : Int → Option (List FMap)
def HS.view (r : HS) : PS := ⟨r.cur.map (fun a => (r.g a).f), r.cnt, r.last, fun k => (r.snaps k).map fun x => x.2.map fun a => (r.g a).f⟩
def HS.withG (r : HS) (a : Nat) (x : G) : HS := { r with g := fun b => if b = a then x else r.g b }
theorem withG_same (r : HS) (a : Nat) (x : G) : (r.withG a x).g a = x := by simp [HS.withG]
theorem withG_other (r : HS) {a b : Nat} (x : G) (h : b ≠ a) : (r.withG a x).g b = r.g b := by simp [HS.withG, h]
section
variable {W W2 W' : World} {base p : Nat} {r : HS}
theorem used_lt (h : HeapInv W base p r) {a : Nat} (ha : used r a) : a < W.heap.size := (Array.getElem?_eq_some_iff.1 (h.gb a ha).1).1
/-- A group of the state's own in the place of another one. -/
theorem HeapInv.newGroup (h : HeapInv W base p r) {i : Nat} (hi : i < r.cur.length) {cb off cap nb : Nat} (hcv : r.cv = .slice (some ⟨cb, off, none⟩) r.cur.length cap) (hk : Below W.heap.size W W2) (hnb : W.heap.size ≤ nb) {f : FMap} (hgm : GMap W2 nb r.nn f) :
    HStep W base p r ((W2.alloc (.cells #[.map (some nb), .bool false] 84)).setCell ⟨cb, off + i, none⟩ (ptrTo W2.heap.size)) ({ r with cur := r.cur.set i W2.heap.size }.withG W2.heap.size ⟨nb, false, f⟩) := by
  have hap := h.apart
  have hlt := h.cells_kind
  have hcb : r.cv.ownBlock = some cb := by rw [hcv]; rfl
  have hcl : cb < W.heap.size := hlt cb (.inr (.inr (.inl hcb)))
  have hs2 := hk.size
  have hnl : nb < W2.heap.size := hgm.lt
  have hother : ∀ k, k < W2.heap.size → k ≠ cb → ((W2.alloc (.cells #[.map (some nb), .bool false] 84)).setCell ⟨cb, off + i, none⟩ (ptrTo W2.heap.size)).heap[k]? = W2.heap[k]? := fun k hl hne =>
    (set_block_other hne).trans (Below.heap_alloc _ _ _ hl)
  have hold : ∀ k, mutB p r k → k ≠ cb → ((W2.alloc (.cells #[.map (some nb), .bool false] 84)).setCell ⟨cb, off + i, none⟩ (ptrTo W2.heap.size)).heap[k]? = W.heap[k]? := fun k hm hne => by
    have := hlt k hm
    exact (hother k (by omega) hne).trans (hk.block k this)
  have hused : ∀ a, used ({ r with cur := r.cur.set i W2.heap.size }.withG W2.heap.size ⟨nb, false, f⟩) a → a = W2.heap.size ∨ used r a := fun a ha => by
    rcases ha with ha | ha
    · rcases List.mem_or_eq_of_mem_set ha with e | e
      · exact .inr (.inl e)
      · exact .inl e
    · exact .inr (.inr ha)
  have hne : ∀ a, used r a → a ≠ W2.heap.size := fun a ha => by have := used_lt h ha; omega
  have hgo : ∀ a, used r a → ({ r with cur := r.cur.set i W2.heap.size }.withG W2.heap.size ⟨nb, false, f⟩).g a = r.g a := fun a ha => withG_other _ _ (hne a ha)
  refine HStep.mk' h ?_ ?_ ?_ ?_ ?_ (fun k x e => .inl e) (by show (r.cur.set i _).length = _; rw [List.length_set]) ?_ ?_ ?_ ?_ ?_
  · exact (((below_keeps hk).wide (fun k h1 h2 => by omega)).alloc _).setCell (p := ⟨cb, off + i, none⟩) (fun _ => .inr (.inr (.inl hcb))) _
  · rintro k (e | e | e | ⟨a, ha, e⟩)
    · exact .inl (.inl e)
    · exact .inl (.inr (.inl e))
    · exact .inl (.inr (.inr (.inl e)))
    · rcases hused a ha with rfl | ha'
      · rw [withG_same] at e
        rcases e with rfl | rfl
        · exact .inr hs2
        · exact .inr hnb
      · rw [hgo a ha'] at e
        exact .inl (.inr (.inr (.inr ⟨a, ha', e⟩)))
  · exact (hold p (.inl rfl) (fun e => hap.2.1 (e ▸ hcb))).trans h.hb
  · obtain ⟨b', off', cap', arr, e1, h2, h3, h4, h5, h6⟩ := h.cu
    rw [hcv] at e1
    injection e1 with e1 _ e2
    injection e1 with e1
    injection e1 with e1 e3 _
    subst e1; subst e2; subst e3
    refine ⟨cb, off, cap, arr.setIfInBounds (off + i) (ptrTo W2.heap.size), by show r.cv = _; rw [hcv]; congr 1; show _ = (r.cur.set i _).length; rw [List.length_set], by show (r.cur.set i _).length ≤ _; rw [List.length_set]; exact h2, h3,
      set_block ((Below.heap_alloc _ _ _ (by omega)).trans ((hk.block _ hcl).trans h4)), by simpa using h5, fun j hj => ?_⟩
    have hj' : j < r.cur.length := by simpa [HS.withG] using hj
    have hj2 : j < (r.cur.set i W2.heap.size).length := by rw [List.length_set]; exact hj'
    show (arr.setIfInBounds (off + i) (ptrTo W2.heap.size))[off + j]? = some (ptrTo ((r.cur.set i W2.heap.size)[j]'hj2))
    rw [Array.getElem?_setIfInBounds, List.getElem_set]
    by_cases e : i = j
    · subst e
      rw [if_pos rfl, if_pos (by omega), if_pos rfl]
    · rw [if_neg (by omega), if_neg e]
      exact h6 j hj'
  · exact h.sn.at (hold _ (.inr (.inl rfl)) (fun e => hap.2.2.1 (by rw [hcb, e])))
  · intro a ha
    rcases hused a ha with rfl | ha'
    · rw [withG_same]
      refine ⟨?_, hgm.at (hother nb hnl (by omega))⟩
      exact (set_block_other (by omega)).trans (heap_alloc_new W2 _)
    · rw [hgo a ha']
      obtain ⟨h1, h2⟩ := h.gb a ha'
      have hap' := hap.2.2.2 a ha'
      exact ⟨(hold a (.inr (.inr (.inr ⟨a, ha', .inl rfl⟩))) (fun e => hap'.2.2.1 (by rw [hcb, e]))).trans h1, h2.at (hold _ (.inr (.inr (.inr ⟨a, ha', .inr rfl⟩))) (fun e => hap'.2.2.2.2.1 (by rw [hcb, e])))⟩
  · intro a b ha hb e
    rcases hused a ha with rfl | ha' <;> rcases hused b hb with rfl | hb'
    · rfl
    · rw [withG_same, hgo b hb'] at e
      have := hlt _ (.inr (.inr (.inr ⟨b, hb', .inr rfl⟩)))
      have e : nb = (r.g b).mb := e
      omega
    · rw [withG_same, hgo a ha'] at e
      have := hlt _ (.inr (.inr (.inr ⟨a, ha', .inr rfl⟩)))
      have e : (r.g a).mb = nb := e
      omega
    · rw [hgo a ha', hgo b hb'] at e
      exact h.inj a b ha' hb' e
  · intro a ha
    rcases hused a ha with rfl | ha'
    · rw [withG_same]
      show nb ≠ r.sm
      have := hlt r.sm (.inr (.inl rfl))
      omega
    · rw [hgo a ha']; exact h.smb a ha'
  · intro k x a e ha
    have hu : used r a := .inr ⟨k, x, e, ha⟩
    rw [hgo a hu]; exact h.sh k x a e ha
  · exact nodup_set h.nd (fun hm => hne _ (.inl hm) rfl)
theorem view_newGroup (h : HeapInv W base p r) {i nb : Nat} {f : FMap} {a : Nat} (ha : W.heap.size ≤ a) :
    ({ r with cur := r.cur.set i a }.withG a ⟨nb, false, f⟩).view = { r.view with grps := r.view.grps.set i f } := by
  have hgo : ∀ b, used r b → ({ r with cur := r.cur.set i a }.withG a ⟨nb, false, f⟩).g b = r.g b := fun b hb => withG_other _ _ (by have := used_lt h hb; omega)
  unfold HS.view
  congr 1
  · show (r.cur.set i a).map _ = (r.cur.map _).set i f
    rw [List.map_set, withG_same]
    congr 1
    exact List.map_congr_left fun b hb => by rw [hgo b (.inl hb)]
  · funext k
    show (r.snaps k).map _ = (r.snaps k).map _
    cases e : r.snaps k with
    | none => rfl
    | some x =>
      simp only [Option.map_some]
      congr 1
      exact List.map_congr_left fun b hb => by rw [hgo b (.inr ⟨k, x, e, hb⟩)]
/-- A group's map changes; the group is the state's own. -/
theorem HeapInv.putG (h : HeapInv W base p r) {a : Nat} (ha : used r a) {n : Nat} (hn : r.nn ≤ n) {f : FMap} (hgm : GMap W' (r.g a).mb n f) (hg : W.grownBy W' (some (r.g a).mb)) :
    HStep W base p r W' ({ r with nn := n }.withG a { r.g a with f := f }) := by
  have hap := h.apart
  have hlt := h.cells_kind
  have hold : ∀ k, mutB p r k → k ≠ (r.g a).mb → W'.heap[k]? = W.heap[k]? := fun k hm hne => hg.block k (hlt k hm) (fun e => hne (by injection e))
  have hmb : ∀ b, (({ r with nn := n }.withG a { r.g a with f := f }).g b).mb = (r.g b).mb ∧ (({ r with nn := n }.withG a { r.g a with f := f }).g b).sh = (r.g b).sh := fun b => by
    by_cases e : b = a
    · subst e; rw [withG_same]; exact ⟨rfl, rfl⟩
    · rw [withG_other _ _ e]; exact ⟨rfl, rfl⟩
  have hap' := hap.2.2.2 a ha
  refine HStep.mk' h ((grown_keeps hg).wide (fun k _ e => by injection e with e; exact .inr (.inr (.inr ⟨a, ha, .inr e⟩)))) ?_ ((hold p (.inl rfl) (Ne.symm hap'.2.2.2.1)).trans h.hb) (h.cu.at (fun k e => hold k (.inr (.inr (.inl e))) (fun e2 => hap'.2.2.2.2.1 (e2 ▸ e))))
    ((h.sn.at (hold _ (.inr (.inl rfl)) (Ne.symm (h.smb a ha)))).mono hn) (fun k x e => .inl e) rfl ?_ ?_ ?_ ?_ h.nd
  · rintro k (e | e | e | ⟨b, hb, e⟩)
    · exact .inl (.inl e)
    · exact .inl (.inr (.inl e))
    · exact .inl (.inr (.inr (.inl e)))
    · rw [(hmb b).1] at e
      exact .inl (.inr (.inr (.inr ⟨b, hb, e⟩)))
  · intro b hb
    have hbu : used r b := hb
    obtain ⟨h1, h2⟩ := h.gb b hbu
    have hne : b ≠ (r.g a).mb := fun e => (hap.2.2.2 b hbu).2.2.2.2.2 a ha e.symm
    by_cases e : b = a
    · subst e
      rw [withG_same]
      exact ⟨(hold b (.inr (.inr (.inr ⟨b, hbu, .inl rfl⟩))) hne).trans h1, hgm⟩
    · rw [withG_other _ _ e]
      have hne2 : (r.g b).mb ≠ (r.g a).mb := fun e2 => e (h.inj b a hbu ha e2)
      exact ⟨(hold b (.inr (.inr (.inr ⟨b, hbu, .inl rfl⟩))) hne).trans h1, (h2.at (hold _ (.inr (.inr (.inr ⟨b, hbu, .inr rfl⟩))) hne2)).mono hn⟩
  · intro b c hb hc e
    rw [(hmb b).1, (hmb c).1] at e
    exact h.inj b c hb hc e
  · intro b hb
    rw [(hmb b).1]; exact h.smb b hb
  · intro k x b e hb
    rw [(hmb b).2]; exact h.sh k x b e hb
theorem view_putG (h : HeapInv W base p r) {i : Nat} (hi : i < r.cur.length) {n : Nat} {f : FMap} (hs : (r.g (adAt r i)).sh = false) :
    ({ r with nn := n }.withG (adAt r i) { r.g (adAt r i) with f := f }).view = { r.view with grps := r.view.grps.set i f } := by
  unfold HS.view
  congr 1
  · show r.cur.map _ = (r.cur.map _).set i f
    apply List.ext_getElem
    · simp
    intro j h1 h2
    have hj : j < r.cur.length := by simpa using h1
    rw [List.getElem_map, List.getElem_set]
    by_cases e : i = j
    · subst e
      rw [if_pos rfl, ← adAt_eq hi, withG_same]
    · rw [if_neg e, List.getElem_map, withG_other]
      intro e2
      have e3 : r.cur[j] = r.cur[i] := e2.trans (adAt_eq hi)
      exact e ((List.getElem_inj h.nd).1 e3).symm
  · funext k
    show (r.snaps k).map _ = (r.snaps k).map _
    cases e : r.snaps k with
    | none => rfl
    | some x =>
      simp only [Option.map_some]
      congr 1
      refine List.map_congr_left fun b hb => ?_
      rw [withG_other]
      intro e2
      have := h.sh k x b e hb
      rw [e2, hs] at this
      cases this
/-- A group is marked as shared. -/
theorem HeapInv.mark (h : HeapInv W base p r) {a : Nat} (ha : used r a) :
    HStep W base p r (W.setCell ⟨a, 1, none⟩ (.bool true)) (r.withG a { r.g a with sh := true }) := by
  have hap := h.apart
  have hlt := h.cells_kind
  have hold : ∀ k, k ≠ a → (W.setCell ⟨a, 1, none⟩ (.bool true)).heap[k]? = W.heap[k]? := fun k hne => set_block_other hne
  have hmb : ∀ b, ((r.withG a { r.g a with sh := true }).g b).mb = (r.g b).mb ∧ ((r.withG a { r.g a with sh := true }).g b).f = (r.g b).f := fun b => by
    by_cases e : b = a
    · subst e; rw [withG_same]; exact ⟨rfl, rfl⟩
    · rw [withG_other _ _ e]; exact ⟨rfl, rfl⟩
  have hap' := hap.2.2.2 a ha
  refine HStep.mk' h ((Keeps.refl _ W).setCell (p := ⟨a, 1, none⟩) (fun _ => .inr (.inr (.inr ⟨a, ha, .inl rfl⟩))) _) ?_ ((hold p (Ne.symm hap'.1)).trans h.hb) (h.cu.at (fun k e => hold k (fun e2 => hap'.2.2.1 (e2 ▸ e))))
    (h.sn.at (hold _ (Ne.symm hap'.2.1))) (fun k x e => .inl e) rfl ?_ ?_ ?_ ?_ h.nd
  · rintro k (e | e | e | ⟨b, hb, e⟩)
    · exact .inl (.inl e)
    · exact .inl (.inr (.inl e))
    · exact .inl (.inr (.inr (.inl e)))
    · rw [(hmb b).1] at e
      exact .inl (.inr (.inr (.inr ⟨b, hb, e⟩)))
  · intro b hb
    have hbu : used r b := hb
    obtain ⟨h1, h2⟩ := h.gb b hbu
    have hm := (hap.2.2.2 a ha).2.2.2.2.2 b hbu
    by_cases e : b = a
    · subst e
      rw [withG_same]
      exact ⟨set_block h1, h2.at (hold _ hm)⟩
    · rw [withG_other _ _ e]
      exact ⟨(hold b e).trans h1, h2.at (hold _ hm)⟩
  · intro b c hb hc e
    rw [(hmb b).1, (hmb c).1] at e
    exact h.inj b c hb hc e
  · intro b hb
    rw [(hmb b).1]; exact h.smb b hb
  · intro k x b e hb
    by_cases e2 : b = a
    · subst e2; rw [withG_same]
    · rw [withG_other _ _ e2]; exact h.sh k x b e hb
theorem view_mark (r : HS) (a : Nat) : (r.withG a { r.g a with sh := true }).view = r.view := by
  have hf : ∀ b, ((r.withG a { r.g a with sh := true }).g b).f = (r.g b).f := fun b => by
    by_cases e : b = a
    · subst e; rw [withG_same]
    · rw [withG_other _ _ e]
  unfold HS.view
  congr 1
  · exact List.map_congr_left fun b _ => hf b
  · funext k
    show (r.snaps k).map _ = (r.snaps k).map _
    cases r.snaps k with
    | none => rfl
    | some x =>
      simp only [Option.map_some]
      congr 1
      exact List.map_congr_left fun b _ => hf b
/-- A snapshot is laid down. -/
theorem HeapInv.snap (h : HeapInv W base p r) {k0 : Int} {v : Value} (hk : Below W.heap.size W W2) (hv : tPtrs.rv ((mem W2).on (W.heap.size ≤ ·)) [v] r.cur) (hsh : ∀ a ∈ r.cur, (r.g a).sh = true) (hsm : SMap W' r.sm (r.nn + 1) (putAt r.snaps k0 (v, r.cur))) (hg : W2.grownBy W' (some r.sm)) :
    HStep W base p r W' { r with nn := r.nn + 1, snaps := putAt r.snaps k0 (v, r.cur) } := by
  have h2 := h.pure hk
  have hap := h2.apart
  have hlt := h2.cells_kind
  have hlt0 := h.cells_kind
  have hold : ∀ k, mutB p r k → k ≠ r.sm → W'.heap[k]? = W2.heap[k]? := fun k hm hne => hg.block k (hlt k hm) (fun e => hne (by injection e))
  have hcase : ∀ k x, putAt r.snaps k0 (v, r.cur) k = some x → (x = (v, r.cur)) ∨ r.snaps k = some x := fun k x e => by
    by_cases e2 : k = k0
    · subst e2; rw [putAt_same] at e; injection e with e; exact .inl e.symm
    · rw [putAt_other _ _ e2] at e; exact .inr e
  have hused : ∀ a, used { r with nn := r.nn + 1, snaps := putAt r.snaps k0 (v, r.cur) } a → used r a := fun a ha => by
    rcases ha with ha | ⟨k, x, e, ha⟩
    · exact .inl ha
    · rcases hcase k x e with e | e
      · subst e; exact .inl ha
      · exact .inr ⟨k, x, e, ha⟩
  have hK : Keeps (mutB p r) W W' := ((below_keeps hk).wide (fun k h1 h2 => by omega)).trans ((grown_keeps hg).wide (fun k _ e => by injection e with e; exact .inr (.inl e)))
  have hM : ∀ k, mutB p { r with nn := r.nn + 1, snaps := putAt r.snaps k0 (v, r.cur) } k → mutB p r k := by
    rintro k (e | e | e | ⟨b, hb, e⟩)
    · exact .inl e
    · exact .inr (.inl e)
    · exact .inr (.inr (.inl e))
    · exact .inr (.inr (.inr ⟨b, hused b hb, e⟩))
  refine HStep.mk' h hK (fun k e => .inl (hM k e)) ((hold p (.inl rfl) hap.1).trans h2.hb) (h2.cu.at (fun k e => hold k (.inr (.inr (.inl e))) (fun e2 => hap.2.2.1 (e2 ▸ e)))) hsm ?_ rfl ?_ (fun a b ha hb => h.inj a b (hused a ha) (hused b hb)) (fun a ha => h.smb a (hused a ha)) ?_ h.nd
  · intro k x e
    rcases hcase k x e with e | e
    · subst e
      refine .inr ⟨tPtrs.mono _ _ _ _ (fun j o u hu => ?_) hv, h.nd, rfl⟩
      obtain ⟨hj, hu⟩ := Mem.of_on hu
      have hjl := mem_lt hu
      refine Mem.on_some ((mem_of_block (hg.block j hjl (fun e => ?_)) o).trans hu) (fun hm => ?_)
      · injection e with e
        have := hlt0 r.sm (.inr (.inl rfl))
        omega
      · have := hlt0 j (hM j hm)
        omega
    · exact .inl e
  · intro a ha
    have hau := hused a ha
    obtain ⟨h1, h3⟩ := h2.gb a hau
    have hap' := hap.2.2.2 a hau
    exact ⟨(hold a (.inr (.inr (.inr ⟨a, hau, .inl rfl⟩))) hap'.2.1).trans h1, (h3.at (hold _ (.inr (.inr (.inr ⟨a, hau, .inr rfl⟩))) (h.smb a hau))).mono (Nat.le_succ _)⟩
  · intro k x a e ha
    rcases hcase k x e with e | e
    · subst e; exact hsh a ha
    · exact h.sh k x a e ha
theorem view_snap (r : HS) (k0 : Int) (v : Value) (n : Nat) : ({ r with nn := n, snaps := putAt r.snaps k0 (v, r.cur) } : HS).view = { r.view with sn := putAt r.view.sn k0 r.view.grps } := by
  unfold HS.view
  congr 1
  funext k
  show (putAt r.snaps k0 (v, r.cur) k).map _ = putAt (fun k => (r.snaps k).map _) k0 _ k
  by_cases e : k = k0
  · subst e; rw [putAt_same, putAt_same]; rfl
  · rw [putAt_other _ _ e, putAt_other _ _ e]
/-- A snapshot goes. -/
theorem HeapInv.unsnap (h : HeapInv W base p r) {k0 : Int} (hsm : SMap W' r.sm r.nn (delAt r.snaps k0)) (hg : W.grownBy W' (some r.sm)) :
    HStep W base p r W' { r with snaps := delAt r.snaps k0 } := by
  have hap := h.apart
  have hlt := h.cells_kind
  have hold : ∀ k, mutB p r k → k ≠ r.sm → W'.heap[k]? = W.heap[k]? := fun k hm hne => hg.block k (hlt k hm) (fun e => hne (by injection e))
  have hcase : ∀ k x, delAt r.snaps k0 k = some x → r.snaps k = some x := fun k x e => by
    by_cases e2 : k = k0
    · subst e2; rw [delAt_same] at e; cases e
    · rw [delAt_other _ e2] at e; exact e
  have hused : ∀ a, used { r with snaps := delAt r.snaps k0 } a → used r a := fun a ha => by
    rcases ha with ha | ⟨k, x, e, ha⟩
    · exact .inl ha
    · exact .inr ⟨k, x, hcase k x e, ha⟩
  refine HStep.mk' h ((grown_keeps hg).wide (fun k _ e => by injection e with e; exact .inr (.inl e))) ?_ ((hold p (.inl rfl) hap.1).trans h.hb) (h.cu.at (fun k e => hold k (.inr (.inr (.inl e))) (fun e2 => hap.2.2.1 (e2 ▸ e)))) hsm (fun k x e => .inl (hcase k x e)) rfl ?_ (fun a b ha hb => h.inj a b (hused a ha) (hused b hb)) (fun a ha => h.smb a (hused a ha)) (fun k x a e ha => h.sh k x a (hcase k x e) ha) h.nd
  · rintro k (e | e | e | ⟨b, hb, e⟩)
    · exact .inl (.inl e)
    · exact .inl (.inr (.inl e))
    · exact .inl (.inr (.inr (.inl e)))
    · exact .inl (.inr (.inr (.inr ⟨b, hused b hb, e⟩)))
  · intro a ha
    have hau := hused a ha
    obtain ⟨h1, h3⟩ := h.gb a hau
    have hap' := hap.2.2.2 a hau
    exact ⟨(hold a (.inr (.inr (.inr ⟨a, hau, .inl rfl⟩))) hap'.2.1).trans h1, h3.at (hold _ (.inr (.inr (.inr ⟨a, hau, .inr rfl⟩))) (h.smb a hau))⟩
theorem view_unsnap (r : HS) (k0 : Int) : ({ r with snaps := delAt r.snaps k0 } : HS).view = { r.view with sn := delAt r.view.sn k0 } := by
  unfold HS.view
  congr 1
  funext k
  show (delAt r.snaps k0 k).map _ = delAt (fun k => (r.snaps k).map _) k0 k
  by_cases e : k = k0
  · subst e; rw [delAt_same, delAt_same]; rfl
  · rw [delAt_other _ e, delAt_other _ e]
/-- The groups become those of a snapshot, in a row of their own. -/
theorem HeapInv.reset (h : HeapInv W base p r) {k0 : Int} {x : Value × List Nat} (hx : r.snaps k0 = some x) {v : Value} (hk : Below W.heap.size W W2) (hv : PRow W2 v x.2) (hb : ∀ k, v.ownBlock = some k → W.heap.size ≤ k) :
    HStep W base p r (W2.setCell ⟨p, 0, none⟩ v) { r with cv := v, cur := x.2 } := by
  have h2 := h.pure hk
  have hap := h2.apart
  have hlt := h2.cells_kind
  have hpl : p < W.heap.size := h.cells_kind p (.inl rfl)
  have hold : ∀ k, k ≠ p → (W2.setCell ⟨p, 0, none⟩ v).heap[k]? = W2.heap[k]? := fun k hne => set_block_other hne
  have hused : ∀ a, used { r with cv := v, cur := x.2 } a → used r a := fun a ha => by
    rcases ha with ha | ha
    · exact .inr ⟨k0, x, hx, ha⟩
    · exact .inr ha
  obtain ⟨_, hnd, hlen⟩ := h.sr k0 x hx
  refine HStep.mk' h (((below_keeps hk).wide (fun k h1 h2 => by omega)).setCell (p := ⟨p, 0, none⟩) (fun _ => .inl rfl) _) ?_ ?_ (hv.at (fun k e => hold k (fun e2 => by have := hb k e; omega))) (h2.sn.at (hold _ (Ne.symm hap.1))) (fun k y e => .inl e) hlen ?_ (fun a b ha hb => h.inj a b (hused a ha) (hused b hb)) (fun a ha => h.smb a (hused a ha)) h.sh hnd
  · rintro k (e | e | e | ⟨b, hb', e⟩)
    · exact .inl (.inl e)
    · exact .inl (.inr (.inl e))
    · exact .inr (hb k e)
    · exact .inl (.inr (.inr (.inr ⟨b, hused b hb', e⟩)))
  · exact set_block h2.hb
  · intro a ha
    have hau := hused a ha
    obtain ⟨h1, h3⟩ := h2.gb a hau
    have hap' := hap.2.2.2 a hau
    exact ⟨(hold a hap'.1).trans h1, h3.at (hold _ hap'.2.2.2.1)⟩
theorem view_reset {r : HS} {k0 : Int} {x : Value × List Nat} (hx : r.snaps k0 = some x) (v : Value) : ({ r with cv := v, cur := x.2 } : HS).view = { r.view with grps := x.2.map fun a => (r.g a).f } ∧ r.view.sn k0 = some (x.2.map fun a => (r.g a).f) := by
  refine ⟨rfl, ?_⟩
  show (r.snaps k0).map _ = _
  rw [hx]; rfl
end
end Go.Proofs.YtbmpoecmjmmngaaGreat
/-
  DERIVED: THE SHELF's CONTRACTS AT THIS DUMP, IN PLAIN WORDS (tools/lay-plain.mjs out of 'TryShelfZ.lean', which tools/lay-shelf.mjs wrote): THE SAME DECLARATIONS UNDER THE SAME NAMES: 'import', 'namespace', 'open', 'def', 'theorem' AND NOTHING ELSE: no command of the shelf's: FOR A HAND-IN. Each laying: the table of numbers ('.._ren') and one theorem, a field a fact of the dump's own or the kernel's comparison; each contract: ONE APPLICATION.
-/
namespace Go.Proofs
open Go.Shelf
def Tryz.sort118_ren : Go.Shelf.Ren := ⟨fun | 6 => 118 | 15 => 63 | 14 => 126 | 28 => 91 | 29 => 92 | 20 => 136 | 21 => 137 | 22 => 138 | 23 => 139 | 24 => 140 | 25 => 141 | 26 => 142 | 27 => 143 | 46 => 147 | 47 => 112 | 48 => 113 | 49 => 148 | 50 => 149 | 57 => 151 | n => n, fun | 22 => 150 | 24 => 77 | 25 => 156 | 3 => 3 | 39 => 111 | 0 => 0 | 53 => 142 | 55 => 144 | 4 => 4 | 46 => 136 | 45 => 135 | 50 => 68 | 5 => 5 | 9 => 9 | 66 => 159 | 70 => 163 | 76 => 171 | 77 => 172 | n => n, fun | n => n⟩
theorem Tryz.sort118 : Go.Proofs.SlLaysF0.n6 Tryz.prog Tryz.sort118_ren := {
  mixed := by kernel_rfl
  f6 := ⟨Tryz.f118.name, by decide, Tryz.func118.trans (congrArg some (by kernel_rfl))⟩
  f14 := ⟨Tryz.f126.name, by decide, Tryz.func126.trans (congrArg some (by kernel_rfl))⟩
  f15 := Tryz.func63.trans (congrArg some (by kernel_rfl))
  f20 := ⟨Tryz.f136.name, by decide, Tryz.func136.trans (congrArg some (by kernel_rfl))⟩
  f21 := ⟨Tryz.f137.name, by decide, Tryz.func137.trans (congrArg some (by kernel_rfl))⟩
  f22 := ⟨Tryz.f138.name, by decide, Tryz.func138.trans (congrArg some (by kernel_rfl))⟩
  f23 := ⟨Tryz.f139.name, by decide, Tryz.func139.trans (congrArg some (by kernel_rfl))⟩
  f24 := ⟨Tryz.f140.name, by decide, Tryz.func140.trans (congrArg some (by kernel_rfl))⟩
  f25 := ⟨Tryz.f141.name, by decide, Tryz.func141.trans (congrArg some (by kernel_rfl))⟩
  f26 := ⟨Tryz.f142.name, by decide, Tryz.func142.trans (congrArg some (by kernel_rfl))⟩
  f27 := ⟨Tryz.f143.name, by decide, Tryz.func143.trans (congrArg some (by kernel_rfl))⟩
  f28 := Tryz.func91.trans (congrArg some (by kernel_rfl))
  f29 := Tryz.func92.trans (congrArg some (by kernel_rfl))
  f46 := ⟨Tryz.f147.name, by decide, Tryz.func147.trans (congrArg some (by kernel_rfl))⟩
  f47 := Tryz.func112.trans (congrArg some (by kernel_rfl))
  f48 := Tryz.func113.trans (congrArg some (by kernel_rfl))
  f49 := ⟨Tryz.f148.name, by decide, Tryz.func148.trans (congrArg some (by kernel_rfl))⟩
  f50 := ⟨Tryz.f149.name, by decide, Tryz.func149.trans (congrArg some (by kernel_rfl))⟩
  f57 := ⟨Tryz.f151.name, by decide, Tryz.func151.trans (congrArg some (by kernel_rfl))⟩
  t0 := Tryz.underlying0
  a0 := Tryz.isAgg0
  z0 := Tryz.sizeOf0
  v0 := Tryz.zeroValue0
  t3 := Tryz.underlying3
  a3 := Tryz.isAgg3
  z3 := Tryz.sizeOf3
  v3 := Tryz.zeroValue3
  t4 := Tryz.underlying4
  a4 := Tryz.isAgg4
  z4 := Tryz.sizeOf4
  v4 := Tryz.zeroValue4
  t5 := Tryz.underlying5
  a5 := Tryz.isAgg5
  z5 := Tryz.sizeOf5
  v5 := Tryz.zeroValue5
  t9 := Tryz.underlying9
  a9 := Tryz.isAgg9
  z9 := Tryz.sizeOf9
  v9 := Tryz.zeroValue9
  t22 := Tryz.underlying150
  a22 := Tryz.isAgg150
  z22 := Tryz.sizeOf150
  v22 := Tryz.zeroValue150
  t25 := Tryz.underlying156
  a25 := Tryz.isAgg156
  z25 := Tryz.sizeOf156
  v25 := Tryz.zeroValue156
  t39 := Tryz.underlying111
  a39 := Tryz.isAgg111
  z39 := Tryz.sizeOf111
  v39 := Tryz.zeroValue111
  t45 := Tryz.underlying135
  a45 := Tryz.isAgg135
  z45 := Tryz.sizeOf135
  v45 := Tryz.zeroValue135
  t46 := Tryz.underlying136
  a46 := Tryz.isAgg136
  z46 := Tryz.sizeOf136
  v46 := Tryz.zeroValue136
  t50 := Tryz.underlying68
  a50 := Tryz.isAgg68
  z50 := Tryz.sizeOf68
  v50 := Tryz.zeroValue68
  t53 := Tryz.underlying142
  a53 := Tryz.isAgg142
  z53 := Tryz.sizeOf142
  v53 := Tryz.zeroValue142
  t55 := Tryz.underlying144
  a55 := Tryz.isAgg144
  z55 := Tryz.sizeOf144
  v55 := Tryz.zeroValue144
  t66 := Tryz.underlying159
  a66 := Tryz.isAgg159
  z66 := Tryz.sizeOf159
  v66 := Tryz.zeroValue159
  t70 := Tryz.underlying163
  a70 := Tryz.isAgg163
  z70 := Tryz.sizeOf163
  v70 := Tryz.zeroValue163
  t76 := Tryz.underlying171
  a76 := Tryz.isAgg171
  z76 := Tryz.sizeOf171
  v76 := Tryz.zeroValue171
  t77 := Tryz.underlying172
  a77 := Tryz.isAgg172
  z77 := Tryz.sizeOf172
  v77 := Tryz.zeroValue172 }
def Tryz.clone69_ren : Go.Shelf.Ren := ⟨fun | 5 => 69 | 7 => 99 | n => n, fun | 23 => 74 | 25 => 77 | 3 => 9 | 4 => 4 | 20 => 20 | n => n, fun | n => n⟩
theorem Tryz.clone69 : Go.Proofs.SlLaysW.n5 Tryz.prog Tryz.clone69_ren := {
  mixed := by kernel_rfl
  f5 := ⟨Tryz.f69.name, by decide, Tryz.func69.trans (congrArg some (by kernel_rfl))⟩
  f7 := Tryz.func99.trans (congrArg some (by kernel_rfl))
  t4 := Tryz.underlying4
  a4 := Tryz.isAgg4
  z4 := Tryz.sizeOf4
  v4 := Tryz.zeroValue4
  t20 := Tryz.underlying20
  a20 := Tryz.isAgg20
  z20 := Tryz.sizeOf20
  v20 := Tryz.zeroValue20
  t23 := Tryz.underlying74
  a23 := Tryz.isAgg74
  z23 := Tryz.sizeOf74
  v23 := Tryz.zeroValue74 }
end Go.Proofs
/- package heap: own (a group's map to be written). -/
namespace Go.Proofs.YtbmpoecmjmmngaaGreat
open Go.RowKit Go.Maps

theorem cloneG_any (b n : Nat) (f : FMap) (w : World) (h : GMap w b n f) :
    Calls Tryz.prog 69 #[.map (some b)] w fun e w' => e = .returned (.map (some w.heap.size)) ∧ GMap w' w.heap.size n f ∧ Below w.heap.size w w' := by
  obtain ⟨D, hown, hs⟩ := h
  refine (AnyW.maps_Clone_owns Tryz.clone69 77 rawE b n D w hown).mono ?_
  rintro e w' ⟨rfl, h1, _, h3⟩
  exact ⟨rfl, ⟨D, h1, hs⟩, h3⟩
theorem set_alloc (w : World) (o : Obj) (a : Addr) (v : Value) (h : a.block < w.heap.size) : (w.setCell a v).alloc o = (w.alloc o).setCell a v := by
  unfold World.setCell
  show World.mk _ _ _ _ _ = World.mk _ _ _ _ _
  congr 1
  apply Array.ext_getElem?
  intro k
  show ((w.heap.modify a.block _).push o)[k]? = ((w.heap.push o).modify a.block _)[k]?
  simp only [Array.getElem?_push, Array.getElem?_modify, Array.size_modify]
  by_cases e : k = w.heap.size
  · have e2 : ¬ a.block = k := by omega
    simp [e, e2]
    omega
  · simp [e]
theorem grps_at (r : HS) {i : Nat} (hi : i < r.cur.length) : r.view.grps[i]? = some (grpF r i) := by
  show (r.cur.map fun a => (r.g a).f)[i]? = _
  rw [List.getElem?_map, List.getElem?_eq_getElem hi, ← adAt_eq hi]
  rfl
theorem view_set (r : HS) {i : Nat} (hi : i < r.cur.length) : ({ r.view with grps := r.view.grps.set i (grpF r i) } : PS) = r.view := by
  have : r.view.grps.set i (grpF r i) = r.view.grps := by
    apply List.ext_getElem?
    intro j
    by_cases e : i = j
    · subst e
      rw [grps_at r hi, List.getElem?_set_self (by show i < (r.cur.map _).length; simpa using hi)]
    · rw [List.getElem?_set_ne e]
  rw [this]
theorem adAt_set (r : HS) {i a : Nat} (x : G) (hi : i < r.cur.length) : adAt ({ r with cur := r.cur.set i a }.withG a x) i = a := by
  unfold adAt
  show (r.cur.set i a).getD _ 0 = a
  rw [Int.toNat_natCast, List.getD_eq_getElem?_getD, List.getElem?_set_self hi]
  rfl
/-- own's step: the group at i is the state's own; what the state says is as it was. -/
structure OwnStep (W : World) (base p : Nat) (r : HS) (i : Nat) (W' : World) (r' : HS) : Prop where
  st : HStep W base p r W' r'
  vw : r'.view = r.view
  sh : (r'.g (adAt r' i)).sh = false
  fe : grpF r' i = grpF r i
  len : r'.cur.length = r.cur.length
  nn : r'.nn = r.nn
set_option maxRecDepth 100000 in
set_option maxHeartbeats 4000000 in
theorem own_any {base p : Nat} {r : HS} (i : Nat) (w : World) (hI : HeapInv w base p r) (hi : i < r.cur.length) :
    Calls Tryz.prog 34 #[.pointer (some ⟨p, 0, none⟩), .int .i64 i] w fun e w' => ∃ r', e = .returned (.map (some (r'.g (adAt r' i)).mb)) ∧ OwnStep w base p r i w' r' := by
  obtain ⟨cb, off, cap, hG, hu⟩ := hI.grp hi
  have HI := Lib.hid hI
  have HU := Lib.hid hu
  have HGM := Lib.hid hG.gm
  obtain ⟨b', off', cap', arr, hcv, -, -, hcb, -⟩ := hI.cu
  have hcv' : r.cv = .slice (some ⟨cb, off, none⟩) r.cur.length cap := by
    have h1 := mem_cells hI.hb 0
    rw [show (hCells r)[0]? = some r.cv from rfl] at h1
    have h2 : mem w p 0 = some _ := hG.cv
    rw [h1] at h2
    injection h2
  have hcb' : w.heap[cb]? = some (.cells arr 85 (0, 0)) := by
    rw [hcv] at hcv'
    injection hcv' with e1
    injection e1 with e1
    injection e1 with e1
    rw [← e1]; exact hcb
  have HCV := Lib.hid hcv'
  have HCB := Lib.hid hcb'
  obtain ⟨c0, hlc, hmx, c1, c2, c3, -⟩ := hG
  have hfin := Lib.hid (show (r.g (adAt r i)).sh = false → OwnStep w base p r i w r from fun h => ⟨HStep.pure hI (Below.refl _ _), rfl, h, rfl, rfl, rfl⟩)
  clear hI hcb hcv hcv' hcb' hu
  cases hsh : (r.g (adAt r i)).sh with
  | false =>
    rw [hsh] at c3
    have HF := Lib.hid (hfin.out hsh)
    clear hsh hfin
    obtain ⟨mb, hmb⟩ : ∃ mb, mb = (r.g (adAt r i)).mb := ⟨_, rfl⟩
    rw [← hmb] at c2
    have HMB := Lib.hid hmb
    clear hmb HI HGM HCV HCB
    generalize adAt r i = a at c1 c2 c3
    obtain ⟨N, hN⟩ : ∃ N, N = r.cur.length := ⟨_, rfl⟩
    rw [← hN] at c0 hlc hi
    clear hN
    go_enter Tryz.func34, Tryz.ntmps34
    go_wp2
    go_ret
    exact ⟨r, by rw [← HMB.out] <;> rfl, HF.out⟩
  | true =>
    rw [hsh] at c3
    have hne1 : p ≠ cb := fun e => by
      have h1 := HI.out.hb
      rw [e, HCB.out] at h1
      exact absurd (by injection h1 with h1; injection h1) (show ¬ ((85 : TypeId) = 81) by decide)
    obtain ⟨mb, hmb⟩ : ∃ mb, mb = (r.g (adAt r i)).mb := ⟨_, rfl⟩
    rw [← hmb] at c2
    have HGM2 := Lib.hid (show GMap w mb r.nn (grpF r i) by rw [hmb]; exact HGM.out)
    have f1 : w.frozen? ⟨cb, off + i, none⟩ = false := frozen_cells HCB.out _
    have HFZ := Lib.hid (fun (w3 : World) (h : Below w.heap.size w w3) => (show w3.frozen? ⟨cb, off + i, none⟩ = false from frozen_cells ((h.block _ (Array.getElem?_eq_some_iff.1 HCB.out).1).trans HCB.out) _))
    clear hmb hfin hsh HGM
    have HAD := Lib.hid (adAt_eq hi)
    have HNE2 := Lib.hid (show adAt r i ≠ cb from fun e => by
      have h1 := (HI.out.gb _ HU.out).1
      rw [e, HCB.out] at h1
      exact absurd (by injection h1 with h1; injection h1) (show ¬ ((85 : TypeId) = 84) by decide))
    generalize adAt r i = a at c1 c2 c3 HNE2
    have HI2 := Lib.hid hi
    obtain ⟨N, hN⟩ : ∃ N, N = r.cur.length := ⟨_, rfl⟩
    rw [← hN] at c0 hlc hi
    clear hN
    have hne2 : a ≠ cb := HNE2.out
    have HS2 := Lib.hid (fun (w3 : World) (h : Below w.heap.size w w3) (o : Obj) => (show (w3.alloc o).cell? ⟨p, 0, none⟩ = some (.slice (some ⟨cb, off, none⟩) N cap) ∧ (w3.alloc o).cell? ⟨a, 0, none⟩ = some (.map (some mb)) ∧ (w3.alloc o).frozen? ⟨cb, off + i, none⟩ = false from
      have hb := h.alloc h.size o
      ⟨below_mem hb _ _ _ c0, below_mem hb _ _ _ c2, HFZ.out _ hb⟩))
    have HS3 := Lib.hid (fun (w3 : World) (h : Below w.heap.size w w3) (o : Obj) (u : Value) => (show ((w3.setCell ⟨cb, off + i, none⟩ u).alloc o).cell? ⟨p, 0, none⟩ = some (.slice (some ⟨cb, off, none⟩) N cap) ∧ ((w3.setCell ⟨cb, off + i, none⟩ u).alloc o).cell? ⟨a, 0, none⟩ = some (.map (some mb)) ∧ ((w3.setCell ⟨cb, off + i, none⟩ u).alloc o).frozen? ⟨cb, off + i, none⟩ = false from
      have hb : Below (w3.setCell ⟨cb, off + i, none⟩ u).heap.size (w3.setCell ⟨cb, off + i, none⟩ u) ((w3.setCell ⟨cb, off + i, none⟩ u).alloc o) := (Below.refl _ _).alloc (Nat.le_refl _) o
      have e : (w3.setCell ⟨cb, off + i, none⟩ u).heap[cb]? = _ := set_block ((h.block _ (Array.getElem?_eq_some_iff.1 HCB.out).1).trans HCB.out)
      ⟨below_mem hb _ _ _ ((mem_of_block (set_block_other hne1) 0).trans (below_mem h _ _ _ c0)), below_mem hb _ _ _ ((mem_of_block (set_block_other hne2) 0).trans (below_mem h _ _ _ c2)), frozen_cells ((hb.block _ (Array.getElem?_eq_some_iff.1 e).1).trans e) _⟩))
    go_enter Tryz.func34, Tryz.ntmps34
    go_wp2_with fail
    go_region_held3 (fun w' => w'.cell? ⟨p, 0, none⟩ = some (.slice (some ⟨cb, off, none⟩) N cap) ∧ w'.cell? ⟨a, 0, none⟩ = some (.map (some mb)) ∧ w'.frozen? ⟨cb, off + i, none⟩ = false)
      (first | exact ⟨below_mem (by assumption) _ _ _ c0, below_mem (by assumption) _ _ _ c2, HFZ.out _ (by assumption)⟩ | exact HS2.out _ (by assumption) _ | exact HS3.out _ (by assumption) _ _ | go_keep)
      ((first | (go_at_call 69; refine (cloneG_any mb r.nn (grpF r i) _ HGM2.out.drew).mono ?_; rintro e w3 ⟨rfl, hg3, hb3⟩; have HG3 := Lib.hid hg3; clear hg3; have hb4 : Below w.heap.size w w3 := (Below.refl _ _).drew.trans hb3; have hx3 := below_mem hb4 _ _ _ c1; have hx3 : w3.cell? ⟨cb, off + i, none⟩ = some (ptrTo a) := hx3; have hx4 := HFZ.out _ hb4; have hlt3 : cb < w3.heap.size := mem_lt hx3; have hn3 : ¬ cb = w3.heap.size := (by omega); have hx1 : ∀ o, (w3.alloc o).cell? ⟨cb, off + i, none⟩ = some (ptrTo a) := fun o => below_mem (hb4.alloc hb4.size o) _ _ _ c1; have hx2 : ∀ o, (w3.alloc o).frozen? ⟨cb, off + i, none⟩ = false := fun o => HFZ.out _ (hb4.alloc hb4.size o))))
    rw [set_alloc w3 _ _ _ hlt3]
    have hst := HI.out.newGroup HI2.out HCV.out hb4 (Nat.le_refl _) HG3.out
    have HVW := Lib.hid (view_newGroup HI.out (i := i) (nb := w.heap.size) (f := grpF r i) (a := w3.heap.size) hb4.size)
    generalize hr' : ({ r with cur := r.cur.set i w3.heap.size } : HS).withG w3.heap.size ⟨w.heap.size, false, grpF r i⟩ = r' at hst HVW
    have hlen : r'.cur.length = r.cur.length := by rw [← hr']; show (r.cur.set i _).length = _; rw [List.length_set]
    have had : adAt r' i = w3.heap.size := by rw [← hr']; exact adAt_set r _ HI2.out
    have hgg : r'.g w3.heap.size = ⟨w.heap.size, false, grpF r i⟩ := by rw [← hr', withG_same]
    have HFIN := Lib.hid (show OwnStep w base p r i _ r' from ⟨hst, by
        rw [HVW.out]
        exact view_set r HI2.out, by rw [had, hgg], by unfold grpF; rw [had, hgg]; rfl, hlen, by rw [← hr']; rfl⟩)
    obtain ⟨cb2, off2, cap2, ⟨d0, d1, d2, d3, d4, _, _⟩, _⟩ := hst.inv.grp (i := i) (by rw [hlen]; exact HI2.out)
    have HMB := Lib.hid (show (r'.g (adAt r' i)).mb = w.heap.size by rw [had, hgg])
    rw [HMB.out] at d4
    clear HS2 HS3 hx1 hx2 hx3 hx4 c0 c1 c2 c3 f1
    generalize (w3.alloc _).setCell _ _ = W' at *
    generalize adAt r' i = a' at d3 d4
    have hi' : i < r'.cur.length := by rw [hlen]; exact HI2.out
    obtain ⟨N', hN'⟩ : ∃ N, N = r'.cur.length := ⟨_, rfl⟩
    rw [← hN'] at d0 d1 hi'
    clear hN' hlen hst had hgg hr'
    simp only [Exit.then]
    go_at_K
    go_wp2
    go_ret
    exact ⟨r', by rw [HMB.out] <;> rfl, HFIN.out⟩
end Go.Proofs.YtbmpoecmjmmngaaGreat
/- package heap: Put. -/
namespace Go.Proofs.YtbmpoecmjmmngaaGreat
open Go.RowKit Go.Maps

/-- What Put answers, and what it leaves. -/
def putAns (N : Nat) (F : FMap) (cnt g : Int) (nm key val : ByteArray) : Int :=
  if chk N g nm [key, val] ≠ 0 then chk N g nm [key, val] else if F (nm, key) = none ∧ cnt = 4000 then 4 else 0
noncomputable def PS.put (s : PS) (N : Nat) (F : FMap) (g : Int) (nm key val : ByteArray) : PS :=
  if putAns N F s.cnt g nm key val = 0 then { s with grps := s.grps.set g.toNat (putAt F (nm, key) val), cnt := if F (nm, key) = none then s.cnt + 1 else s.cnt } else s
structure PutStep (W : World) (base p : Nat) (r : HS) (s : PS) (W' : World) (r' : HS) : Prop where
  st : HStep W base p r W' r'
  vw : r'.view = s
  len : r'.cur.length = r.cur.length
  nn : r'.nn ≤ r.nn + 1
set_option maxRecDepth 100000 in
/-- The map of a group that is the state's own takes an entry. -/
theorem own_put {W0 W : World} {base p i : Nat} {r r1 r2 : HS} {nm key val : ByteArray} (h : OwnStep W0 base p r1 i W r2) (hl : r1.cur.length = r.cur.length) (hf : grpF r1 i = grpF r i) (hn : r1.nn ≤ 1000000) (hi : i < r.cur.length) (hok : okSpot (nm, key)) (hv : val.size ≤ maxLen) {vb : Nat} (hvb : W.heap[vb]? = some (.cells #[.string nm, .string key] 77 (0, 0))) :
    ∃ W', (Instr.mapUpdate 74 (.map (some (r2.g (adAt r2 i)).mb)) (.agg #[.string nm, .string key]) (.string val)).run Tryz.prog W = .ok () W' ∧ W'.heap[vb]? = some (.cells #[.string nm, .string key] 77 (0, 0)) ∧
      ∃ r3, HStep W base p r2 W' r3 ∧ r3.view = { r1.view with grps := r1.view.grps.set i (putAt (grpF r i) (nm, key) val) } ∧ r3.cur.length = r.cur.length ∧ r3.nn = r1.nn + 1 := by
  have hl2 : i < r2.cur.length := by rw [h.len, hl]; exact hi
  have hu : used r2 (adAt r2 i) := by rw [adAt_eq hl2]; exact .inl (List.getElem_mem hl2)
  have hgm := (h.st.inv.gb _ hu).2
  obtain ⟨W', hrun, hg, hgr⟩ := GMap.put hgm (by rw [h.nn]; unfold maxLen; omega) hok val hv
  have hne : some vb ≠ some (r2.g (adAt r2 i)).mb := fun e => by
    obtain ⟨es, c, ho⟩ := hgm.obj
    injection e with e
    rw [← e, hvb] at ho
    cases ho
  refine ⟨W', hrun, (hgr.block vb (Array.getElem?_eq_some_iff.1 hvb).1 hne).trans hvb, _, h.st.inv.putG hu (Nat.le_succ _) hg hgr, ?_, h.len.trans hl, by show r2.nn + 1 = _; rw [h.nn]⟩
  rw [view_putG h.st.inv hl2 h.sh, h.vw]
  have e : (r2.g (adAt r2 i)).f = grpF r i := by rw [show (r2.g (adAt r2 i)).f = grpF r2 i from rfl, h.fe, hf]
  rw [e]
set_option maxRecDepth 100000 in
set_option maxHeartbeats 8000000 in
theorem put_any {base p : Nat} {r : HS} (g : Int) (nm key val : ByteArray) (w : World) (hI : HeapInv w base p r) (hg : inI64 g) (hn : nm.size ≤ maxLen) (hk : key.size ≤ maxLen) (hv : val.size ≤ maxLen) (hnn : r.nn ≤ 1000000) (hc0 : 0 ≤ r.cnt) (hc1 : r.cnt ≤ 4000) :
    Calls Tryz.prog 13 #[.pointer (some ⟨p, 0, none⟩), .int .i64 g, .string nm, .string key, .string val] w fun e w' =>
      e = .returned (.int .i64 (putAns r.cur.length (grpF r g) r.cnt g nm key val)) ∧ ∃ r', PutStep w base p r (r.view.put r.cur.length (grpF r g) g nm key val) w' r' := by
  have HB0 := Lib.hid (fun o => (show Below w.heap.size w (w.alloc o) from (Below.refl _ _).alloc (Nat.le_refl _) o))
  have HCH := Lib.hid (fun (o : Obj) (v : Value) (hv : tStrs.rv (mem (w.alloc o)) [v] [key, val]) => checked_any g nm [key, val] v (w.alloc o) (hI.pure (HB0.out o)) hg hn hv)
  have HST := Lib.hid (fun (T : TypeId) => (show tStrs.rv (mem (w.alloc (.cells #[.string key, .string val] T))) [.slice (some ⟨w.heap.size, 0, none⟩) 2 2] [key, val] from strs_rv2 (mem_cells_new w _ T (0, 0) 0) (mem_cells_new w _ T (0, 0) 1) hk hv))
  have HI := Lib.hid hI
  have HANS := Lib.hid (show putAns r.cur.length (grpF r g) r.cnt g nm key val = if chk r.cur.length g nm [key, val] ≠ 0 then chk r.cur.length g nm [key, val] else if grpF r g (nm, key) = none ∧ r.cnt = 4000 then 4 else 0 from rfl)
  have HPS := Lib.hid (show r.view.put r.cur.length (grpF r g) g nm key val = if putAns r.cur.length (grpF r g) r.cnt g nm key val = 0 then { r.view with grps := r.view.grps.set g.toNat (putAt (grpF r g) (nm, key) val), cnt := if grpF r g (nm, key) = none then r.cnt + 1 else r.cnt } else r.view from rfl)
  generalize putAns r.cur.length (grpF r g) r.cnt g nm key val = ans at HANS HPS ⊢
  generalize r.view.put r.cur.length (grpF r g) g nm key val = s' at HPS ⊢
  have hcs := chk_cases r.cur.length g nm [key, val]
  have HVS := Lib.hid hv
  have HOKF := Lib.hid (fun (h : chk r.cur.length g nm [key, val] = 0) => (show ∃ i : Nat, g = (i : Int) ∧ i < r.cur.length ∧ okSpot (nm, key) from by
    obtain ⟨_, _, h0, h1⟩ := chk_ok h
    obtain ⟨i, rfl⟩ := Int.eq_ofNat_of_zero_le h0
    exact ⟨i, rfl, by omega, okSpot_of h (by simp)⟩))
  clear hI hg hn hk hv
  generalize hc : chk r.cur.length g nm [key, val] = c at *
  clear hc
  go_enter Tryz.func13, Tryz.ntmps13
  go_wp2_with fail
  refine (HCH.out _ _ (HST.out _)).mono ?_
  rintro e w1 ⟨rfl, hb1⟩
  have HB1 := Lib.hid (pure_trans (HB0.out _) hb1)
  clear hb1 HCH HST HB0
  rcases hcs with rfl | hcs
  case inr =>
    have hne : (c == 0) = false := by rcases hcs with rfl | rfl <;> rfl
    have hn0 : c ≠ 0 := by rcases hcs with rfl | rfl <;> decide
    have HA := Lib.hid (show ans = c by rw [HANS.out, if_pos hn0])
    have HP := Lib.hid (show s' = r.view by rw [HPS.out, if_neg (by rw [HA.out]; exact hn0)])
    clear hcs HANS HPS HOKF hn0
    go_wp2
    go_ret
    exact ⟨by rw [HA.out] <;> rfl, r, HStep.pure HI.out HB1.out, HP.out.symm, rfl, Nat.le_succ _⟩
  obtain ⟨i, rfl, hi, hok⟩ := HOKF.out rfl
  have HI1 := Lib.hid (HI.out.pure HB1.out)
  have HIL := Lib.hid hi
  have HOK := Lib.hid hok
  have HA0 := Lib.hid (show ans = if grpF r i (nm, key) = none ∧ r.cnt = 4000 then 4 else 0 by rw [HANS.out, if_neg (by simp)])
  clear HOKF HANS hi hok
  go_wp2_with fail
  generalize hW2 : w1.alloc (.cells #[.string nm, .string key] 77) = W2
  generalize hvb : w1.heap.size = vb
  have HV2 := Lib.hid (show W2.heap[vb]? = some (.cells #[.string nm, .string key] 77 (0, 0)) by rw [← hW2, ← hvb]; exact heap_alloc_new w1 _)
  have HVL := Lib.hid (show w.heap.size ≤ vb by rw [← hvb]; exact HB1.out.size)
  have HB2 := Lib.hid (show Below w.heap.size w W2 by rw [← hW2]; exact HB1.out.alloc HB1.out.size _)
  have HI2 := Lib.hid (HI.out.pure HB2.out)
  clear hW2 hvb HB1 HI1
  obtain ⟨cb, off, cap, ⟨c0, hlc, hmx, c1, c2, -, hgm⟩, -⟩ := HI2.out.grp HIL.out
  have v0 : W2.cell? ⟨vb, 0, none⟩ = some (.string nm) := mem_cells HV2.out 0
  have v1 : W2.cell? ⟨vb, 1, none⟩ = some (.string key) := mem_cells HV2.out 1
  have HNC := Lib.hid (show W2.cell? ⟨p, 1, none⟩ = some (.int .i64 r.cnt) from mem_cells HI2.out.hb 1)
  have HNF := Lib.hid (show W2.frozen? ⟨p, 1, none⟩ = false from frozen_cells HI2.out.hb 1)
  have hlk : ∀ n, (Instr.lookup 74 (.map (some (r.g (adAt r i)).mb)) (.agg #[.string nm, .string key]) true).run Tryz.prog (W2.drewN n) = .ok (.tuple #[.string (strOr (grpF r i (nm, key))), .bool (grpF r i (nm, key)).isSome]) (W2.drewN n) := fun n => GMap.lookOk (W := W2.drewN n) (hgm.below ⟨rfl, rfl, rfl, Nat.le_refl _, fun _ _ => rfl⟩) HOK.out
  generalize (r.g (adAt r i)).mb = mb at *
  generalize adAt r i = a at c1 c2
  have hi := HIL.out
  obtain ⟨N, hN⟩ : ∃ N, N = r.cur.length := ⟨_, rfl⟩
  rw [← hN] at c0 hlc hi
  have HF := Lib.hid (show grpF r i (nm, key) = grpF r i (nm, key) from rfl)
  obtain ⟨q, hq⟩ : ∃ q, q = grpF r i (nm, key) := ⟨_, rfl⟩
  rw [← hq] at hlk HA0 HPS
  have HQ := Lib.hid hq
  clear hN hgm HF hq
  have hl1 := hlk 1
  have hl1 : (Instr.lookup 74 (.map (some mb)) (.agg #[.string nm, .string key]) true).run Tryz.prog W2.drew = .ok (.tuple #[.string (strOr q), .bool q.isSome]) W2.drew := hl1
  clear hlk
  go_region_held3 (fun w' => w'.cell? ⟨p, 0, none⟩ = some (.slice (some ⟨cb, off, none⟩) N cap) ∧ w'.cell? ⟨cb, off + i, none⟩ = some (ptrTo a) ∧ w'.cell? ⟨a, 0, none⟩ = some (.map (some mb)) ∧ w'.cell? ⟨vb, 0, none⟩ = some (.string nm) ∧ w'.cell? ⟨vb, 1, none⟩ = some (.string key))
    (go_keep) (fail)
  simp only [Exit.then]
  go_at_K
  have HS2 := Lib.hid (HStep.pure HI.out (HB2.out.drew))
  have HV4 := Lib.hid (show W2.drew.heap[vb]? = some (.cells #[.string nm, .string key] 77 (0, 0)) from HV2.out)
  have HNM0 := Lib.hid (show ¬ mutB p r vb from fun h => by have := HI.out.cells_kind vb h; have := HVL.out; omega)
  clear v0 v1 c0 c1 c2 hlc hmx hl1
  cases q with
  | some s0 =>
    have HA := Lib.hid (show ans = 0 by rw [HA0.out, if_neg (by simp)])
    obtain ⟨r1, hr1⟩ : ∃ r1, r1 = r := ⟨r, rfl⟩
    have HF1 := Lib.hid (show grpF r1 i = grpF r i by rw [hr1])
    have HN1 := Lib.hid (show r1.nn = r.nn by rw [hr1])
    have HL1 := Lib.hid (show r1.cur.length = r.cur.length by rw [hr1])
    have HVW1 := Lib.hid (show ({ r1.view with grps := r1.view.grps.set i (putAt (grpF r i) (nm, key) val) } : PS) = s' by rw [HPS.out, if_pos HA.out, hr1, if_neg (by simp)]; rfl)
    have HNM := Lib.hid (show ¬ mutB p r1 vb by rw [hr1]; exact HNM0.out)
    have HS2 := Lib.hid (show HStep w base p r W2.drew r1 by rw [hr1]; exact HS2.out)
    clear hr1
    generalize hW4 : W2.drew = W4 at HV4 HS2
    have H14 := HS2
    clear hW4 HS2 HNC HNF HPS HA0 HQ HI2 HB2 HV2 HNM0
    go_wp2_with fail
    have HI4 := Lib.hid H14.out.inv
    have HOW := Lib.hid (own_any i W4.drew (HI4.out.pure ⟨rfl, rfl, rfl, Nat.le_refl _, fun _ _ => rfl⟩) (by rw [HL1.out]; exact HIL.out))
    have v4 : W4.cell? ⟨vb, 0, none⟩ = some (.string nm) := mem_cells HV4.out 0
    have v5 : W4.cell? ⟨vb, 1, none⟩ = some (.string key) := mem_cells HV4.out 1
    go_wp2_with fail
    go_region_held3 (fun w' => w'.cell? ⟨vb, 0, none⟩ = some (.string nm) ∧ w'.cell? ⟨vb, 1, none⟩ = some (.string key))
      (first | exact ⟨by assumption, by assumption⟩ | go_keep)
      ((first | (go_at_call 34; refine HOW.out.mono ?_; rintro e w5 ⟨r2, rfl, hO⟩; have hv5 : w5.heap[vb]? = some (.cells #[.string nm, .string key] 77 (0, 0)) := (hO.st.kp.block vb (Array.getElem?_eq_some_iff.1 HV4.out).1 HNM.out).trans HV4.out; have HO5 := Lib.hid hO; have HOWN := Lib.hid (own_put HO5.out HL1.out HF1.out (by rw [HN1.out]; exact hnn) HIL.out HOK.out HVS.out hv5); obtain ⟨W6, hrun6, hv6, HST6⟩ := HOWN.out; have hq0 : w5.cell? ⟨vb, 0, none⟩ = some (.string nm) := mem_cells hv5 0; have hq1 : w5.cell? ⟨vb, 1, none⟩ = some (.string key) := mem_cells hv5 1; have hq2 : W6.cell? ⟨vb, 0, none⟩ = some (.string nm) := mem_cells hv6 0; have hq3 : W6.cell? ⟨vb, 1, none⟩ = some (.string key) := mem_cells hv6 1; clear hO HOWN)))
    clear HOW HI4 v4 v5
    simp only [Exit.then]
    go_at_K
    go_wp2
    go_ret
    exact ⟨by rw [HA.out] <;> rfl, HST6.elim (fun r3 h => ⟨r3, ⟨H14.out.trans (((HStep.pure (W' := W4.drew) H14.out.inv ⟨rfl, rfl, rfl, Nat.le_refl _, fun _ _ => rfl⟩).trans HO5.out.st).trans h.1), by rw [h.2.1]; exact HVW1.out, h.2.2.1, by rw [h.2.2.2, HN1.out]; exact Nat.le_refl _⟩⟩)⟩
  | none =>
    have c4 : W2.drew.cell? ⟨p, 1, none⟩ = some (.int .i64 r.cnt) := HNC.out
    have f4 : W2.drew.frozen? ⟨p, 1, none⟩ = false := HNF.out
    by_cases h4 : r.cnt = 4000
    · have HA := Lib.hid (show ans = 4 by rw [HA0.out, if_pos ⟨rfl, h4⟩])
      have HP := Lib.hid (show s' = r.view by rw [HPS.out, if_neg (by rw [HA.out]; decide)])
      have h4b : (r.cnt == 4000) = true := by simp [h4]
      clear h4 HPS HA0 HQ
      go_wp2
      go_ret
      exact ⟨by rw [HA.out] <;> rfl, r, HS2.out, HP.out.symm, rfl, Nat.le_succ _⟩
    · have HA := Lib.hid (show ans = 0 by rw [HA0.out, if_neg (fun h => h4 h.2)])
      have h4b : (r.cnt == 4000) = false := by simp [h4]
      clear h4
      have HPN := Lib.hid (show p ≠ vb from fun e => by
        have h1 := HI2.out.hb
        rw [e, HV2.out] at h1
        exact absurd (by injection h1 with h1; injection h1) (show ¬ ((77 : TypeId) = 81) by decide))
      have H15 := Lib.hid (HS2.out.trans (HStep.own (W' := W2.drew.setCell ⟨p, 1, none⟩ (.int .i64 (r.cnt + 1))) HS2.out.inv ((Keeps.refl (fun k => k = p) _).setCell (p := ⟨p, 1, none⟩) (fun _ => rfl) _) (r.cnt + 1) r.last (set_block HS2.out.inv.hb)))
      have HV5 := Lib.hid (show (W2.drew.setCell ⟨p, 1, none⟩ (.int .i64 (r.cnt + 1))).heap[vb]? = some (.cells #[.string nm, .string key] 77 (0, 0)) from (set_block_other (Ne.symm HPN.out)).trans HV4.out)
      obtain ⟨r1, hr1⟩ : ∃ r1, r1 = ({ r with cnt := r.cnt + 1, last := r.last } : HS) := ⟨_, rfl⟩
      have HF1 := Lib.hid (show grpF r1 i = grpF r i by rw [hr1]; rfl)
      have HN1 := Lib.hid (show r1.nn = r.nn by rw [hr1])
      have HL1 := Lib.hid (show r1.cur.length = r.cur.length by rw [hr1])
      have HVW1 := Lib.hid (show ({ r1.view with grps := r1.view.grps.set i (putAt (grpF r i) (nm, key) val) } : PS) = s' by rw [HPS.out, if_pos HA.out, hr1, if_pos rfl]; rfl)
      have HNM := Lib.hid (show ¬ mutB p r1 vb by rw [hr1]; exact HNM0.out)
      have HS2 := Lib.hid (show HStep w base p r (W2.drew.setCell ⟨p, 1, none⟩ (.int .i64 (r.cnt + 1))) r1 by rw [hr1]; exact H15.out)
      have HV4 := HV5
      clear hr1 H15 HV5 HPN hl1 HNC HNF HPS HA0 HQ HI2 HB2 HV2 HNM0
      go_wp2_with fail
      have HS2 : Hid (HStep w base p r (W2.setCell ⟨p, 1, none⟩ (.int .i64 (r.cnt + 1))).drew r1) := HS2
      have HV4 : Hid ((W2.setCell ⟨p, 1, none⟩ (.int .i64 (r.cnt + 1))).drew.heap[vb]? = some (.cells #[.string nm, .string key] 77 (0, 0))) := HV4
      generalize hW4 : (W2.setCell ⟨p, 1, none⟩ (.int .i64 (r.cnt + 1))).drew = W4 at HV4 HS2 ⊢
      have H14 := HS2
      have HI4 := Lib.hid H14.out.inv
      have HOW := Lib.hid (own_any i W4.drew (HI4.out.pure ⟨rfl, rfl, rfl, Nat.le_refl _, fun _ _ => rfl⟩) (by rw [HL1.out]; exact HIL.out))
      have v4 : W4.cell? ⟨vb, 0, none⟩ = some (.string nm) := mem_cells HV4.out 0
      have v5 : W4.cell? ⟨vb, 1, none⟩ = some (.string key) := mem_cells HV4.out 1
      go_wp2_with fail
      go_region_held3 (fun w' => w'.cell? ⟨vb, 0, none⟩ = some (.string nm) ∧ w'.cell? ⟨vb, 1, none⟩ = some (.string key))
        (first | exact ⟨by assumption, by assumption⟩ | go_keep)
        ((first | (go_at_call 34; refine HOW.out.mono ?_; rintro e w5 ⟨r2, rfl, hO⟩; have hv5 : w5.heap[vb]? = some (.cells #[.string nm, .string key] 77 (0, 0)) := (hO.st.kp.block vb (Array.getElem?_eq_some_iff.1 HV4.out).1 HNM.out).trans HV4.out; have HO5 := Lib.hid hO; have HOWN := Lib.hid (own_put HO5.out HL1.out HF1.out (by rw [HN1.out]; exact hnn) HIL.out HOK.out HVS.out hv5); obtain ⟨W6, hrun6, hv6, HST6⟩ := HOWN.out; have hq0 : w5.cell? ⟨vb, 0, none⟩ = some (.string nm) := mem_cells hv5 0; have hq1 : w5.cell? ⟨vb, 1, none⟩ = some (.string key) := mem_cells hv5 1; have hq2 : W6.cell? ⟨vb, 0, none⟩ = some (.string nm) := mem_cells hv6 0; have hq3 : W6.cell? ⟨vb, 1, none⟩ = some (.string key) := mem_cells hv6 1; clear hO HOWN)))
      clear HOW HI4 v4 v5
      simp only [Exit.then]
      go_at_K
      go_wp2
      go_ret
      exact ⟨by rw [HA.out] <;> rfl, HST6.elim (fun r3 h => ⟨r3, ⟨H14.out.trans (((HStep.pure (W' := W4.drew) H14.out.inv ⟨rfl, rfl, rfl, Nat.le_refl _, fun _ _ => rfl⟩).trans HO5.out.st).trans h.1), by rw [h.2.1]; exact HVW1.out, h.2.2.1, by rw [h.2.2.2, HN1.out]; exact Nat.le_refl _⟩⟩)⟩
end Go.Proofs.YtbmpoecmjmmngaaGreat
/- A range over a function whose iterator walks a map (it changes one walk's object laid since its call began); no round leaves early. What is handed over is told by two predicates. -/
namespace Go.Proofs.YtbmpoecmjmmngaaGreat
open Go.RowKit

/-- The block holds something, but no cells. -/
def NotCells (A : World) (k : Nat) : Prop := ∃ o : Obj, A.heap[k]? = some o ∧ o.isCells = false
/-- The iterator hands elements in turn, each as the values Enc, so that Stp holds of those before and this one, and Fin of all at last. -/
def GivesW {α : Type} (P : Program) (gf : Nat) (lb : Array Value) (Enc : α → Array Value) (Stp : List α → α → Prop) (Fin : List α → Prop) (w : World) : Prop :=
  ∀ (l : Nat) (J : List α → World → Prop) (W : World), Below w.heap.size w W → AbidesFrom W.heap.size J →
    (∀ pre x W1, Stp pre x → J pre W1 → YieldAt Fence.wide 0 P l (Enc x) W1 fun e W' => e = .returned (.bool true) ∧ J (pre ++ [x]) W' ∧ KeepsWalks W1 W') →
    J [] W → CallsIn Fence.wide 0 P gf (#[.func (.yield l) #[] #[]] ++ lb) W fun e W' => (∃ v, e = .returned v) ∧ ∃ xs, Fin xs ∧ J xs W'
theorem Keeps.walks {W W' : World} (h : Keeps (fun _ => False) W W') : KeepsWalks W W' := ⟨h.size, fun k o e _ => (h.block k (Array.getElem?_eq_some_iff.1 e).1 (fun h => h)).trans e⟩
/-- How a round ends. -/
def roundEnd {α : Type} (I : List α → World → Prop) (s : List α) (W : World) : Exit → Act → World → Prop
  | .normal, _, W' => KeepsOthers W W' ∧ I s W'
  | _, _, _ => False

theorem Keeps.put {F : Nat → Prop} {W : World} {l : Nat} {o : Obj} (h : F l) : Keeps F W (W.putObj l o) :=
  (grown_keeps (grownBy_putObj' W l o)).wide (fun k _ hk => by cases hk; exact h)

theorem wp_rangeW {α : Type} {P : Program} {g : Operand} {ps : Array Tmp} {assign body : Code} {Q : Exit → Act → World → Prop} {a : Act} {w : World} {gf : Nat} {lb : Array Value}
    (hg : a.eval g = .func (.func gf) #[] lb) (eg : ∀ args w, (callFunc gf args).run P w = .ok (.enter gf args) w)
    {Enc : α → Array Value} {Stp : List α → α → Prop} {Fin : List α → Prop} {w0 : World} (hseq : GivesW P gf lb Enc Stp Fin w0) (hb0 : Below w0.heap.size w0 w)
    (hps : ∀ x, (Enc x).size = ps.size)
    (I : List α → World → Prop) (hI : ∀ s A B, I s A → Keeps (fun k => w.heap.size ≤ k ∧ NotCells A k) A B → I s B) (h0 : I [] w)
    (hround : ∀ (l : Nat) (pre : List α) (x : α) (W1 : World), Stp pre x → I pre W1 → w.heap.size ≤ W1.heap.size →
      assign.wpIn (Fence.wide.inRound l) 0 P (Exit.then (fun a₂ W2 => Keeps (fun _ => False) W1 W2 ∧ ∀ W3, Keeps (fun k => w.heap.size ≤ k ∧ NotCells W2 k) W2 W3 → body.wpIn (Fence.wide.inRound l) 0 P (roundEnd I (pre ++ [x]) W3) a₂ W3) (fun _ _ _ => False))
        { tmps := (ps.zip (Enc x)).foldl (fun t (p, v) => t.setIfInBounds p v) a.tmps, defers := [] } W1)
    (hdone : ∀ (D : Nat) (W : World) (xs : List α), Fin xs → w.heap.size ≤ D → I xs W → W.heap[D]? = some (.deferred (some [])) → Q .normal { a with defers := { target := .collected D, args := #[] } :: a.defers } W) :
    (Code.rangeFunc g ps assign body).wp P Q a w := by
  refine (wpIn_wide (n := 0)).1 (wpIn_rangeFunc (F := Fence.wide) ?_)
  intro fn hfn
  generalize hrec : (fun (st : LoopState) (pe : Option Code) => ({ state := st, pending := pe, fn := fn, tmps := a.tmps, params := ps, assign := assign, body := body, defers := w.heap.size } : Loop)) = rec
  have hr : ∀ st pe, rec st pe = { state := st, pending := pe, fn := fn, tmps := a.tmps, params := ps, assign := assign, body := body, defers := w.heap.size } := fun st pe => by rw [← hrec]
  have hst : ∀ st pe st' pe', ({ rec st pe with state := st', pending := pe' } : Loop) = rec st' pe' := fun st pe st' pe' => by rw [hr, hr]
  have hbusy : ∀ st pe st', ({ rec st pe with state := st' } : Loop) = rec st' pe := fun st pe st' => by rw [hr, hr]
  generalize hW1 : (w.alloc (.deferred (some []))).alloc (.loop (rec .ready none)) = W1
  have hD1 : W1.heap[w.heap.size]? = some (.deferred (some [])) := by
    rw [← hW1]; exact (Below.heap_alloc _ _ _ (by simp)).trans (World.alloc_heap_new w _)
  have hL1 : W1.heap[w.heap.size + 1]? = some (.loop (rec .ready none)) := by
    rw [← hW1]; have := World.alloc_heap_new (w.alloc (.deferred (some []))) (.loop (rec .ready none)); rwa [World.size_alloc] at this
  have hk1 : Keeps (fun _ => False) w W1 := by rw [← hW1]; exact ((Keeps.refl _ w).alloc _).alloc _
  have hb1 : Below w0.heap.size w0 W1 := hb0.trans (hk1.below hb0.size (fun _ h => h.elim))
  refine ⟨w.heap.size + 1, [{ target := .collected w.heap.size, args := #[] }], W1, { target := .fn (.func gf) lb, args := #[.func (.yield (w.heap.size + 1)) #[] #[]] }, W1, gf,
    #[.func (.yield (w.heap.size + 1)) #[] #[]] ++ lb, W1, ?_, ?_, fun _ _ => trivial, ?_, fun h => (by cases h), ?_⟩
  · rw [← hW1, hr]; exact run_enterLoop_outer _ _ _ _ _
  · simp only [resolve, hg]
    simp [go_sem]
  · simp [invoke, go_sem, eg]
  · refine (hseq (w.heap.size + 1) (fun pre W => I pre W ∧ W.heap[w.heap.size + 1]? = some (.loop (rec .ready none)) ∧ W.heap[w.heap.size]? = some (.deferred (some []))) W1 hb1 ?_ ?_
      ⟨hI _ _ _ h0 (hk1.wide (fun _ _ h => h.elim)), hL1, hD1⟩).mono ?_
    · rintro s A B row ⟨hi, hl, hd⟩ hg hrow
      have hz : w.heap.size ≤ W1.heap.size := hk1.size
      have hw : ∀ k o, A.heap[k]? = some o → o.isWalk = false → some k ≠ row := fun k o hk ho e => by
        obtain ⟨_, o', h1, h2⟩ := hrow k e.symm
        rw [hk] at h1; cases h1
        rw [ho] at h2; cases h2
      refine ⟨hI _ _ _ hi ((grown_keeps hg).wide (fun k _ e => ?_)), (hg.block _ (Array.getElem?_eq_some_iff.1 hl).1 (hw _ _ hl rfl)).trans hl, (hg.block _ (Array.getElem?_eq_some_iff.1 hd).1 (hw _ _ hd rfl)).trans hd⟩
      obtain ⟨h1, o, h2, h3⟩ := hrow k e.symm
      exact ⟨Nat.le_trans hz h1, o, h2, Obj.not_cells_of_walk h3⟩
    · rintro pre x W hx ⟨hi, hl, hd⟩
      have hlt := (Array.getElem?_eq_some_iff.1 hl).1
      have hy := run_yield (P := P) (args := Enc x) hl (by rw [hr]; exact hps x)
      rw [hr] at hy
      refine ⟨fn, _, assign, body, hy, roundIn_of_wpIn hfn (wpIn_mono (hround _ pre x W hx hi (by omega)) ?_)⟩
      rintro e a1 Wa hp
      cases e with
      | ret => exact hp.elim
      | exit id => exact hp.elim
      | goto t => exact hp.elim
      | panic ch => exact hp.elim
      | outgrown => exact hp.elim
      | normal =>
      obtain ⟨hka, hpb⟩ := hp
      have hla : Wa.heap[w.heap.size + 1]? = some (.loop (rec .ready none)) := (hka.block _ hlt (fun h => h)).trans hl
      have hda : Wa.heap[w.heap.size]? = some (.deferred (some [])) := (hka.block _ (by omega) (fun h => h)).trans hd
      have hlta := (Array.getElem?_eq_some_iff.1 hla).1
      refine ⟨_, run_beginRound hla (by rw [hr]), ?_⟩
      rw [hbusy]
      generalize hW2 : Wa.putObj (w.heap.size + 1) (.loop (rec .busy none)) = W2
      have hp2 : KeepsWalks W W2 := by rw [← hW2]; exact hka.walks.trans (KeepsWalks.putObj _ hla rfl)
      have hl2 : W2.heap[w.heap.size + 1]? = some (.loop (rec .busy none)) := by rw [← hW2]; exact World.putObj_heap_same hlta
      have hd2 : W2.heap[w.heap.size]? = some (.deferred (some [])) := by rw [← hW2]; exact (World.putObj_heap_other (by omega)).trans hda
      refine wpIn_mono (hpb W2 (by rw [← hW2]; exact Keeps.put ⟨by omega, _, hla, rfl⟩)) ?_
      rintro e a3 W3 hp
      cases e with
      | normal =>
        obtain ⟨hk3, hi3⟩ := hp
        have hl3 := hk3.same _ _ hl2 rfl
        have hd3 := hk3.same _ _ hd2 rfl
        have hlt3 := (Array.getElem?_eq_some_iff.1 hl3).1
        refine ⟨_, _, run_endRound none hl3, ⟨rfl, ⟨hI _ _ _ hi3 (Keeps.put ⟨by omega, _, hl3, rfl⟩), ?_, ?_⟩, (hp2.trans hk3.walks).trans (KeepsWalks.putObj _ hl3 rfl)⟩⟩
        · rw [hst]; exact World.putObj_heap_same hlt3
        · exact (World.putObj_heap_other (by omega)).trans hd3
      | ret => exact hp.elim
      | exit id => exact hp.elim
      | goto t => exact hp.elim
      | panic ch => exact hp.elim
      | outgrown => exact hp.elim
    · rintro e W2 ⟨⟨v, rfl⟩, xs, hfin, hi, hl, hd⟩
      have he := run_endLoop (P := P) hl (by rw [hr]; simp)
      rw [hr] at he
      exact ⟨none, _, he, hdone _ _ xs hfin (Nat.le_refl _) (hI _ _ _ hi (Keeps.put ⟨by omega, _, hl, rfl⟩)) ((World.putObj_heap_other (by omega)).trans hd)⟩
end Go.Proofs.YtbmpoecmjmmngaaGreat
/- What walks through a range over a function need besides. -/
namespace Go.Proofs.YtbmpoecmjmmngaaGreat
open Go.RowKit Go.Shelf
attribute [local go_sem] Oper.semAt_some

theorem wpListIn_append_one {F : Fence} {m : Nat} {P : Program} {α : Type} {ops : Array Oper} {rest : List Oper} {o : Oper} {a : Act} {Q : Exit → Act → World → Prop} {w : World} (hgd : o.guard = none) (s x : Operand) (T : TypeId)
    (ho : o.op = .call { callee := .builtin .append, args := #[s, x], argTypes := #[T, T] }) (t : Ty α) {e : TypeId} {z : Value} {bytes : Nat} (hT : P.underlying T = some (.slice e))
    (hinf : (P.info? e).map (fun i => (i.zero, i.size, i.bytes)) = some (some z, t.sz, bytes)) (hzs : z.cells.size = t.sz) (hsz : 0 < t.sz) (B : Nat) (v : Value) (xs : List α) (hs : a.eval s = v) (hown : Owns t w B e v xs)
    (nb c : Nat) (y : α) (hx : a.eval x = .slice (some ⟨nb, 0, none⟩) 1 c) (cs : List Value) (hat : At (mem w) nb 0 cs) (hrv : t.rv ((mem w).on (fun b => some b ≠ v.ownBlock)) cs y) (h1 : ∀ u ∈ cs, u.oneCell' = true)
    (h63 : xs.length + 1 ≤ maxLen) (hbytes : (xs.length + 1) * bytes ≤ 140737488355328) (hbase : B ≤ w.heap.size)
    (h : ∀ v' w', Owns t w' B e v' (xs ++ [y]) → w.grownBy w' v.ownBlock → (v'.ownBlock = v.ownBlock ∨ ∀ k, v'.ownBlock = some k → w.heap.size ≤ k) → wpListIn F m P ops Q rest (a.put o.dst v') w') : wpListIn F m P ops Q (o :: rest) a w := by
  obtain ⟨i, hi, hz, hsize, hby⟩ := info_parts hinf
  have hown' := hown
  obtain ⟨css, g1, g2, g4, g5⟩ := hown
  have hl : cs.length = 1 * t.sz := by rw [t.len _ _ _ hrv, Nat.one_mul]
  have hnews : ∀ j u, cs[j]? = some u → w.cell? ((⟨nb, 0, none⟩ : Addr).add j) = some u := fun j u hj => by rw [Addr.add_lit]; exact hat j u hj
  refine wpListIn_plain hgd fun K hK => ?_
  obtain ⟨v', w', hr, h2, h3, _⟩ := run_append_own (P := P) w B T o.type e i z t.sz bytes hT hi hz hsize hby hzs hsz v xs.length css.flatten g2 ⟨nb, 0, none⟩ 1 c cs hl hnews h1 h63 hbytes hbase
  have hblk := append_block w B T o.type e i z t.sz bytes hT hi hz hsize hby v xs.length css.flatten g2 ⟨nb, 0, none⟩ 1 c cs hl hnews h1 (by omega) h63 hbytes hr
  have key : Owns t w' B e v' (xs ++ [y]) := by
    refine hown'.snoc (fun css' hc' => ?_) h3 hblk hrv
    obtain ⟨v2, w2, hr2, h22, _, _⟩ := run_append_own (P := P) w B T o.type e i z t.sz bytes hT hi hz hsize hby hzs hsz v xs.length css'.flatten hc' ⟨nb, 0, none⟩ 1 c cs hl hnews h1 h63 hbytes hbase
    rw [hr] at hr2
    injection hr2 with ev ew
    subst ev; subst ew
    exact h22
  unfold Oper.wpIn
  refine ⟨?_, ?_⟩
  · simp [Oper.about, ho, resolve, Target.leads, Sem.run_pure]
  · rw [Oper.semAt_plain F _ _ (by rw [ho]; intro c hc'; cases hc')]
    simp [execOp, ho, resolve, invoke, builtin, hs, hx, hr, Result.andThen]
    exact hK _ _ (h v' w' key h3 hblk)

theorem Owns.keepsC {α : Type} {t : Ty α} {w w' : World} {B : Nat} {e : TypeId} {v : Value} {xs : List α} (h : Owns t w B e v xs) (hf : t.flat) {F : Nat → Prop} (hk : Keeps F w w') (hF : ∀ k o, B ≤ k → w.heap[k]? = some o → o.isCells = true → ¬ F k) : Owns t w' B e v xs := by
  obtain ⟨css, h1, ⟨h2, h3⟩, h4, h5⟩ := h
  refine ⟨css, h1, ⟨h2, ?_⟩, h4, fun k h h' => hf _ _ _ _ (h5 k h h')⟩
  rcases h3 with h3 | ⟨g, cap, cur, rfl, hg, hh, r⟩
  · exact .inl h3
  · exact .inr ⟨g, cap, cur, rfl, hg, by rw [hk.block g (Array.getElem?_eq_some_iff.1 hh).1 (hF g _ hg hh rfl)]; exact hh, r⟩
theorem own_cells {α : Type} {t : Ty α} {w : World} {B : Nat} {e : TypeId} {v : Value} {xs : List α} (h : Owns t w B e v xs) : ∀ j o, v.ownBlock = some j → w.heap[j]? = some o → o.isCells = true := by
  obtain ⟨css, _, ⟨_, h3⟩, _, _⟩ := h
  intro j o hj ho
  rcases h3 with h3 | ⟨g, cap, cur, rfl, _, hh, _⟩
  · obtain ⟨rfl, _⟩ := h3; cases hj
  · cases hj; rw [hh] at ho; cases ho; rfl
theorem others_of_keeps {F : Nat → Prop} {W W' : World} (hk : Keeps F W W') (hF : ∀ k o, F k → W.heap[k]? = some o → o.isCells = true) : KeepsOthers W W' :=
  ⟨hk.size, fun k o h hc => (hk.block k (Array.getElem?_eq_some_iff.1 h).1 (fun hf => by rw [hF k o hf h] at hc; cases hc)).trans h⟩
theorem setC_block {w : World} {g : Nat} {v u : Value} {t : TypeId} {f : Nat × Nat} (h : w.heap[g]? = some (.cells #[u] t f)) : (w.setCell ⟨g, 0, none⟩ v).heap[g]? = some (.cells #[v] t f) := by
  simp [World.setCell, Array.getElem?_modify, h]
/-- The end of a function with one result behind a range over a function. -/
theorem coll_end {P : Program} {fn : Func} {tm : Array Value} {W : World} {D s : Nat} {u : Value} {R : Ending → World → Prop} (hr : fn.results = #[.tmp s]) (h2 : tm.getD s undef = u) (hD : W.heap[D]? = some (.deferred (some [])))
    (hp : ∀ WF, Keeps (fun k => k = D) W WF → R (.returned u) WF) :
    bodyPostM Fence.wide 0 P fn R .ret { tmps := tm, defers := [{ target := .collected D, args := #[] }] } W := by
  refine ⟨by simp, .inl ⟨_, _, rfl, run_takeDeferred hD, ?_⟩⟩
  refine ⟨u, ?_, hp _ ((Keeps.refl _ _).trans (Keeps.put rfl))⟩
  unfold results
  rw [hr]
  simp only [Array.getD_eq_getD_getElem?] at h2
  simp [h2, go_sem, Result.andThen]
end Go.Proofs.YtbmpoecmjmmngaaGreat
/- slices.AppendSeq, Collect at spots. -/
namespace Go.Proofs.YtbmpoecmjmmngaaGreat
open Go.RowKit Go.Shelf
attribute [local go_sem] Oper.semAt_some

abbrev spotV0 (x : Spot) : Value := .agg #[.string x.1, .string x.2]
def tSpot : Ty Spot := ⟨2, fun _ cs x => cs = [.string x.1, .string x.2], fun _ _ _ h => by rw [h]; rfl, fun _ _ _ _ _ h => h⟩
theorem tSpot_flat : tSpot.flat := fun _ _ _ _ h => h
abbrev tSpots : Ty (List Spot) := tSlice tSpot
theorem infoSpot : (Tryz.prog.info? 77).map (fun i => (i.zero, i.size, i.bytes)) = some (some (.agg #[.string .empty, .string .empty]), tSpot.sz, 32) := by kernel_rfl
/-- What the variable of AppendSeq holds while elements come. -/
structure AppKept (w : World) (ps : List Spot) (W : World) : Prop where
  ex : ∃ u, W.heap[w.heap.size]? = some (.cells #[u] 150 (0, 0)) ∧ Owns tSpot W (w.heap.size + 1) 77 u ps
  bl : Below w.heap.size w W
theorem AppKept.keeps {w A B : World} {ps : List Spot} {F : Nat → Prop} (h : AppKept w ps A) (hk : Keeps F A B) (hF : ∀ k, F k → w.heap.size < k) (hC : ∀ k o, w.heap.size < k → A.heap[k]? = some o → o.isCells = true → ¬ F k) : AppKept w ps B := by
  obtain ⟨⟨u, c, o⟩, hb⟩ := h
  exact ⟨⟨u, (hk.block _ (Array.getElem?_eq_some_iff.1 c).1 (fun h => by have := hF _ h; omega)).trans c, o.keepsC tSpot_flat hk (fun k o' h1 => hC k o' (by omega))⟩, Keeps.belowStep hb hk (fun k h => by have := hF k h; omega) hb.size⟩

set_option maxRecDepth 100000 in
set_option maxHeartbeats 8000000 in
theorem appendSeqS_any (gf : Nat) (lb : Array Value) (Stp : List Spot → Spot → Prop) (Fin : List Spot → Prop) (n : Nat) (w : World) (eg : ∀ args w, (callFunc gf args).run Tryz.prog w = .ok (.enter gf args) w)
    (hseq : GivesW Tryz.prog gf lb (fun x => #[spotV0 x]) Stp Fin w) (hst : ∀ pre x, Stp pre x → pre.length < n) (hn : n ≤ 1000000000) :
    Calls Tryz.prog 125 #[.slice none 0 0, .func (.func gf) #[] lb] w fun e w' => ∃ v ss, e = .returned v ∧ Fin ss ∧ Owns tSpot w' w.heap.size 77 v ss ∧ Below w.heap.size w w' := by
  refine (callsIn_wide (n := 0)).1 (callsIn_of_wp_marks Tryz.func125 rfl trivial ?_ rfl)
  simp only [Tryz.ntmps125, List.size_toArray, List.length_cons, List.length_nil, Nat.reduceAdd, Nat.reduceSub, Array.replicate_succ, Array.replicate_zero, List.push_toArray, List.append_toArray, List.nil_append, List.cons_append]
  have HB1 := Lib.hid (show Below w.heap.size w (w.alloc (.cells #[.slice none 0 0] 150)) from (Below.refl _ _).alloc (Nat.le_refl _) _)
  have B0 := Lib.hid (show (w.alloc (.cells #[.slice none 0 0] 150)).heap[w.heap.size]? = some (.cells #[.slice none 0 0] 150 (0, 0)) from World.alloc_heap_new w _)
  have HST := Lib.hid hst
  have HSQ := Lib.hid hseq
  have HEG := Lib.hid eg
  clear hst hseq eg
  gi_wp2
  refine (wpIn_wide (n := 0)).2 (wp_rangeW (gf := gf) (lb := lb) (by first | rfl | simp) HEG.out HSQ.out HB1.out (fun x => rfl) (fun pre W => AppKept w pre W) ?closed ?start ?round ?done)
  case closed =>
    intro pre A B hI hk
    refine hI.keeps hk (fun k h => ?_) (fun k o h1 h2 h3 h => ?_)
    · have := h.1; simp at this; omega
    · obtain ⟨_, o', ho, hc⟩ := h
      rw [h2] at ho; cases ho; rw [h3] at hc; cases hc
  case start => exact ⟨⟨_, B0.out, Owns.nil _ _ _ _⟩, HB1.out⟩
  case round =>
    rintro l pre x W1 hx hI hsz1
    have hpl : pre.length < n := HST.out _ _ hx
    clear hx HST HSQ
    obtain ⟨x1, x2⟩ := x
    gi_wp2
    refine ⟨(Keeps.refl _ _).alloc _, fun W3 hk => ?_⟩
    have hV1 : (W1.alloc (.cells #[.string x1, .string x2] 77)).heap[W1.heap.size]? = some (.cells #[.string x1, .string x2] 77 (0, 0)) := World.alloc_heap_new W1 _
    have hI2 : AppKept w pre (W1.alloc (.cells #[.string x1, .string x2] 77)) := hI.keeps (F := fun _ => False) ((Keeps.refl _ _).alloc _) (fun k h => h.elim) (fun k o _ _ _ h => h.elim)
    have hI3 := hI2.keeps hk (fun k h => by have := h.1; simp at this; omega) (fun k o h1 h2 h3 h => by
      obtain ⟨_, o', ho, hc⟩ := h
      rw [h2] at ho; cases ho; rw [h3] at hc; cases hc)
    have hV3 : W3.heap[W1.heap.size]? = some (.cells #[.string x1, .string x2] 77 (0, 0)) := (hk.block _ (by simp) (fun h => by
      obtain ⟨_, o', ho, hc⟩ := h
      rw [hV1] at ho; cases ho; cases hc)).trans hV1
    have v0 : W3.cell? ⟨W1.heap.size, 0, none⟩ = some (.string x1) := mem_cells hV3 0
    have v1 : W3.cell? ⟨W1.heap.size, 1, none⟩ = some (.string x2) := mem_cells hV3 1
    clear hk hI2 hI hV1 hV3
    obtain ⟨⟨u, c3, o3⟩, hB3⟩ := hI3
    obtain ⟨au, cu, rfl, hml⟩ := o3.len
    have c5 : W3.cell? ⟨w.heap.size, 0, none⟩ = some (.slice au pre.length cu) := mem_cells c3 0
    have f5 : W3.frozen? ⟨w.heap.size, 0, none⟩ = false := frozen_cells c3 0
    have HC3 := Lib.hid c3
    have HCU3 := Lib.hid (own_cells o3)
    have O4 := Lib.hid o3
    have HLU := Lib.hid (o3.lt)
    have HB := Lib.hid hB3
    have hlt5 : w.heap.size < W3.heap.size := mem_lt c5
    have hpl2 : pre.length ≤ 1000000000 := by omega
    clear c3 o3 hB3 hml
    gi_wp2_with (gi_at_builtin; refine wpListIn_append_one rfl _ _ 150 rfl tSpot Tryz.underlying150 infoSpot rfl (by decide) (w.heap.size + 1) _ pre rfl (O4.out.alloc _) _ _ ((x1, x2) : Spot) rfl [.string x1, .string x2] ?a2 rfl ?b2 ?c2 ?d2 ?e2 ?_)
    case a2 => exact fun j u hj => by match j, hj with | 0, hj => simp at hj; subst hj; simp [mem] | 1, hj => simp at hj; subst hj; simp [mem]
    case b2 => intro x hx; simp at hx; rcases hx with rfl | rfl <;> rfl
    case c2 => unfold maxLen; omega
    case d2 => omega
    case e2 => simp; omega
    intro v' W6 own6 hgrow hblk
    obtain ⟨a6, cap6, rfl, _⟩ := own6.len
    have hne6 : some w.heap.size ≠ (Value.slice au pre.length cu).ownBlock := fun h => by have := (HLU.out _ h.symm).1; omega
    have i6 : W6.heap[w.heap.size]? = some (.cells #[.slice au pre.length cu] 150 (0, 0)) := (hgrow.block w.heap.size (by simp; omega) hne6).trans ((Below.heap_alloc _ _ _ (by omega)).trans HC3.out)
    have k6 : W6.cell? ⟨w.heap.size, 0, none⟩ = some (.slice au pre.length cu) := mem_cells i6 0
    have l6 : W6.frozen? ⟨w.heap.size, 0, none⟩ = false := frozen_cells i6 0
    have KG := Lib.hid (show Keeps (fun k => k = w.heap.size ∨ some k = (Value.slice au pre.length cu).ownBlock ∨ W3.heap.size ≤ k) W3 W6 from
      ((Keeps.refl _ W3).alloc _).trans ((grown_keeps hgrow).wide (fun k _ h => .inr (.inl h))))
    have I6 := Lib.hid i6
    have O6 := Lib.hid own6
    have HGB := Lib.hid (show Below w.heap.size w W6 from (HB.out.alloc (by omega) _).grown hgrow (by simp; omega) (fun k hk => by have := (HLU.out k hk).1; omega))
    clear i6 own6 hgrow hblk hne6
    gi_wp2
    have O7 := O6.out
    simp only [List.length_append, List.length_cons, List.length_nil, Nat.zero_add] at O7
    generalize (Value.slice a6 (pre.length + 1) cap6) = v' at O7
    have hset : Keeps (fun k => k = w.heap.size) W6 (W6.setCell ⟨w.heap.size, 0, none⟩ v') := (Keeps.refl (fun k => k = w.heap.size) W6).setCell (p := ⟨w.heap.size, 0, none⟩) (fun _ => rfl) _
    have KH : Keeps (fun k => k = w.heap.size ∨ some k = (Value.slice au pre.length cu).ownBlock ∨ W3.heap.size ≤ k) W3 (W6.setCell ⟨w.heap.size, 0, none⟩ v') := KG.out.trans (hset.wide (fun k _ h => .inl h))
    refine ⟨others_of_keeps KH (fun k o h1 h2 => ?_), ⟨⟨v', ?_, ?_⟩, ?_⟩⟩
    · rcases h1 with h1 | h1 | h1
      · subst h1; rw [HC3.out] at h2; cases h2; rfl
      · exact HCU3.out k o h1.symm h2
      · have := (Array.getElem?_eq_some_iff.1 h2).1; omega
    · exact setC_block I6.out
    · exact O7.keepsC tSpot_flat hset (fun k o h1 _ _ h => by omega)
    · exact Keeps.belowStep HGB.out hset (fun k h => by omega) HGB.out.size
  case done =>
    intro D W xs hfin hDl hI hD
    obtain ⟨⟨u, c, o4⟩, hB⟩ := hI
    obtain ⟨au, cu, rfl, hml⟩ := o4.len
    have c4 : W.cell? ⟨w.heap.size, 0, none⟩ = some (.slice au xs.length cu) := mem_cells c 0
    have O4 := Lib.hid o4
    have HB := Lib.hid hB
    have HD := Lib.hid hD
    have hwD : w.heap.size < D := by simp at hDl; omega
    clear o4 hB hD c HSQ B0 HST
    gi_wp2
    refine coll_end rfl rfl HD.out (fun WF hk => ⟨_, xs, rfl, hfin, ?_, Keeps.belowStep HB.out hk (fun k h => by omega) HB.out.size⟩)
    obtain ⟨css, h1, ⟨h2, h3⟩, h4, h5⟩ := O4.out.keepsC tSpot_flat hk (fun k o h1 h2 h3 h => by subst h; rw [HD.out] at h2; cases h2; cases h3)
    refine ⟨css, h1, ⟨h2, ?_⟩, h4, h5⟩
    rcases h3 with h3 | ⟨g, cap, cur, e, hg, hh⟩
    · exact .inl h3
    · exact .inr ⟨g, cap, cur, e, by omega, hh⟩
end Go.Proofs.YtbmpoecmjmmngaaGreat
