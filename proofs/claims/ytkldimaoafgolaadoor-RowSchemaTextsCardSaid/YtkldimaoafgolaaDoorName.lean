/- Names and columns: row.Name and its reference. -/
import Derived.Test.YtkldimaoafgolaaDoorRowA
namespace Go.Proofs.YtkldimaoafgolaaDoor
open Go.RowKit

structure Col where
  name : ByteArray
  kind : Int
deriving DecidableEq, Inhabited
def tCol : Ty Col := ⟨2, fun _ cs x => cs = [.string x.name, .int .i64 x.kind] ∧ x.name.size ≤ maxLen ∧ inI64 x.kind, fun _ _ _ h => by rw [h.1]; rfl, fun _ _ _ _ _ h => h⟩
def tSchema : Ty (List Col) := tSlice tCol
theorem tCol_flat : tCol.flat := fun _ _ _ _ h => h
theorem col_at {m : Mem} {b o : Nat} {x : Col} (h : tCol.at m b o x) : m b o = some (.string x.name) ∧ m b (o + 1) = some (.int .i64 x.kind) ∧ x.name.size ≤ maxLen ∧ inI64 x.kind := by
  obtain ⟨cs, h1, rfl, h3⟩ := h
  exact ⟨h1 0 _ rfl, h1 1 _ rfl, h3⟩

def lowC (c : Int) : Bool := decide (97 ≤ c ∧ c ≤ 122)
def nameOk (i : Nat) (c : Int) : Bool := lowC c || (decide (i ≠ 0) && (decide (48 ≤ c ∧ c ≤ 57) || decide (c = 95)))
def byteAt (s : ByteArray) (i : Nat) : Int := (s.data.toList.getD i 0).toNat
def isName (s : ByteArray) : Bool := (List.range s.size).all (fun i => nameOk i (byteAt s i)) && decide (1 ≤ s.size ∧ s.size ≤ 16)
theorem isName_all {s : ByteArray} (h : ∀ i, i < s.size → nameOk i (byteAt s i) = true) : isName s = decide (1 ≤ (s.size : Int) ∧ (s.size : Int) ≤ 16) := by
  unfold isName
  have : (List.range s.size).all (fun i => nameOk i (byteAt s i)) = true := by rw [List.all_eq_true]; intro i hi; exact h i (by simpa using hi)
  rw [this, Bool.true_and]
  congr 1
  apply propext; omega
theorem isName_bad {s : ByteArray} {i : Nat} (hi : i < s.size) (h : nameOk i (byteAt s i) = false) : isName s = false := by
  unfold isName
  have : (List.range s.size).all (fun i => nameOk i (byteAt s i)) = false := by rw [List.all_eq_false]; exact ⟨i, by simpa using hi, by simp [h]⟩
  rw [this]; rfl
theorem isName_size {s : ByteArray} (h : isName s = true) : 1 ≤ s.size ∧ s.size ≤ 16 := by
  unfold isName at h
  rw [Bool.and_eq_true] at h
  simpa using h.2
theorem byteAt_get (s : ByteArray) (k : Nat) (h : k < s.size) : ((s[k]).toNat : Int) = byteAt s k := by
  unfold byteAt
  have h' : k < s.data.toList.length := h
  rw [List.getD_eq_getElem?_getD, List.getElem?_eq_getElem h', Option.getD_some]
  rfl

set_option maxHeartbeats 1000000 in
theorem rowName_any (s : ByteArray) (w : World) (hs : s.size ≤ maxLen) :
    Calls Tryd.prog 17 #[.string s] w fun e w' => e = .returned (.bool (isName s)) ∧ w = w' := by
  unfold maxLen at hs
  go_enter Tryd.func17, Tryd.ntmps17
  go_wp2
  go_loop [7] (fun i => ∃ k : Nat, k ≤ s.size ∧ i = .int .i64 k ∧ Hid (∀ i, i < k → nameOk i (byteAt s i) = true)) (fun i => s.size - (intOf i).toNat)
  case atStart => exact ⟨0, by omega, rfl, Lib.hid (fun i hi => absurd hi (by omega))⟩
  case round =>
    obtain ⟨k, hk, rfl, HT⟩ := hrel
    by_cases hlt : k < s.size
    · have HB := Lib.hid (byteAt_get s k hlt)
      have HN := Lib.hid (show nameOk k (byteAt s k) = true → ∀ i, i < k + 1 → nameOk i (byteAt s i) = true from fun h i hi => by
        by_cases e : i = k
        · subst e; exact h
        · exact HT.out i (by omega))
      have HX := Lib.hid (fun h => isName_bad (s := s) (i := k) hlt h)
      have HU := Lib.hid (show ((s[k]).toNat : Int) = byteAt s k from HB.out)
      have hb1 : 0 ≤ ((s[k]).toNat : Int) := by omega
      have hb2 : ((s[k]).toNat : Int) ≤ 255 := by have := (s[k]).toNat_lt; omega
      have HD := Lib.hid (show nameOk k (byteAt s k) = (lowC (s[k]).toNat || (decide (k ≠ 0) && (decide (48 ≤ ((s[k]).toNat : Int) ∧ ((s[k]).toNat : Int) ≤ 57) || decide (((s[k]).toNat : Int) = 95)))) by rw [HB.out]; rfl)
      clear HT HB
      generalize nameOk k (byteAt s k) = r at HD HN HX
      by_cases h1 : 97 ≤ ((s[k]).toNat : Int) ∧ ((s[k]).toNat : Int) ≤ 122
      · have e1 : decide (97 ≤ ((s[k]).toNat : Int) ∧ ((s[k]).toNat : Int) ≤ 122) = true := by simpa using h1
        have HR := Lib.hid (show r = true by rw [HD.out]; unfold lowC; rw [e1]; rfl)
        clear h1
        go_wp2_with (go_at_call 52; refine (rowWithin_any _ _ _ _).mono ?_; rintro e w' ⟨rfl, rfl⟩)
        go_round
        case rel => exact ⟨k + 1, by omega, by go_num, Lib.hid (HN.out HR.out)⟩
        case measure => simp [intOf]; omega
      · have e1 : decide (97 ≤ ((s[k]).toNat : Int) ∧ ((s[k]).toNat : Int) ≤ 122) = false := by simpa using h1
        clear h1
        by_cases h0 : k = 0
        · have HR := Lib.hid (show r = false by rw [HD.out]; unfold lowC; rw [e1]; simp [h0])
          have e0 : ((k : Int) == 0) = true := by simp [h0]
          clear h0
          go_wp2_with (go_at_call 52; refine (rowWithin_any _ _ _ _).mono ?_; rintro e w' ⟨rfl, rfl⟩)
          go_ret
          exact ⟨by rw [HX.out HR.out]; rfl, rfl⟩
        · have e0 : ((k : Int) == 0) = false := by simp; omega
          by_cases h2 : 48 ≤ ((s[k]).toNat : Int) ∧ ((s[k]).toNat : Int) ≤ 57
          · have e2 : decide (48 ≤ ((s[k]).toNat : Int) ∧ ((s[k]).toNat : Int) ≤ 57) = true := by simpa using h2
            have HR := Lib.hid (show r = true by rw [HD.out, e2]; simp [h0])
            clear h2 h0
            go_wp2_with (go_at_call 52; refine (rowWithin_any _ _ _ _).mono ?_; rintro e w' ⟨rfl, rfl⟩)
            go_round
            case rel => exact ⟨k + 1, by omega, by go_num, Lib.hid (HN.out HR.out)⟩
            case measure => simp [intOf]; omega
          · have e2 : decide (48 ≤ ((s[k]).toNat : Int) ∧ ((s[k]).toNat : Int) ≤ 57) = false := by simpa using h2
            clear h2
            by_cases h3 : ((s[k]).toNat : Int) = 95
            · have HR := Lib.hid (show r = true by rw [HD.out]; simp [h0, h3])
              have e3 : (((s[k]).toNat : Int) == 95) = true := by simp [h3]
              clear h3 h0
              go_wp2_with (go_at_call 52; refine (rowWithin_any _ _ _ _).mono ?_; rintro e w' ⟨rfl, rfl⟩)
              go_round
              case rel => exact ⟨k + 1, by omega, by go_num, Lib.hid (HN.out HR.out)⟩
              case measure => simp [intOf]; omega
            · have HR := Lib.hid (show r = false by rw [HD.out, e2]; unfold lowC; rw [e1]; simp [h3])
              have e3 : (((s[k]).toNat : Int) == 95) = false := by simp [h3]
              clear h3 h0
              go_wp2_with (go_at_call 52; refine (rowWithin_any _ _ _ _).mono ?_; rintro e w' ⟨rfl, rfl⟩)
              go_ret
              exact ⟨by rw [HX.out HR.out]; rfl, rfl⟩
    · obtain rfl : k = s.size := by omega
      have HA := Lib.hid (isName_all HT.out)
      go_wp2_with (go_at_call 52; refine (rowWithin_any _ _ _ _).mono ?_; rintro e w' ⟨rfl, rfl⟩)
      go_ret
      exact ⟨by rw [HA.out, Bool.decide_and]; rfl, rfl⟩

set_option maxHeartbeats 400000 in
theorem small_any (c : Int) (w : World) (h0 : 0 ≤ c) (h1 : c ≤ 255) :
    Calls Tryd.prog 56 #[.int .u8 c] w fun e w' => e = .returned (.bool (lowC c)) ∧ w = w' := by
  have HL := Lib.hid (show lowC c = decide (97 ≤ c ∧ c ≤ 122) from rfl)
  by_cases a : 97 ≤ c <;> by_cases b : c ≤ 122
  all_goals
    have HR := Lib.hid (show lowC c = decide (97 ≤ c ∧ c ≤ 122) from rfl)
    go_enter Tryd.func56, Tryd.ntmps56
    go_wp2
    go_ret
    exact ⟨by rw [HR.out]; simp [*], rfl⟩

set_option maxHeartbeats 1000000 in
theorem refName_any (s : ByteArray) (w : World) (hs : s.size ≤ maxLen) :
    Calls Tryd.prog 18 #[.string s] w fun e w' => e = .returned (.bool (isName s)) ∧ w = w' := by
  unfold maxLen at hs
  go_enter Tryd.func18, Tryd.ntmps18
  go_wp2
  go_loop [3] (fun i => ∃ k : Nat, k ≤ s.size ∧ i = .int .i64 k ∧ Hid (∀ i, i < k → nameOk i (byteAt s i) = true)) (fun i => s.size - (intOf i).toNat)
  case atStart => exact ⟨0, by omega, rfl, Lib.hid (fun i hi => absurd hi (by omega))⟩
  case round =>
    obtain ⟨k, hk, rfl, HT⟩ := hrel
    by_cases hlt : k < s.size
    · have HB := Lib.hid (byteAt_get s k hlt)
      have HN := Lib.hid (show nameOk k (byteAt s k) = true → ∀ i, i < k + 1 → nameOk i (byteAt s i) = true from fun h i hi => by
        by_cases e : i = k
        · subst e; exact h
        · exact HT.out i (by omega))
      have HX := Lib.hid (fun h => isName_bad (s := s) (i := k) hlt h)
      have hb1 : 0 ≤ ((s[k]).toNat : Int) := by omega
      have hb2 : ((s[k]).toNat : Int) ≤ 255 := by have := (s[k]).toNat_lt; omega
      have HD := Lib.hid (show nameOk k (byteAt s k) = (lowC (s[k]).toNat || (decide (k ≠ 0) && (decide (48 ≤ ((s[k]).toNat : Int) ∧ ((s[k]).toNat : Int) ≤ 57) || decide (((s[k]).toNat : Int) = 95)))) by rw [HB.out]; rfl)
      have HS := Lib.hid (fun w => small_any ((s[k]).toNat : Int) w hb1 hb2)
      clear HT HB
      generalize nameOk k (byteAt s k) = r at HD HN HX
      generalize lowC (s[k]).toNat = q at HD HS
      cases q
      · by_cases h0 : k = 0
        · have HR := Lib.hid (show r = false by rw [HD.out]; simp [h0])
          have e0 : ((k : Int) == 0) = true := by simp [h0]
          clear h0
          go_wp2_with (go_at_call 56; refine (HS.out _).mono ?_; rintro e w' ⟨rfl, rfl⟩)
          go_ret
          exact ⟨by rw [HX.out HR.out]; rfl, rfl⟩
        · have e0 : ((k : Int) == 0) = false := by simp; omega
          by_cases h3 : ((s[k]).toNat : Int) = 95
          · have HR := Lib.hid (show r = true by rw [HD.out]; simp [h0, h3])
            have e3 : (((s[k]).toNat : Int) != 95) = false := by simp [h3]
            clear h3 h0
            go_wp2_with (go_at_call 56; refine (HS.out _).mono ?_; rintro e w' ⟨rfl, rfl⟩)
            go_round
            case rel => exact ⟨k + 1, by omega, by go_num, Lib.hid (HN.out HR.out)⟩
            case measure => simp [intOf]; omega
          · have e3 : (((s[k]).toNat : Int) != 95) = true := by simp [h3]
            by_cases h4 : ((s[k]).toNat : Int) < 48
            · have HR := Lib.hid (show r = false by rw [HD.out]; simp [h3]; omega)
              clear h3 h0
              go_wp2_with (go_at_call 56; refine (HS.out _).mono ?_; rintro e w' ⟨rfl, rfl⟩)
              go_ret
              exact ⟨by rw [HX.out HR.out]; rfl, rfl⟩
            · by_cases h5 : 57 < ((s[k]).toNat : Int)
              · have HR := Lib.hid (show r = false by rw [HD.out]; simp [h3]; omega)
                clear h3 h0
                go_wp2_with (go_at_call 56; refine (HS.out _).mono ?_; rintro e w' ⟨rfl, rfl⟩)
                go_ret
                exact ⟨by rw [HX.out HR.out]; rfl, rfl⟩
              · have HR := Lib.hid (show r = true by rw [HD.out]; simp [h0]; omega)
                clear h3 h0
                go_wp2_with (go_at_call 56; refine (HS.out _).mono ?_; rintro e w' ⟨rfl, rfl⟩)
                go_round
                case rel => exact ⟨k + 1, by omega, by go_num, Lib.hid (HN.out HR.out)⟩
                case measure => simp [intOf]; omega
      · have HR := Lib.hid (show r = true by rw [HD.out]; rfl)
        go_wp2_with (go_at_call 56; refine (HS.out _).mono ?_; rintro e w' ⟨rfl, rfl⟩)
        go_round
        case rel => exact ⟨k + 1, by omega, by go_num, Lib.hid (HN.out HR.out)⟩
        case measure => simp [intOf]; omega
    · obtain rfl : k = s.size := by omega
      have HA := Lib.hid (isName_all HT.out)
      go_wp2_with (go_at_call 53; refine (refRowWithin_any _ _ _ _).mono ?_; rintro e w' ⟨rfl, rfl⟩)
      go_ret
      exact ⟨by rw [HA.out, Bool.decide_and]; rfl, rfl⟩
end Go.Proofs.YtkldimaoafgolaaDoor
