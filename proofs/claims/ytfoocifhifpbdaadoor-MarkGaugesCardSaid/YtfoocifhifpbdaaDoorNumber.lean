/- The reference's Number at this program. -/
import Derived.Test.YtfoocifhifpbdaaDoorNum
import Derived.Test.YtfoocifhifpbdaaDoorRows
namespace Go.Proofs.YtfoocifhifpbdaaDoor
open Go.RowKit Go.Lib

/-- What is known of a numeral read up to place k. -/
structure DigUpto (l : List UInt8) (f k N : Nat) : Prop where
  dig : ∀ j (hj : j < l.length), f ≤ j → j < k → isDig l[j] = true
  val : N = dval 0 ((l.drop f).take (k - f))
theorem DigUpto.start (l : List UInt8) (f : Nat) : DigUpto l f f 0 := ⟨fun j _ h1 h2 => by omega, by rw [Nat.sub_self, List.take_zero]; rfl⟩
theorem DigUpto.next {l : List UInt8} {f k N : Nat} (h : DigUpto l f k N) (hf : f ≤ k) (hk : k < l.length) (hd : isDig l[k] = true) : Hid (DigUpto l f (k + 1) (10 * N + (l[k].toNat - 48))) := Lib.hid (by
  refine ⟨fun j hj h1 h2 => ?_, ?_⟩
  · by_cases e : j = k
    · subst e; exact hd
    · exact h.dig j hj h1 (by omega)
  · have e : k + 1 - f = (k - f) + 1 := by omega
    have hlen : k - f < (l.drop f).length := by rw [List.length_drop]; omega
    rw [e, List.take_succ_eq_append_getElem hlen, dval_snoc, ← h.val, List.getElem_drop]
    have e2 : f + (k - f) = k := by omega
    simp only [e2]
    omega)
/-- The sign ahead: f bytes are passed by. -/
structure Ahead (l : List UInt8) (f : Nat) : Prop where
  tail : numTail l = l.drop f
  neg : numNeg l = decide (f = 1)
  le : f ≤ l.length
theorem DigUpto.bad {l : List UInt8} {f k N : Nat} (a : Ahead l f) (h : DigUpto l f k N) (hk : k < l.length) (hf : f ≤ k) (hd : isDig l[k] = false) : numberOf l = (0, false) := by
  unfold numberOf
  rw [if_neg]
  rintro ⟨h1, _⟩
  rw [a.tail, List.all_eq_true] at h1
  have := h1 l[k] (List.mem_drop_iff_getElem.2 ⟨k - f, by omega, by congr 1; omega⟩)
  rw [hd] at this; cases this
theorem DigUpto.long {l : List UInt8} {f k N : Nat} (a : Ahead l f) (h : DigUpto l f k N) (hk : k < l.length) (hd : isDig l[k] = true) (e : k = f + 18) : numberOf l = (0, false) := by
  unfold numberOf
  rw [if_neg]
  rintro ⟨_, h2⟩
  rw [a.tail, List.length_drop] at h2
  omega
theorem DigUpto.done {l : List UInt8} {f N : Nat} (a : Ahead l f) (h : DigUpto l f l.length N) (h18 : l.length ≤ f + 18) : numberOf l = (if f = 1 then -(N : Int) else (N : Int), decide (f < l.length)) := by
  have hle := a.le
  have e : (l.drop f).take (l.length - f) = l.drop f := List.take_of_length_le (by rw [List.length_drop]; exact Nat.le_refl _)
  have hv := h.val
  rw [e] at hv
  have hall : (l.drop f).all isDig = true := List.all_eq_true.2 (fun c hc => by
    obtain ⟨i, hi, rfl⟩ := List.getElem_of_mem hc
    rw [List.getElem_drop]
    rw [List.length_drop] at hi
    exact h.dig (f + i) (by omega) (by omega) (by omega))
  have hl18 : (l.drop f).length ≤ 18 := by rw [List.length_drop]; omega
  unfold numberOf
  rw [a.tail, a.neg, if_pos ⟨hall, hl18⟩, ← hv, List.length_drop]
  refine Prod.ext ?_ (decide_eq_decide.2 (by omega))
  simp only [decide_eq_true_eq]
theorem ahead_empty {l : List UInt8} (h : l.length = 0) : Ahead l 0 := by
  obtain rfl := List.length_eq_zero_iff.1 h
  exact ⟨rfl, rfl, Nat.le_refl _⟩
theorem ahead_minus {l : List UInt8} (h : 0 < l.length) (e : l[0] = 45) : Ahead l 1 := by
  cases l with
  | nil => simp at h
  | cons c r =>
    obtain rfl : c = 45 := e
    exact ⟨by simp [numTail], by simp [numNeg], by simp⟩
theorem ahead_plain {l : List UInt8} (h : 0 < l.length) (e : l[0] ≠ 45) : Ahead l 0 := by
  cases l with
  | nil => simp at h
  | cons c r =>
    have e : c ≠ 45 := e
    exact ⟨by simp [numTail, e], by simp [numNeg, e], by simp⟩

set_option maxRecDepth 100000 in
set_option maxHeartbeats 4000000 in
theorem number_any (s : ByteArray) (w : World) (hs : s.size ≤ maxLen) :
    Calls Tryd.prog 27 #[.string s] w fun e w' => e = .returned (.tuple #[.int .i64 (numberOf s.data.toList).1, .bool (numberOf s.data.toList).2]) ∧ w = w' := by
  unfold maxLen at hs
  have hlen : s.data.toList.length = s.size := rfl
  by_cases h0 : s.size = 0
  · have HE := Lib.hid (ahead_empty (l := s.data.toList) (by rw [hlen]; exact h0))
    have h0' : ¬ 0 < s.size := by omega
    clear h0
    go_enter Tryd.func27, Tryd.ntmps27
    go_wp2
    go_loop [5, 6] (fun nv i => ∃ k : Nat, 0 ≤ k ∧ k ≤ s.size ∧ k ≤ 0 + 18 ∧ i = .int .i64 k ∧ ∃ N : Nat, nv = .int .i64 (N : Int) ∧ N < 10 ^ (k - 0) ∧ Hid (DigUpto s.data.toList 0 k N)) (fun _ i => s.size - (intOf i).toNat)
    case atStart => exact ⟨0, by omega, by omega, by omega, rfl, 0, rfl, by simp, Lib.hid (DigUpto.start _ _)⟩
    case round =>
      obtain ⟨k, hk0, hk, hk18, rfl, N, rfl, hN, HT⟩ := hrel
      have hN18 : N < 1000000000000000000 := by
        have : 10 ^ (k - 0) ≤ 10 ^ 18 := Nat.pow_le_pow_right (by decide) (by omega)
        have e18 : (10 : Nat) ^ 18 = 1000000000000000000 := by decide
        omega
      by_cases hlt : k < s.size
      · exact absurd hlt (by omega)
      · obtain rfl : k = s.size := by omega
        have HQ := Lib.hid (show numberOf s.data.toList = ((N : Int), false) from (DigUpto.done HE.out HT.out hk18).trans (Prod.ext (by simp) (by show decide _ = _; rw [hlen]; first | exact decide_eq_true (by omega) | exact decide_eq_false (by omega) | exact decide_eq_decide.2 (by omega))))
        clear HT hN
        go_wp2
        go_ret2
        exact ⟨by rw [HQ.out]; rfl, rfl⟩

  · have h0' : 0 < s.size := by omega
    have hc0 : (s.data.toList[0]'(by rw [hlen]; exact h0')) = s[0] := rfl
    by_cases h45 : s[0] = 45
    · have HE := Lib.hid (ahead_minus (l := s.data.toList) (by rw [hlen]; exact h0') (hc0.trans h45))
      have e45 : (((s[0]).toNat : Int) == 45) = true := by rw [h45]; rfl
      clear h0 h45 hc0
      go_enter Tryd.func27, Tryd.ntmps27
      go_wp2
      go_loop [5, 6] (fun nv i => ∃ k : Nat, 1 ≤ k ∧ k ≤ s.size ∧ k ≤ 1 + 18 ∧ i = .int .i64 k ∧ ∃ N : Nat, nv = .int .i64 (N : Int) ∧ N < 10 ^ (k - 1) ∧ Hid (DigUpto s.data.toList 1 k N)) (fun _ i => s.size - (intOf i).toNat)
      case atStart => exact ⟨1, by omega, by omega, by omega, rfl, 0, rfl, by simp, Lib.hid (DigUpto.start _ _)⟩
      case round =>
        obtain ⟨k, hk0, hk, hk18, rfl, N, rfl, hN, HT⟩ := hrel
        have hN18 : N < 1000000000000000000 := by
          have : 10 ^ (k - 1) ≤ 10 ^ 18 := Nat.pow_le_pow_right (by decide) (by omega)
          have e18 : (10 : Nat) ^ 18 = 1000000000000000000 := by decide
          omega
        by_cases hlt : k < s.size
        · have hb1 : 0 ≤ ((s[k]).toNat : Int) := by omega
          have hb2 : ((s[k]).toNat : Int) ≤ 255 := by have := (s[k]).toNat_lt; omega
          have HX := Lib.hid (fun (h : isDig (s.data.toList[k]'(by simpa using hlt)) = false) => DigUpto.bad HE.out HT.out (k := k) (by simpa using hlt) hk0 h)
          have HL := Lib.hid (fun (h : isDig (s.data.toList[k]'(by simpa using hlt)) = true) h2 => DigUpto.long HE.out HT.out (k := k) (by simpa using hlt) h h2)
          have HN := Lib.hid (fun (h : isDig (s.data.toList[k]'(by simpa using hlt)) = true) => DigUpto.next HT.out hk0 (k := k) (by simpa using hlt) h)
          have HP := Lib.hid hN
          have hcd : (s.data.toList[k]'(by simpa using hlt)) = s[k] := rfl
          rw [hcd] at HX HL HN
          clear HT hN hcd
          by_cases h1 : ((s[k]).toNat : Int) < 48
          · have HQ := Lib.hid (HX.out (by unfold isDig; simp; omega))
            clear HX HL HN
            go_wp2
            go_ret2
            exact ⟨by rw [HQ.out]; rfl, rfl⟩
          · by_cases h2 : 57 < ((s[k]).toNat : Int)
            · have HQ := Lib.hid (HX.out (by unfold isDig; simp; omega))
              clear HX HL HN
              go_wp2
              go_ret2
              exact ⟨by rw [HQ.out]; rfl, rfl⟩
            · have HD := Lib.hid (show isDig s[k] = true by unfold isDig; simp; omega)
              by_cases h3 : k = 1 + 18
              · have HQ := Lib.hid (HL.out HD.out h3)
                clear HX HL HN
                have h4 : 18 ≤ (k : Int) - 1 := by omega
                clear h3
                go_wp2
                go_ret2
                exact ⟨by rw [HQ.out]; rfl, rfl⟩
              · have HQ := Lib.hid (HN.out HD.out)
                have hN17 : N < 100000000000000000 := by
                  have : 10 ^ (k - 1) ≤ 10 ^ 17 := Nat.pow_le_pow_right (by decide) (by omega)
                  have e17 : (10 : Nat) ^ 17 = 100000000000000000 := by decide
                  have := HP.out
                  omega
                have HPN := Lib.hid (show 10 * N + ((s[k]).toNat - 48) < 10 ^ (k + 1 - 1) by
                  have e : k + 1 - 1 = (k - 1) + 1 := by omega
                  rw [e, Nat.pow_succ]
                  have := HP.out
                  omega)
                have h4 : ¬ 18 ≤ (k : Int) - 1 := by omega
                clear HX HL HN HP
                go_wp2
                go_round
                case rel => exact ⟨k + 1, by omega, by omega, by omega, by go_num, 10 * N + ((s[k]).toNat - 48), by congr 1; omega, HPN.out, HQ.out⟩
                case measure => simp [intOf]; omega
        · obtain rfl : k = s.size := by omega
          have HQ := Lib.hid (show numberOf s.data.toList = (-(N : Int), decide ((1 : Int) < (s.size : Int))) from (DigUpto.done HE.out HT.out hk18).trans (Prod.ext (by simp) (by show decide _ = _; rw [hlen]; first | exact decide_eq_true (by omega) | exact decide_eq_false (by omega) | exact decide_eq_decide.2 (by omega))))
          clear HT hN
          go_wp2
          go_ret2
          exact ⟨by rw [HQ.out]; rfl, rfl⟩

    · have HE := Lib.hid (ahead_plain (l := s.data.toList) (by rw [hlen]; exact h0') (fun e => h45 (hc0.symm.trans e)))
      have e45 : (((s[0]).toNat : Int) == 45) = false := by
        simp only [beq_eq_false_iff_ne]
        intro e
        exact h45 (UInt8.toNat_inj.1 (by show (s[0]).toNat = 45; omega))
      clear h0 h45 hc0
      go_enter Tryd.func27, Tryd.ntmps27
      go_wp2
      go_loop [5, 6] (fun nv i => ∃ k : Nat, 0 ≤ k ∧ k ≤ s.size ∧ k ≤ 0 + 18 ∧ i = .int .i64 k ∧ ∃ N : Nat, nv = .int .i64 (N : Int) ∧ N < 10 ^ (k - 0) ∧ Hid (DigUpto s.data.toList 0 k N)) (fun _ i => s.size - (intOf i).toNat)
      case atStart => exact ⟨0, by omega, by omega, by omega, rfl, 0, rfl, by simp, Lib.hid (DigUpto.start _ _)⟩
      case round =>
        obtain ⟨k, hk0, hk, hk18, rfl, N, rfl, hN, HT⟩ := hrel
        have hN18 : N < 1000000000000000000 := by
          have : 10 ^ (k - 0) ≤ 10 ^ 18 := Nat.pow_le_pow_right (by decide) (by omega)
          have e18 : (10 : Nat) ^ 18 = 1000000000000000000 := by decide
          omega
        by_cases hlt : k < s.size
        · have hb1 : 0 ≤ ((s[k]).toNat : Int) := by omega
          have hb2 : ((s[k]).toNat : Int) ≤ 255 := by have := (s[k]).toNat_lt; omega
          have HX := Lib.hid (fun (h : isDig (s.data.toList[k]'(by simpa using hlt)) = false) => DigUpto.bad HE.out HT.out (k := k) (by simpa using hlt) hk0 h)
          have HL := Lib.hid (fun (h : isDig (s.data.toList[k]'(by simpa using hlt)) = true) h2 => DigUpto.long HE.out HT.out (k := k) (by simpa using hlt) h h2)
          have HN := Lib.hid (fun (h : isDig (s.data.toList[k]'(by simpa using hlt)) = true) => DigUpto.next HT.out hk0 (k := k) (by simpa using hlt) h)
          have HP := Lib.hid hN
          have hcd : (s.data.toList[k]'(by simpa using hlt)) = s[k] := rfl
          rw [hcd] at HX HL HN
          clear HT hN hcd
          by_cases h1 : ((s[k]).toNat : Int) < 48
          · have HQ := Lib.hid (HX.out (by unfold isDig; simp; omega))
            clear HX HL HN
            go_wp2
            go_ret2
            exact ⟨by rw [HQ.out]; rfl, rfl⟩
          · by_cases h2 : 57 < ((s[k]).toNat : Int)
            · have HQ := Lib.hid (HX.out (by unfold isDig; simp; omega))
              clear HX HL HN
              go_wp2
              go_ret2
              exact ⟨by rw [HQ.out]; rfl, rfl⟩
            · have HD := Lib.hid (show isDig s[k] = true by unfold isDig; simp; omega)
              by_cases h3 : k = 0 + 18
              · have HQ := Lib.hid (HL.out HD.out h3)
                clear HX HL HN
                have h4 : 18 ≤ (k : Int) - 0 := by omega
                clear h3
                go_wp2
                go_ret2
                exact ⟨by rw [HQ.out]; rfl, rfl⟩
              · have HQ := Lib.hid (HN.out HD.out)
                have hN17 : N < 100000000000000000 := by
                  have : 10 ^ (k - 0) ≤ 10 ^ 17 := Nat.pow_le_pow_right (by decide) (by omega)
                  have e17 : (10 : Nat) ^ 17 = 100000000000000000 := by decide
                  have := HP.out
                  omega
                have HPN := Lib.hid (show 10 * N + ((s[k]).toNat - 48) < 10 ^ (k + 1 - 0) by
                  have e : k + 1 - 0 = (k - 0) + 1 := by omega
                  rw [e, Nat.pow_succ]
                  have := HP.out
                  omega)
                have h4 : ¬ 18 ≤ (k : Int) - 0 := by omega
                clear HX HL HN HP
                go_wp2
                go_round
                case rel => exact ⟨k + 1, by omega, by omega, by omega, by go_num, 10 * N + ((s[k]).toNat - 48), by congr 1; omega, HPN.out, HQ.out⟩
                case measure => simp [intOf]; omega
        · obtain rfl : k = s.size := by omega
          have HQ := Lib.hid (show numberOf s.data.toList = ((N : Int), true) from (DigUpto.done HE.out HT.out hk18).trans (Prod.ext (by simp) (by show decide _ = _; rw [hlen]; first | exact decide_eq_true (by omega) | exact decide_eq_false (by omega) | exact decide_eq_decide.2 (by omega))))
          clear HT hN
          go_wp2
          go_ret2
          exact ⟨by rw [HQ.out]; rfl, rfl⟩

end Go.Proofs.YtfoocifhifpbdaaDoor
