/- Schemas: ValidSchema, At, Find. -/
import Derived.Test.YtkldimaoafgolaaDoorName
import Derived.Test.YtkldimaoafgolaaDoorMap
namespace Go.Proofs.YtkldimaoafgolaaDoor
open Go.RowKit Go.Maps

def colOk (c : Col) : Bool := isName c.name && decide (1 ≤ c.kind ∧ c.kind ≤ 2)
def metBefore (s : List Col) (k : Nat) (nm : ByteArray) : Bool := (s.take k).any (fun c => decide (c.name = nm))
def stepOk (s : List Col) (k : Nat) : Bool := match s[k]? with | some c => colOk c && !metBefore s k c.name | none => true
def validSchema (s : List Col) : Bool := (List.range s.length).all (stepOk s) && decide (1 ≤ s.length ∧ s.length ≤ 8)
theorem validSchema_all {s : List Col} (h : ∀ i, i < s.length → stepOk s i = true) : validSchema s = (decide (1 ≤ (s.length : Int)) && decide ((s.length : Int) ≤ 8)) := by
  unfold validSchema
  have : (List.range s.length).all (stepOk s) = true := by rw [List.all_eq_true]; intro i hi; exact h i (by simpa using hi)
  rw [this, Bool.true_and, ← Bool.decide_and]
  congr 1
  apply propext; omega
theorem validSchema_bad {s : List Col} {i : Nat} (hi : i < s.length) (h : stepOk s i = false) : validSchema s = false := by
  unfold validSchema
  have : (List.range s.length).all (stepOk s) = false := by rw [List.all_eq_false]; exact ⟨i, by simpa using hi, by simp [h]⟩
  rw [this]; rfl
theorem validSchema_len {s : List Col} (h : validSchema s = true) : 1 ≤ s.length ∧ s.length ≤ 8 := by
  unfold validSchema at h
  rw [Bool.and_eq_true] at h
  simpa using h.2
theorem validSchema_step {s : List Col} (h : validSchema s = true) {i : Nat} (hi : i < s.length) : stepOk s i = true := by
  unfold validSchema at h
  rw [Bool.and_eq_true, List.all_eq_true] at h
  exact h.1 i (by simpa using hi)
theorem stepOk_at {s : List Col} {k : Nat} (hk : k < s.length) : stepOk s k = (isName s[k].name && decide (1 ≤ s[k].kind ∧ s[k].kind ≤ 2) && !metBefore s k s[k].name) := by
  unfold stepOk
  rw [List.getElem?_eq_getElem hk]
  rfl
theorem upto_succ {p : Nat → Bool} {k : Nat} (h : ∀ i, i < k → p i = true) (hk : p k = true) : ∀ i, i < k + 1 → p i = true := fun i hi => by
  by_cases e : i = k
  · subst e; exact hk
  · exact h i (by omega)

def metF (s : List Col) (k : Nat) : ByteArray → Option Bool := fun nm => if metBefore s k nm = true then some true else none
theorem metF_zero (s : List Col) : metF s 0 = fun _ => none := by funext nm; simp [metF, metBefore]
theorem metF_get (s : List Col) (k : Nat) (nm : ByteArray) : (metF s k nm).getD false = metBefore s k nm := by
  unfold metF
  cases metBefore s k nm <;> rfl
theorem metF_succ (s : List Col) (k : Nat) (hk : k < s.length) : putAt (metF s k) s[k].name true = metF s (k + 1) := by
  funext nm
  have e : metBefore s (k + 1) nm = (metBefore s k nm || decide (s[k].name = nm)) := by
    unfold metBefore
    rw [List.take_succ_eq_append_getElem hk, List.any_append]; simp only [List.any_cons, List.any_nil, Bool.or_false]
  by_cases h : nm = s[k].name
  · rw [h, putAt_same]
    unfold metF
    rw [h] at e
    rw [e]
    simp
  · rw [putAt_other _ _ h]
    unfold metF
    rw [e]
    have : decide (s[k].name = nm) = false := by simp; exact fun e => h e.symm
    rw [this, Bool.or_false]

theorem schema_cells {m : Mem} {xs : List Col} {a : Option Addr} {n cap : Nat} (h : tSchema.rv m [.slice a n cap] xs) {k : Nat} (hk : k < xs.length) :
    ∃ b o, a = some ⟨b, o, none⟩ ∧ m b (o + k * 2) = some (.string xs[k].name) ∧ m b (o + k * 2 + 1) = some (.int .i64 xs[k].kind) ∧ xs[k].name.size ≤ maxLen ∧ inI64 xs[k].kind := by
  obtain ⟨b, o, rfl, hat⟩ := slice_at h hk
  obtain ⟨c0, c1, c2, c3⟩ := col_at hat
  exact ⟨b, o, rfl, c0, c1, c2, c3⟩

theorem Tryd.zeroBool (w : World) : (zeroValue 4).run Tryd.prog w = .ok (.bool false) w := by kernel_rfl

set_option maxRecDepth 100000 in
set_option maxHeartbeats 2000000 in
theorem rowValidSchema_any (xs : List Col) (v : Value) (w : World) (hv : tSchema.rv (mem w) [v] xs) :
    Calls Tryd.prog 19 #[v] w fun e w' => e = .returned (.bool (validSchema xs)) ∧ Below w.heap.size w w' := by
  obtain ⟨a, cap, rfl, hl, hm, hv⟩ := slice_form hv
  have hcap : cap ≤ 9223372036854775807 := by unfold maxLen at hm; exact hm
  clear hm
  have hmm := @run_makeMap Tryd.prog
  have h0 : MapOf Tryd.prog 9 strKey vBool (w.alloc (.map #[] 0)) w.heap.size 0 (metF xs 0) := by rw [metF_zero]; exact MapOf.made w
  have H0 := Lib.hid h0
  clear h0
  go_enter Tryd.func19, Tryd.ntmps19
  go_wp2
  go_loopw [9] (fun i wr => ∃ k : Nat, k ≤ xs.length ∧ i = .int .i64 k ∧ Hid (∀ i, i < k → stepOk xs i = true) ∧ MapOf Tryd.prog 9 strKey vBool wr w.heap.size k (metF xs k) ∧ Below w.heap.size w wr) (fun i _ => xs.length - (intOf i).toNat)
  case atStart => exact ⟨0, by omega, rfl, Lib.hid (fun i hi => absurd hi (by omega)), H0.out, (Below.refl _ _).alloc (Nat.le_refl _) _⟩
  case round =>
    obtain ⟨k, hk, rfl, HT, hown, hB⟩ := hrel
    by_cases hlt : k < xs.length
    · obtain ⟨b, o, rfl, c0, c1, c2, c3⟩ := schema_cells (tSchema.mono _ _ _ _ (below_mem hB) hv) hlt
      have c0 : wr.cell? ⟨b, o + k * 2, none⟩ = some (.string xs[k].name) := c0
      have c1 : wr.cell? ⟨b, o + k * 2 + 1, none⟩ = some (.int .i64 xs[k].kind) := c1
      have HO := Lib.hid (stepOk_at hlt)
      have HN := Lib.hid (fun h => upto_succ (p := stepOk xs) HT.out h)
      have HX := Lib.hid (fun h => validSchema_bad (s := xs) (i := k) hlt h)
      have HF := Lib.hid (metF_succ xs k hlt)
      have HG := Lib.hid (metF_get xs k xs[k].name)
      have HC := Lib.hid (fun w => rowName_any xs[k].name w c2)
      have HK := Lib.hid (keyOf_str (P := Tryd.prog) Tryd.underlying9 c2)
      have hwb : w.heap.size ≤ wr.heap.size := hB.size
      clear hv HT c2 c3
      generalize xs[k] = x at *
      obtain ⟨nm, kd⟩ := x
      simp only at c0 c1 HO HG HC HF HK
      generalize stepOk xs k = so at HO HN HX
      generalize metF xs k = f at hown HF HG
      generalize metBefore xs k nm = q at HO HG
      generalize isName nm = r at HO HC
      by_cases hkd : 1 ≤ kd ∧ kd ≤ 2
      all_goals
        have ekd : decide (1 ≤ kd ∧ kd ≤ 2) = _ := (by first | exact decide_eq_true hkd | exact decide_eq_false hkd)
        have HE := Lib.hid ekd
        clear hkd
        cases r <;> cases q
      all_goals
        have HR := Lib.hid (HO.out.trans (by rw [HE.out]))
        go_wp2_with (first
          | (go_at_call 17; refine (HC.out _).mono ?_; rintro e w' ⟨rfl, rfl⟩)
          | (at_lookup; refine wpList_lookup_bool _ rfl _ _ _ rfl 9 4 (string_keyed Tryd.underlying9) Tryd.underlying67 (Tryd.zeroBool _) w.heap.size k f rfl (hown.alloc _) _ nm rfl HK.out _ HG.out ?_)
          | (go_at_call 52; refine (rowWithin_any _ _ _ _).mono ?_; rintro e w' ⟨rfl, rfl⟩; rw [HE.out])
          | (at_mapUpdate; refine wpList_update_map _ rfl _ _ _ _ rfl 9 4 (string_keyed Tryd.underlying9) Tryd.underlying67 w.heap.size k f strKey_inj rfl (hown.alloc _) (by unfold maxLen; omega) _ _ nm true rfl rfl HK.out rfl ?_; intro w1 hown1 hgrow1 _))
        first
          | (go_ret
             exact ⟨by rw [HX.out (HR.out.trans rfl)]; rfl, hB.alloc hB.size _⟩)
          | (have hB1 : Below w.heap.size w w1 := (hB.alloc hB.size _).grown hgrow1 (by simp; omega) (fun j hj => by injection hj with hj; omega)
             have hown2 : MapOf Tryd.prog 9 strKey vBool w1 w.heap.size (k + 1) (metF xs (k + 1)) := by rw [← HF.out]; exact hown1
             go_wp2
             go_roundw
             case rel => exact ⟨k + 1, by omega, by go_num, Lib.hid (HN.out (HR.out.trans rfl)), hown2, hB1⟩
             case measure => simp [intOf]; omega)
    · obtain rfl : k = xs.length := by omega
      have HA := Lib.hid (validSchema_all HT.out)
      go_wp2_with (go_at_call 52; refine (rowWithin_any _ _ _ _).mono ?_; rintro e w' ⟨rfl, rfl⟩)
      go_ret
      exact ⟨by rw [HA.out]; rfl, hB⟩
end Go.Proofs.YtkldimaoafgolaaDoor
