/- Acts of chapter 13's laws; many. -/
import Derived.Test.YtbmpoecmjmmngaaHAwake
namespace Go.Proofs.Ytbmpoecmjmmngaa
open Go.RowKit Go.Maps

structure HAct where
  k : Int
  g : Int
  n : Int
  nm : ByteArray
  key : ByteArray
  val : ByteArray
deriving Inhabited
def HAct.okA (x : HAct) : Prop := (0 ≤ x.k ∧ x.k ≤ 255) ∧ inI64 x.g ∧ inI64 x.n ∧ x.nm.size ≤ maxLen ∧ x.key.size ≤ maxLen ∧ x.val.size ≤ maxLen
abbrev HAct.cs (x : HAct) : List Value := [.int .u8 x.k, .int .i64 x.g, .int .i64 x.n, .string x.nm, .string x.key, .string x.val]
def tAct : Ty HAct := ⟨6, fun _ cs x => cs = x.cs ∧ x.okA, fun _ _ _ h => by rw [h.1]; rfl, fun _ _ _ _ _ h => h⟩
abbrev tActs : Ty (List HAct) := tSlice tAct
theorem tAct_flat : tAct.flat := fun _ _ _ _ h => h
def manyA (x : HAct) : Bool := decide (100 < x.nm.size) || decide (200 < x.key.size) || decide (200 < x.val.size)
def manyOf (l : List HAct) : Bool := l.any manyA || decide (60 < l.length)
theorem acts_at {m : Mem} {xs : List HAct} {a : Option Addr} {n cap : Nat} (h : tActs.rv m [.slice a n cap] xs) {k : Nat} (hk : k < xs.length) :
    ∃ b o, a = some ⟨b, o, none⟩ ∧ (∀ j v, xs[k].cs[j]? = some v → m b (o + k * 6 + j) = some v) ∧ xs[k].okA := by
  obtain ⟨b, o, rfl, cs, hat, rfl, hok⟩ := slice_at h hk
  exact ⟨b, o, rfl, hat, hok⟩
set_option maxRecDepth 100000 in
set_option maxHeartbeats 4000000 in
theorem many_any (l : List HAct) (v : Value) (w : World) (hv : tActs.rv (mem w) [v] l) :
    Calls Try.prog 11 #[v] w fun e w' => e = .returned (.bool (manyOf l)) ∧ Below w.heap.size w w' := by
  obtain ⟨a, cap, rfl, hlc, hm, hv⟩ := slice_form hv
  have hcap : cap ≤ 9223372036854775807 := by unfold maxLen at hm; exact hm
  clear hm
  go_enter Try.func11, Try.ntmps11
  go_wp2
  go_loop [3] (fun i => ∃ k : Nat, k ≤ l.length ∧ i = .int .i64 k ∧ Hid (∀ x ∈ l.take k, manyA x = false)) (fun i => l.length - (intOf i).toNat)
  case atStart => exact ⟨0, by omega, rfl, Lib.hid (by simp)⟩
  case round =>
    obtain ⟨k, hk, rfl, HT⟩ := hrel
    by_cases hlt : k < l.length
    · obtain ⟨b, o, rfl, hat, hok⟩ := acts_at hv hlt
      have HX := Lib.hid (show manyA l[k] = true → manyOf l = true from fun h => by
        unfold manyOf
        rw [show l.any manyA = true from List.any_eq_true.2 ⟨_, List.getElem_mem hlt, h⟩]; rfl)
      have HN := Lib.hid (show manyA l[k] = false → ∀ x ∈ l.take (k + 1), manyA x = false from fun h => mem_take_snoc hlt HT.out h)
      have c3 : w.cell? ⟨b, o + k * 6 + 3, none⟩ = some (.string l[k].nm) := hat 3 _ rfl
      have c4 : w.cell? ⟨b, o + k * 6 + 4, none⟩ = some (.string l[k].key) := hat 4 _ rfl
      have c5 : w.cell? ⟨b, o + k * 6 + 5, none⟩ = some (.string l[k].val) := hat 5 _ rfl
      obtain ⟨_, _, _, s3, s4, s5⟩ := hok
      unfold maxLen at s3 s4 s5
      clear hat HT hv
      generalize hx : l[k] = x at *
      clear hx
      by_cases h1 : (100 : Int) < x.nm.size
      · have HM := Lib.hid (HX.out (by unfold manyA; rw [decide_eq_true (show 100 < x.nm.size by omega)]; rfl))
        clear HX HN
        go_wp2
        go_ret
        exact ⟨by rw [HM.out] <;> rfl, Below.refl _ _⟩
      · by_cases h2 : (200 : Int) < x.key.size
        · have HM := Lib.hid (HX.out (by unfold manyA; rw [decide_eq_true (show 200 < x.key.size by omega)]; simp))
          clear HX HN
          go_wp2
          go_ret
          exact ⟨by rw [HM.out] <;> rfl, Below.refl _ _⟩
        · by_cases h3 : (200 : Int) < x.val.size
          · have HM := Lib.hid (HX.out (by unfold manyA; rw [decide_eq_true (show 200 < x.val.size by omega)]; simp))
            clear HX HN
            go_wp2
            go_ret
            exact ⟨by rw [HM.out] <;> rfl, Below.refl _ _⟩
          · have HM := Lib.hid (HN.out (by unfold manyA; rw [decide_eq_false (show ¬ 100 < x.nm.size by omega), decide_eq_false (show ¬ 200 < x.key.size by omega), decide_eq_false (show ¬ 200 < x.val.size by omega)]; rfl))
            clear HX HN
            go_wp2
            go_round
            case rel => exact ⟨k + 1, by omega, by go_num, HM⟩
            case measure => simp [intOf]; omega
    · obtain rfl : k = l.length := by omega
      have HA := Lib.hid (show l.any manyA = false from List.any_eq_false.2 fun x hx => by have := HT.out x (by rw [List.take_length]; exact hx); simp [this])
      clear HT hv
      by_cases h6 : (60 : Int) < l.length
      · have HM := Lib.hid (show manyOf l = true by unfold manyOf; rw [decide_eq_true (show 60 < l.length by omega)]; simp)
        go_wp2
        go_ret
        exact ⟨by rw [HM.out] <;> rfl, Below.refl _ _⟩
      · have HM := Lib.hid (show manyOf l = false by unfold manyOf; rw [decide_eq_false (show ¬ 60 < l.length by omega), HA.out]; rfl)
        go_wp2
        go_ret
        exact ⟨by rw [HM.out] <;> rfl, Below.refl _ _⟩
end Go.Proofs.Ytbmpoecmjmmngaa
