/- Entries: readings, IndexFunc and ContainsFunc, heavy, ValidEntry, valid (the first two printed by gen_hent.py). -/
import Derived.Test.YtbmpoecmjmmngaaHIter
import Derived.Test.YtbmpoecmjmmngaaHName
import Derived.Test.YtbmpoecmjmmngaaHGet
import Derived.Test.YtbmpoecmjmmngaaArg
import Derived.Deep.RegionHeld3
namespace Go.Proofs.Ytbmpoecmjmmngaa
open Go.RowKit Go.Maps

abbrev Ent.cs (x : Ent) : List Value := [.int .i64 x.g, .string x.nm, .string x.key, .string x.val]
theorem ents_at {m : Mem} {xs : List Ent} {a : Option Addr} {n cap : Nat} (h : tEnts.rv m [.slice a n cap] xs) {k : Nat} (hk : k < xs.length) :
    ∃ b o, a = some ⟨b, o, none⟩ ∧ (∀ j v, xs[k].cs[j]? = some v → m b (o + k * 4 + j) = some v) ∧ xs[k].okE := by
  obtain ⟨b, o, rfl, cs, hat, rfl, hok⟩ := slice_at h hk
  exact ⟨b, o, rfl, hat, hok⟩
set_option maxRecDepth 100000 in
theorem reads_ent : Reads Try.prog 24 tEnt := fun H enc w n cs d h => by
  obtain ⟨xs, n', _, _, hl, hx, hg⟩ := DataW.trod_struct Try.underlying24 h
  rw [show Try.prog.cellsOf 24 = 4 from by kernel_rfl] at hl
  have g0 := hg 0 _ rfl
  obtain ⟨x0, r0⟩ := field_read (reads_int Try.underlying3) 0 1 rfl rfl (by kernel_rfl) g0 (by rw [hx]; decide)
  have g1 := hg 1 _ rfl
  obtain ⟨x1, r1⟩ := field_read (reads_str Try.underlying9) 1 1 rfl rfl (by kernel_rfl) g1 (by rw [hx]; decide)
  have g2 := hg 2 _ rfl
  obtain ⟨x2, r2⟩ := field_read (reads_str Try.underlying9) 2 1 rfl rfl (by kernel_rfl) g2 (by rw [hx]; decide)
  have g3 := hg 3 _ rfl
  obtain ⟨x3, r3⟩ := field_read (reads_str Try.underlying9) 3 1 rfl rfl (by kernel_rfl) g3 (by rw [hx]; decide)
  match cs, hl with
  | [c0, c1, c2, c3], _ =>
    obtain ⟨e0, i0⟩ := r0
    obtain ⟨e1, i1⟩ := r1
    obtain ⟨e2, i2⟩ := r2
    obtain ⟨e3, i3⟩ := r3
    simp at e0 e1 e2 e3
    exact ⟨⟨x0, x1, x2, x3⟩, by rw [e0, e1, e2, e3], i0, i1, i2, i3⟩
theorem reads_ents : Reads Try.prog 22 tEnts := reads_slice Try.underlying22 (by kernel_rfl) (by decide) reads_ent
set_option maxHeartbeats 1000000 in
theorem indexFuncEnt (Fn : FuncId) (capt : Array Value) (p : Ent → Bool) (xs : List Ent) (v : Value) (w : World) (hv : tEnts.rv (mem w) [v] xs)
    (hcf : ∀ args w, Sem.run Try.prog (callFunc Fn args) w = .ok (.enter Fn args) w)
    (hf : ∀ x : Ent, x.okE → ∀ wr, Below w.heap.size w wr → Calls Try.prog Fn (#[x.v] ++ capt) wr fun e w' => e = .returned (.bool (p x)) ∧ Below wr.heap.size wr w') :
    Calls Try.prog 52 #[v, .func (.func Fn) #[] capt] w fun e w' => e = .returned (.int .i64 (idxOf p xs)) ∧ Below w.heap.size w w' := by
  obtain ⟨a, cap, rfl, hl, hm, hv⟩ := slice_form hv
  have hcap : cap ≤ 9223372036854775807 := by unfold maxLen at hm; exact hm
  clear hm
  have HF := Lib.hid hf
  clear hf
  go_enter Try.func52, Try.ntmps52
  go_wp2
  go_loopw [8] (fun i wr => ∃ k : Nat, k ≤ xs.length ∧ i = .int .i64 k ∧ Hid (∀ x ∈ xs.take k, p x = false) ∧ Below w.heap.size w wr) (fun i _ => xs.length - (intOf i).toNat)
  case atStart => exact ⟨0, by omega, rfl, Lib.hid (by simp), Below.refl _ _⟩
  case round =>
    obtain ⟨k, hk, rfl, HT, hB⟩ := hrel
    by_cases hlt : k < xs.length
    · obtain ⟨b, o, rfl, hat, hin⟩ := ents_at (tEnts.mono _ _ _ _ (below_mem hB) hv) hlt
      have c0 : wr.cell? ⟨b, o + k * 4, none⟩ = some (.int .i64 xs[k].g) := hat 0 _ rfl
      have c1 : wr.cell? ⟨b, o + k * 4 + 1, none⟩ = some (.string xs[k].nm) := hat 1 _ rfl
      have c2 : wr.cell? ⟨b, o + k * 4 + 2, none⟩ = some (.string xs[k].key) := hat 2 _ rfl
      have c3 : wr.cell? ⟨b, o + k * 4 + 3, none⟩ = some (.string xs[k].val) := hat 3 _ rfl
      clear hat
      have hcall := HF.out xs[k] hin wr hB
      have HI := Lib.hid (show p xs[k] = true → idxOf p xs = k from fun h => idxOf_at hlt h HT.out)
      have HN := Lib.hid (show p xs[k] = false → ∀ x ∈ xs.take (k + 1), p x = false from fun h => mem_take_snoc hlt HT.out h)
      clear hv HF HT
      generalize xs[k] = x at *
      generalize hpx : p x = r at hcall HI HN
      clear hpx
      have HC := Lib.hid hcall
      clear hcall
      go_wp2_with fail
      refine HC.out.mono ?_
      rintro e w1 ⟨rfl, hB1⟩
      have hB2 := pure_trans hB hB1
      clear HC hB hB1 c0 c1 c2 c3
      cases r
      · go_wp2
        go_roundw
        case rel => exact ⟨k + 1, by omega, by go_num, Lib.hid (HN.out (by trivial)), hB2⟩
        case measure => simp [intOf]; omega
      · go_wp2
        go_ret
        exact ⟨by rw [HI.out (by trivial)]; rfl, hB2⟩
    · obtain rfl : k = xs.length := by omega
      have HX := Lib.hid (idxOf_none (p := p) (l := xs) (fun x hx => HT.out x (by rw [List.take_length]; exact hx)))
      go_wp2
      go_ret
      exact ⟨by rw [HX.out]; rfl, hB⟩
set_option maxHeartbeats 1000000 in
theorem containsFuncEnt (Fn : FuncId) (capt : Array Value) (p : Ent → Bool) (xs : List Ent) (v : Value) (w : World) (hv : tEnts.rv (mem w) [v] xs)
    (hcf : ∀ args w, Sem.run Try.prog (callFunc Fn args) w = .ok (.enter Fn args) w)
    (hf : ∀ x : Ent, x.okE → ∀ wr, Below w.heap.size w wr → Calls Try.prog Fn (#[x.v] ++ capt) wr fun e w' => e = .returned (.bool (p x)) ∧ Below wr.heap.size wr w') :
    Calls Try.prog 28 #[v, .func (.func Fn) #[] capt] w fun e w' => e = .returned (.bool (xs.any p)) ∧ Below w.heap.size w w' := by
  have H := Lib.hid (indexFuncEnt Fn capt p xs v w hv hcf hf)
  have HA := Lib.hid (idxOf_any p xs)
  clear hcf hf hv
  generalize idxOf p xs = i at H HA
  go_enter Try.func28, Try.ntmps28
  go_wp2_with fail
  refine H.out.mono ?_
  rintro e w1 ⟨rfl, hB⟩
  go_wp2
  go_ret
  exact ⟨by rw [← HA.out]; rfl, hB⟩


def heavyE (x : Ent) : Bool := decide (300 < x.nm.size + x.key.size + x.val.size)
def heavyOf (l : List Ent) : Bool := l.any heavyE || decide (60 < l.length)
set_option maxRecDepth 100000 in
set_option maxHeartbeats 4000000 in
theorem heavy_any (l : List Ent) (v : Value) (w : World) (hv : tEnts.rv (mem w) [v] l) :
    Calls Try.prog 7 #[v] w fun e w' => ∃ b, e = .returned (.bool b) ∧ Below w.heap.size w w' ∧ (b = false → l.length ≤ 60) := by
  obtain ⟨a, cap, rfl, hlc, hm, hv⟩ := slice_form hv
  have hcap : cap ≤ 9223372036854775807 := by unfold maxLen at hm; exact hm
  clear hm
  go_enter Try.func7, Try.ntmps7
  go_wp2
  go_loopw [3] (fun i wr => ∃ k : Nat, k ≤ l.length ∧ i = .int .i64 k ∧ Below w.heap.size w wr) (fun i _ => l.length - (intOf i).toNat)
  case atStart => exact ⟨0, by omega, rfl, Below.refl _ _⟩
  case round =>
    obtain ⟨k, hk, rfl, hB⟩ := hrel
    by_cases hlt : k < l.length
    · obtain ⟨b, o, rfl, hat, hok⟩ := ents_at (tEnts.mono _ _ _ _ (below_mem hB) hv) hlt
      have c1 : wr.cell? ⟨b, o + k * 4 + 1, none⟩ = some (.string l[k].nm) := hat 1 _ rfl
      have c2 : wr.cell? ⟨b, o + k * 4 + 2, none⟩ = some (.string l[k].key) := hat 2 _ rfl
      have c3 : wr.cell? ⟨b, o + k * 4 + 3, none⟩ = some (.string l[k].val) := hat 3 _ rfl
      obtain ⟨_, s1, s2, s3⟩ := hok
      unfold maxLen at s1 s2 s3
      have HB := Lib.hid hB
      clear hat hB
      generalize hx : l[k] = x at *
      clear hx
      go_wp2_with fail
      go_region_held3 (fun w' => w'.cell? ⟨b, o + k * 4 + 1, none⟩ = some (.string x.nm) ∧ w'.cell? ⟨b, o + k * 4 + 2, none⟩ = some (.string x.key) ∧ w'.cell? ⟨b, o + k * 4 + 3, none⟩ = some (.string x.val))
        (go_keep) (fail)
      have HB2 := Lib.hid HB.out.drew
      clear HB hv
      simp only [Exit.then]
      go_at_K
      go_wp2
      · go_ret
        first
          | exact .inr ⟨rfl, HB2.out⟩
          | exact ⟨true, rfl, HB2.out, fun h => by cases h⟩
      · exact ⟨⟨k + 1, by omega, by go_num, HB2.out⟩, by simp [intOf]; omega⟩
    · obtain rfl : k = l.length := by omega
      by_cases h6 : (60 : Int) < l.length
      · go_wp2
        go_ret
        first
          | exact .inr ⟨by simp [h6], hB⟩
          | exact ⟨true, by simp [h6], hB, fun h => by cases h⟩
      · go_wp2
        go_ret
        first
          | exact .inl ⟨by simp [h6], hB, by omega⟩
          | exact ⟨false, by simp [h6], hB, fun _ => by omega⟩
def validE (x : Ent) : Bool := decide (0 ≤ x.g ∧ x.g < 128) && (isName x.nm && (!big x.key && !big x.val))
set_option maxHeartbeats 400000 in
theorem fits_any (t : ByteArray) (w : World) (ht : t.size ≤ maxLen) :
    Calls Try.prog 66 #[.string t] w fun e w' => e = .returned (.bool (!big t)) ∧ w = w' := by
  unfold maxLen at ht
  by_cases h : (t.size : Int) ≤ 65536
  all_goals
    have h' : decide (65536 < t.size) = !decide ((t.size : Int) ≤ 65536) := by
      by_cases h2 : (t.size : Int) ≤ 65536
      · rw [decide_eq_true h2, decide_eq_false (by omega)]; rfl
      · rw [decide_eq_false h2, decide_eq_true (by omega)]; rfl
    have HB := Lib.hid h'
    clear h'
    go_enter Try.func66, Try.ntmps66
    go_wp2
    go_ret
    exact ⟨by unfold big; rw [HB.out]; simp [h], rfl⟩
set_option maxHeartbeats 4000000 in
theorem validEntry_any (x : Ent) (w : World) (hok : x.okE) :
    Calls Try.prog 51 #[x.v] w fun e w' => e = .returned (.bool (validE x)) ∧ Below w.heap.size w w' := by
  obtain ⟨g, nm, key, val⟩ := x
  obtain ⟨s0, s1, s2, s3⟩ := hok
  have HB0 := Lib.hid (fun o => (show Below w.heap.size w (w.alloc o) from (Below.refl _ _).alloc (Nat.le_refl _) o))
  have HV := Lib.hid (show validE ⟨g, nm, key, val⟩ = (decide (0 ≤ g ∧ g < 128) && (isName nm && (!big key && !big val))) from rfl)
  have HN := Lib.hid (fun w => rowName_any nm w s1)
  have HK := Lib.hid (fun w => fits_any key w s2)
  have HL := Lib.hid (fun w => fits_any val w s3)
  generalize validE ⟨g, nm, key, val⟩ = r at *
  by_cases h0 : 0 ≤ g
  case neg =>
    have HR := Lib.hid (show r = false by rw [HV.out, decide_eq_false (by omega)]; rfl)
    go_enter Try.func51, Try.ntmps51
    go_wp2
    go_ret
    exact ⟨by rw [HR.out] <;> rfl, HB0.out _⟩
  by_cases h1 : g < 128
  case neg =>
    have HR := Lib.hid (show r = false by rw [HV.out, decide_eq_false (by omega)]; rfl)
    go_enter Try.func51, Try.ntmps51
    go_wp2
    go_ret
    exact ⟨by rw [HR.out] <;> rfl, HB0.out _⟩
  have HV2 := Lib.hid (show r = (isName nm && (!big key && !big val)) by rw [HV.out, decide_eq_true ⟨h0, h1⟩]; rfl)
  clear HV
  generalize isName nm = b1 at *
  generalize big key = b2 at *
  generalize big val = b3 at *
  go_enter Try.func51, Try.ntmps51
  go_wp2_with fail
  refine (HN.out _).mono ?_
  rintro e w1 ⟨rfl, rfl⟩
  cases b1 with
  | false =>
    have HR := Lib.hid (show r = false by rw [HV2.out]; rfl)
    go_wp2
    go_ret
    exact ⟨by rw [HR.out] <;> rfl, HB0.out _⟩
  | true =>
  go_wp2_with fail
  refine (HK.out _).mono ?_
  rintro e w1 ⟨rfl, rfl⟩
  cases b2 with
  | true =>
    have HR := Lib.hid (show r = false by rw [HV2.out]; rfl)
    go_wp2
    go_ret
    exact ⟨by rw [HR.out] <;> rfl, HB0.out _⟩
  | false =>
  go_wp2_with fail
  refine (HL.out _).mono ?_
  rintro e w1 ⟨rfl, rfl⟩
  have HR := Lib.hid (show r = !b3 by rw [HV2.out]; rfl)
  go_wp2
  go_ret
  exact ⟨by rw [HR.out] <;> rfl, HB0.out _⟩
set_option maxRecDepth 100000 in
theorem valid1_any (x : Ent) (w : World) (hok : x.okE) :
    Calls Try.prog 50 #[x.v] w fun e w' => e = .returned (.bool (!validE x)) ∧ Below w.heap.size w w' := by
  have HB0 := Lib.hid (fun o => (show Below w.heap.size w (w.alloc o) from (Below.refl _ _).alloc (Nat.le_refl _) o))
  have HV := Lib.hid (fun w => validEntry_any x w hok)
  obtain ⟨g, nm, key, val⟩ := x
  generalize validE ⟨g, nm, key, val⟩ = r at *
  go_enter Try.func50, Try.ntmps50
  go_wp2_with fail
  refine (HV.out _).mono ?_
  rintro e w1 ⟨rfl, hb⟩
  have HB := Lib.hid (pure_trans (HB0.out _) hb)
  go_wp2
  go_ret
  exact ⟨rfl, HB.out⟩
set_option maxRecDepth 100000 in
theorem valid_any (l : List Ent) (v : Value) (w : World) (hv : tEnts.rv (mem w) [v] l) (hl : l.length ≤ 4000) :
    Calls Try.prog 27 #[v] w fun e w' => e = .returned (.bool (l.all validE)) ∧ Below w.heap.size w w' := by
  have HC := Lib.hid (containsFuncEnt 50 #[] (fun x => !validE x) l v w hv (fun _ _ => rfl) (fun x hx wr _ => valid1_any x wr hx))
  have HA := Lib.hid (show l.all validE = !l.any (fun x => !validE x) by rw [List.all_eq_not_any_not])
  obtain ⟨a, cap, rfl, hlc, hm, hv⟩ := slice_form hv
  have hcap : cap ≤ 9223372036854775807 := by unfold maxLen at hm; exact hm
  generalize l.any (fun x => !validE x) = b at *
  clear hm hv
  go_enter Try.func27, Try.ntmps27
  go_wp2_with fail
  refine HC.out.mono ?_
  rintro e w1 ⟨rfl, hb⟩
  go_wp2
  go_ret
  exact ⟨by rw [HA.out] <;> rfl, hb⟩
set_option maxRecDepth 100000 in
theorem restore1_any (x : Ent) (bn : Nat) (n : Int) (w : World) (hn : w.cell? ⟨bn, 0, none⟩ = some (.int .i64 n)) :
    Calls Try.prog 29 #[x.v, .pointer (some ⟨bn, 0, none⟩)] w fun e w' => e = .returned (.bool (decide (n ≤ x.g))) ∧ Below w.heap.size w w' := by
  obtain ⟨g, nm, key, val⟩ := x
  have HB0 := Lib.hid (fun o => (show Below w.heap.size w (w.alloc o) from (Below.refl _ _).alloc (Nat.le_refl _) o))
  have hn1 : ∀ o, (w.alloc o).cell? ⟨bn, 0, none⟩ = some (.int .i64 n) := fun o => below_mem (HB0.out o) _ _ _ hn
  have hlt : bn < w.heap.size := mem_lt hn
  have hne : ¬ bn = w.heap.size := by omega
  by_cases h : n ≤ g
  all_goals
    go_enter Try.func29, Try.ntmps29
    go_wp2
    go_ret
    exact ⟨by simp [h], HB0.out _⟩
end Go.Proofs.Ytbmpoecmjmmngaa
