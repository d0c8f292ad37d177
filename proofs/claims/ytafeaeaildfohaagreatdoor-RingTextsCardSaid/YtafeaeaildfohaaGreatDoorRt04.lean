/- Part 4 of the texts that the law's proof stands on, merged. -/
import Derived.BigQuiet
import Derived.StillTailTactics
import Derived.IntWalk
import Derived.Shelf.SlIter.Keys
import Derived.Shelf.SlIter.Sorted
import Derived.Shelf.SlIter.Nil
import Derived.Ground.GgzProg
import Derived.Shelf.Strings.Builder1
import Derived.Shelf.Strings.Builder2
import Derived.Shelf.Strings.OnBuilder
import Derived.Shelf.Small.Bits
import Derived.Shelf.Strconv.Itoa0
import Derived.Shelf.Strings.Search1
import Derived.Shelf.Strings.Search2
import Derived.Shelf.Strings.Search3
import Derived.Shelf.Strings.Cut
import Derived.Shelf.LaysM
import Derived.Shelf.Strings.Shaped
import Derived.Shelf.Sort.Plain
import Derived.Shelf.Strings.Prefix
import Derived.Shelf.Unicode.DecodeSlow
import Derived.Shelf.Slices.In.SortNone
import Derived.Test.YtafeaeaildfohaaGreatDoorProg
import Derived.Lib.Join
import Derived.Test.YtafeaeaildfohaaGreatDoorRt03
set_option linter.unusedVariables false
set_option linter.unusedSimpArgs false
/- Reading a program's text: plain (for RingTexts). -/
namespace Go.Proofs.YtafeaeaildfohaaGreatDoor
open Go.RowKit Go.Maps

/-- What is read of the rest of a text behind some rules: no rules and a line's number (a wrong line), or all. -/
def parsL : Nat → List UInt8 → List Rul → Option (List Rul) × Nat
  | 0, _, rs => (some rs, 0)
  | g + 1, T, rs => if T = [] then (some rs, 0) else match lineR (Lib.cut T [10]).1 with
    | none => (none, rs.length)
    | some r => if (Lib.cut T [10]).2.2 = true ∧ rs.length < 12 then parsL g (Lib.cut T [10]).2.1 (rs ++ [r]) else (none, rs.length)
theorem parsL_end {g : Nat} {rs : List Rul} : parsL g [] rs = (some rs, 0) := by
  cases g with
  | zero => rfl
  | succ g => unfold parsL; rw [if_pos rfl]
theorem cut_len {T : List UInt8} (h : (Lib.cut T [10]).2.2 = true) : (Lib.cut T [10]).2.1.length < T.length := by
  unfold Lib.cut at h ⊢
  split
  · next hi =>
    have := Lib.index_room T [10] hi
    simp only [List.length_drop, List.length_cons, List.length_nil] at this ⊢
    omega
  · next hi => rw [if_neg hi] at h; cases h
theorem parsL_good {g : Nat} {T : List UInt8} {rs : List Rul} {r : Rul} (hT : T ≠ []) (h1 : (Lib.cut T [10]).2.2 = true) (h2 : lineR (Lib.cut T [10]).1 = some r) (h3 : rs.length < 12) : parsL (g + 1) T rs = parsL g (Lib.cut T [10]).2.1 (rs ++ [r]) := by
  conv => lhs; unfold parsL
  rw [if_neg hT, h2]
  simp only
  rw [if_pos ⟨h1, h3⟩]
theorem parsL_bad {g : Nat} {T : List UInt8} {rs : List Rul} (hT : T ≠ []) (h : (Lib.cut T [10]).2.2 = false ∨ lineR (Lib.cut T [10]).1 = none ∨ 12 ≤ rs.length) : parsL (g + 1) T rs = (none, rs.length) := by
  unfold parsL
  rw [if_neg hT]
  cases hl : lineR (Lib.cut T [10]).1 with
  | none => rfl
  | some r =>
    simp only
    rw [if_neg]
    rintro ⟨h1, h2⟩
    rcases h with h | h | h
    · rw [h1] at h; cases h
    · rw [hl] at h; cases h
    · omega
theorem atomL_no10 {a : Fct} (h : validA a = true) : ∀ x ∈ atomL a, x ≠ 10 := fun x hx => by
  obtain ⟨h1, h2, h3⟩ := validA_iff.1 h
  unfold atomL at hx
  simp only [List.mem_append, List.mem_cons] at hx
  rcases hx with hx | rfl | hx | rfl | rfl | hx | hx
  · exact name_no h1 10 (by decide) x hx
  · decide
  · exact name_no h2 10 (by decide) x hx
  · decide
  · decide
  · exact name_no h3 10 (by decide) x hx
  · rcases hx with rfl | hx
    · decide
    · cases hx
theorem bodyL_no10 : ∀ (l : List Fct), (∀ a ∈ l, validA a = true) → ∀ x ∈ bodyL l, x ≠ 10
  | [], _, x, hx => by cases hx
  | [a], h, x, hx => atomL_no10 (h a List.mem_cons_self) x hx
  | a :: b :: t, h, x, hx => by
    simp only [bodyL, List.mem_append, List.mem_cons] at hx
    rcases hx with hx | rfl | rfl | hx
    · exact atomL_no10 (h a List.mem_cons_self) x hx
    · decide
    · decide
    · exact bodyL_no10 (b :: t) (fun y hy => h y (List.mem_cons_of_mem _ hy)) x hx
theorem ruleL_no10 {r : Rul} (h : validR r = true) : ∀ x ∈ ruleL r, x ≠ 10 := fun x hx => by
  obtain ⟨h1, h2, -⟩ := validR_atoms h
  unfold ruleL at hx
  simp only [List.mem_append, List.mem_cons] at hx
  rcases hx with hx | rfl | rfl | rfl | rfl | hx
  · exact atomL_no10 h1 x hx
  · decide
  · decide
  · decide
  · decide
  · exact bodyL_no10 r.bd h2 x hx
theorem cut_line {r : Rul} (h : validR r = true) (rest : List UInt8) : Lib.cut (ruleL r ++ ([10] ++ rest)) [10] = (ruleL r, rest, true) := cut_of (index_at 10 [] (ruleL_no10 h) rest)
theorem progL_cons (r : Rul) (l : List Rul) : progL (r :: l) = ruleL r ++ ([10] ++ progL l) := by unfold progL; simp
/-- What is written of a program is read as the program. -/
theorem parsL_prog : ∀ (l : List Rul) (rs : List Rul) (g : Nat), (∀ r ∈ l, validR r = true) → rs.length + l.length ≤ 12 → l.length ≤ g → parsL g (progL l) rs = (some (rs ++ l), 0)
  | [], rs, g, _, _, _ => by rw [show progL [] = [] from rfl, parsL_end, List.append_nil]
  | r :: l, rs, g, h, hn, hg => by
    obtain ⟨g', rfl⟩ : ∃ g', g = g' + 1 := ⟨g - 1, by simp at hg; omega⟩
    have hr := h r List.mem_cons_self
    have hc := cut_line hr (progL l)
    rw [List.length_cons] at hn hg
    rw [progL_cons, parsL_good (r := r) (by simp) (by rw [hc]) (by rw [hc]; exact lineR_some.2 ⟨hr, rfl⟩) (by omega), hc]
    rw [parsL_prog l (rs ++ [r]) g' (fun x hx => h x (List.mem_cons_of_mem _ hx)) (by rw [List.length_append, List.length_singleton]; omega) (by omega)]
    simp
end Go.Proofs.YtafeaeaildfohaaGreatDoor
/- The reference's has, SameStrings; atoms as they are written (for RingTexts, seat .ZD). -/
namespace Go.Proofs.YtafeaeaildfohaaGreatDoor
open Go.RowKit Go.Maps

set_option maxRecDepth 100000 in
set_option maxHeartbeats 4000000 in
theorem refHas_any (l : List ByteArray) (s : ByteArray) (v : Value) (w : World) (hv : tStrs.rv (mem w) [v] l) :
    Calls Tryz.prog 22 #[v, .string s] w fun e w' => e = .returned (.bool (l.any fun x => decide (x = s))) ∧ w = w' := by
  obtain ⟨a, cap, rfl, hlc, hm, hv⟩ := slice_form hv
  have hcap : cap ≤ 9223372036854775807 := by unfold maxLen at hm; exact hm
  have HV := Lib.hid hv
  clear hm hv
  go_enter Tryz.func22, Tryz.ntmps22
  go_wp2
  go_loopw [5] (fun i wr => ∃ k : Nat, k ≤ l.length ∧ i = .int .i64 k ∧ Hid (s ∉ l.take k) ∧ w = wr) (fun i _ => l.length - (intOf i).toNat)
  case atStart => exact ⟨0, by omega, rfl, Lib.hid (by simp), rfl⟩
  case round =>
    obtain ⟨k, hk, rfl, HT, hw⟩ := hrel
    subst hw
    by_cases hlt : k < l.length
    · obtain ⟨b, o, rfl, q0, -⟩ := str_cell HV.out hlt
      have c0 : w.cell? ⟨b, o + k, none⟩ = some (.string l[k]) := q0
      have HY := Lib.hid (show l[k] = s → (l.any fun x => decide (x = s)) = true from fun e => List.any_eq_true.2 ⟨l[k], List.getElem_mem hlt, decide_eq_true e⟩)
      have HN := Lib.hid (show l[k] ≠ s → s ∉ l.take (k + 1) from fun e h => by
        rw [List.take_succ_eq_append_getElem hlt] at h
        rcases List.mem_append.1 h with h | h
        · exact HT.out h
        · simp at h; exact e h.symm)
      have HE := Lib.hid (strEqB l[k] s)
      clear q0
      generalize l[k] = x at *
      cases h1 : (x.toList == s.toList) with
      | true =>
        have HQ := Lib.hid (HY.out (of_decide_eq_true (HE.out.symm.trans h1)))
        clear HE HN HY
        go_wp2
        go_ret
        exact ⟨by rw [HQ.out]; rfl, rfl⟩
      | false =>
        have HQ := Lib.hid (HN.out (of_decide_eq_false (HE.out.symm.trans h1)))
        clear HE HN HY
        go_wp2
        go_roundw
        case rel => exact ⟨k + 1, by omega, by go_num, HQ, by first | rfl | trivial⟩
        case measure => simp [intOf]; omega
    · obtain rfl : k = l.length := by omega
      have HX := Lib.hid (show (l.any fun x => decide (x = s)) = false from List.any_eq_false.2 (fun x hx => by
        have := HT.out
        rw [List.take_length] at this
        simp only [decide_eq_true_eq]
        exact fun e => this (by rw [← e]; exact hx)))
      go_wp2
      go_ret
      exact ⟨by rw [HX.out]; rfl, rfl⟩
def writtenB (a : Fct) : ByteArray := a.n ++ ⟨#[40]⟩ ++ a.a ++ ⟨#[44, 32]⟩ ++ a.b ++ ⟨#[41]⟩
theorem bl_append (a b : ByteArray) : bl (a ++ b) = bl a ++ bl b := by simp [bl]
theorem writtenB_bl (a : Fct) : bl (writtenB a) = atomL a := by
  unfold writtenB atomL
  simp only [bl_append, List.append_assoc]
  rfl
set_option maxRecDepth 100000 in
set_option maxHeartbeats 2000000 in
theorem ringWritten_any (x : Fct) (w : World) (hok : x.n.size ≤ 1000 ∧ x.a.size ≤ 1000 ∧ x.b.size ≤ 1000) :
    Calls Tryz.prog 34 #[x.v] w fun e w' => e = .returned (.string (writtenB x)) ∧ Below w.heap.size w w' := by
  have HB0 := Lib.hid (boxB w)
  obtain ⟨x1, x2, x3⟩ := x
  obtain ⟨s1, s2, s3⟩ := hok
  simp only at s1 s2 s3
  go_enter Tryz.func34, Tryz.ntmps34
  go_wp2
  go_ret
  exact ⟨rfl, HB0.out _⟩
set_option maxRecDepth 100000 in
set_option maxHeartbeats 2000000 in
theorem refWritten_any (x : Fct) (w : World) (hok : x.n.size ≤ 1000 ∧ x.a.size ≤ 1000 ∧ x.b.size ≤ 1000) :
    Calls Tryz.prog 18 #[x.v] w fun e w' => e = .returned (.string (writtenB x)) ∧ Below w.heap.size w w' := by
  have HB0 := Lib.hid (boxB w)
  obtain ⟨x1, x2, x3⟩ := x
  obtain ⟨s1, s2, s3⟩ := hok
  simp only at s1 s2 s3
  go_enter Tryz.func18, Tryz.ntmps18
  go_wp2
  go_ret
  exact ⟨rfl, HB0.out _⟩
end Go.Proofs.YtafeaeaildfohaaGreatDoor
/- The reference's SameStrings (for RingTexts, seat .ZD). -/
namespace Go.Proofs.YtafeaeaildfohaaGreatDoor
open Go.RowKit Go.Maps

set_option maxRecDepth 100000 in
set_option maxHeartbeats 4000000 in
theorem refSameStrs_any (l : List ByteArray) (v v' : Value) (w : World) (hv : tStrs.rv (mem w) [v] l) (hv' : tStrs.rv (mem w) [v'] l) :
    Calls Tryz.prog 9 #[v, v'] w fun e w' => e = .returned (.bool true) ∧ Below w.heap.size w w' := by
  obtain ⟨a, cap, rfl, hlc, hm, hv⟩ := slice_form hv
  have hcap : cap ≤ 9223372036854775807 := by unfold maxLen at hm; exact hm
  obtain ⟨a', cap', rfl, hlc', hm', hv'⟩ := slice_form hv'
  have hcap' : cap' ≤ 9223372036854775807 := by unfold maxLen at hm'; exact hm'
  have hll : ((l.length : Int) == (l.length : Int)) = true := by simp
  clear hm hm'
  go_enter Tryz.func9, Tryz.ntmps9
  go_wp2
  go_loopw [5] (fun i wr => ∃ k : Nat, k ≤ l.length ∧ i = .int .i64 k ∧ Hid (Below w.heap.size w wr)) (fun i _ => l.length - (intOf i).toNat)
  case atStart => exact ⟨0, by omega, rfl, Lib.hid (Below.refl _ _)⟩
  case round =>
    obtain ⟨k, hk, rfl, HB⟩ := hrel
    by_cases hlt : k < l.length
    · obtain ⟨b, o, rfl, q0, -⟩ := str_cell (tStrs.mono _ _ _ _ (below_mem HB.out) hv) hlt
      obtain ⟨b', o', rfl, s0, -⟩ := str_cell (tStrs.mono _ _ _ _ (below_mem HB.out) hv') hlt
      have c0 : wr.cell? ⟨b, o + k, none⟩ = some (.string l[k]) := q0
      have d0 : wr.cell? ⟨b', o' + k, none⟩ = some (.string l[k]) := s0
      clear q0 s0
      generalize l[k] = y at *
      have e1 : (y.toList == y.toList) = true := by simp
      have e2 : (y.toList != y.toList) = false := by simp
      go_wp2_with fail
      go_quiet (fail)
      all_goals
        go_wp2
        exact ⟨⟨k + 1, by omega, by go_num, Lib.hid (HB.out.trans ⟨rfl, rfl, rfl, Nat.le_refl _, fun _ _ => rfl⟩)⟩, by simp [intOf]; omega⟩
    · obtain rfl : k = l.length := by omega
      go_wp2
      go_ret
      exact ⟨rfl, HB.out⟩
end Go.Proofs.YtafeaeaildfohaaGreatDoor
/- The reference's SameRules (for RingTexts, seat .ZD). -/
namespace Go.Proofs.YtafeaeaildfohaaGreatDoor
open Go.RowKit Go.Maps

set_option maxRecDepth 100000 in
set_option maxHeartbeats 4000000 in
theorem refSameRules_any (l : List Rul) (v v' : Value) (w : World) (hv : tRuls.rv (mem w) [v] l) (hv' : tRuls.rv (mem w) [v'] l) :
    Calls Tryz.prog 11 #[v, v'] w fun e w' => e = .returned (.bool true) ∧ Below w.heap.size w w' := by
  obtain ⟨a, cap, rfl, hlc, hm, hv⟩ := slice_form hv
  have hcap : cap ≤ 9223372036854775807 := by unfold maxLen at hm; exact hm
  obtain ⟨a', cap', rfl, hlc', hm', hv'⟩ := slice_form hv'
  have hcap' : cap' ≤ 9223372036854775807 := by unfold maxLen at hm'; exact hm'
  have HV := Lib.hid (fun wr (hb : Below w.heap.size w wr) => tRuls.mono _ _ _ _ (below_mem hb) hv)
  have HV' := Lib.hid (fun wr (hb : Below w.heap.size w wr) => tRuls.mono _ _ _ _ (below_mem hb) hv')
  have hll : ((l.length : Int) != (l.length : Int)) = false := by simp
  clear hm hm' hv hv'
  go_enter Tryz.func11, Tryz.ntmps11
  go_wp2
  go_loopw [5] (fun i wr => ∃ k : Nat, k ≤ l.length ∧ i = .int .i64 k ∧ Hid (Below w.heap.size w wr)) (fun i _ => l.length - (intOf i).toNat)
  case atStart => exact ⟨0, by omega, rfl, Lib.hid (Below.refl _ _)⟩
  case round =>
    obtain ⟨k, hk, rfl, HB⟩ := hrel
    by_cases hlt : k < l.length
    · obtain ⟨W1, hW1⟩ : ∃ W1, W1 = wr := ⟨_, rfl⟩
      subst hW1
      obtain ⟨b, o, bv, rfl, ⟨q0, q1, q2, q3⟩, -, hbd⟩ := ruls_at (HV.out _ HB.out) hlt
      obtain ⟨b', o', bv', rfl, ⟨s0, s1, s2, s3⟩, -, hbd'⟩ := ruls_at (HV'.out _ HB.out) hlt
      have c0 : W1.cell? ⟨b, o + k * 4, none⟩ = some (.string l[k].hd.n) := q0
      have c1 : W1.cell? ⟨b, o + k * 4 + 1, none⟩ = some (.string l[k].hd.a) := q1
      have c2 : W1.cell? ⟨b, o + k * 4 + 2, none⟩ = some (.string l[k].hd.b) := q2
      have c3 : W1.cell? ⟨b, o + k * 4 + 3, none⟩ = some bv := q3
      have d0 : W1.cell? ⟨b', o' + k * 4, none⟩ = some (.string l[k].hd.n) := s0
      have d1 : W1.cell? ⟨b', o' + k * 4 + 1, none⟩ = some (.string l[k].hd.a) := s1
      have d2 : W1.cell? ⟨b', o' + k * 4 + 2, none⟩ = some (.string l[k].hd.b) := s2
      have d3 : W1.cell? ⟨b', o' + k * 4 + 3, none⟩ = some bv' := s3
      obtain ⟨ab, cb, rfl, hb1, hb2, hbd⟩ := slice_form hbd
      obtain ⟨ab', cb', rfl, hb1', hb2', hbd'⟩ := slice_form hbd'
      have hcb : cb ≤ 9223372036854775807 := by unfold maxLen at hb2; exact hb2
      have hcb' : cb' ≤ 9223372036854775807 := by unfold maxLen at hb2'; exact hb2'
      have HD := Lib.hid (fun wr (hb : Below W1.heap.size W1 wr) => tFcts.mono _ _ _ _ (below_mem hb) hbd)
      have HD' := Lib.hid (fun wr (hb : Below W1.heap.size W1 wr) => tFcts.mono _ _ _ _ (below_mem hb) hbd')
      have HC := Lib.hid (fun (wr : World) (hb : Below W1.heap.size W1 wr) => (show wr.cell? ⟨b, o + k * 4 + 3, none⟩ = some (.slice ab l[k].bd.length cb) ∧ wr.cell? ⟨b', o' + k * 4 + 3, none⟩ = some (.slice ab' l[k].bd.length cb') from ⟨below_mem hb _ _ _ c3, below_mem hb _ _ _ d3⟩))
      clear q0 q1 q2 q3 s0 s1 s2 s3 hbd hbd' hb2 hb2'
      generalize l[k] = r at *
      obtain ⟨⟨r1, r2, r3⟩, bd⟩ := r
      simp only at c0 c1 c2 c3 d0 d1 d2 d3 hb1 hb1' HC HD HD'
      have e1 : (r1.toList == r1.toList) = true := by simp
      have e2 : (r2.toList == r2.toList) = true := by simp
      have e3 : (r3.toList == r3.toList) = true := by simp
      have hbl : ((bd.length : Int) != (bd.length : Int)) = false := by simp
      have HBD := Lib.hid (fun n => (show Below W1.heap.size W1 (W1.drewN n) from (Below.refl _ _).trans ⟨rfl, rfl, rfl, Nat.le_refl _, fun _ _ => rfl⟩))
      go_wp2_with fail
      go_quiet (fail)
      all_goals
        go_wp2
        go_loopw [6] (fun i wr => ∃ m : Nat, m ≤ bd.length ∧ i = .int .i64 m ∧ Hid (Below W1.heap.size W1 wr)) (fun i _ => bd.length - (intOf i).toNat)
        case atStart => exact ⟨0, by omega, rfl, Lib.hid (HBD.out _)⟩
        case round =>
          obtain ⟨m, hm, rfl, HB2⟩ := hrel
          obtain ⟨g3, g4⟩ := HC.out wr HB2.out
          by_cases hlt2 : m < bd.length
          · obtain ⟨x, y, rfl, ⟨t0, t1, t2⟩, -⟩ := fcts_at (HD.out wr HB2.out) hlt2
            obtain ⟨x', y', rfl, ⟨u0, u1, u2⟩, -⟩ := fcts_at (HD'.out wr HB2.out) hlt2
            have p0 : wr.cell? ⟨x, y + m * 3, none⟩ = some (.string bd[m].n) := t0
            have p1 : wr.cell? ⟨x, y + m * 3 + 1, none⟩ = some (.string bd[m].a) := t1
            have p2 : wr.cell? ⟨x, y + m * 3 + 2, none⟩ = some (.string bd[m].b) := t2
            have p3 : wr.cell? ⟨x', y' + m * 3, none⟩ = some (.string bd[m].n) := u0
            have p4 : wr.cell? ⟨x', y' + m * 3 + 1, none⟩ = some (.string bd[m].a) := u1
            have p5 : wr.cell? ⟨x', y' + m * 3 + 2, none⟩ = some (.string bd[m].b) := u2
            clear t0 t1 t2 u0 u1 u2
            generalize bd[m] = z at *
            obtain ⟨z1, z2, z3⟩ := z
            simp only at p0 p1 p2 p3 p4 p5
            have e4 : (z1.toList == z1.toList) = true := by simp
            have e5 : (z2.toList == z2.toList) = true := by simp
            have e6 : (z3.toList == z3.toList) = true := by simp
            go_wp2_with fail
            go_quiet (fail)
            all_goals
              go_wp2
              exact ⟨⟨m + 1, by omega, by go_num, Lib.hid (HB2.out.trans ⟨rfl, rfl, rfl, Nat.le_refl _, fun _ _ => rfl⟩)⟩, by simp [intOf]; omega⟩
          · obtain rfl : m = bd.length := by omega
            have HB3 := Lib.hid (pure_trans HB.out HB2.out)
            go_wp2
            exact ⟨⟨k + 1, by omega, by go_num, HB3⟩, by simp [intOf]; omega⟩
    · obtain rfl : k = l.length := by omega
      go_wp2
      go_ret
      exact ⟨rfl, HB.out⟩
end Go.Proofs.YtafeaeaildfohaaGreatDoor
/- The reference's Format (for RingTexts, seat .ZD). -/
namespace Go.Proofs.YtafeaeaildfohaaGreatDoor
open Go.RowKit Go.Maps

theorem bodyL_snoc : ∀ (l : List Fct) (a : Fct), bodyL (l ++ [a]) = if l = [] then atomL a else bodyL l ++ (44 :: 32 :: atomL a)
  | [], a => by simp [bodyL]
  | [b], a => by simp [bodyL]
  | b :: c :: t, a => by
    have ih := bodyL_snoc (c :: t) a
    rw [if_neg (by simp)] at ih ⊢
    show atomL b ++ (44 :: 32 :: bodyL (c :: t ++ [a])) = _
    rw [ih]
    simp [bodyL]
theorem bodyL_take {bd : List Fct} {m : Nat} (h : m < bd.length) : bodyL (bd.take (m + 1)) = if m = 0 then atomL bd[m] else bodyL (bd.take m) ++ (44 :: 32 :: atomL bd[m]) := by
  rw [List.take_succ_eq_append_getElem h, bodyL_snoc]
  by_cases hm : m = 0
  · subst hm; simp
  · rw [if_neg hm, if_neg]
    intro e
    have := congrArg List.length e
    rw [List.length_take, Nat.min_eq_left (by omega)] at this
    exact hm this
theorem progL_take {l : List Rul} {k : Nat} (h : k < l.length) : progL (l.take (k + 1)) = progL (l.take k) ++ (ruleL l[k] ++ [10]) := by
  rw [List.take_succ_eq_append_getElem h]
  unfold progL
  rw [List.flatMap_append]
  simp
theorem progL_len : ∀ (l : List Rul), (∀ r ∈ l, validR r = true) → (progL l).length ≤ 219 * l.length
  | [], _ => by simp [progL]
  | r :: l, h => by
    have h1 := ruleL_len (h r List.mem_cons_self)
    have h2 := progL_len l (fun x hx => h x (List.mem_cons_of_mem _ hx))
    rw [progL_cons]
    simp only [List.length_append, List.length_cons, List.length_nil]
    omega
def fmtL (l : List Rul) : List UInt8 := if validP l = true then progL l else []
theorem validP_atoms {l : List Rul} (h : validP l = true) : ∀ r ∈ l, validR r = true := fun r hr => by
  unfold validP at h
  rw [Bool.and_eq_true] at h
  have h2 := h.2
  rw [Bool.not_eq_true', List.any_eq_false] at h2
  simpa using h2 r hr
theorem atom_small {a : Fct} (h : validA a = true) : a.n.size ≤ 1000 ∧ a.a.size ≤ 1000 ∧ a.b.size ≤ 1000 := by
  obtain ⟨h1, h2, h3⟩ := validA_iff.1 h
  have := (isName_size h1).2
  have := (isName_size h2).2
  have := (isName_size h3).2
  omega
set_option maxRecDepth 100000 in
set_option maxHeartbeats 4000000 in
theorem refFormat_any (l : List Rul) (v : Value) (w : World) (hv : tRuls.rv (mem w) [v] l) :
    Calls Tryz.prog 6 #[v] w fun e w' => ∃ s, e = .returned (.string s) ∧ bl s = fmtL l ∧ Below w.heap.size w w' := by
  have HP := Lib.hid (refProgram_any l v w hv)
  obtain ⟨a, cap, rfl, hlc, hm, hv⟩ := slice_form hv
  have hcap : cap ≤ 9223372036854775807 := by unfold maxLen at hm; exact hm
  have HV := Lib.hid (fun wr (hb : Below w.heap.size w wr) => tRuls.mono _ _ _ _ (below_mem hb) hv)
  clear hm hv
  go_enter Tryz.func6, Tryz.ntmps6
  go_wp2_with fail
  refine HP.out.mono ?_
  rintro e w1 ⟨rfl, hb1⟩
  have HB1 := Lib.hid hb1
  clear hb1 HP
  cases hp : validP l with
  | false =>
    have HE := Lib.hid (show bl (.empty : ByteArray) = fmtL l from by unfold fmtL; rw [hp]; rfl)
    go_wp2
    go_ret
    exact ⟨_, rfl, HE.out, HB1.out⟩
  | true =>
  have HA := Lib.hid (validP_atoms hp)
  have HF := Lib.hid (show fmtL l = progL l from by unfold fmtL; rw [if_pos hp])
  have HL12 := Lib.hid (show l.length ≤ 12 from by unfold validP at hp; rw [Bool.and_eq_true] at hp; exact of_decide_eq_true hp.1)
  clear hp
  go_wp2_with fail
  go_loopw [3, 4] (fun sv i wr => ∃ (k : Nat) (s : ByteArray), k ≤ l.length ∧ i = .int .i64 k ∧ sv = .string s ∧ Hid (bl s = progL (l.take k)) ∧ Hid (Below w.heap.size w wr)) (fun _ i _ => l.length - (intOf i).toNat)
  case atStart => exact ⟨0, .empty, by omega, rfl, rfl, Lib.hid rfl, HB1⟩
  case round =>
    obtain ⟨k, s, hk, rfl, rfl, HS, HB⟩ := hrel
    by_cases hlt : k < l.length
    · obtain ⟨W1, hW1⟩ : ∃ W1, W1 = wr := ⟨_, rfl⟩
      subst hW1
      obtain ⟨b, o, bv, rfl, ⟨q0, q1, q2, q3⟩, -, hbd⟩ := ruls_at (HV.out _ HB.out) hlt
      have c0 : W1.cell? ⟨b, o + k * 4, none⟩ = some (.string l[k].hd.n) := q0
      have c1 : W1.cell? ⟨b, o + k * 4 + 1, none⟩ = some (.string l[k].hd.a) := q1
      have c2 : W1.cell? ⟨b, o + k * 4 + 2, none⟩ = some (.string l[k].hd.b) := q2
      have c3 : W1.cell? ⟨b, o + k * 4 + 3, none⟩ = some bv := q3
      obtain ⟨hh, hba, -, hb33⟩ := validR_atoms (HA.out _ (List.getElem_mem hlt))
      have HW := Lib.hid (fun w' => refWritten_any l[k].hd w' (atom_small hh))
      have HBA := Lib.hid hba
      have HHV := Lib.hid hh
      have HB33 := Lib.hid hb33
      have HPT := Lib.hid (progL_take hlt)
      have HWB := Lib.hid (writtenB_bl l[k].hd)
      obtain ⟨ab, cb, rfl, hb1, hb2, hbd⟩ := slice_form hbd
      have hcb : cb ≤ 9223372036854775807 := by unfold maxLen at hb2; exact hb2
      have HD := Lib.hid (fun wr (hb : Below W1.heap.size W1 wr) => tFcts.mono _ _ _ _ (below_mem hb) hbd)
      have HC := Lib.hid (fun (wr : World) (hb : Below W1.heap.size W1 wr) => (show wr.cell? ⟨b, o + k * 4 + 3, none⟩ = some (.slice ab l[k].bd.length cb) from below_mem hb _ _ _ c3))
      clear q0 q1 q2 q3 hbd hb2 hh hba hb33
      generalize l[k] = r at *
      obtain ⟨⟨r1, r2, r3⟩, bd⟩ := r
      simp only at c0 c1 c2 c3 hb1 HC HD HW HWB HBA HHV HB33
      go_wp2_with fail
      refine (HW.out W1).mono ?_
      rintro e w2 ⟨rfl, hb2⟩
      have HB2 := Lib.hid hb2
      have HS2 := Lib.hid (show bl (s ++ writtenB ⟨r1, r2, r3⟩ ++ ⟨#[32, 60, 45, 32]⟩) = progL (l.take k) ++ (atomL ⟨r1, r2, r3⟩ ++ [32, 60, 45, 32]) from by rw [bl_append, bl_append, HS.out, HWB.out, List.append_assoc]; rfl)
      have hsz : s.size ≤ 2628 := by
        have h1 := progL_len (l.take k) (fun r hr => HA.out r (List.mem_of_mem_take hr))
        rw [← HS.out, List.length_take] at h1
        have h2 : (bl s).length = s.size := rfl
        have := HL12.out
        omega
      have hwz : (writtenB ⟨r1, r2, r3⟩).size ≤ 52 := by
        have h1 := atomL_len HHV.out
        rw [← HWB.out] at h1
        exact h1
      clear hb2 HW c0 c1 c2 c3
      generalize writtenB ⟨r1, r2, r3⟩ = wt at *
      go_wp2_with fail
      go_loopw [3, 5] (fun sv i wr => ∃ (m : Nat) (t : ByteArray), m ≤ bd.length ∧ i = .int .i64 m ∧ sv = .string t ∧ Hid (bl t = progL (l.take k) ++ (atomL ⟨r1, r2, r3⟩ ++ [32, 60, 45, 32]) ++ bodyL (bd.take m)) ∧ Hid (Below W1.heap.size W1 wr)) (fun _ i _ => bd.length - (intOf i).toNat)
      case atStart => exact ⟨0, _, by omega, rfl, rfl, Lib.hid (by rw [List.take_zero]; show _ = _ ++ []; rw [List.append_nil]; exact HS2.out), HB2⟩
      case round =>
        obtain ⟨m, t, hm, rfl, rfl, HT, HB3⟩ := hrel
        have g3 := HC.out wr HB3.out
        have hblen := HB33.out
        by_cases hlt2 : m < bd.length
        · obtain ⟨x, y, rfl, ⟨t0, t1, t2⟩, -⟩ := fcts_at (HD.out wr HB3.out) hlt2
          have p0 : wr.cell? ⟨x, y + m * 3, none⟩ = some (.string bd[m].n) := t0
          have p1 : wr.cell? ⟨x, y + m * 3 + 1, none⟩ = some (.string bd[m].a) := t1
          have p2 : wr.cell? ⟨x, y + m * 3 + 2, none⟩ = some (.string bd[m].b) := t2
          have hva := HBA.out _ (List.getElem_mem hlt2)
          have HW2 := Lib.hid (refWritten_any bd[m] wr (atom_small hva))
          have HTK := Lib.hid (bodyL_take hlt2)
          have HWB2 := Lib.hid (writtenB_bl bd[m])
          have htz : t.size ≤ 5000 := by
            have h1 := congrArg List.length HT.out
            rw [← HS2.out, List.length_append] at h1
            have h3 := bodyL_len (bd.take m) (fun z hz => HBA.out z (List.mem_of_mem_take hz))
            rw [List.length_take] at h3
            have h4 : (bl (s ++ wt ++ ⟨#[32, 60, 45, 32]⟩)).length = s.size + wt.size + 4 := by rw [bl_append, bl_append, List.length_append, List.length_append]; rfl
            have h5 : (bl t).length = t.size := rfl
            omega
          have hwz2 : (writtenB bd[m]).size ≤ 52 := by
            have h1 := atomL_len hva
            rw [← HWB2.out] at h1
            exact h1
          clear t0 t1 t2 hva
          generalize bd[m] = z at *
          generalize writtenB z = zt at *
          obtain ⟨z1, z2, z3⟩ := z
          simp only at p0 p1 p2
          by_cases hm0 : m = 0
          · subst hm0
            simp only [Nat.zero_mul, Nat.add_zero] at p0 p1 p2
            have HN := Lib.hid (show bl (t ++ zt) = progL (l.take k) ++ (atomL ⟨r1, r2, r3⟩ ++ [32, 60, 45, 32]) ++ bodyL (bd.take (0 + 1)) from by rw [bl_append, HT.out, HTK.out, HWB2.out, if_pos rfl]; simp [bodyL])
            go_wp2_with fail
            refine HW2.out.mono ?_
            rintro e w4 ⟨rfl, hb4⟩
            have HB4 := Lib.hid (pure_trans HB3.out hb4)
            clear hb4 HW2
            go_wp2
            go_roundw
            case rel => exact ⟨0 + 1, _, by omega, by go_num, rfl, HN, HB4⟩
            case measure => simp [intOf]; omega
          · have HN := Lib.hid (show bl (t ++ ⟨#[44, 32]⟩ ++ zt) = progL (l.take k) ++ (atomL ⟨r1, r2, r3⟩ ++ [32, 60, 45, 32]) ++ bodyL (bd.take (m + 1)) from by rw [bl_append, bl_append, HT.out, HTK.out, HWB2.out, if_neg hm0]; simp [bl])
            go_wp2_with fail
            refine HW2.out.mono ?_
            rintro e w4 ⟨rfl, hb4⟩
            have HB4 := Lib.hid (pure_trans HB3.out hb4)
            clear hb4 HW2
            go_wp2
            go_roundw
            case rel => exact ⟨m + 1, _, by omega, by go_num, rfl, HN, HB4⟩
            case measure => simp [intOf]; omega
        · obtain rfl : m = bd.length := by omega
          rw [List.take_length] at HT
          have htz : t.size ≤ 5000 := by
            have h1 := congrArg List.length HT.out
            rw [← HS2.out, List.length_append] at h1
            have h3 := bodyL_len bd HBA.out
            have h4 : (bl (s ++ wt ++ ⟨#[32, 60, 45, 32]⟩)).length = s.size + wt.size + 4 := by rw [bl_append, bl_append, List.length_append, List.length_append]; rfl
            have h5 : (bl t).length = t.size := rfl
            omega
          have HN := Lib.hid (show bl (t ++ ⟨#[10]⟩) = progL (l.take (k + 1)) from by rw [bl_append, HT.out, HPT.out]; unfold ruleL; simp [bl])
          have HB4 := Lib.hid (pure_trans HB.out HB3.out)
          go_wp2
          exact ⟨⟨k + 1, _, by omega, by go_num, rfl, HN, HB4⟩, by simp [intOf]; omega⟩
    · obtain rfl : k = l.length := by omega
      rw [List.take_length] at HS
      have HE := Lib.hid (HS.out.trans HF.out.symm)
      go_wp2
      go_ret
      exact ⟨_, rfl, HE.out, HB.out⟩
end Go.Proofs.YtafeaeaildfohaaGreatDoor
/- Texts of a row of the call's own: append of one, one written anew (XWords' part, seat-free). -/
namespace Go.Proofs.YtafeaeaildfohaaGreatDoor
open Go.RowKit

theorem Tryz.infoStr2 : (Tryz.prog.info? 9).map (fun i => (i.zero, i.size, i.bytes)) = some (some (.string ⟨#[]⟩), tStr.sz, 16) := by kernel_rfl
/-- Append of one text. -/
theorem wpList_append_str2 {P : Program} {ops : Array Oper} {rest : List Oper} {o : Oper} {a : Act} {Q : Exit → Act → World → Prop} {w : World} (hgd : o.guard = none) (s x : Operand) (T : TypeId)
    (ho : o.op = .call { callee := .builtin .append, args := #[s, x], argTypes := #[T, T] }) {e : TypeId} (hT : P.underlying T = some (.slice e))
    (hinf : (P.info? e).map (fun i => (i.zero, i.size, i.bytes)) = some (some (.string ⟨#[]⟩), tStr.sz, 16)) (B : Nat) (v : Value) (xs : List ByteArray) (hs : a.eval s = v) (hown : Owns tStr w B e v xs)
    (nb c : Nat) (y : ByteArray) (hx : a.eval x = .slice (some ⟨nb, 0, none⟩) 1 c) (hc : w.cell? ⟨nb, 0, none⟩ = some (.string y)) (hin : y.size ≤ maxLen) (hlen : xs.length ≤ 1000000000) (hbase : B ≤ w.heap.size)
    (h : ∀ v' w', Owns tStr w' B e v' (xs ++ [y]) → w.grownBy w' v.ownBlock → (v'.ownBlock = v.ownBlock ∨ ∀ k, v'.ownBlock = some k → w.heap.size ≤ k) → wpList P ops Q rest (a.put o.dst v') w') : wpList P ops Q (o :: rest) a w :=
  wpList_append_one hgd s x T ho tStr hT hinf rfl (by decide) B v xs hs hown nb c y hx [.string y] (fun j u hj => by match j, hj with | 0, hj => simp at hj; subst hj; exact hc) ⟨rfl, hin⟩ (fun u hu => by simp at hu; subst hu; rfl) (by unfold maxLen; omega) (by omega) hbase h

/-- An owned row of elements of one cell: where it lies. -/
theorem owns_block {α : Type} {t : Ty α} {w : World} {B : Nat} {e : TypeId} {v : Value} {xs : List α} (h : Owns t w B e v xs) (hpos : 0 < xs.length) :
    ∃ g cap cur, v = .slice (some ⟨g, 0, none⟩) xs.length cap ∧ B ≤ g ∧ w.heap[g]? = some (.cells cur e (0, 0)) ∧ xs.length ≤ cap ∧ cap ≤ maxLen ∧ cur.size = cap * t.sz := by
  obtain ⟨css, h1, ⟨h2, h3⟩, h4, h5⟩ := h
  rcases h3 with ⟨rfl, h6⟩ | ⟨g, cap, cur, rfl, hg, hh, hn, hm, hc, ht⟩
  · omega
  · exact ⟨g, cap, cur, rfl, hg, hh, hn, hm, hc⟩
theorem flat_single (l : List ByteArray) : (l.map (fun x => [Value.string x])).flatten = l.map Value.string := by
  induction l with
  | nil => rfl
  | cons x l ih => rw [List.map_cons, List.flatten_cons, ih]; rfl
/-- One text of an owned row is written anew. -/
theorem owns_set {w : World} {B : Nat} {e : TypeId} {g cap : Nat} {n : Nat} {xs : List ByteArray} (h : Owns tStr w B e (.slice (some ⟨g, 0, none⟩) n cap) xs) {k : Nat} (hk : k < xs.length) {y : ByteArray} (hy : y.size ≤ maxLen) :
    Owns tStr (w.setCell ⟨g, k, none⟩ (.string y)) B e (.slice (some ⟨g, 0, none⟩) n cap) (xs.set k y) := by
  obtain ⟨css, h1, ⟨h2, h3⟩, h4, h5⟩ := h
  rcases h3 with ⟨e1, h6⟩ | ⟨g', cap', cur, e1, hg, hh, hn, hm, hc, ht⟩
  · omega
  injection e1 with e2 e3 e4
  injection e2 with e2
  injection e2 with e5 e6
  subst e5; subst e3; subst e4
  have one : ∀ k (h : k < css.length) (h' : k < xs.length), css[k] = [.string xs[k]] := fun k h h' => (h5 k h h').1
  have hfl : css.flatten = xs.map Value.string := by
    have : css = xs.map (fun x => [Value.string x]) := by
      apply List.ext_getElem (by simp [h1])
      intro i hi hi'
      rw [one i hi (by omega), List.getElem_map]
    rw [this, flat_single]
  have hsz : tStr.sz = 1 := rfl
  have hkc : k < cur.size := by rw [hc, hsz]; omega
  refine ⟨(xs.set k y).map (fun x => [Value.string x]), by simp, ⟨?_, .inr ⟨g, cap, cur.setIfInBounds k (.string y), by rw [List.length_set], hg, ?_, by simpa using hn, hm, by simpa using hc, ?_⟩⟩, fun c hc => ?_, fun j h h' => ?_⟩
  · rw [flat_single, List.length_map, List.length_set, hsz, Nat.mul_one]
  · exact heap_setCell_same w g k cur e (.string y) hh
  · rw [flat_single, hsz, Nat.mul_one, List.length_set, Array.toList_setIfInBounds, List.take_set]
    rw [hsz, Nat.mul_one] at ht
    rw [ht, hfl, List.map_set]
  · obtain ⟨x, _, rfl⟩ := List.mem_map.1 hc; rfl
  · rw [List.getElem_map]
    refine ⟨rfl, ?_⟩
    by_cases e : j = k
    · subst e; rw [List.getElem_set_self]; exact hy
    · rw [List.getElem_set_ne (fun e' => e e'.symm)]
      have h'' : j < xs.length := by simpa using h'
      exact (h5 j (by omega) h'').2
end Go.Proofs.YtafeaeaildfohaaGreatDoor
/- The reference's words (for RingTexts, seat .ZD). -/
namespace Go.Proofs.YtafeaeaildfohaaGreatDoor
open Go.RowKit Go.Maps

theorem bl_app (x s : ByteArray) (k : Nat) (hk : k < s.size) : bl (x ++ s.extract k (k + 1)) = bl x ++ [s[k]] := by
  unfold bl
  have hk' : k < s.data.toList.length := hk
  have e : (s.extract k (k + 1)).data.toList = [s[k]] := by
    rw [Lib.extract_data, show k + 1 - k = 1 by omega, List.drop_eq_getElem_cons hk']
    rfl
  rw [ByteArray.data_append, Array.toList_append, e]
theorem name_cases (c : UInt8) : (nameB c = true ∧ ((97 ≤ (c.toNat : Int) ∧ (c.toNat : Int) ≤ 122) ∨ ((c.toNat : Int) < 97 ∧ 48 ≤ (c.toNat : Int) ∧ (c.toNat : Int) ≤ 57) ∨ ((c.toNat : Int) < 97 ∧ 57 < (c.toNat : Int) ∧ ((c.toNat : Int) == 95) = true)))
    ∨ (nameB c = false ∧ (((c.toNat : Int) < 97 ∧ (c.toNat : Int) < 48 ∧ ((c.toNat : Int) == 95) = false) ∨ ((c.toNat : Int) < 97 ∧ 57 < (c.toNat : Int) ∧ ((c.toNat : Int) == 95) = false) ∨ (122 < (c.toNat : Int) ∧ 57 < (c.toNat : Int) ∧ ((c.toNat : Int) == 95) = false))) := by
  unfold nameB
  generalize c.toNat = n
  by_cases h : (97 ≤ n ∧ n ≤ 122) ∨ (48 ≤ n ∧ n ≤ 57) ∨ n = 95
  · left
    refine ⟨by simp only [Bool.or_eq_true, decide_eq_true_eq]; exact h, ?_⟩
    simp only [beq_iff_eq]
    omega
  · right
    refine ⟨by simp only [Bool.or_eq_false_iff, decide_eq_false_iff_not]; omega, ?_⟩
    simp only [beq_eq_false_iff_ne, ne_eq]
    omega
theorem words_snoc {l : List UInt8} {k : Nat} (hk : k < l.length) : (l.take (k + 1)).foldl wordsF ([], false) = wordsF ((l.take k).foldl wordsF ([], false)) l[k] := by
  rw [List.take_succ_eq_append_getElem hk, List.foldl_append]
  rfl
/-- Behind k bytes: what there is of words; when a word is under way, it is the last one. -/
def WAt (s : ByteArray) (k : Nat) (ws : List ByteArray) (on : Bool) : Prop := ((bl s).take k).foldl wordsF ([], false) = (ws.map bl, on)
theorem WAt.off {s : ByteArray} {k : Nat} {ws : List ByteArray} {on : Bool} (h : WAt s k ws on) (hk : k < s.size) (hn : nameB s[k] = false) : WAt s (k + 1) ws false := by
  unfold WAt at *
  rw [words_snoc (show k < (bl s).length from hk), h]
  unfold wordsF
  rw [if_neg (show ¬ nameB ((bl s)[k]'(show k < (bl s).length from hk)) = true from fun e => by rw [show nameB ((bl s)[k]'(show k < (bl s).length from hk)) = false from hn] at e; cases e)]
theorem WAt.new {s : ByteArray} {k : Nat} {ws : List ByteArray} (h : WAt s k ws false) (hk : k < s.size) (hn : nameB s[k] = true) : WAt s (k + 1) (ws ++ [⟨#[]⟩ ++ s.extract k (k + 1)]) true := by
  unfold WAt at *
  rw [words_snoc (show k < (bl s).length from hk), h]
  unfold wordsF
  rw [if_pos (show nameB ((bl s)[k]'(show k < (bl s).length from hk)) = true from hn)]
  rw [List.map_append, List.map_cons, bl_app _ _ _ hk]
  rfl
theorem WAt.more {s : ByteArray} {k : Nat} {ds : List ByteArray} {cur : ByteArray} (h : WAt s k (ds ++ [cur]) true) (hk : k < s.size) (hn : nameB s[k] = true) : WAt s (k + 1) (ds ++ [cur ++ s.extract k (k + 1)]) true := by
  unfold WAt at *
  rw [words_snoc (show k < (bl s).length from hk), h]
  unfold wordsF
  rw [if_pos (show nameB ((bl s)[k]'(show k < (bl s).length from hk)) = true from hn)]
  simp only [List.map_append, List.map_cons, List.map_nil, List.dropLast_concat, List.getLast?_concat, Option.getD_some, if_true, bl_app _ _ _ hk]
  rfl
theorem words_last : ∀ (l : List UInt8) (a : List (List UInt8)), ((l.foldl wordsF (a, false)).2 = true → (l.foldl wordsF (a, false)).1 ≠ []) := fun l a => by
  have key : ∀ (l : List UInt8) (st : List (List UInt8) × Bool), (st.2 = true → st.1 ≠ []) → ((l.foldl wordsF st).2 = true → (l.foldl wordsF st).1 ≠ []) := fun l => by
    induction l with
    | nil => exact fun st h => h
    | cons c l ih =>
      intro st h
      rw [List.foldl_cons]
      refine ih _ (fun h2 => ?_)
      unfold wordsF at h2 ⊢
      split at h2
      · next hc =>
        rw [if_pos hc]
        simp only
        split <;> simp
      · cases h2
  exact key l _ (fun h => by cases h)
theorem WAt.split {s : ByteArray} {k : Nat} {ws : List ByteArray} (h : WAt s k ws true) : ∃ ds cur, ws = ds ++ [cur] := by
  have := words_last ((bl s).take k) []
  rw [show ((bl s).take k).foldl wordsF ([], false) = (ws.map bl, true) from h] at this
  have hne : ws ≠ [] := fun e => this rfl (by rw [e]; rfl)
  exact ⟨ws.dropLast, ws.getLast hne, (List.dropLast_concat_getLast hne).symm⟩

set_option maxRecDepth 100000 in
set_option maxHeartbeats 4000000 in
theorem refWords_any (s : ByteArray) (w : World) (hs : s.size ≤ 400) :
    Calls Tryz.prog 28 #[.string s] w fun e w' => ∃ ov ws, e = .returned ov ∧ Owns tStr w' w.heap.size 9 ov ws ∧ ws.map bl = wordsL (bl s) ∧ (∀ x ∈ ws, x.size ≤ 400) ∧ ws.length ≤ 400 ∧ Below w.heap.size w w' := by
  have HST := Lib.hid (show WAt s 0 [] false from rfl)
  go_enter Tryz.func28, Tryz.ntmps28
  go_wp2
  go_loopw [3, 4, 5] (fun ov bv i wr => ∃ (k : Nat) (ws : List ByteArray) (on : Bool), k ≤ s.size ∧ i = .int .i64 k ∧ bv = .bool on ∧ Owns tStr wr w.heap.size 9 ov ws ∧ Hid (WAt s k ws on) ∧ Hid (∀ x ∈ ws, x.size ≤ k) ∧ ws.length ≤ k ∧ Hid (Below w.heap.size w wr)) (fun _ _ i _ => s.size - (intOf i).toNat)
  case atStart => exact ⟨0, [], false, by omega, rfl, rfl, Owns.nil _ _ _ _, HST, Lib.hid (by simp), Nat.le_refl _, Lib.hid (Below.refl _ _)⟩
  case round =>
    clear HST
    obtain ⟨k, ws, on, hk, rfl, rfl, hown, HW, HD, hwl, HB⟩ := hrel
    have hws : w.heap.size ≤ wr.heap.size := HB.out.size
    by_cases hlt : k < s.size
    · rcases name_cases s[k] with ⟨hn, hcs⟩ | ⟨hn, hcs⟩
      · have HN := Lib.hid hn
        clear hn
        cases on with
        | false =>
          have HNW := Lib.hid (HW.out.new hlt HN.out)
          have HDN := Lib.hid (show ∀ x ∈ ws ++ [⟨#[]⟩ ++ s.extract k (k + 1)], x.size ≤ k + 1 from fun x hx => by
            rcases List.mem_append.1 hx with hx | hx
            · have := HD.out x hx; omega
            · simp only [List.mem_singleton] at hx; subst hx; rw [ByteArray.size_append, ByteArray.size_extract]; show 0 + _ ≤ _; omega)
          have hwl2 : (ws ++ [(⟨#[]⟩ : ByteArray)]).length = ws.length + 1 := by simp
          clear HW HD
          rcases hcs with ⟨g1, g2⟩ | ⟨g1, g2, g3⟩ | ⟨g1, g2, g3⟩
          all_goals
            go_wp2_with (at_builtin; refine wpList_append_str2 rfl _ _ 30 rfl Tryz.underlying30 Tryz.infoStr2 w.heap.size _ ws rfl (hown.alloc _) _ _ ⟨#[]⟩ rfl (by simp) (by unfold maxLen; decide) (by omega) (by simp; omega) ?_)
            intro v' w3 own3 hgrow _
            have HB3 := Lib.hid ((HB.out.alloc hws _).grown hgrow (by simp; omega) (fun k hk => (hown.lt k hk).1))
            obtain ⟨g, cap, cells, rfl, hg, hh, hc1, hc2, -⟩ := owns_block own3 (by rw [hwl2]; omega)
            obtain ⟨b', o', e', hat⟩ := slice_at own3.rv' (k := ws.length) (by rw [hwl2]; omega)
            injection e' with e'
            injection e' with e2 e3
            subst e2; subst e3
            have hcell0 := (str_at hat).1
            have hcell : w3.cell? ⟨g, ws.length, none⟩ = some (.string ⟨#[]⟩) := by
              have e4 : (ws ++ [(⟨#[]⟩ : ByteArray)])[ws.length]'(by rw [hwl2]; omega) = ⟨#[]⟩ := by simp
              rw [e4] at hcell0
              have e5 : 0 + ws.length * tStr.sz = ws.length := by show 0 + ws.length * 1 = _; omega
              rw [e5] at hcell0
              exact hcell0
            have hfr := frozen_cells hh ws.length
            have hset := owns_set own3 (k := ws.length) (by rw [hwl2]; omega) (y := ⟨#[]⟩ ++ s.extract k (k + 1)) (by rw [ByteArray.size_append, ByteArray.size_extract]; unfold maxLen; show 0 + _ ≤ _; omega)
            have e6 : (ws ++ [(⟨#[]⟩ : ByteArray)]).set ws.length (⟨#[]⟩ ++ s.extract k (k + 1)) = ws ++ [⟨#[]⟩ ++ s.extract k (k + 1)] := by simp
            rw [e6, hwl2] at hset
            have HSET := Lib.hid hset
            rw [hwl2] at hc1 ⊢
            unfold maxLen at hc2
            have HB4 := Lib.hid (show Below w.heap.size w (w3.setCell ⟨g, ws.length, none⟩ (.string (⟨#[]⟩ ++ s.extract k (k + 1)))) from HB3.out.setCell hg _)
            clear hset hat hcell0 hown own3 hh e6 hwl2 hgrow HB3 hg HB
            have s2 : IntKind.i64.wrap ((ws.length : Int) + 1 - 1) = ws.length := by rw [IntWalk.i64_in _ (by omega)]; omega
            have s3 : IntKind.i64.wrap ((k : Int) + 1) = k + 1 := IntWalk.i64_in _ (by omega)
            have s4 : IntKind.i64.wrap (ws.length : Int) = ws.length := IntWalk.i64_in _ (by omega)
            have s5 : ws.length < ws.length + 1 := by omega
            have s6 : (ws.length : Int) < (ws.length : Int) + 1 := by omega
            have s7 : (0 : Int) ≤ ws.length := by omega
            have hsl := fun (wx : World) => run_slice_string (P := Tryz.prog) wx 9 s .i64 .i64 (k : Int) ((k : Int) + 1) Tryz.underlying9 (by omega) (by omega) (by omega)
            have ek : ((k : Int) + 1).toNat = k + 1 := by omega
            simp only [Int.toNat_natCast, ek] at hsl
            clear ek
            obtain ⟨c0, hc0⟩ : ∃ c0, c0 = (⟨#[]⟩ : ByteArray) := ⟨_, rfl⟩
            rw [← hc0] at hcell HSET HB4 HNW HDN
            have hz0 : c0.size = 0 := by rw [hc0]; rfl
            have hno3 : ¬ 9223372036854775807 < c0.size + (min (k + 1) s.size - k) := by omega
            clear hc0 hz0
            go_wp2
            go_still_tail 17, (by kernel_rfl)
            change wpList _ _ _ _ _ w3.drew
            have hcd2 : w3.drew.cell? ⟨g, ws.length, none⟩ = some (.string c0) := hcell
            have hfd2 : w3.drew.frozen? ⟨g, ws.length, none⟩ = false := hfr
            clear hsl s2 s3 s4 s5 s6 s7 hno3
            go_wp2
            go_roundw
            case rel => exact ⟨k + 1, _, true, by omega, by go_num, rfl, HSET.out.drew, HNW, HDN, by simp; omega, Lib.hid HB4.out.drew⟩
            case measure => simp [intOf]; omega
        | true =>
          obtain ⟨ds, cur, rfl⟩ := HW.out.split
          have HNW := Lib.hid (HW.out.more hlt HN.out)
          have hcur : cur.size ≤ k := HD.out cur (by simp)
          have HDN := Lib.hid (show ∀ x ∈ ds ++ [cur ++ s.extract k (k + 1)], x.size ≤ k + 1 from fun x hx => by
            rcases List.mem_append.1 hx with hx | hx
            · have := HD.out x (List.mem_append_left _ hx); omega
            · simp only [List.mem_singleton] at hx; subst hx; rw [ByteArray.size_append, ByteArray.size_extract]; omega)
          have hlen : (ds ++ [cur]).length = ds.length + 1 := by simp
          obtain ⟨g, cap, cells, rfl, hg, hh, hc1, hc2, -⟩ := owns_block hown (by rw [hlen]; omega)
          obtain ⟨b', o', e', hat⟩ := slice_at hown.rv' (k := ds.length) (by rw [hlen]; omega)
          injection e' with e'
          injection e' with e2 e3
          subst e2; subst e3
          have hcell0 := (str_at hat).1
          have hcell : wr.cell? ⟨g, ds.length, none⟩ = some (.string cur) := by
            have e4 : (ds ++ [cur])[ds.length]'(by rw [hlen]; omega) = cur := by simp
            rw [e4] at hcell0
            have e5 : 0 + ds.length * tStr.sz = ds.length := by show 0 + ds.length * 1 = _; omega
            rw [e5] at hcell0
            exact hcell0
          have hfr := frozen_cells hh ds.length
          have hset := owns_set hown (k := ds.length) (by rw [hlen]; omega) (y := cur ++ s.extract k (k + 1)) (by rw [ByteArray.size_append, ByteArray.size_extract]; unfold maxLen; omega)
          have e6 : (ds ++ [cur]).set ds.length (cur ++ s.extract k (k + 1)) = ds ++ [cur ++ s.extract k (k + 1)] := by simp
          rw [e6, hlen] at hset
          have HSET := Lib.hid hset
          have hdl : ds.length + 1 ≤ k := by rw [hlen] at hwl; exact hwl
          rw [hlen] at hc1 ⊢
          unfold maxLen at hc2
          have HB4 := Lib.hid (show Below w.heap.size w (wr.setCell ⟨g, ds.length, none⟩ (.string (cur ++ s.extract k (k + 1)))) from HB.out.setCell hg _)
          clear hset hat hcell0 hown hh e6 hlen HB hg HW HD hwl
          have s2 : IntKind.i64.wrap ((ds.length : Int) + 1 - 1) = ds.length := by rw [IntWalk.i64_in _ (by omega)]; omega
          have s3 : IntKind.i64.wrap ((k : Int) + 1) = k + 1 := IntWalk.i64_in _ (by omega)
          have s4 : IntKind.i64.wrap (ds.length : Int) = ds.length := IntWalk.i64_in _ (by omega)
          have s5 : ds.length < ds.length + 1 := by omega
          have s6 : (ds.length : Int) < (ds.length : Int) + 1 := by omega
          have s7 : (0 : Int) ≤ ds.length := by omega
          have hsl := fun (wx : World) => run_slice_string (P := Tryz.prog) wx 9 s .i64 .i64 (k : Int) ((k : Int) + 1) Tryz.underlying9 (by omega) (by omega) (by omega)
          have ek : ((k : Int) + 1).toNat = k + 1 := by omega
          simp only [Int.toNat_natCast, ek] at hsl
          clear ek
          have hno3 : ¬ 9223372036854775807 < cur.size + (min (k + 1) s.size - k) := by omega
          rcases hcs with ⟨g1, g2⟩ | ⟨g1, g2, g3⟩ | ⟨g1, g2, g3⟩
          all_goals
            go_wp2
            go_still_tail 17, (by kernel_rfl)
            change wpList _ _ _ _ _ wr.drew
            have hcd2 : wr.drew.cell? ⟨g, ds.length, none⟩ = some (.string cur) := hcell
            have hfd2 : wr.drew.frozen? ⟨g, ds.length, none⟩ = false := hfr
            clear hsl s2 s3 s4 s5 s6 s7 hno3
            go_wp2
            go_roundw
            case rel => exact ⟨k + 1, _, true, by omega, by go_num, rfl, HSET.out.drew, HNW, HDN, by simp; omega, Lib.hid HB4.out.drew⟩
            case measure => simp [intOf]; omega
      · have HNW := Lib.hid (HW.out.off hlt hn)
        have HDN := Lib.hid (show ∀ x ∈ ws, x.size ≤ k + 1 from fun x hx => by have := HD.out x hx; omega)
        clear hn HW HD
        rcases hcs with ⟨g1, g2, g3⟩ | ⟨g1, g2, g3⟩ | ⟨g1, g2, g3⟩
        all_goals
          go_wp2
          go_roundw
          case rel => exact ⟨k + 1, ws, false, by omega, by go_num, rfl, hown, HNW, HDN, by omega, HB⟩
          case measure => simp [intOf]; omega
    · obtain rfl : k = s.size := by omega
      have HF := Lib.hid (show ws.map bl = wordsL (bl s) from by
        have h := HW.out
        unfold WAt at h
        rw [List.take_of_length_le (show (bl s).length ≤ s.size from Nat.le_refl _)] at h
        unfold wordsL
        rw [h])
      have HDN := Lib.hid (show ∀ x ∈ ws, x.size ≤ 400 from fun x hx => by have := HD.out x hx; omega)
      obtain ⟨oa, oc, rfl, -⟩ := hown.len
      clear HW HD
      go_wp2
      go_ret
      exact ⟨_, _, rfl, hown, HF.out, HDN.out, by omega, HB.out⟩
end Go.Proofs.YtafeaeaildfohaaGreatDoor
/-
  DERIVED: THE SHELF's CONTRACTS AT THIS DUMP, IN PLAIN WORDS (tools/lay-plain.mjs out of 'TryzShelf.lean', which tools/lay-shelf.mjs wrote): THE SAME DECLARATIONS UNDER THE SAME NAMES: 'import', 'namespace', 'open', 'def', 'theorem' AND NOTHING ELSE: no command of the shelf's: FOR A HAND-IN. Each laying: the table of numbers ('.._ren') and one theorem, a field a fact of the dump's own or the kernel's comparison; each contract: ONE APPLICATION.
-/
namespace Go.Proofs
open Go.Shelf
def Tryz.lays169_ren : Go.Shelf.Ren := ⟨fun | 169 => 60 | n => n, fun | 70 => 91 | 9 => 9 | 0 => 0 | 72 => 94 | 37 => 92 | 127 => 119 | 3 => 3 | 5 => 5 | n => n, fun | n => n⟩
theorem Tryz.lays169 : Go.Proofs.Lays.n169 Tryz.prog Tryz.lays169_ren := {
  mixed := by kernel_rfl
  f169 := Tryz.func60.trans (congrArg some (by kernel_rfl))
  t0 := Tryz.underlying0
  a0 := Tryz.isAgg0
  z0 := Tryz.sizeOf0
  v0 := Tryz.zeroValue0
  t3 := Tryz.underlying3
  a3 := Tryz.isAgg3
  z3 := Tryz.sizeOf3
  v3 := Tryz.zeroValue3
  t9 := Tryz.underlying9
  a9 := Tryz.isAgg9
  z9 := Tryz.sizeOf9
  v9 := Tryz.zeroValue9
  t37 := Tryz.underlying92
  a37 := Tryz.isAgg92
  z37 := Tryz.sizeOf92
  v37 := Tryz.zeroValue92
  t70 := Tryz.underlying91
  a70 := Tryz.isAgg91
  z70 := Tryz.sizeOf91
  v70 := Tryz.zeroValue91
  t72 := Tryz.underlying94
  a72 := Tryz.isAgg94
  z72 := Tryz.sizeOf94
  v72 := Tryz.zeroValue94
  t127 := Tryz.underlying119
  a127 := Tryz.isAgg119
  z127 := Tryz.sizeOf119
  v127 := Tryz.zeroValue119 }
theorem Tryz.Builder_Extra_169 : Builder.Extra Tryz.prog Tryz.lays169_ren := {
  sizeBuilder := by kernel_rfl
  liesBuilder := by kernel_rfl
  t5 := Tryz.underlying5
  a5 := Tryz.isAgg5
  z5 := Tryz.sizeOf5
  v5 := Tryz.zeroValue5
  infoByte := by kernel_rfl
  cellsByte := by kernel_rfl
  sizeByte := by kernel_rfl
  neB5 := by decide }
open Go.RowKit in
/-- (*strings.Builder).String: "String returns the accumulated string.": OF A BUILDER THAT HOLDS AT LEAST ONE BYTE. ✋ THE MODEL FREEZES THOSE BYTES IN THE BUFFER (unsafe.String): a later write INTO them ends the model's run without an answer; a later append BEHIND them goes on. The statement's order of evaluation is drawn: one draw. (LAID: no walk: one application.) -/
theorem Tryz.Builder_String (B b : Nat) (l : List UInt8) (w : World) (h : Lib.IsBuilder 94 5 B b (Lib.byteCells l) w) (h0 : l ≠ []) :
    Calls Tryz.prog 60 #[.pointer (some ⟨b, 0, none⟩)] w fun e w' => e = .returned (.string ⟨l.toArray⟩) ∧ Below B w w' := Any.Builder_String Tryz.lays169 Tryz.Builder_Extra_169 B b l w h h0
open Go.RowKit in
/-- (*strings.Builder).String OF A BUILDER THAT HOLDS NO BYTE: the empty string. (Its buffer is nil, or a row of which it has taken nothing yet; where that row has NO capacity the model lays one new block for unsafe.SliceData's 'some address'.) One draw. (LAID: no walk: one application.) -/
theorem Tryz.Builder_String_empty (B b : Nat) (w : World) (h : Lib.IsBuilder 94 5 B b [] w) (hBw : B ≤ w.heap.size) :
    Calls Tryz.prog 60 #[.pointer (some ⟨b, 0, none⟩)] w fun e w' => e = .returned (.string ⟨#[]⟩) ∧ Below B w w' := Any.Builder_String_empty Tryz.lays169 Tryz.Builder_Extra_169 B b w h hBw
open Go.RowKit in
/-- (*strings.Builder).String: "String returns the accumulated string.": WHATEVER THE BUILDER HOLDS. (LAID: no walk: one application.) -/
theorem Tryz.Builder_String_any (B b : Nat) (l : List UInt8) (w : World) (h : Lib.IsBuilder 94 5 B b (Lib.byteCells l) w) (hBw : B ≤ w.heap.size) :
    Calls Tryz.prog 60 #[.pointer (some ⟨b, 0, none⟩)] w fun e w' => e = .returned (.string ⟨l.toArray⟩) ∧ Below B w w' := Any.Builder_String_any Tryz.lays169 Tryz.Builder_Extra_169 B b l w h hBw
def Tryz.lays241_ren : Go.Shelf.Ren := ⟨fun | 241 => 82 | 277 => 104 | n => n, fun | 70 => 91 | 3 => 3 | 0 => 0 | 72 => 94 | 37 => 92 | 5 => 5 | n => n, fun | n => n⟩
theorem Tryz.lays241 : Go.Proofs.Lays.n241 Tryz.prog Tryz.lays241_ren := {
  mixed := by kernel_rfl
  f241 := Tryz.func82.trans (congrArg some (by kernel_rfl))
  f277 := Tryz.func104.trans (congrArg some (by kernel_rfl))
  t0 := Tryz.underlying0
  a0 := Tryz.isAgg0
  z0 := Tryz.sizeOf0
  v0 := Tryz.zeroValue0
  t3 := Tryz.underlying3
  a3 := Tryz.isAgg3
  z3 := Tryz.sizeOf3
  v3 := Tryz.zeroValue3
  t37 := Tryz.underlying92
  a37 := Tryz.isAgg92
  z37 := Tryz.sizeOf92
  v37 := Tryz.zeroValue92
  t70 := Tryz.underlying91
  a70 := Tryz.isAgg91
  z70 := Tryz.sizeOf91
  v70 := Tryz.zeroValue91
  t72 := Tryz.underlying94
  a72 := Tryz.isAgg94
  z72 := Tryz.sizeOf94
  v72 := Tryz.zeroValue94 }
theorem Tryz.Builder_Extra_241 : Builder.Extra Tryz.prog Tryz.lays241_ren := {
  sizeBuilder := by kernel_rfl
  liesBuilder := by kernel_rfl
  t5 := Tryz.underlying5
  a5 := Tryz.isAgg5
  z5 := Tryz.sizeOf5
  v5 := Tryz.zeroValue5
  infoByte := by kernel_rfl
  cellsByte := by kernel_rfl
  sizeByte := by kernel_rfl
  neB5 := by decide }
open Go.RowKit in
/-- (*strings.Builder).grow (no doc but "grow copies the buffer to a new, larger buffer so that there are at least n bytes of capacity beyond len(b.buf)."): AT A BUILDER WITHOUT A BUFFER: a new row of whatever bytes for its buffer, none of them its own yet. Three draws. (LAID: no walk: one application.) -/
theorem Tryz.Builder_grow_fresh (B b n : Nat) (w : World) (hB : B ≤ b) (hbk : w.heap[b]? = some (.cells #[.pointer (some ⟨b, 0, none⟩), .slice none 0 0] 94 (0, 0))) (hBw : B ≤ w.heap.size) (hn : n ≤ 281474976710656) :
    Calls Tryz.prog 82 #[.pointer (some ⟨b, 0, none⟩), .int .i64 n] w fun e w' => e = .returned (.tuple #[]) ∧ (Lib.BuilderAt 94 5 B b (.pointer (some ⟨b, 0, none⟩)) [] w' ∧ Below B w w') := Any.Builder_grow_fresh Tryz.lays241 Tryz.Builder_Extra_241 B b n w hB hbk hBw hn
def Tryz.lays165_ren : Go.Shelf.Ren := ⟨fun | 165 => 58 | 240 => 81 | 241 => 82 | 276 => 103 | 277 => 104 | n => n, fun | 70 => 91 | 3 => 3 | 0 => 0 | 4 => 4 | 9 => 9 | 20 => 20 | 72 => 94 | 37 => 92 | 164 => 136 | 5 => 5 | n => n, fun | n => n⟩
theorem Tryz.lays165 : Go.Proofs.Lays.n165 Tryz.prog Tryz.lays165_ren := {
  mixed := by kernel_rfl
  f165 := Tryz.func58.trans (congrArg some (by kernel_rfl))
  f240 := Tryz.func81.trans (congrArg some (by kernel_rfl))
  f241 := Tryz.func82.trans (congrArg some (by kernel_rfl))
  f276 := Tryz.func103.trans (congrArg some (by kernel_rfl))
  f277 := Tryz.func104.trans (congrArg some (by kernel_rfl))
  t0 := Tryz.underlying0
  a0 := Tryz.isAgg0
  z0 := Tryz.sizeOf0
  v0 := Tryz.zeroValue0
  t3 := Tryz.underlying3
  a3 := Tryz.isAgg3
  z3 := Tryz.sizeOf3
  v3 := Tryz.zeroValue3
  t4 := Tryz.underlying4
  a4 := Tryz.isAgg4
  z4 := Tryz.sizeOf4
  v4 := Tryz.zeroValue4
  t9 := Tryz.underlying9
  a9 := Tryz.isAgg9
  z9 := Tryz.sizeOf9
  v9 := Tryz.zeroValue9
  t20 := Tryz.underlying20
  a20 := Tryz.isAgg20
  z20 := Tryz.sizeOf20
  v20 := Tryz.zeroValue20
  t37 := Tryz.underlying92
  a37 := Tryz.isAgg92
  z37 := Tryz.sizeOf92
  v37 := Tryz.zeroValue92
  t70 := Tryz.underlying91
  a70 := Tryz.isAgg91
  z70 := Tryz.sizeOf91
  v70 := Tryz.zeroValue91
  t72 := Tryz.underlying94
  a72 := Tryz.isAgg94
  z72 := Tryz.sizeOf94
  v72 := Tryz.zeroValue94
  t164 := Tryz.underlying136
  a164 := Tryz.isAgg136
  z164 := Tryz.sizeOf136
  v164 := Tryz.zeroValue136 }
theorem Tryz.Builder_Extra_165 : Builder.Extra Tryz.prog Tryz.lays165_ren := {
  sizeBuilder := by kernel_rfl
  liesBuilder := by kernel_rfl
  t5 := Tryz.underlying5
  a5 := Tryz.isAgg5
  z5 := Tryz.sizeOf5
  v5 := Tryz.zeroValue5
  infoByte := by kernel_rfl
  cellsByte := by kernel_rfl
  sizeByte := by kernel_rfl
  neB5 := by decide }
open Go.RowKit in
/-- (*strings.Builder).Grow AT A BUILDER THAT HAS NOT BEEN WRITTEN ('var b strings.Builder; b.Grow(n)'): "Grow grows b's capacity, if necessary, to guarantee space for another n bytes.": it holds no byte behind it as before it. (LAID: no walk: one application.) -/
theorem Tryz.Builder_Grow_fresh (B b n : Nat) (w : World) (hB : B ≤ b) (hbk : w.heap[b]? = some (.cells #[.pointer none, .slice none 0 0] 94 (0, 0))) (hBw : B ≤ w.heap.size) (hn : n ≤ 281474976710656) :
    Calls Tryz.prog 58 #[.pointer (some ⟨b, 0, none⟩), .int .i64 n] w fun e w' => e = .returned (.tuple #[]) ∧ (Lib.BuilderAt 94 5 B b (.pointer (some ⟨b, 0, none⟩)) [] w' ∧ Below B w w') := Any.Builder_Grow_fresh Tryz.lays165 Tryz.Builder_Extra_165 B b n w hB hbk hBw hn
def Tryz.lays156_ren : Go.Shelf.Ren := ⟨fun | 156 => 35 | 165 => 58 | 166 => 59 | 169 => 60 | 240 => 81 | 241 => 82 | 276 => 103 | 277 => 104 | n => n, fun | 31 => 30 | 9 => 9 | 3 => 3 | 4 => 4 | 0 => 0 | 20 => 20 | 72 => 94 | 76 => 98 | 70 => 91 | 37 => 92 | 75 => 97 | 127 => 119 | 164 => 136 | 5 => 5 | 80 => 100 | n => n, fun | n => n⟩
theorem Tryz.lays156 : Go.Proofs.Lays.n156 Tryz.prog Tryz.lays156_ren := {
  mixed := by kernel_rfl
  f156 := Tryz.func35.trans (congrArg some (by kernel_rfl))
  f165 := Tryz.func58.trans (congrArg some (by kernel_rfl))
  f166 := Tryz.func59.trans (congrArg some (by kernel_rfl))
  f169 := Tryz.func60.trans (congrArg some (by kernel_rfl))
  f240 := Tryz.func81.trans (congrArg some (by kernel_rfl))
  f241 := Tryz.func82.trans (congrArg some (by kernel_rfl))
  f276 := Tryz.func103.trans (congrArg some (by kernel_rfl))
  f277 := Tryz.func104.trans (congrArg some (by kernel_rfl))
  t0 := Tryz.underlying0
  a0 := Tryz.isAgg0
  z0 := Tryz.sizeOf0
  v0 := Tryz.zeroValue0
  t3 := Tryz.underlying3
  a3 := Tryz.isAgg3
  z3 := Tryz.sizeOf3
  v3 := Tryz.zeroValue3
  t4 := Tryz.underlying4
  a4 := Tryz.isAgg4
  z4 := Tryz.sizeOf4
  v4 := Tryz.zeroValue4
  t9 := Tryz.underlying9
  a9 := Tryz.isAgg9
  z9 := Tryz.sizeOf9
  v9 := Tryz.zeroValue9
  t20 := Tryz.underlying20
  a20 := Tryz.isAgg20
  z20 := Tryz.sizeOf20
  v20 := Tryz.zeroValue20
  t31 := Tryz.underlying30
  a31 := Tryz.isAgg30
  z31 := Tryz.sizeOf30
  v31 := Tryz.zeroValue30
  t37 := Tryz.underlying92
  a37 := Tryz.isAgg92
  z37 := Tryz.sizeOf92
  v37 := Tryz.zeroValue92
  t70 := Tryz.underlying91
  a70 := Tryz.isAgg91
  z70 := Tryz.sizeOf91
  v70 := Tryz.zeroValue91
  t72 := Tryz.underlying94
  a72 := Tryz.isAgg94
  z72 := Tryz.sizeOf94
  v72 := Tryz.zeroValue94
  t75 := Tryz.underlying97
  a75 := Tryz.isAgg97
  z75 := Tryz.sizeOf97
  v75 := Tryz.zeroValue97
  t76 := Tryz.underlying98
  a76 := Tryz.isAgg98
  z76 := Tryz.sizeOf98
  v76 := Tryz.zeroValue98
  t127 := Tryz.underlying119
  a127 := Tryz.isAgg119
  z127 := Tryz.sizeOf119
  v127 := Tryz.zeroValue119
  t164 := Tryz.underlying136
  a164 := Tryz.isAgg136
  z164 := Tryz.sizeOf136
  v164 := Tryz.zeroValue136 }
theorem Tryz.Builder_Extra_156 : Builder.Extra Tryz.prog Tryz.lays156_ren := {
  sizeBuilder := by kernel_rfl
  liesBuilder := by kernel_rfl
  t5 := Tryz.underlying5
  a5 := Tryz.isAgg5
  z5 := Tryz.sizeOf5
  v5 := Tryz.zeroValue5
  infoByte := by kernel_rfl
  cellsByte := by kernel_rfl
  sizeByte := by kernel_rfl
  neB5 := by decide }
open Go.RowKit in
/-- No element: the empty string; the world is as it was. (Whatever the slice's address and capacity: a nil slice too.) (LAID: no walk: one application.) -/
theorem Tryz.strings_Join_none (a : Option Addr) (c : Nat) (sep : ByteArray) (w : World) :
    Calls Tryz.prog 35 #[.slice a 0 c, .string sep] w fun e w' => e = .returned (.string ⟨#[]⟩) ∧ w' = w := Any.strings_Join_none Tryz.lays156 Tryz.Builder_Extra_156 a c sep w
open Go.RowKit in
/-- strings.Join: "Join concatenates the elements of its first argument to create a single string. The separator string sep is placed between elements in the resulting string.": HOWEVER MANY ELEMENTS. Below the heap's end the world is as it was. (LAID: no walk: one application.) -/
theorem Tryz.strings_Join (bk o c : Nat) (xs : List ByteArray) (sep : ByteArray) (w : World) (hcells : ∀ (j : Nat) x, xs[j]? = some x → w.cell? ⟨bk, o + j, none⟩ = some (.string x)) (hbk : bk < w.heap.size) (hN : xs.length ≤ 140737488355328) (hcap : xs.length ≤ c) (hlen : (Lib.join (xs.map (·.data.toList)) sep.data.toList).length ≤ 140737488355328) :
    Calls Tryz.prog 35 #[.slice (some ⟨bk, o, none⟩) xs.length c, .string sep] w fun e w' => e = .returned (.string ⟨(Lib.join (xs.map (·.data.toList)) sep.data.toList).toArray⟩) ∧ Below w.heap.size w w' := Any.strings_Join Tryz.lays156 Tryz.Builder_Extra_156 bk o c xs sep w hcells hbk hN hcap hlen
def Tryz.lays128_ren : Go.Shelf.Ren := ⟨fun | 128 => 93 | n => n, fun | 51 => 128 | 3 => 3 | 4 => 4 | 46 => 104 | 5 => 5 | 9 => 9 | n => n, fun | n => n⟩
theorem Tryz.lays128 : Go.Proofs.Lays.n128 Tryz.prog Tryz.lays128_ren := {
  mixed := by kernel_rfl
  f128 := Tryz.func93.trans (congrArg some (by kernel_rfl))
  t3 := Tryz.underlying3
  a3 := Tryz.isAgg3
  z3 := Tryz.sizeOf3
  v3 := Tryz.zeroValue3
  t4 := Tryz.underlying4
  a4 := Tryz.isAgg4
  z4 := Tryz.sizeOf4
  v4 := Tryz.zeroValue4
  t5 := Tryz.underlying5
  a5 := Tryz.isAgg5
  z5 := Tryz.sizeOf5
  v5 := Tryz.zeroValue5
  t9 := Tryz.underlying9
  a9 := Tryz.isAgg9
  z9 := Tryz.sizeOf9
  v9 := Tryz.zeroValue9
  t46 := Tryz.underlying104
  a46 := Tryz.isAgg104
  z46 := Tryz.sizeOf104
  v46 := Tryz.zeroValue104
  t51 := Tryz.underlying128
  a51 := Tryz.isAgg128
  z51 := Tryz.sizeOf128
  v51 := Tryz.zeroValue128 }
/-- bits.Len32: "Len32 returns the minimum number of bits required to represent x; the result is 0 for x == 0.": IT RETURNS 'Lib.bitLen x'; the world is as it was. ('h0', 'h1': x is a uint32.) (LAID: no walk: one application.) -/
theorem Tryz.bits_Len32 (x : Int) (w : World) (h0 : 0 ≤ x) (h1 : x ≤ 4294967295) :
    Calls Tryz.prog 93 #[.int .u32 x] w fun e w' => e = .returned (.int .i64 (Lib.bitLen x.toNat)) ∧ w' = w := Any.bits_Len32 Tryz.lays128 x w h0 h1
def Tryz.lays125_ren : Go.Shelf.Ren := ⟨fun | 125 => 64 | 128 => 93 | 129 => 94 | n => n, fun | 46 => 104 | 3 => 3 | 51 => 128 | 53 => 130 | 4 => 4 | 5 => 5 | 9 => 9 | n => n, fun | n => n⟩
theorem Tryz.lays125 : Go.Proofs.Lays.n125 Tryz.prog Tryz.lays125_ren := {
  mixed := by kernel_rfl
  f125 := Tryz.func64.trans (congrArg some (by kernel_rfl))
  f128 := Tryz.func93.trans (congrArg some (by kernel_rfl))
  f129 := Tryz.func94.trans (congrArg some (by kernel_rfl))
  t3 := Tryz.underlying3
  a3 := Tryz.isAgg3
  z3 := Tryz.sizeOf3
  v3 := Tryz.zeroValue3
  t4 := Tryz.underlying4
  a4 := Tryz.isAgg4
  z4 := Tryz.sizeOf4
  v4 := Tryz.zeroValue4
  t5 := Tryz.underlying5
  a5 := Tryz.isAgg5
  z5 := Tryz.sizeOf5
  v5 := Tryz.zeroValue5
  t9 := Tryz.underlying9
  a9 := Tryz.isAgg9
  z9 := Tryz.sizeOf9
  v9 := Tryz.zeroValue9
  t46 := Tryz.underlying104
  a46 := Tryz.isAgg104
  z46 := Tryz.sizeOf104
  v46 := Tryz.zeroValue104
  t51 := Tryz.underlying128
  a51 := Tryz.isAgg128
  z51 := Tryz.sizeOf128
  v51 := Tryz.zeroValue128
  t53 := Tryz.underlying130
  a53 := Tryz.isAgg130
  z53 := Tryz.sizeOf130
  v53 := Tryz.zeroValue130 }
/-- bits.Len: "Len returns the minimum number of bits required to represent x; the result is 0 for x == 0.": IT RETURNS 'Lib.bitLen x'; the world is as it was. (A uint has 64 bits in the model.) ITS CALLEE bits.Len64 IS MET BY ITS OWN CONTRACT OFF THE SHELF (lay that first). (LAID: no walk: one application.) -/
theorem Tryz.bits_Len (x : Int) (w : World) (h0 : 0 ≤ x) (h1 : x ≤ 18446744073709551615) :
    Calls Tryz.prog 64 #[.int .u64 x] w fun e w' => e = .returned (.int .i64 (Lib.bitLen x.toNat)) ∧ w' = w := Any.bits_Len Tryz.lays125 x w h0 h1
def Tryz.lays129_ren : Go.Shelf.Ren := ⟨fun | 129 => 94 | n => n, fun | 53 => 130 | 3 => 3 | 4 => 4 | 46 => 104 | 5 => 5 | 9 => 9 | n => n, fun | n => n⟩
theorem Tryz.lays129 : Go.Proofs.Lays.n129 Tryz.prog Tryz.lays129_ren := {
  mixed := by kernel_rfl
  f129 := Tryz.func94.trans (congrArg some (by kernel_rfl))
  t3 := Tryz.underlying3
  a3 := Tryz.isAgg3
  z3 := Tryz.sizeOf3
  v3 := Tryz.zeroValue3
  t4 := Tryz.underlying4
  a4 := Tryz.isAgg4
  z4 := Tryz.sizeOf4
  v4 := Tryz.zeroValue4
  t5 := Tryz.underlying5
  a5 := Tryz.isAgg5
  z5 := Tryz.sizeOf5
  v5 := Tryz.zeroValue5
  t9 := Tryz.underlying9
  a9 := Tryz.isAgg9
  z9 := Tryz.sizeOf9
  v9 := Tryz.zeroValue9
  t46 := Tryz.underlying104
  a46 := Tryz.isAgg104
  z46 := Tryz.sizeOf104
  v46 := Tryz.zeroValue104
  t53 := Tryz.underlying130
  a53 := Tryz.isAgg130
  z53 := Tryz.sizeOf130
  v53 := Tryz.zeroValue130 }
/-- bits.Len64: "Len64 returns the minimum number of bits required to represent x; the result is 0 for x == 0.": IT RETURNS 'Lib.bitLen x'; the world is as it was. ('h0', 'h1': x is a uint64.) (LAID: no walk: one application.) -/
theorem Tryz.bits_Len64 (x : Int) (w : World) (h0 : 0 ≤ x) (h1 : x ≤ 18446744073709551615) :
    Calls Tryz.prog 94 #[.int .u64 x] w fun e w' => e = .returned (.int .i64 (Lib.bitLen x.toNat)) ∧ w' = w := Any.bits_Len64 Tryz.lays129 x w h0 h1
def Tryz.lays217_ren : Go.Shelf.Ren := ⟨fun | 217 => 95 | 266 => 112 | n => n, fun | 9 => 9 | 5 => 5 | 3 => 3 | n => n, fun | n => n⟩
theorem Tryz.lays217 : Go.Proofs.Lays.n217 Tryz.prog Tryz.lays217_ren := {
  mixed := by kernel_rfl
  f217 := Tryz.func95.trans (congrArg some (by kernel_rfl))
  f266 := Tryz.func112.trans (congrArg some (by kernel_rfl))
  t3 := Tryz.underlying3
  a3 := Tryz.isAgg3
  z3 := Tryz.sizeOf3
  v3 := Tryz.zeroValue3
  t5 := Tryz.underlying5
  a5 := Tryz.isAgg5
  z5 := Tryz.sizeOf5
  v5 := Tryz.zeroValue5
  t9 := Tryz.underlying9
  a9 := Tryz.isAgg9
  z9 := Tryz.sizeOf9
  v9 := Tryz.zeroValue9 }
open Go.RowKit Go.Lib in
/-- internal/stringslite.IndexByte (what strings.IndexByte calls): IT RETURNS 'Lib.indexByte s c'; the world is as it was. (LAID: no walk: one application.) -/
theorem Tryz.stringslite_IndexByte (s : ByteArray) (c : Int) (w : World) :
    Calls Tryz.prog 95 #[.string s, .int .u8 c] w fun e w' => e = .returned (.int .i64 (Lib.indexByte s.data.toList c.toNat.toUInt8)) ∧ w' = w := Any.stringslite_IndexByte Tryz.lays217 s c w
def Tryz.lays224_ren : Go.Shelf.Ren := ⟨fun | 224 => 97 | n => n, fun | 3 => 3 | n => n, fun | n => n⟩
theorem Tryz.lays224 : Go.Proofs.Lays.n224 Tryz.prog Tryz.lays224_ren := {
  mixed := by kernel_rfl
  f224 := Tryz.func97.trans (congrArg some (by kernel_rfl))
  t3 := Tryz.underlying3
  a3 := Tryz.isAgg3
  z3 := Tryz.sizeOf3
  v3 := Tryz.zeroValue3 }
open Go.RowKit Go.Lib in
/-- internal/bytealg.Cutover: "Cutover reports the number of failures of IndexByte we should tolerate before switching over to Index. n is the number of bytes processed so far.": on amd64: (n + 16) / 8. (LAID: no walk: one application.) -/
theorem Tryz.bytealg_Cutover (n : Int) (h0 : 0 ≤ n) (h1 : n < 4611686018427387904) (w : World) :
    Calls Tryz.prog 97 #[.int .i64 n] w fun e w' => e = .returned (.int .i64 ((n + 16) / 8)) ∧ w' = w := Any.bytealg_Cutover Tryz.lays224 n h0 h1 w
def Tryz.lays314_ren : Go.Shelf.Ren := ⟨fun | 314 => 113 | n => n, fun | 9 => 9 | 51 => 128 | 3 => 3 | 4 => 4 | 5 => 5 | 46 => 104 | n => n, fun | n => n⟩
theorem Tryz.lays314 : Go.Proofs.Lays.n314 Tryz.prog Tryz.lays314_ren := {
  mixed := by kernel_rfl
  f314 := Tryz.func113.trans (congrArg some (by kernel_rfl))
  t3 := Tryz.underlying3
  a3 := Tryz.isAgg3
  z3 := Tryz.sizeOf3
  v3 := Tryz.zeroValue3
  t4 := Tryz.underlying4
  a4 := Tryz.isAgg4
  z4 := Tryz.sizeOf4
  v4 := Tryz.zeroValue4
  t5 := Tryz.underlying5
  a5 := Tryz.isAgg5
  z5 := Tryz.sizeOf5
  v5 := Tryz.zeroValue5
  t9 := Tryz.underlying9
  a9 := Tryz.isAgg9
  z9 := Tryz.sizeOf9
  v9 := Tryz.zeroValue9
  t46 := Tryz.underlying104
  a46 := Tryz.isAgg104
  z46 := Tryz.sizeOf104
  v46 := Tryz.zeroValue104
  t51 := Tryz.underlying128
  a51 := Tryz.isAgg128
  z51 := Tryz.sizeOf128
  v51 := Tryz.zeroValue128 }
open Go.RowKit Go.Lib in
/-- hashStr: "returns the hash and the appropriate multiplicative factor for use in Rabin-Karp algorithm": THE HASH OF ALL OF sep, AND 16777619 ^ len(sep), both in uint32. (LAID: no walk: one application.) -/
theorem Tryz.bytealg_hashStr (sep : ByteArray) (hs : sep.size < 4294967281) (w : World) :
    Calls Tryz.prog 113 #[.string sep] w fun e w' => e = .returned (.tuple #[.int .u32 (RK.H sep.data.toList % 4294967296), .int .u32 (16777619 ^ sep.size % 4294967296)]) ∧ w' = w := Any.bytealg_hashStr Tryz.lays314 sep hs w
def Tryz.lays267_ren : Go.Shelf.Ren := ⟨fun | 267 => 98 | 314 => 113 | n => n, fun | 9 => 9 | 3 => 3 | 146 => 147 | 51 => 128 | 4 => 4 | 5 => 5 | 46 => 104 | n => n, fun | n => n⟩
theorem Tryz.lays267 : Go.Proofs.Lays.n267 Tryz.prog Tryz.lays267_ren := {
  mixed := by kernel_rfl
  f267 := Tryz.func98.trans (congrArg some (by kernel_rfl))
  f314 := Tryz.func113.trans (congrArg some (by kernel_rfl))
  t3 := Tryz.underlying3
  a3 := Tryz.isAgg3
  z3 := Tryz.sizeOf3
  v3 := Tryz.zeroValue3
  t4 := Tryz.underlying4
  a4 := Tryz.isAgg4
  z4 := Tryz.sizeOf4
  v4 := Tryz.zeroValue4
  t5 := Tryz.underlying5
  a5 := Tryz.isAgg5
  z5 := Tryz.sizeOf5
  v5 := Tryz.zeroValue5
  t9 := Tryz.underlying9
  a9 := Tryz.isAgg9
  z9 := Tryz.sizeOf9
  v9 := Tryz.zeroValue9
  t46 := Tryz.underlying104
  a46 := Tryz.isAgg104
  z46 := Tryz.sizeOf104
  v46 := Tryz.zeroValue104
  t51 := Tryz.underlying128
  a51 := Tryz.isAgg128
  z51 := Tryz.sizeOf128
  v51 := Tryz.zeroValue128
  t146 := Tryz.underlying147
  a146 := Tryz.isAgg147
  z146 := Tryz.sizeOf147
  v146 := Tryz.zeroValue147 }
open Go.RowKit Go.Lib in
theorem Tryz.bytealg_IndexRabinKarp (s sep : ByteArray) (h1 : 1 ≤ sep.size) (h2 : sep.size ≤ s.size) (hs : s.size < 4294967281) (w : World) :
    Calls Tryz.prog 98 #[.string s, .string sep] w fun e w' => e = .returned (.int .i64 (Lib.index s.data.toList sep.data.toList)) ∧ w' = w := Any.bytealg_IndexRabinKarp Tryz.lays267 s sep h1 h2 hs w
def Tryz.lays219_ren : Go.Shelf.Ren := ⟨fun | 219 => 65 | 217 => 95 | 225 => 96 | 224 => 97 | 267 => 98 | 266 => 112 | 314 => 113 | n => n, fun | 9 => 9 | 3 => 3 | 4 => 4 | 5 => 5 | 46 => 104 | 146 => 147 | 51 => 128 | n => n, fun | 1 => 0 | n => n⟩
theorem Tryz.lays219 : Go.Proofs.Lays.n219 Tryz.prog Tryz.lays219_ren := {
  mixed := by kernel_rfl
  f217 := Tryz.func95.trans (congrArg some (by kernel_rfl))
  f219 := Tryz.func65.trans (congrArg some (by kernel_rfl))
  f224 := Tryz.func97.trans (congrArg some (by kernel_rfl))
  f225 := Tryz.func96.trans (congrArg some (by kernel_rfl))
  f266 := Tryz.func112.trans (congrArg some (by kernel_rfl))
  f267 := Tryz.func98.trans (congrArg some (by kernel_rfl))
  f314 := Tryz.func113.trans (congrArg some (by kernel_rfl))
  t3 := Tryz.underlying3
  a3 := Tryz.isAgg3
  z3 := Tryz.sizeOf3
  v3 := Tryz.zeroValue3
  t4 := Tryz.underlying4
  a4 := Tryz.isAgg4
  z4 := Tryz.sizeOf4
  v4 := Tryz.zeroValue4
  t5 := Tryz.underlying5
  a5 := Tryz.isAgg5
  z5 := Tryz.sizeOf5
  v5 := Tryz.zeroValue5
  t9 := Tryz.underlying9
  a9 := Tryz.isAgg9
  z9 := Tryz.sizeOf9
  v9 := Tryz.zeroValue9
  t46 := Tryz.underlying104
  a46 := Tryz.isAgg104
  z46 := Tryz.sizeOf104
  v46 := Tryz.zeroValue104
  t51 := Tryz.underlying128
  a51 := Tryz.isAgg128
  z51 := Tryz.sizeOf128
  v51 := Tryz.zeroValue128
  t146 := Tryz.underlying147
  a146 := Tryz.isAgg147
  z146 := Tryz.sizeOf147
  v146 := Tryz.zeroValue147
  g1 := by kernel_rfl }
open Go.RowKit Go.Lib in
/-- internal/stringslite.Index (what strings.Index calls) AT A substr OF ONE BYTE c: IT RETURNS 'Lib.indexByte s c'; the world is as it was. (LAID: no walk: one application.) -/
theorem Tryz.stringslite_Index_one (s : ByteArray) (c : UInt8) (w : World) :
    Calls Tryz.prog 65 #[.string s, .string ⟨#[c]⟩] w fun e w' => e = .returned (.int .i64 (Lib.indexByte s.data.toList c)) ∧ w' = w := Any.stringslite_Index_one Tryz.lays219 s c w
open Go.RowKit Go.Lib in
/-- internal/stringslite.Index (what strings.Index calls) AT A substr OF WHATEVER LENGTH: IT RETURNS 'Lib.index s substr'; the world is as it was. 'm': what internal/bytealg.MaxLen holds: whatever. (LAID: no walk: one application.) -/
theorem Tryz.stringslite_Index (s sub : ByteArray) (m : Int) (w : World) (hs : s.size < 4294967281) (hm : w.cell? ⟨0, 0, none⟩ = some (.int .i64 m)) :
    Calls Tryz.prog 65 #[.string s, .string sub] w fun e w' => e = .returned (.int .i64 (Lib.index s.data.toList sub.data.toList)) ∧ w' = w := Any.stringslite_Index Tryz.lays219 s sub m w hs hm
def Tryz.lays143_ren : Go.Shelf.Ren := ⟨fun | 143 => 68 | 219 => 65 | 217 => 95 | 225 => 96 | 224 => 97 | 267 => 98 | 266 => 112 | 314 => 113 | n => n, fun | 9 => 9 | 3 => 3 | 4 => 4 | 5 => 5 | 46 => 104 | 146 => 147 | 51 => 128 | n => n, fun | 1 => 0 | n => n⟩
theorem Tryz.lays143 : Go.Proofs.Lays.n143 Tryz.prog Tryz.lays143_ren := {
  mixed := by kernel_rfl
  f143 := Tryz.func68.trans (congrArg some (by kernel_rfl))
  f217 := Tryz.func95.trans (congrArg some (by kernel_rfl))
  f219 := Tryz.func65.trans (congrArg some (by kernel_rfl))
  f224 := Tryz.func97.trans (congrArg some (by kernel_rfl))
  f225 := Tryz.func96.trans (congrArg some (by kernel_rfl))
  f266 := Tryz.func112.trans (congrArg some (by kernel_rfl))
  f267 := Tryz.func98.trans (congrArg some (by kernel_rfl))
  f314 := Tryz.func113.trans (congrArg some (by kernel_rfl))
  t3 := Tryz.underlying3
  a3 := Tryz.isAgg3
  z3 := Tryz.sizeOf3
  v3 := Tryz.zeroValue3
  t4 := Tryz.underlying4
  a4 := Tryz.isAgg4
  z4 := Tryz.sizeOf4
  v4 := Tryz.zeroValue4
  t5 := Tryz.underlying5
  a5 := Tryz.isAgg5
  z5 := Tryz.sizeOf5
  v5 := Tryz.zeroValue5
  t9 := Tryz.underlying9
  a9 := Tryz.isAgg9
  z9 := Tryz.sizeOf9
  v9 := Tryz.zeroValue9
  t46 := Tryz.underlying104
  a46 := Tryz.isAgg104
  z46 := Tryz.sizeOf104
  v46 := Tryz.zeroValue104
  t51 := Tryz.underlying128
  a51 := Tryz.isAgg128
  z51 := Tryz.sizeOf128
  v51 := Tryz.zeroValue128
  t146 := Tryz.underlying147
  a146 := Tryz.isAgg147
  z146 := Tryz.sizeOf147
  v146 := Tryz.zeroValue147
  g1 := by kernel_rfl }
open Go.RowKit Go.Lib in
/-- strings.Index: "Index returns the index of the first instance of substr in s, or -1 if substr is not present in s.": AT A substr OF ONE BYTE c: IT RETURNS 'Lib.indexByte s c'; the world is as it was. (LAID: no walk: one application.) -/
theorem Tryz.strings_Index_one (s : ByteArray) (c : UInt8) (w : World) :
    Calls Tryz.prog 68 #[.string s, .string ⟨#[c]⟩] w fun e w' => e = .returned (.int .i64 (Lib.indexByte s.data.toList c)) ∧ w' = w := Any.strings_Index_one Tryz.lays143 s c w
open Go.RowKit Go.Lib in
/-- strings.Index: "Index returns the index of the first instance of substr in s, or -1 if substr is not present in s.": IT RETURNS 'Lib.index s substr'; the world is as it was. (LAID: no walk: one application.) -/
theorem Tryz.strings_Index (s sub : ByteArray) (m : Int) (w : World) (hs : s.size < 4294967281) (hm : w.cell? ⟨0, 0, none⟩ = some (.int .i64 m)) :
    Calls Tryz.prog 68 #[.string s, .string sub] w fun e w' => e = .returned (.int .i64 (Lib.index s.data.toList sub.data.toList)) ∧ w' = w := Any.strings_Index Tryz.lays143 s sub m w hs hm
def Tryz.lays220_ren : Go.Shelf.Ren := ⟨fun | 220 => 40 | 219 => 65 | 217 => 95 | 225 => 96 | 224 => 97 | 267 => 98 | 266 => 112 | 314 => 113 | n => n, fun | 9 => 9 | 4 => 4 | 3 => 3 | 5 => 5 | 46 => 104 | 146 => 147 | 51 => 128 | n => n, fun | 1 => 0 | n => n⟩
theorem Tryz.lays220 : Go.Proofs.Lays.n220 Tryz.prog Tryz.lays220_ren := {
  mixed := by kernel_rfl
  f217 := Tryz.func95.trans (congrArg some (by kernel_rfl))
  f219 := Tryz.func65.trans (congrArg some (by kernel_rfl))
  f220 := Tryz.func40.trans (congrArg some (by kernel_rfl))
  f224 := Tryz.func97.trans (congrArg some (by kernel_rfl))
  f225 := Tryz.func96.trans (congrArg some (by kernel_rfl))
  f266 := Tryz.func112.trans (congrArg some (by kernel_rfl))
  f267 := Tryz.func98.trans (congrArg some (by kernel_rfl))
  f314 := Tryz.func113.trans (congrArg some (by kernel_rfl))
  t3 := Tryz.underlying3
  a3 := Tryz.isAgg3
  z3 := Tryz.sizeOf3
  v3 := Tryz.zeroValue3
  t4 := Tryz.underlying4
  a4 := Tryz.isAgg4
  z4 := Tryz.sizeOf4
  v4 := Tryz.zeroValue4
  t5 := Tryz.underlying5
  a5 := Tryz.isAgg5
  z5 := Tryz.sizeOf5
  v5 := Tryz.zeroValue5
  t9 := Tryz.underlying9
  a9 := Tryz.isAgg9
  z9 := Tryz.sizeOf9
  v9 := Tryz.zeroValue9
  t46 := Tryz.underlying104
  a46 := Tryz.isAgg104
  z46 := Tryz.sizeOf104
  v46 := Tryz.zeroValue104
  t51 := Tryz.underlying128
  a51 := Tryz.isAgg128
  z51 := Tryz.sizeOf128
  v51 := Tryz.zeroValue128
  t146 := Tryz.underlying147
  a146 := Tryz.isAgg147
  z146 := Tryz.sizeOf147
  v146 := Tryz.zeroValue147
  g1 := by kernel_rfl }
open Go.RowKit Go.Lib in
/-- internal/stringslite.Cut (what strings.Cut calls): IT RETURNS 'Lib.cut s sep'; the world is as it was but for the count of draws. (LAID: no walk: one application.) -/
theorem Tryz.stringslite_Cut (s sep : ByteArray) (m : Int) (w : World) (hs : s.size < 4294967281) (hm : w.cell? ⟨0, 0, none⟩ = some (.int .i64 m)) :
    Calls Tryz.prog 40 #[.string s, .string sep] w fun e w' => e = .returned (.tuple #[.string ⟨(Lib.cut s.data.toList sep.data.toList).1.toArray⟩, .string ⟨(Lib.cut s.data.toList sep.data.toList).2.1.toArray⟩, .bool (Lib.cut s.data.toList sep.data.toList).2.2]) ∧ ∃ n, w' = w.drewN n := Any.stringslite_Cut Tryz.lays220 s sep m w hs hm
def Tryz.lays145_ren : Go.Shelf.Ren := ⟨fun | 145 => 23 | 220 => 40 | 219 => 65 | 217 => 95 | 225 => 96 | 224 => 97 | 267 => 98 | 266 => 112 | 314 => 113 | n => n, fun | 9 => 9 | 4 => 4 | 59 => 55 | 3 => 3 | 5 => 5 | 46 => 104 | 146 => 147 | 51 => 128 | n => n, fun | 1 => 0 | n => n⟩
theorem Tryz.lays145 : Go.Proofs.Lays.n145 Tryz.prog Tryz.lays145_ren := {
  mixed := by kernel_rfl
  f145 := Tryz.func23.trans (congrArg some (by kernel_rfl))
  f217 := Tryz.func95.trans (congrArg some (by kernel_rfl))
  f219 := Tryz.func65.trans (congrArg some (by kernel_rfl))
  f220 := Tryz.func40.trans (congrArg some (by kernel_rfl))
  f224 := Tryz.func97.trans (congrArg some (by kernel_rfl))
  f225 := Tryz.func96.trans (congrArg some (by kernel_rfl))
  f266 := Tryz.func112.trans (congrArg some (by kernel_rfl))
  f267 := Tryz.func98.trans (congrArg some (by kernel_rfl))
  f314 := Tryz.func113.trans (congrArg some (by kernel_rfl))
  t3 := Tryz.underlying3
  a3 := Tryz.isAgg3
  z3 := Tryz.sizeOf3
  v3 := Tryz.zeroValue3
  t4 := Tryz.underlying4
  a4 := Tryz.isAgg4
  z4 := Tryz.sizeOf4
  v4 := Tryz.zeroValue4
  t5 := Tryz.underlying5
  a5 := Tryz.isAgg5
  z5 := Tryz.sizeOf5
  v5 := Tryz.zeroValue5
  t9 := Tryz.underlying9
  a9 := Tryz.isAgg9
  z9 := Tryz.sizeOf9
  v9 := Tryz.zeroValue9
  t46 := Tryz.underlying104
  a46 := Tryz.isAgg104
  z46 := Tryz.sizeOf104
  v46 := Tryz.zeroValue104
  t51 := Tryz.underlying128
  a51 := Tryz.isAgg128
  z51 := Tryz.sizeOf128
  v51 := Tryz.zeroValue128
  t59 := Tryz.underlying55
  a59 := Tryz.isAgg55
  z59 := Tryz.sizeOf55
  v59 := Tryz.zeroValue55
  t146 := Tryz.underlying147
  a146 := Tryz.isAgg147
  z146 := Tryz.sizeOf147
  v146 := Tryz.zeroValue147
  g1 := by kernel_rfl }
open Go.RowKit Go.Lib in
/-- strings.Cut: "Cut slices s around the first instance of sep, returning the text before and after sep. The found result reports whether sep appears in s. If sep does not appear in s, cut returns s, "", false.": IT RETURNS 'Lib.cut s sep'; the world is as it was but for the count of draws. (LAID: no walk: one application.) -/
theorem Tryz.strings_Cut (s sep : ByteArray) (m : Int) (w : World) (hs : s.size < 4294967281) (hm : w.cell? ⟨0, 0, none⟩ = some (.int .i64 m)) :
    Calls Tryz.prog 23 #[.string s, .string sep] w fun e w' => e = .returned (.tuple #[.string ⟨(Lib.cut s.data.toList sep.data.toList).1.toArray⟩, .string ⟨(Lib.cut s.data.toList sep.data.toList).2.1.toArray⟩, .bool (Lib.cut s.data.toList sep.data.toList).2.2]) ∧ ∃ n, w' = w.drewN n := Any.strings_Cut Tryz.lays145 s sep m w hs hm
def Tryz.laysM219_ren : Go.Shelf.Ren := ⟨fun | 219 => 65 | 217 => 95 | 225 => 96 | 224 => 97 | 267 => 98 | 266 => 112 | 314 => 113 | n => n, fun | 9 => 9 | 3 => 3 | 4 => 4 | 5 => 5 | 46 => 104 | 146 => 147 | 51 => 128 | n => n, fun | 1 => 0 | n => n⟩
theorem Tryz.laysM219 : Go.Proofs.LaysM.n219 Tryz.prog Tryz.laysM219_ren := {
  mixed := by kernel_rfl
  f217 := Tryz.func95.trans (congrArg some (by kernel_rfl))
  f219 := Tryz.func65.trans (congrArg some (by kernel_rfl))
  f224 := Tryz.func97.trans (congrArg some (by kernel_rfl))
  f225 := Tryz.func96.trans (congrArg some (by kernel_rfl))
  f266 := Tryz.func112.trans (congrArg some (by kernel_rfl))
  f267 := Tryz.func98.trans (congrArg some (by kernel_rfl))
  f314 := Tryz.func113.trans (congrArg some (by kernel_rfl))
  t3 := Tryz.underlying3
  a3 := Tryz.isAgg3
  z3 := Tryz.sizeOf3
  v3 := Tryz.zeroValue3
  t4 := Tryz.underlying4
  a4 := Tryz.isAgg4
  z4 := Tryz.sizeOf4
  v4 := Tryz.zeroValue4
  t5 := Tryz.underlying5
  a5 := Tryz.isAgg5
  z5 := Tryz.sizeOf5
  v5 := Tryz.zeroValue5
  t9 := Tryz.underlying9
  a9 := Tryz.isAgg9
  z9 := Tryz.sizeOf9
  v9 := Tryz.zeroValue9
  t46 := Tryz.underlying104
  a46 := Tryz.isAgg104
  z46 := Tryz.sizeOf104
  v46 := Tryz.zeroValue104
  t51 := Tryz.underlying128
  a51 := Tryz.isAgg128
  z51 := Tryz.sizeOf128
  v51 := Tryz.zeroValue128
  t146 := Tryz.underlying147
  a146 := Tryz.isAgg147
  z146 := Tryz.sizeOf147
  v146 := Tryz.zeroValue147
  g1 := by kernel_rfl
  i3 := by kernel_rfl
  i4 := by kernel_rfl
  i5 := by kernel_rfl
  i9 := by kernel_rfl
  i46 := by kernel_rfl
  i51 := by kernel_rfl
  i146 := by kernel_rfl
  m1 := by kernel_rfl
  s1_3 := fun w h => Go.Proofs.cell_of_shapedOpen_int (zero := #[.int .i64 0]) (t := 3) h (of_decide_eq_true (by kernel_rfl)) (by kernel_rfl) rfl (by kernel_rfl) (by kernel_rfl) Tryz.underlying3 }
open Go.RowKit Go.Lib in
theorem Tryz.stringslite_Index_shaped (s sub : ByteArray) (w : World) (h : w.ShapedOpen Tryz.prog) (hs : s.size < 4294967281) :
    Calls Tryz.prog 65 #[.string s, .string sub] w fun e w' => e = .returned (.int .i64 (Lib.index s.data.toList sub.data.toList)) ∧ w' = w := Any.stringslite_Index_shaped Tryz.laysM219 s sub w h hs
def Tryz.laysM143_ren : Go.Shelf.Ren := ⟨fun | 143 => 68 | 219 => 65 | 217 => 95 | 225 => 96 | 224 => 97 | 267 => 98 | 266 => 112 | 314 => 113 | n => n, fun | 9 => 9 | 3 => 3 | 4 => 4 | 5 => 5 | 46 => 104 | 146 => 147 | 51 => 128 | n => n, fun | 1 => 0 | n => n⟩
theorem Tryz.laysM143 : Go.Proofs.LaysM.n143 Tryz.prog Tryz.laysM143_ren := {
  mixed := by kernel_rfl
  f143 := Tryz.func68.trans (congrArg some (by kernel_rfl))
  f217 := Tryz.func95.trans (congrArg some (by kernel_rfl))
  f219 := Tryz.func65.trans (congrArg some (by kernel_rfl))
  f224 := Tryz.func97.trans (congrArg some (by kernel_rfl))
  f225 := Tryz.func96.trans (congrArg some (by kernel_rfl))
  f266 := Tryz.func112.trans (congrArg some (by kernel_rfl))
  f267 := Tryz.func98.trans (congrArg some (by kernel_rfl))
  f314 := Tryz.func113.trans (congrArg some (by kernel_rfl))
  t3 := Tryz.underlying3
  a3 := Tryz.isAgg3
  z3 := Tryz.sizeOf3
  v3 := Tryz.zeroValue3
  t4 := Tryz.underlying4
  a4 := Tryz.isAgg4
  z4 := Tryz.sizeOf4
  v4 := Tryz.zeroValue4
  t5 := Tryz.underlying5
  a5 := Tryz.isAgg5
  z5 := Tryz.sizeOf5
  v5 := Tryz.zeroValue5
  t9 := Tryz.underlying9
  a9 := Tryz.isAgg9
  z9 := Tryz.sizeOf9
  v9 := Tryz.zeroValue9
  t46 := Tryz.underlying104
  a46 := Tryz.isAgg104
  z46 := Tryz.sizeOf104
  v46 := Tryz.zeroValue104
  t51 := Tryz.underlying128
  a51 := Tryz.isAgg128
  z51 := Tryz.sizeOf128
  v51 := Tryz.zeroValue128
  t146 := Tryz.underlying147
  a146 := Tryz.isAgg147
  z146 := Tryz.sizeOf147
  v146 := Tryz.zeroValue147
  g1 := by kernel_rfl
  i3 := by kernel_rfl
  i4 := by kernel_rfl
  i5 := by kernel_rfl
  i9 := by kernel_rfl
  i46 := by kernel_rfl
  i51 := by kernel_rfl
  i146 := by kernel_rfl
  m1 := by kernel_rfl
  s1_3 := fun w h => Go.Proofs.cell_of_shapedOpen_int (zero := #[.int .i64 0]) (t := 3) h (of_decide_eq_true (by kernel_rfl)) (by kernel_rfl) rfl (by kernel_rfl) (by kernel_rfl) Tryz.underlying3 }
open Go.RowKit Go.Lib in
theorem Tryz.strings_Index_shaped (s sub : ByteArray) (w : World) (h : w.ShapedOpen Tryz.prog) (hs : s.size < 4294967281) :
    Calls Tryz.prog 68 #[.string s, .string sub] w fun e w' => e = .returned (.int .i64 (Lib.index s.data.toList sub.data.toList)) ∧ w' = w := Any.strings_Index_shaped Tryz.laysM143 s sub w h hs
def Tryz.laysM220_ren : Go.Shelf.Ren := ⟨fun | 220 => 40 | 219 => 65 | 217 => 95 | 225 => 96 | 224 => 97 | 267 => 98 | 266 => 112 | 314 => 113 | n => n, fun | 9 => 9 | 4 => 4 | 3 => 3 | 5 => 5 | 46 => 104 | 146 => 147 | 51 => 128 | n => n, fun | 1 => 0 | n => n⟩
theorem Tryz.laysM220 : Go.Proofs.LaysM.n220 Tryz.prog Tryz.laysM220_ren := {
  mixed := by kernel_rfl
  f217 := Tryz.func95.trans (congrArg some (by kernel_rfl))
  f219 := Tryz.func65.trans (congrArg some (by kernel_rfl))
  f220 := Tryz.func40.trans (congrArg some (by kernel_rfl))
  f224 := Tryz.func97.trans (congrArg some (by kernel_rfl))
  f225 := Tryz.func96.trans (congrArg some (by kernel_rfl))
  f266 := Tryz.func112.trans (congrArg some (by kernel_rfl))
  f267 := Tryz.func98.trans (congrArg some (by kernel_rfl))
  f314 := Tryz.func113.trans (congrArg some (by kernel_rfl))
  t3 := Tryz.underlying3
  a3 := Tryz.isAgg3
  z3 := Tryz.sizeOf3
  v3 := Tryz.zeroValue3
  t4 := Tryz.underlying4
  a4 := Tryz.isAgg4
  z4 := Tryz.sizeOf4
  v4 := Tryz.zeroValue4
  t5 := Tryz.underlying5
  a5 := Tryz.isAgg5
  z5 := Tryz.sizeOf5
  v5 := Tryz.zeroValue5
  t9 := Tryz.underlying9
  a9 := Tryz.isAgg9
  z9 := Tryz.sizeOf9
  v9 := Tryz.zeroValue9
  t46 := Tryz.underlying104
  a46 := Tryz.isAgg104
  z46 := Tryz.sizeOf104
  v46 := Tryz.zeroValue104
  t51 := Tryz.underlying128
  a51 := Tryz.isAgg128
  z51 := Tryz.sizeOf128
  v51 := Tryz.zeroValue128
  t146 := Tryz.underlying147
  a146 := Tryz.isAgg147
  z146 := Tryz.sizeOf147
  v146 := Tryz.zeroValue147
  g1 := by kernel_rfl
  i3 := by kernel_rfl
  i4 := by kernel_rfl
  i5 := by kernel_rfl
  i9 := by kernel_rfl
  i46 := by kernel_rfl
  i51 := by kernel_rfl
  i146 := by kernel_rfl
  m1 := by kernel_rfl
  s1_3 := fun w h => Go.Proofs.cell_of_shapedOpen_int (zero := #[.int .i64 0]) (t := 3) h (of_decide_eq_true (by kernel_rfl)) (by kernel_rfl) rfl (by kernel_rfl) (by kernel_rfl) Tryz.underlying3 }
open Go.RowKit Go.Lib in
theorem Tryz.stringslite_Cut_shaped (s sep : ByteArray) (w : World) (h : w.ShapedOpen Tryz.prog) (hs : s.size < 4294967281) :
    Calls Tryz.prog 40 #[.string s, .string sep] w fun e w' => e = .returned (.tuple #[.string ⟨(Lib.cut s.data.toList sep.data.toList).1.toArray⟩, .string ⟨(Lib.cut s.data.toList sep.data.toList).2.1.toArray⟩, .bool (Lib.cut s.data.toList sep.data.toList).2.2]) ∧ ∃ n, w' = w.drewN n := Any.stringslite_Cut_shaped Tryz.laysM220 s sep w h hs
def Tryz.laysM145_ren : Go.Shelf.Ren := ⟨fun | 145 => 23 | 220 => 40 | 219 => 65 | 217 => 95 | 225 => 96 | 224 => 97 | 267 => 98 | 266 => 112 | 314 => 113 | n => n, fun | 9 => 9 | 4 => 4 | 59 => 55 | 3 => 3 | 5 => 5 | 46 => 104 | 146 => 147 | 51 => 128 | n => n, fun | 1 => 0 | n => n⟩
theorem Tryz.laysM145 : Go.Proofs.LaysM.n145 Tryz.prog Tryz.laysM145_ren := {
  mixed := by kernel_rfl
  f145 := Tryz.func23.trans (congrArg some (by kernel_rfl))
  f217 := Tryz.func95.trans (congrArg some (by kernel_rfl))
  f219 := Tryz.func65.trans (congrArg some (by kernel_rfl))
  f220 := Tryz.func40.trans (congrArg some (by kernel_rfl))
  f224 := Tryz.func97.trans (congrArg some (by kernel_rfl))
  f225 := Tryz.func96.trans (congrArg some (by kernel_rfl))
  f266 := Tryz.func112.trans (congrArg some (by kernel_rfl))
  f267 := Tryz.func98.trans (congrArg some (by kernel_rfl))
  f314 := Tryz.func113.trans (congrArg some (by kernel_rfl))
  t3 := Tryz.underlying3
  a3 := Tryz.isAgg3
  z3 := Tryz.sizeOf3
  v3 := Tryz.zeroValue3
  t4 := Tryz.underlying4
  a4 := Tryz.isAgg4
  z4 := Tryz.sizeOf4
  v4 := Tryz.zeroValue4
  t5 := Tryz.underlying5
  a5 := Tryz.isAgg5
  z5 := Tryz.sizeOf5
  v5 := Tryz.zeroValue5
  t9 := Tryz.underlying9
  a9 := Tryz.isAgg9
  z9 := Tryz.sizeOf9
  v9 := Tryz.zeroValue9
  t46 := Tryz.underlying104
  a46 := Tryz.isAgg104
  z46 := Tryz.sizeOf104
  v46 := Tryz.zeroValue104
  t51 := Tryz.underlying128
  a51 := Tryz.isAgg128
  z51 := Tryz.sizeOf128
  v51 := Tryz.zeroValue128
  t59 := Tryz.underlying55
  a59 := Tryz.isAgg55
  z59 := Tryz.sizeOf55
  v59 := Tryz.zeroValue55
  t146 := Tryz.underlying147
  a146 := Tryz.isAgg147
  z146 := Tryz.sizeOf147
  v146 := Tryz.zeroValue147
  g1 := by kernel_rfl
  i3 := by kernel_rfl
  i4 := by kernel_rfl
  i5 := by kernel_rfl
  i9 := by kernel_rfl
  i46 := by kernel_rfl
  i51 := by kernel_rfl
  i59 := by kernel_rfl
  i146 := by kernel_rfl
  m1 := by kernel_rfl
  s1_3 := fun w h => Go.Proofs.cell_of_shapedOpen_int (zero := #[.int .i64 0]) (t := 3) h (of_decide_eq_true (by kernel_rfl)) (by kernel_rfl) rfl (by kernel_rfl) (by kernel_rfl) Tryz.underlying3 }
open Go.RowKit Go.Lib in
theorem Tryz.strings_Cut_shaped (s sep : ByteArray) (w : World) (h : w.ShapedOpen Tryz.prog) (hs : s.size < 4294967281) :
    Calls Tryz.prog 23 #[.string s, .string sep] w fun e w' => e = .returned (.tuple #[.string ⟨(Lib.cut s.data.toList sep.data.toList).1.toArray⟩, .string ⟨(Lib.cut s.data.toList sep.data.toList).2.1.toArray⟩, .bool (Lib.cut s.data.toList sep.data.toList).2.2]) ∧ ∃ n, w' = w.drewN n := Any.strings_Cut_shaped Tryz.laysM145 s sep w h hs
def Tryz.lays190_ren : Go.Shelf.Ren := ⟨fun | 190 => 38 | 125 => 64 | 258 => 63 | 128 => 93 | 129 => 94 | 302 => 84 | 303 => 85 | 304 => 86 | 305 => 87 | 306 => 88 | 307 => 89 | 308 => 90 | 309 => 91 | 310 => 92 | 333 => 107 | 329 => 108 | 330 => 109 | 334 => 110 | 335 => 111 | 336 => 102 | 344 => 122 | n => n, fun | 31 => 30 | 9 => 9 | 3 => 3 | 46 => 104 | 0 => 0 | 51 => 128 | 53 => 130 | 4 => 4 | 183 => 122 | 182 => 121 | 131 => 84 | 5 => 5 | 218 => 141 | 222 => 145 | 228 => 158 | 229 => 159 | n => n, fun | n => n⟩
theorem Tryz.lays190 : Go.Proofs.Lays.n190 Tryz.prog Tryz.lays190_ren := {
  mixed := by kernel_rfl
  f125 := Tryz.func64.trans (congrArg some (by kernel_rfl))
  f128 := Tryz.func93.trans (congrArg some (by kernel_rfl))
  f129 := Tryz.func94.trans (congrArg some (by kernel_rfl))
  f190 := Tryz.func38.trans (congrArg some (by kernel_rfl))
  f258 := Tryz.func63.trans (congrArg some (by kernel_rfl))
  f302 := Tryz.func84.trans (congrArg some (by kernel_rfl))
  f303 := Tryz.func85.trans (congrArg some (by kernel_rfl))
  f304 := Tryz.func86.trans (congrArg some (by kernel_rfl))
  f305 := Tryz.func87.trans (congrArg some (by kernel_rfl))
  f306 := Tryz.func88.trans (congrArg some (by kernel_rfl))
  f307 := Tryz.func89.trans (congrArg some (by kernel_rfl))
  f308 := Tryz.func90.trans (congrArg some (by kernel_rfl))
  f309 := Tryz.func91.trans (congrArg some (by kernel_rfl))
  f310 := Tryz.func92.trans (congrArg some (by kernel_rfl))
  f329 := Tryz.func108.trans (congrArg some (by kernel_rfl))
  f330 := Tryz.func109.trans (congrArg some (by kernel_rfl))
  f333 := Tryz.func107.trans (congrArg some (by kernel_rfl))
  f334 := Tryz.func110.trans (congrArg some (by kernel_rfl))
  f335 := Tryz.func111.trans (congrArg some (by kernel_rfl))
  f336 := Tryz.func102.trans (congrArg some (by kernel_rfl))
  f344 := Tryz.func122.trans (congrArg some (by kernel_rfl))
  t0 := Tryz.underlying0
  a0 := Tryz.isAgg0
  z0 := Tryz.sizeOf0
  v0 := Tryz.zeroValue0
  t3 := Tryz.underlying3
  a3 := Tryz.isAgg3
  z3 := Tryz.sizeOf3
  v3 := Tryz.zeroValue3
  t4 := Tryz.underlying4
  a4 := Tryz.isAgg4
  z4 := Tryz.sizeOf4
  v4 := Tryz.zeroValue4
  t5 := Tryz.underlying5
  a5 := Tryz.isAgg5
  z5 := Tryz.sizeOf5
  v5 := Tryz.zeroValue5
  t9 := Tryz.underlying9
  a9 := Tryz.isAgg9
  z9 := Tryz.sizeOf9
  v9 := Tryz.zeroValue9
  t31 := Tryz.underlying30
  a31 := Tryz.isAgg30
  z31 := Tryz.sizeOf30
  v31 := Tryz.zeroValue30
  t46 := Tryz.underlying104
  a46 := Tryz.isAgg104
  z46 := Tryz.sizeOf104
  v46 := Tryz.zeroValue104
  t51 := Tryz.underlying128
  a51 := Tryz.isAgg128
  z51 := Tryz.sizeOf128
  v51 := Tryz.zeroValue128
  t53 := Tryz.underlying130
  a53 := Tryz.isAgg130
  z53 := Tryz.sizeOf130
  v53 := Tryz.zeroValue130
  t131 := Tryz.underlying84
  a131 := Tryz.isAgg84
  z131 := Tryz.sizeOf84
  v131 := Tryz.zeroValue84
  t182 := Tryz.underlying121
  a182 := Tryz.isAgg121
  z182 := Tryz.sizeOf121
  v182 := Tryz.zeroValue121
  t183 := Tryz.underlying122
  a183 := Tryz.isAgg122
  z183 := Tryz.sizeOf122
  v183 := Tryz.zeroValue122
  t218 := Tryz.underlying141
  a218 := Tryz.isAgg141
  z218 := Tryz.sizeOf141
  v218 := Tryz.zeroValue141
  t222 := Tryz.underlying145
  a222 := Tryz.isAgg145
  z222 := Tryz.sizeOf145
  v222 := Tryz.zeroValue145
  t228 := Tryz.underlying158
  a228 := Tryz.isAgg158
  z228 := Tryz.sizeOf158
  v228 := Tryz.zeroValue158
  t229 := Tryz.underlying159
  a229 := Tryz.isAgg159
  z229 := Tryz.sizeOf159
  v229 := Tryz.zeroValue159 }
open Go.Sort Go.RowKit in
theorem Tryz.slices_Sort_string (blk off cap : Nat) (ss : List (List UInt8)) (w : World) (hH : Holds encStr w blk off ss.toArray) (hblk : blk < w.heap.size) (hsz : ss.length < 4611686018427387904) :
    Calls Tryz.prog 38 #[.slice (some ⟨blk, off, none⟩) ss.length cap] w fun e w' =>
      e = .returned (.tuple #[]) ∧ ∃ n os, w' = grow (putRow encStr (Sort.ahead w n) blk off (ss.mergeSort fun x y => decide (x ≤ y)).toArray) os := Any.slices_Sort_string Tryz.lays190 blk off cap ss w hH hblk hsz
def Tryz.lays207_ren : Go.Shelf.Ren := ⟨fun | 207 => 69 | n => n, fun | 9 => 9 | 4 => 4 | 3 => 3 | n => n, fun | n => n⟩
theorem Tryz.lays207 : Go.Proofs.Lays.n207 Tryz.prog Tryz.lays207_ren := {
  mixed := by kernel_rfl
  f207 := Tryz.func69.trans (congrArg some (by kernel_rfl))
  t3 := Tryz.underlying3
  a3 := Tryz.isAgg3
  z3 := Tryz.sizeOf3
  v3 := Tryz.zeroValue3
  t4 := Tryz.underlying4
  a4 := Tryz.isAgg4
  z4 := Tryz.sizeOf4
  v4 := Tryz.zeroValue4
  t9 := Tryz.underlying9
  a9 := Tryz.isAgg9
  z9 := Tryz.sizeOf9
  v9 := Tryz.zeroValue9 }
open Go.RowKit Go.Lib in
/-- internal/stringslite.HasSuffix (what strings.HasSuffix calls). (LAID: no walk: one application.) -/
theorem Tryz.stringslite_HasSuffix (s p : ByteArray) (w : World) (hs : s.size ≤ 9223372036854775807) :
    Calls Tryz.prog 69 #[.string s, .string p] w fun e w' => e = .returned (.bool (Lib.hasSuffix s.data.toList p.data.toList)) ∧ w' = w := Any.stringslite_HasSuffix Tryz.lays207 s p w hs
def Tryz.lays209_ren : Go.Shelf.Ren := ⟨fun | 209 => 42 | 207 => 69 | n => n, fun | 9 => 9 | 4 => 4 | 3 => 3 | n => n, fun | n => n⟩
theorem Tryz.lays209 : Go.Proofs.Lays.n209 Tryz.prog Tryz.lays209_ren := {
  mixed := by kernel_rfl
  f207 := Tryz.func69.trans (congrArg some (by kernel_rfl))
  f209 := Tryz.func42.trans (congrArg some (by kernel_rfl))
  t3 := Tryz.underlying3
  a3 := Tryz.isAgg3
  z3 := Tryz.sizeOf3
  v3 := Tryz.zeroValue3
  t4 := Tryz.underlying4
  a4 := Tryz.isAgg4
  z4 := Tryz.sizeOf4
  v4 := Tryz.zeroValue4
  t9 := Tryz.underlying9
  a9 := Tryz.isAgg9
  z9 := Tryz.sizeOf9
  v9 := Tryz.zeroValue9 }
open Go.RowKit Go.Lib in
/-- internal/stringslite.TrimSuffix (what strings.TrimSuffix calls). (LAID: no walk: one application.) -/
theorem Tryz.stringslite_TrimSuffix (s p : ByteArray) (w : World) (hs : s.size ≤ 9223372036854775807) :
    Calls Tryz.prog 42 #[.string s, .string p] w fun e w' => e = .returned (.string ⟨(Lib.trimSuffix s.data.toList p.data.toList).toArray⟩) ∧ w' = w := Any.stringslite_TrimSuffix Tryz.lays209 s p w hs
def Tryz.lays102_ren : Go.Shelf.Ren := ⟨fun | 102 => 26 | 209 => 42 | 207 => 69 | n => n, fun | 9 => 9 | 4 => 4 | 3 => 3 | n => n, fun | n => n⟩
theorem Tryz.lays102 : Go.Proofs.Lays.n102 Tryz.prog Tryz.lays102_ren := {
  mixed := by kernel_rfl
  f102 := Tryz.func26.trans (congrArg some (by kernel_rfl))
  f207 := Tryz.func69.trans (congrArg some (by kernel_rfl))
  f209 := Tryz.func42.trans (congrArg some (by kernel_rfl))
  t3 := Tryz.underlying3
  a3 := Tryz.isAgg3
  z3 := Tryz.sizeOf3
  v3 := Tryz.zeroValue3
  t4 := Tryz.underlying4
  a4 := Tryz.isAgg4
  z4 := Tryz.sizeOf4
  v4 := Tryz.zeroValue4
  t9 := Tryz.underlying9
  a9 := Tryz.isAgg9
  z9 := Tryz.sizeOf9
  v9 := Tryz.zeroValue9 }
open Go.RowKit Go.Lib in
/-- strings.TrimSuffix: "TrimSuffix returns s without the provided trailing suffix string. If s doesn't end with suffix, s is returned unchanged.": IT RETURNS 'Lib.trimSuffix s suffix'; the world is as it was. (LAID: no walk: one application.) -/
theorem Tryz.strings_TrimSuffix (s p : ByteArray) (w : World) (hs : s.size ≤ 9223372036854775807) :
    Calls Tryz.prog 26 #[.string s, .string p] w fun e w' => e = .returned (.string ⟨(Lib.trimSuffix s.data.toList p.data.toList).toArray⟩) ∧ w' = w := Any.strings_TrimSuffix Tryz.lays102 s p w hs
def Tryz.lays260_ren : Go.Shelf.Ren := ⟨fun | 260 => 99 | n => n, fun | 9 => 9 | 21 => 21 | 3 => 3 | 4 => 4 | 5 => 5 | 119 => 149 | 0 => 0 | 46 => 104 | 139 => 152 | 138 => 151 | n => n, fun | 3 => 1 | 4 => 2 | n => n⟩
theorem Tryz.lays260 : Go.Proofs.Lays.n260 Tryz.prog Tryz.lays260_ren := {
  mixed := by kernel_rfl
  f260 := Tryz.func99.trans (congrArg some (by kernel_rfl))
  t0 := Tryz.underlying0
  a0 := Tryz.isAgg0
  z0 := Tryz.sizeOf0
  v0 := Tryz.zeroValue0
  t3 := Tryz.underlying3
  a3 := Tryz.isAgg3
  z3 := Tryz.sizeOf3
  v3 := Tryz.zeroValue3
  t4 := Tryz.underlying4
  a4 := Tryz.isAgg4
  z4 := Tryz.sizeOf4
  v4 := Tryz.zeroValue4
  t5 := Tryz.underlying5
  a5 := Tryz.isAgg5
  z5 := Tryz.sizeOf5
  v5 := Tryz.zeroValue5
  t9 := Tryz.underlying9
  a9 := Tryz.isAgg9
  z9 := Tryz.sizeOf9
  v9 := Tryz.zeroValue9
  t21 := Tryz.underlying21
  a21 := Tryz.isAgg21
  z21 := Tryz.sizeOf21
  v21 := Tryz.zeroValue21
  t46 := Tryz.underlying104
  a46 := Tryz.isAgg104
  z46 := Tryz.sizeOf104
  v46 := Tryz.zeroValue104
  t119 := Tryz.underlying149
  a119 := Tryz.isAgg149
  z119 := Tryz.sizeOf149
  t138 := Tryz.underlying151
  a138 := Tryz.isAgg151
  z138 := Tryz.sizeOf151
  v138 := Tryz.zeroValue151
  t139 := Tryz.underlying152
  a139 := Tryz.isAgg152
  z139 := Tryz.sizeOf152
  v139 := Tryz.zeroValue152
  g3 := by kernel_rfl
  g4 := by kernel_rfl }
open Go.RowKit Go.Lib in
theorem Tryz.utf8_decodeRuneInStringSlow (s : ByteArray) (w : World) (hT : Lib.Utf8Tabs 1 2 w) :
    Calls Tryz.prog 99 #[.string s] w fun e w' => e = .returned (.tuple #[.int .i32 (Lib.decodeGo s).1, .int .i64 (Lib.decodeGo s).2]) ∧ Below w.heap.size w w' := Any.utf8_decodeRuneInStringSlow Tryz.lays260 s w hT
open Go.RowKit Go.Sort in
/-- .. and plain. (LAID: no walk: one application.) -/
theorem Tryz.slices_Sort_string_none (p : Option Addr) (cap : Nat) (w : World) :
    Calls Tryz.prog 38 #[.slice p 0 cap] w fun e w' => e = .returned (.tuple #[]) ∧ w' = w := Any.slices_Sort_string_none Tryz.lays190 p cap w
def Tryz.keys20_ren : Go.Shelf.Ren := ⟨fun | 7 => 20 | 10 => 39 | n => n, fun | 23 => 47 | 26 => 9 | 3 => 30 | 28 => 50 | 0 => 0 | 27 => 49 | 33 => 70 | 4 => 4 | n => n, fun | n => n⟩
theorem Tryz.keys20 : Go.Proofs.SlLaysZ.n7 Tryz.prog Tryz.keys20_ren := {
  mixed := by kernel_rfl
  f7 := ⟨Tryz.f20.name, by decide, Tryz.func20.trans (congrArg some (by kernel_rfl))⟩
  f10 := ⟨Tryz.f39.name, by decide, Tryz.func39.trans (congrArg some (by kernel_rfl))⟩
  t0 := Tryz.underlying0
  a0 := Tryz.isAgg0
  z0 := Tryz.sizeOf0
  v0 := Tryz.zeroValue0
  t4 := Tryz.underlying4
  a4 := Tryz.isAgg4
  z4 := Tryz.sizeOf4
  v4 := Tryz.zeroValue4
  t23 := Tryz.underlying47
  a23 := Tryz.isAgg47
  z23 := Tryz.sizeOf47
  v23 := Tryz.zeroValue47
  t26 := Tryz.underlying9
  a26 := Tryz.isAgg9
  z26 := Tryz.sizeOf9
  v26 := Tryz.zeroValue9
  t27 := Tryz.underlying49
  a27 := Tryz.isAgg49
  z27 := Tryz.sizeOf49
  v27 := Tryz.zeroValue49
  t28 := Tryz.underlying50
  a28 := Tryz.isAgg50
  z28 := Tryz.sizeOf50
  v28 := Tryz.zeroValue50
  t33 := Tryz.underlying70
  a33 := Tryz.isAgg70
  z33 := Tryz.sizeOf70
  v33 := Tryz.zeroValue70 }
def Tryz.sorted19_ren : Go.Shelf.Ren := ⟨fun | 6 => 19 | 8 => 37 | 9 => 38 | 11 => 62 | 13 => 64 | 12 => 63 | 23 => 93 | 24 => 94 | 14 => 84 | 15 => 85 | 16 => 86 | 17 => 87 | 18 => 88 | 19 => 89 | 20 => 90 | 21 => 91 | 22 => 92 | 25 => 107 | 26 => 108 | 27 => 109 | 28 => 110 | 29 => 111 | 30 => 102 | 31 => 122 | n => n, fun | 26 => 9 | 28 => 50 | 24 => 30 | 0 => 0 | 3 => 3 | 37 => 104 | 48 => 128 | 50 => 130 | 4 => 4 | 40 => 122 | 39 => 121 | 45 => 84 | 5 => 5 | 9 => 9 | 51 => 141 | 55 => 145 | 57 => 158 | 58 => 159 | 33 => 70 | n => n, fun | n => n⟩
theorem Tryz.sorted19 : Go.Proofs.SlLaysZ.n6 Tryz.prog Tryz.sorted19_ren := {
  mixed := by kernel_rfl
  f6 := ⟨Tryz.f19.name, by decide, Tryz.func19.trans (congrArg some (by kernel_rfl))⟩
  f8 := ⟨Tryz.f37.name, by decide, Tryz.func37.trans (congrArg some (by kernel_rfl))⟩
  f11 := ⟨Tryz.f62.name, by decide, Tryz.func62.trans (congrArg some (by kernel_rfl))⟩
  t0 := Tryz.underlying0
  a0 := Tryz.isAgg0
  z0 := Tryz.sizeOf0
  v0 := Tryz.zeroValue0
  t24 := Tryz.underlying30
  a24 := Tryz.isAgg30
  z24 := Tryz.sizeOf30
  v24 := Tryz.zeroValue30
  t26 := Tryz.underlying9
  a26 := Tryz.isAgg9
  z26 := Tryz.sizeOf9
  v26 := Tryz.zeroValue9
  t28 := Tryz.underlying50
  a28 := Tryz.isAgg50
  z28 := Tryz.sizeOf50
  v28 := Tryz.zeroValue50
  i26 := by kernel_rfl }
end Go.Proofs
/- ring.line, ring.Format, ring.read (for RingTexts, seat .ZD). -/
namespace Go.Proofs.YtafeaeaildfohaaGreatDoor
open Go.RowKit Go.Maps

theorem owns_cells {w : World} {B : Nat} {e : TypeId} {v : Value} {l : List ByteArray} (h : Owns tStr w B e v l) (hpos : 0 < l.length) :
    ∃ g cap, v = .slice (some ⟨g, 0, none⟩) l.length cap ∧ l.length ≤ cap ∧ g < w.heap.size ∧ ∀ (j : Nat) x, l[j]? = some x → w.cell? ⟨g, 0 + j, none⟩ = some (.string x) := by
  have hr := h.rv'
  obtain ⟨a, cap, rfl, hl, hm, hr⟩ := slice_form hr
  obtain ⟨b, o, rfl, hat⟩ := slice_at hr hpos
  rcases h with ⟨css, h1, h2, h4, h5⟩
  rcases h2.2 with ⟨_, h6⟩ | ⟨g, cap', cur, hv, hg, hh, _⟩
  · omega
  · injection hv with hv1 hv2 hv3
    injection hv1 with hv1
    injection hv1 with hb ho
    subst hb; subst ho
    refine ⟨b, cap, rfl, hl, lt_of_block hh, fun j x hj => ?_⟩
    obtain ⟨hj1, hj2⟩ := List.getElem?_eq_some_iff.1 hj
    obtain ⟨b', o', hb', hat'⟩ := slice_at hr hj1
    injection hb' with hb'
    injection hb' with e1 e2
    subst e1; subst e2
    have := (str_at hat').1
    rw [hj2] at this
    have e : j * tStr.sz = j := Nat.mul_one j
    rw [e] at this
    exact this
theorem join_body : ∀ l : List Fct, Lib.join (l.map atomL) [44, 32] = bodyL l
  | [] => rfl
  | [a] => by rw [List.map_cons, List.map_nil, Lib.join_one]; rfl
  | a :: b :: t => by
    have ih := join_body (b :: t)
    rw [List.map_cons, List.map_cons, Lib.join_cons] at *
    rw [show bodyL (a :: b :: t) = atomL a ++ (44 :: 32 :: bodyL (b :: t)) from rfl, ← ih]
    simp [Lib.joinTail]
theorem join_written (l : List Fct) : Lib.join ((l.map writtenB).map (·.data.toList)) [44, 32] = bodyL l := by
  rw [← join_body, List.map_map]
  congr 1
  apply List.map_congr_left
  intro a _
  exact writtenB_bl a
theorem bl_mkT (l : List UInt8) : bl ⟨l.toArray⟩ = l := by simp [bl]
set_option maxRecDepth 100000 in
set_option maxHeartbeats 4000000 in
theorem ringLine_any (r : Rul) (v : Value) (w : World) (hr : validR r = true) (hv : tFcts.rv (mem w) [v] r.bd) :
    Calls Tryz.prog 16 #[r.v v] w fun e w' => ∃ s, e = .returned (.string s) ∧ bl s = ruleL r ++ [10] ∧ Below w.heap.size w w' := by
  obtain ⟨hh, hba, hb1, hb33⟩ := validR_atoms hr
  obtain ⟨⟨n, a, b⟩, bd⟩ := r
  simp only at hh hba hb1 hb33 hv
  have HB0 := Lib.hid (boxB w)
  have HBA := Lib.hid hba
  have HHV := Lib.hid hh
  obtain ⟨av, cv, rfl, hl1, hl2, hv⟩ := slice_form hv
  have hcv : cv ≤ 9223372036854775807 := by unfold maxLen at hl2; exact hl2
  have HV := Lib.hid (fun wr (hb : Below w.heap.size w wr) => tFcts.mono _ _ _ _ (below_mem hb) hv)
  have HCL := Lib.hid (heap_alloc_new w (.cells #[.string n, .string a, .string b, .slice av bd.length cv] 28))
  clear hv hl2 hba hr hh
  go_enter Tryz.func16, Tryz.ntmps16
  go_wp2_with fail
  generalize hX : w.alloc (.cells #[.string n, .string a, .string b, .slice av bd.length cv] 28) = X
  have HXB := Lib.hid (show Below w.heap.size w X by rw [← hX]; exact HB0.out _)
  have HXC := Lib.hid (show X.heap[w.heap.size]? = some (.cells #[.string n, .string a, .string b, .slice av bd.length cv] 28 (0, 0)) by rw [← hX]; exact HCL.out)
  clear hX HCL HB0
  have n3 : X.cell? ⟨w.heap.size, 3, none⟩ = some (.slice av bd.length cv) := mem_cells HXC.out 3
  go_wp2_with fail
  go_loopw [3, 9] (fun ov i wr => ∃ k : Nat, k ≤ bd.length ∧ i = .int .i64 k ∧ Owns tStr wr X.heap.size 9 ov ((bd.take k).map writtenB) ∧ Hid (Below X.heap.size X wr)) (fun _ i _ => bd.length - (intOf i).toNat)
  case atStart => exact ⟨0, by omega, rfl, Owns.nil _ _ _ _, Lib.hid (Below.refl _ _)⟩
  case round =>
    obtain ⟨k, hk, rfl, hown, HB⟩ := hrel
    by_cases hlt : k < bd.length
    · obtain ⟨x, y, rfl, ⟨t0, t1, t2⟩, -⟩ := fcts_at (HV.out wr (pure_trans HXB.out HB.out)) hlt
      have p0 : wr.cell? ⟨x, y + k * 3, none⟩ = some (.string bd[k].n) := t0
      have p1 : wr.cell? ⟨x, y + k * 3 + 1, none⟩ = some (.string bd[k].a) := t1
      have p2 : wr.cell? ⟨x, y + k * 3 + 2, none⟩ = some (.string bd[k].b) := t2
      have HSM := Lib.hid (atom_small (HBA.out _ (List.getElem_mem hlt)))
      have HWZ := Lib.hid (show (writtenB bd[k]).size ≤ 52 from by
        have h1 := atomL_len (HBA.out _ (List.getElem_mem hlt))
        rw [← writtenB_bl bd[k]] at h1
        exact h1)
      have HSN := Lib.hid (show (bd.take (k + 1)).map writtenB = (bd.take k).map writtenB ++ [writtenB bd[k]] by rw [List.take_succ_eq_append_getElem hlt, List.map_append]; rfl)
      have HLN := Lib.hid (show ((bd.take k).map writtenB).length = k by rw [List.length_map, List.length_take]; omega)
      clear t0 t1 t2
      generalize (bd.take k).map writtenB = l at *
      generalize hL : (bd.take (k + 1)).map writtenB = l' at HSN
      have HL := Lib.hid hL
      clear hL
      generalize bd[k] = z at *
      have HW := Lib.hid (fun w' => ringWritten_any z w' HSM.out)
      generalize writtenB z = zt at *
      obtain ⟨z1, z2, z3⟩ := z
      simp only at p0 p1 p2
      have HKB := Lib.hid (boxB wr)
      go_wp2_with fail
      refine (HW.out _).mono ?_
      rintro e w4 ⟨rfl, hb4⟩
      have hb4 := pure_trans (HKB.out _) hb4
      have HO4 := Lib.hid (hown.keeps hb4)
      have HB4 := Lib.hid (pure_trans HB.out hb4)
      clear hb4 HW p0 p1 p2 hown HKB HSM
      go_wp2_with (at_builtin; refine wpList_append_str2 rfl _ _ 30 rfl Tryz.underlying30 Tryz.infoStr2 X.heap.size _ l rfl (HO4.out.alloc _) _ _ zt rfl (by simp) (by have := HWZ.out; unfold maxLen; omega) (by rw [HLN.out]; omega) (by have := HB4.out.size; simp; omega) ?_)
      intro v' w5 own5 hgrow _
      have HB5 := Lib.hid ((HB4.out.alloc HB4.out.size _).grown hgrow (by have := HB4.out.size; simp; omega) (fun k hk => (HO4.out.lt k hk).1))
      have HO5 := Lib.hid (show Owns tStr w5 X.heap.size 9 v' l' by rw [HSN.out]; exact own5)
      clear own5 hgrow HO4 HB4
      go_wp2
      go_roundw
      case rel => exact ⟨k + 1, by omega, by go_num, by rw [HL.out]; exact HO5.out, HB5⟩
      case measure => simp [intOf]; omega
    · obtain rfl : k = bd.length := by omega
      rw [List.take_length] at hown
      have k0 : wr.cell? ⟨w.heap.size, 0, none⟩ = some (.string n) := below_mem HB.out _ _ _ (mem_cells HXC.out 0)
      have k1 : wr.cell? ⟨w.heap.size, 1, none⟩ = some (.string a) := below_mem HB.out _ _ _ (mem_cells HXC.out 1)
      have k2 : wr.cell? ⟨w.heap.size, 2, none⟩ = some (.string b) := below_mem HB.out _ _ _ (mem_cells HXC.out 2)
      have HW := Lib.hid (fun w' => ringWritten_any ⟨n, a, b⟩ w' (atom_small HHV.out))
      have HWB := Lib.hid (writtenB_bl ⟨n, a, b⟩)
      have hwz : (writtenB ⟨n, a, b⟩).size ≤ 52 := by
        have h1 := atomL_len HHV.out
        rw [← writtenB_bl ⟨n, a, b⟩] at h1
        exact h1
      generalize writtenB ⟨n, a, b⟩ = hd at *
      go_wp2_with fail
      refine (HW.out _).mono ?_
      rintro e w4 ⟨rfl, hb4⟩
      have HO4 := Lib.hid (hown.keeps hb4)
      have HB4 := Lib.hid (pure_trans HB.out hb4)
      clear hb4 HW k0 k1 k2 hown
      obtain ⟨g, cap', rfl, hle, hg, hcells⟩ := owns_cells HO4.out (by rw [List.length_map]; omega)
      have hbl := bodyL_len bd HBA.out
      have hJ := Tryz.strings_Join g 0 cap' _ ⟨#[44, 32]⟩ w4 hcells hg (by rw [List.length_map]; omega) hle (by rw [show (⟨#[44, 32]⟩ : ByteArray).data.toList = [44, 32] from rfl, join_written]; omega)
      rw [show (⟨#[44, 32]⟩ : ByteArray).data.toList = [44, 32] from rfl, join_written, List.length_map] at hJ
      have HJ := Lib.hid hJ
      have hjz : (⟨(bodyL bd).toArray⟩ : ByteArray).size ≤ 162 := by
        show (bl ⟨(bodyL bd).toArray⟩).length ≤ 162
        rw [bl_mkT]; omega
      have HJB := Lib.hid (bl_mkT (bodyL bd))
      rw [List.length_map]
      generalize (⟨(bodyL bd).toArray⟩ : ByteArray) = js at *
      clear hJ hcells hle hbl HO4
      go_wp2_with fail
      refine HJ.out.mono ?_
      rintro e w5 ⟨rfl, hb5⟩
      have HB5 := Lib.hid (pure_trans (pure_trans HXB.out HB4.out) hb5)
      have HE := Lib.hid (show bl (hd ++ ⟨#[32, 60, 45, 32]⟩ ++ js ++ ⟨#[10]⟩) = ruleL ⟨⟨n, a, b⟩, bd⟩ ++ [10] from by
        rw [bl_append, bl_append, bl_append, HWB.out, HJB.out]
        unfold ruleL
        simp [bl])
      clear hb5 HJ
      go_wp2
      go_ret
      exact ⟨_, rfl, HE.out, HB5.out⟩
set_option maxRecDepth 100000 in
set_option maxHeartbeats 4000000 in
theorem ringFormat_any (l : List Rul) (v : Value) (w : World) (hv : tRuls.rv (mem w) [v] l) :
    Calls Tryz.prog 5 #[v] w fun e w' => ∃ s, e = .returned (.string s) ∧ bl s = fmtL l ∧ Below w.heap.size w w' := by
  have HP := Lib.hid (ringProgram_any l v w hv)
  obtain ⟨a, cap, rfl, hlc, hm, hv⟩ := slice_form hv
  have hcap : cap ≤ 9223372036854775807 := by unfold maxLen at hm; exact hm
  have HV := Lib.hid (fun wr (hb : Below w.heap.size w wr) => tRuls.mono _ _ _ _ (below_mem hb) hv)
  clear hm hv
  go_enter Tryz.func5, Tryz.ntmps5
  go_wp2_with fail
  refine HP.out.mono ?_
  rintro e w1 ⟨rfl, hb1⟩
  have HB1 := Lib.hid hb1
  clear hb1 HP
  cases hp : validP l with
  | false =>
    have HE := Lib.hid (show bl (.empty : ByteArray) = fmtL l from by unfold fmtL; rw [hp]; rfl)
    go_wp2
    go_ret
    exact ⟨_, rfl, HE.out, HB1.out⟩
  | true =>
  have HA := Lib.hid (validP_atoms hp)
  have HF := Lib.hid (show fmtL l = progL l from by unfold fmtL; rw [if_pos hp])
  have HL12 := Lib.hid (show l.length ≤ 12 from by unfold validP at hp; rw [Bool.and_eq_true] at hp; exact of_decide_eq_true hp.1)
  clear hp
  go_wp2_with fail
  go_loopw [3, 11] (fun sv i wr => ∃ (k : Nat) (s : ByteArray), k ≤ l.length ∧ i = .int .i64 k ∧ sv = .string s ∧ Hid (bl s = progL (l.take k)) ∧ Hid (Below w.heap.size w wr)) (fun _ i _ => l.length - (intOf i).toNat)
  case atStart => exact ⟨0, .empty, by omega, rfl, rfl, Lib.hid rfl, HB1⟩
  case round =>
    obtain ⟨k, s, hk, rfl, rfl, HS, HB⟩ := hrel
    by_cases hlt : k < l.length
    · obtain ⟨b, o, bv, rfl, ⟨q0, q1, q2, q3⟩, -, hbd⟩ := ruls_at (HV.out _ HB.out) hlt
      have c0 : wr.cell? ⟨b, o + k * 4, none⟩ = some (.string l[k].hd.n) := q0
      have c1 : wr.cell? ⟨b, o + k * 4 + 1, none⟩ = some (.string l[k].hd.a) := q1
      have c2 : wr.cell? ⟨b, o + k * 4 + 2, none⟩ = some (.string l[k].hd.b) := q2
      have c3 : wr.cell? ⟨b, o + k * 4 + 3, none⟩ = some bv := q3
      have HVR := Lib.hid (HA.out _ (List.getElem_mem hlt))
      have HPT := Lib.hid (progL_take hlt)
      have HKB := Lib.hid (boxB wr)
      have HLI := Lib.hid (fun (w' : World) (hb : Below wr.heap.size wr w') => ringLine_any l[k] bv w' HVR.out (tFcts.mono _ _ _ _ (below_mem hb) hbd))
      have hlz := Lib.hid (ruleL_len HVR.out)
      obtain ⟨ab, cb, rfl, -⟩ := slice_form hbd
      clear q0 q1 q2 q3 hbd HVR
      generalize l[k] = r at *
      obtain ⟨⟨r1, r2, r3⟩, bd⟩ := r
      simp only at c0 c1 c2 c3
      have hsz : s.size ≤ 2628 := by
        have h1 := progL_len (l.take k) (fun r hr => HA.out r (List.mem_of_mem_take hr))
        rw [← HS.out, List.length_take] at h1
        have h2 : (bl s).length = s.size := rfl
        have := HL12.out
        omega
      go_wp2_with fail
      refine (HLI.out _ (HKB.out _)).mono ?_
      rintro e w2 ⟨t, rfl, ht, hb2⟩
      have HB2 := Lib.hid (pure_trans HB.out (pure_trans (HKB.out _) hb2))
      have htz : t.size ≤ 219 := by
        have h2 : (bl t).length = t.size := rfl
        rw [ht, List.length_append] at h2
        have := hlz.out
        simp only [List.length_cons, List.length_nil] at h2
        omega
      have HN := Lib.hid (show bl (s ++ t) = progL (l.take (k + 1)) from by rw [bl_append, HS.out, ht, HPT.out])
      clear ht hb2 HLI c0 c1 c2 c3
      go_wp2
      go_roundw
      case rel => exact ⟨k + 1, _, by omega, by go_num, rfl, HN, HB2⟩
      case measure => simp [intOf]; omega
    · obtain rfl : k = l.length := by omega
      rw [List.take_length] at HS
      have HE := Lib.hid (HS.out.trans HF.out.symm)
      go_wp2
      go_ret
      exact ⟨_, rfl, HE.out, HB.out⟩
def cutF (s sep : List UInt8) : ByteArray := ⟨(Lib.cut s sep).1.toArray⟩
theorem cut_le (s sep : List UInt8) : (Lib.cut s sep).1.length ≤ s.length ∧ (Lib.cut s sep).2.1.length ≤ s.length := by
  unfold Lib.cut
  split
  · exact ⟨by rw [List.length_take]; omega, by rw [List.length_drop]; omega⟩
  · exact ⟨Nat.le_refl _, Nat.zero_le _⟩
theorem trim41_le (l : List UInt8) : (trim41 l).length ≤ l.length := by
  unfold trim41
  split
  · rw [List.length_dropLast]; omega
  · exact Nat.le_refl _
theorem trim_suffix (s : List UInt8) : Lib.trimSuffix s [41] = trim41 s := by
  unfold Lib.trimSuffix trim41 Lib.hasSuffix
  by_cases h : s.getLast? = some 41
  · obtain ⟨t, rfl⟩ := List.getLast?_eq_some_iff.1 h
    rw [if_pos h, if_pos (List.isSuffixOf_iff_suffix.2 ⟨t, rfl⟩)]
    simp
  · rw [if_neg h, if_neg]
    intro e
    obtain ⟨t, rfl⟩ := List.isSuffixOf_iff_suffix.1 e
    exact h (by simp)
theorem cutAny (s sep : ByteArray) (m : Int) (w : World) (hp : s.size ≤ 4000000000) (hm : w.cell? ⟨0, 0, none⟩ = some (.int .i64 m)) :
    Calls Tryz.prog 23 #[.string s, .string sep] w fun e w' => e = .returned (.tuple #[.string ⟨(Lib.cut (bl s) (bl sep)).1.toArray⟩, .string ⟨(Lib.cut (bl s) (bl sep)).2.1.toArray⟩, .bool (Lib.cut (bl s) (bl sep)).2.2]) ∧ Below w.heap.size w w' :=
  (Tryz.strings_Cut s sep m w (by omega) hm).mono fun _ _ ⟨he, n, hw⟩ => ⟨he, by rw [hw]; exact ⟨rfl, rfl, rfl, Nat.le_refl _, fun _ _ => rfl⟩⟩
theorem set3 {w : World} {b : Nat} {x y z c1 d1 d2 : Value} {t : TypeId} (h : w.heap[b]? = some (.cells #[x, y, z] t (0, 0))) :
    (((w.setCell ⟨b, 0, none⟩ c1).setCell ⟨b, 1, none⟩ d1).setCell ⟨b, 2, none⟩ d2).heap[b]? = some (.cells #[c1, d1, d2] t (0, 0)) := by
  have h1 := heap_setCell_same w b 0 _ t c1 h
  have h2 := heap_setCell_same _ b 1 _ t d1 h1
  have h3 := heap_setCell_same _ b 2 _ t d2 h2
  exact h3
set_option maxRecDepth 100000 in
set_option maxHeartbeats 4000000 in
theorem ringRead_any (s : ByteArray) (m : Int) (w : World) (hp : s.size ≤ 4000000000) (hm : w.cell? ⟨0, 0, none⟩ = some (.int .i64 m)) :
    Calls Tryz.prog 24 #[.string s] w fun e w' => ∃ n a b, e = .returned (.agg #[.string n, .string a, .string b]) ∧ (⟨n, a, b⟩ : Fct) = readA (bl s) ∧ Below w.heap.size w w' := by
  have HB0 := Lib.hid (boxB w)
  have HNEW := Lib.hid (heap_alloc_new w (.cells #[.string .empty, .string .empty, .string .empty] 25))
  have HC1 := Lib.hid (fun w' (hb : Below w.heap.size w w') => cutAny s ⟨#[40]⟩ m w' hp (below_mem hb _ _ _ hm))
  have hl1 := (cut_le (bl s) [40]).2
  have hs0 : (bl s).length = s.size := rfl
  have HTR := Lib.hid (fun w' => Tryz.strings_TrimSuffix ⟨(Lib.cut (bl s) [40]).2.1.toArray⟩ ⟨#[41]⟩ w' (by show (bl ⟨(Lib.cut (bl s) [40]).2.1.toArray⟩).length ≤ _; rw [bl_mkT]; omega))
  have hl2 := trim41_le (Lib.cut (bl s) [40]).2.1
  have HC2 := Lib.hid (fun w' (hb : Below w.heap.size w w') => cutAny ⟨(trim41 (Lib.cut (bl s) [40]).2.1).toArray⟩ ⟨#[44, 32]⟩ m w' (by show (bl ⟨(trim41 (Lib.cut (bl s) [40]).2.1).toArray⟩).length ≤ _; rw [bl_mkT]; omega) (below_mem hb _ _ _ hm))
  rw [show bl (⟨#[44, 32]⟩ : ByteArray) = [44, 32] from rfl, bl_mkT (trim41 (Lib.cut (bl s) [40]).2.1)] at HC2
  rw [show bl (⟨#[40]⟩ : ByteArray) = [40] from rfl] at HC1
  rw [show (⟨#[41]⟩ : ByteArray).data.toList = [41] from rfl, show (⟨(Lib.cut (bl s) [40]).2.1.toArray⟩ : ByteArray).data.toList = (Lib.cut (bl s) [40]).2.1 from by simp, trim_suffix] at HTR
  have HRD := Lib.hid (show (⟨⟨(Lib.cut (bl s) [40]).1.toArray⟩, ⟨(Lib.cut (trim41 (Lib.cut (bl s) [40]).2.1) [44, 32]).1.toArray⟩, ⟨(Lib.cut (trim41 (Lib.cut (bl s) [40]).2.1) [44, 32]).2.1.toArray⟩⟩ : Fct) = readA (bl s) from rfl)
  generalize readA (bl s) = res at *
  generalize (⟨(Lib.cut (bl s) [40]).1.toArray⟩ : ByteArray) = c1 at *
  generalize (⟨(Lib.cut (bl s) [40]).2.1.toArray⟩ : ByteArray) = c2 at *
  generalize (Lib.cut (bl s) [40]).2.2 = c3 at *
  generalize trim41 (Lib.cut (bl s) [40]).2.1 = tr at *
  generalize (⟨tr.toArray⟩ : ByteArray) = trb at *
  generalize (⟨(Lib.cut tr [44, 32]).1.toArray⟩ : ByteArray) = d1 at *
  generalize (⟨(Lib.cut tr [44, 32]).2.1.toArray⟩ : ByteArray) = d2 at *
  generalize (Lib.cut tr [44, 32]).2.2 = d3 at *
  clear hl1 hl2 hs0 hm hp
  go_enter Tryz.func24, Tryz.ntmps24
  go_wp2_with fail
  refine (HC1.out _ (HB0.out _)).mono ?_
  rintro e w1 ⟨rfl, hb1⟩
  have HB1 := Lib.hid (pure_trans (HB0.out _) hb1)
  have HN1 := Lib.hid ((hb1.block _ (by simp)).trans HNEW.out)
  clear hb1 HC1 HNEW HB0
  go_wp2_with fail
  refine (HTR.out _).mono ?_
  rintro e w2 ⟨rfl, rfl⟩
  go_wp2_with fail
  refine (HC2.out _ HB1.out).mono ?_
  rintro e w3 ⟨rfl, hb3⟩
  have HB3 := Lib.hid (pure_trans HB1.out hb3)
  have HN3 := Lib.hid ((hb3.block _ (Array.getElem?_eq_some_iff.1 HN1.out).1).trans HN1.out)
  clear hb3 HC2 HTR HN1 HB1
  have e0 : w3.cell? ⟨w.heap.size, 0, none⟩ = some (.string .empty) := mem_cells HN3.out 0
  have e1 : w3.cell? ⟨w.heap.size, 1, none⟩ = some (.string .empty) := mem_cells HN3.out 1
  have e2 : w3.cell? ⟨w.heap.size, 2, none⟩ = some (.string .empty) := mem_cells HN3.out 2
  have f0 := frozen_cells HN3.out 0
  have f1 := frozen_cells HN3.out 1
  have f2 := frozen_cells HN3.out 2
  have HG := Lib.hid (set3 (c1 := .string c1) (d1 := .string d1) (d2 := .string d2) HN3.out)
  go_wp2
  (try simp only [Exit.inBlock, Exit.then])
  refine bodyPost_ret (results_cell_row rfl _ _ w.heap.size 25 #[.string c1, .string d1, .string d2] (0, 0) _ rfl HG.out Tryz.underlying25 rfl (by kernel_rfl)) rfl ?_
  exact ⟨_, _, _, rfl, HRD.out, ((HB3.out.setCell (Nat.le_refl _) _).setCell (Nat.le_refl _) _).setCell (Nat.le_refl _) _⟩
end Go.Proofs.YtafeaeaildfohaaGreatDoor
