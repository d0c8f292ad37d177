/- The statement RingFollowsSaid: for every input the law RingFollows returns true and leaves its arguments as they were. -/
import Derived.Test.YtafeaeaildfohaaRf07
set_option linter.unusedVariables false
set_option linter.unusedSimpArgs false
/- The law RingFollows, walked. -/
namespace Go.Proofs.Ytafeaeaildfohaa
open Go.RowKit Go.Maps

/-- The answer's number, its facts, their rounds. -/
def codeF (rules : List Rul) (l : List Fct) : Int := if (validP rules && validG l) = false then 1 else match followR rules l with | none => 4 | some _ => 0
def factsF (rules : List Rul) (l : List Fct) : List Fct := if (validP rules && validG l) = false then [] else match followR rules l with | none => [] | some M => srt (keysR M)
def roundsF (rules : List Rul) (l : List Fct) : List Int := if (validP rules && validG l) = false then [] else match followR rules l with | none => [] | some M => rndsOf M
theorem codeF_0 {rules : List Rul} {l : List Fct} (h : codeF rules l = 0) : ∃ M, (validP rules && validG l) = true ∧ followR rules l = some M ∧ factsF rules l = srt (keysR M) := by
  unfold codeF at h
  unfold factsF
  split at h
  · cases h
  · next hv =>
    have hv : (validP rules && validG l) = true := by simpa using hv
    cases hf : followR rules l with
    | none => rw [hf] at h; cases h
    | some M => exact ⟨M, hv, rfl, by rw [if_neg (by rw [hv]; simp)]⟩
theorem codeF_in (rules : List Rul) (l : List Fct) : 0 ≤ codeF rules l ∧ codeF rules l ≤ 4 := by
  unfold codeF
  split
  · decide
  · split <;> decide
/-- Following twice is once. -/
theorem codeF_twice {rules : List Rul} {l : List Fct} (h : codeF rules l = 0) (h60 : (factsF rules l).length ≤ 60) : codeF rules (factsF rules l) = 0 ∧ factsF rules (factsF rules l) = factsF rules l := by
  obtain ⟨M, hv, hf, he⟩ := codeF_0 h
  rw [Bool.and_eq_true] at hv
  have hfin := follow_fin hf
  have hg : validG (factsF rules l) = true := validG_of h60 (fun x hx => fin_valid hfin hv.1 hv.2 x (by rw [he, srt_mem] at hx; exact hx))
  obtain ⟨R, hR, hK⟩ := follow_twice hf
  rw [he] at hg
  constructor
  · unfold codeF
    rw [he, if_neg (by rw [hv.1, hg]; simp), hR]
  · rw [he]
    unfold factsF
    rw [if_neg (by rw [hv.1, hg]; simp), hR]
    exact hK
def FolU (rules : List Rul) (l : List Fct) (w : World) (e : Ending) (w' : World) : Prop := ∃ v, e = .returned (.tuple #[v, .int .i64 (codeF rules l)]) ∧ tFcts.rv (mem w') [v] (factsF rules l) ∧ Below w.heap.size w w'
def RndU (rules : List Rul) (l : List Fct) (w : World) (e : Ending) (w' : World) : Prop := ∃ v, e = .returned (.tuple #[v, .int .i64 (codeF rules l)]) ∧ tInts.rv (mem w') [v] (roundsF rules l) ∧ Below w.heap.size w w'
theorem FollowsAnsR.uni {rules : List Rul} {l : List Fct} {w w' : World} {e : Ending} (h : FollowsAnsR rules l w w' e) : FolU rules l w e w' := by
  obtain ⟨hb, h | ⟨h1, h2, h3⟩ | ⟨M, v, h1, h2, h3, h4⟩⟩ := h
  · exact ⟨_, by unfold codeF; rw [if_pos h.1]; exact h.2, by unfold factsF; rw [if_pos h.1]; exact slice_nil _ _, hb⟩
  · exact ⟨_, by unfold codeF; rw [if_neg (by rw [h1]; simp), h2]; exact h3, by unfold factsF; rw [if_neg (by rw [h1]; simp), h2]; exact slice_nil _ _, hb⟩
  · exact ⟨_, by unfold codeF; rw [if_neg (by rw [h1]; simp), h2]; exact h3, by unfold factsF; rw [if_neg (by rw [h1]; simp), h2]; exact h4, hb⟩
theorem FollowsAns.weak {rules : List Rul} {l : List Fct} {w w' : World} {e : Ending} (h : FollowsAns rules l w w' e) : FollowsAnsR rules l w w' e := by
  obtain ⟨hb, h | h | ⟨M, v, h1, h2, h3, h4⟩⟩ := h
  · exact ⟨hb, .inl h⟩
  · exact ⟨hb, .inr (.inl h)⟩
  · exact ⟨hb, .inr (.inr ⟨M, v, h1, h2, h3, tFcts.mono _ _ _ _ (Mem.on_le _ _) h4⟩)⟩
theorem RoundsAns.uni {rules : List Rul} {l : List Fct} {w w' : World} {e : Ending} (h : RoundsAns rules l w w' e) : RndU rules l w e w' := by
  obtain ⟨hb, h | ⟨h1, h2, h3⟩ | ⟨M, v, h1, h2, h3, h4⟩⟩ := h
  · exact ⟨_, by unfold codeF; rw [if_pos h.1]; exact h.2, by unfold roundsF; rw [if_pos h.1]; exact slice_nil _ _, hb⟩
  · exact ⟨_, by unfold codeF; rw [if_neg (by rw [h1]; simp), h2]; exact h3, by unfold roundsF; rw [if_neg (by rw [h1]; simp), h2]; exact slice_nil _ _, hb⟩
  · exact ⟨_, by unfold codeF; rw [if_neg (by rw [h1]; simp), h2]; exact h3, by unfold roundsF; rw [if_neg (by rw [h1]; simp), h2]; exact h4, hb⟩
set_option maxRecDepth 100000 in
set_option maxHeartbeats 8000000 in
theorem ringFollows_law (rules : List Rul) (rv : Value) (l : List Fct) (lv : Value) (w : World) (hr : tRuls.rv (mem w) [rv] rules) (hf : tFcts.rv (mem w) [lv] l) (hsz : l.length * 48 ≤ 140737488355328) :
    Calls Try.prog 3 #[rv, lv] w fun e w' => e = .returned (.bool true) ∧ Below w.heap.size w w' := by
  have HHV := Lib.hid (heavy_any rules l rv lv w hr hf hsz)
  have HFO := Lib.hid (fun w' (hb : Below w.heap.size w w') => (ringFollows_any rules l rv lv w' (tRuls.mono _ _ _ _ (below_mem hb) hr) (tFcts.mono _ _ _ _ (below_mem hb) hf)).mono (fun e w2 h => FollowsAnsR.uni (FollowsAns.weak h)))
  have HFR := Lib.hid (fun w' (hb : Below w.heap.size w w') => (refFollows_any rules l rv lv w' (tRuls.mono _ _ _ _ (below_mem hb) hr) (tFcts.mono _ _ _ _ (below_mem hb) hf)).mono (fun e w2 h => FollowsAnsR.uni h))
  have HRO := Lib.hid (fun w' (hb : Below w.heap.size w w') => (ringRounds_any rules l rv lv w' (tRuls.mono _ _ _ _ (below_mem hb) hr) (tFcts.mono _ _ _ _ (below_mem hb) hf)).mono (fun e w2 h => RoundsAns.uni h))
  have HRR := Lib.hid (fun w' (hb : Below w.heap.size w w') => (refRoundsF_any rules l rv lv w' (tRuls.mono _ _ _ _ (below_mem hb) hr) (tFcts.mono _ _ _ _ (below_mem hb) hf)).mono (fun e w2 h => RoundsAns.uni h))
  have HTW := Lib.hid (fun (F : List Fct) (fv : Value) w' (hb : Below w.heap.size w w') (hfv : tFcts.rv (mem w') [fv] F) => (ringFollows_any rules F rv fv w' (tRuls.mono _ _ _ _ (below_mem hb) hr) hfv).mono (fun e w2 h => FollowsAnsR.uni (FollowsAns.weak h)))
  obtain ⟨ar, cr, rfl, hlr, hmr, hr⟩ := slice_form hr
  obtain ⟨af, cf, rfl, hlf, hmf, hf⟩ := slice_form hf
  have hcr : cr ≤ 9223372036854775807 := by unfold maxLen at hmr; exact hmr
  have hcf : cf ≤ 9223372036854775807 := by unfold maxLen at hmf; exact hmf
  have HR := Lib.hid (fun wr (hb : Below w.heap.size w wr) => tRuls.mono _ _ _ _ (below_mem hb) hr)
  have HF := Lib.hid (fun wr (hb : Below w.heap.size w wr) => tFcts.mono _ _ _ _ (below_mem hb) hf)
  clear hr hf hmr hmf hsz
  go_enter Try.func3, Try.ntmps3
  go_wp2_with fail
  refine HHV.out.mono ?_
  rintro e w1 ⟨b, rfl, hb1, hsm⟩
  have HB1 := Lib.hid hb1
  clear HHV hb1 hsm
  cases b with
  | true =>
    go_wp2_with fail
    refine (awake_any w1).mono ?_
    rintro e w2 ⟨rfl, hb2⟩
    have HB2 := Lib.hid (pure_trans HB1.out hb2)
    go_wp2
    go_ret
    exact ⟨rfl, HB2.out⟩
  | false =>
  go_wp2_with fail
  go_loopw [5] (fun i wr => ∃ k : Nat, k ≤ rules.length ∧ i = .int .i64 k ∧ Hid (Below w.heap.size w wr)) (fun i _ => rules.length - (intOf i).toNat)
  case atStart => exact ⟨0, by omega, rfl, HB1⟩
  case round =>
    obtain ⟨k, hk, rfl, HB⟩ := hrel
    by_cases hlt : k < rules.length
    · obtain ⟨b, o, bv, rfl, ⟨q0, q1, q2, q3⟩, hok, hbd⟩ := ruls_at (HR.out _ HB.out) hlt
      have c0 : wr.cell? ⟨b, o + k * 4, none⟩ = some (.string rules[k].hd.n) := q0
      have c1 : wr.cell? ⟨b, o + k * 4 + 1, none⟩ = some (.string rules[k].hd.a) := q1
      have c2 : wr.cell? ⟨b, o + k * 4 + 2, none⟩ = some (.string rules[k].hd.b) := q2
      have c3 : wr.cell? ⟨b, o + k * 4 + 3, none⟩ = some bv := q3
      have HV1 := Lib.hid (fun (w' : World) (hb : Below wr.heap.size wr w') => ringRule_any rules[k] bv w' hok (tFcts.mono _ _ _ _ (below_mem hb) hbd))
      have HV2 := Lib.hid (fun (w' : World) (hb : Below wr.heap.size wr w') => refRule_any rules[k] bv w' hok (tFcts.mono _ _ _ _ (below_mem hb) hbd))
      obtain ⟨ab, cb, rfl, -, -, -⟩ := slice_form hbd
      clear q0 q1 q2 q3 hok hbd
      generalize rules[k] = r at *
      obtain ⟨⟨r1, r2, r3⟩, bd⟩ := r
      simp only at c0 c1 c2 c3
      generalize validR ⟨⟨r1, r2, r3⟩, bd⟩ = vb at *
      have hvb1 : (vb != vb) = false := by simp
      have hvb2 : (vb == vb) = true := by simp
      have hb0 : Below wr.heap.size wr wr.drew := (Below.refl _ _).drew
      have HKP := Lib.hid (fun (w' : World) (hb : Below wr.heap.size wr w') => (show w'.cell? ⟨b, o + k * 4, none⟩ = some (.string r1) ∧ w'.cell? ⟨b, o + k * 4 + 1, none⟩ = some (.string r2) ∧ w'.cell? ⟨b, o + k * 4 + 2, none⟩ = some (.string r3) ∧ w'.cell? ⟨b, o + k * 4 + 3, none⟩ = some (.slice ab bd.length cb) from ⟨below_mem hb _ _ _ c0, below_mem hb _ _ _ c1, below_mem hb _ _ _ c2, below_mem hb _ _ _ c3⟩))
      go_wp2_with fail
      go_region_held3 (fun w' => w'.cell? ⟨b, o + k * 4, none⟩ = some (.string r1) ∧ w'.cell? ⟨b, o + k * 4 + 1, none⟩ = some (.string r2) ∧ w'.cell? ⟨b, o + k * 4 + 2, none⟩ = some (.string r3) ∧ w'.cell? ⟨b, o + k * 4 + 3, none⟩ = some (.slice ab bd.length cb))
        ((refine HKP.out _ ?_; with_reducible assumption))
        ((first
          | (go_at_call 9; refine (HV1.out _ (by with_reducible assumption)).mono ?_; rintro e w3 ⟨rfl, hb3⟩; have hb3' := pure_trans (by with_reducible assumption) hb3)
          | (go_at_call 10; refine (HV2.out _ (by with_reducible assumption)).mono ?_; rintro e w3 ⟨rfl, hb3⟩; have hb3' := pure_trans (by with_reducible assumption) hb3)))
      have HB3 := Lib.hid (pure_trans HB.out hb3')
      clear hb3' hb3 hb0 HKP HV1 HV2 c0 c1 c2 c3
      go_wp2
      go_roundw
      case rel => exact ⟨k + 1, by omega, by go_num, HB3⟩
      case measure => simp [intOf]; omega
    · obtain rfl : k = rules.length := by omega
      clear hk hlt HB1
      go_wp2_with fail
      go_loopw [6] (fun i wr => ∃ k : Nat, k ≤ l.length ∧ i = .int .i64 k ∧ Hid (Below w.heap.size w wr)) (fun i _ => l.length - (intOf i).toNat)
      case atStart => exact ⟨0, by omega, rfl, HB⟩
      case round =>
        clear HB
        obtain ⟨k, hk, rfl, HB⟩ := hrel
        by_cases hlt : k < l.length
        · obtain ⟨b, o, rfl, ⟨q0, q1, q2⟩, hok⟩ := fcts_at (HF.out _ HB.out) hlt
          have c0 : wr.cell? ⟨b, o + k * 3, none⟩ = some (.string l[k].n) := q0
          have c1 : wr.cell? ⟨b, o + k * 3 + 1, none⟩ = some (.string l[k].a) := q1
          have c2 : wr.cell? ⟨b, o + k * 3 + 2, none⟩ = some (.string l[k].b) := q2
          have HV1 := Lib.hid (fun (w' : World) => ringFact_any l[k] w' hok)
          have HV2 := Lib.hid (fun (w' : World) => refFact_any l[k] w' hok)
          clear q0 q1 q2 hok
          generalize l[k] = r at *
          obtain ⟨r1, r2, r3⟩ := r
          simp only at c0 c1 c2
          generalize validF ⟨r1, r2, r3⟩ = vb at *
          have hvb1 : (vb != vb) = false := by simp
          have hvb2 : (vb == vb) = true := by simp
          have hb0 : Below wr.heap.size wr wr.drew := (Below.refl _ _).drew
          have HKP := Lib.hid (fun (w' : World) (hb : Below wr.heap.size wr w') => (show w'.cell? ⟨b, o + k * 3, none⟩ = some (.string r1) ∧ w'.cell? ⟨b, o + k * 3 + 1, none⟩ = some (.string r2) ∧ w'.cell? ⟨b, o + k * 3 + 2, none⟩ = some (.string r3) from ⟨below_mem hb _ _ _ c0, below_mem hb _ _ _ c1, below_mem hb _ _ _ c2⟩))
          go_wp2_with fail
          go_region_held3 (fun w' => w'.cell? ⟨b, o + k * 3, none⟩ = some (.string r1) ∧ w'.cell? ⟨b, o + k * 3 + 1, none⟩ = some (.string r2) ∧ w'.cell? ⟨b, o + k * 3 + 2, none⟩ = some (.string r3))
            ((refine HKP.out _ ?_; with_reducible assumption))
            ((first
              | (go_at_call 11; refine (HV1.out _).mono ?_; rintro e w3 ⟨rfl, hb3⟩; have hb3' := pure_trans (by with_reducible assumption) hb3)
              | (go_at_call 12; refine (HV2.out _).mono ?_; rintro e w3 ⟨rfl, hb3⟩; have hb3' := pure_trans (by with_reducible assumption) hb3)))
          have HB3 := Lib.hid (pure_trans HB.out hb3')
          clear hb3' hb3 hb0 HKP HV1 HV2 c0 c1 c2
          go_wp2
          go_roundw
          case rel => exact ⟨k + 1, by omega, by go_num, HB3⟩
          case measure => simp [intOf]; omega
        · obtain rfl : k = l.length := by omega
          clear hk hlt
          obtain ⟨c, hce⟩ : ∃ c, c = codeF rules l := ⟨_, rfl⟩
          obtain ⟨F, hfe⟩ : ∃ F, F = factsF rules l := ⟨_, rfl⟩
          obtain ⟨R, hre⟩ : ∃ R, R = roundsF rules l := ⟨_, rfl⟩
          have HC0 := Lib.hid (fun h h2 => codeF_twice (rules := rules) (l := l) h h2)
          rw [← hce, ← hfe] at HC0
          have HCE := Lib.hid hce
          have HFE := Lib.hid hfe
          have HRE := Lib.hid hre
          clear hce hfe hre
          have hcc : (c != c) = false := by simp
          have hcc2 : (c == c) = true := by simp
          go_wp2_with fail
          refine (HFO.out wr HB.out).mono ?_
          rintro e w4 ⟨v4, rfl, hv4, hb4⟩
          rw [← HCE.out]
          rw [← HFE.out] at hv4
          have HB4 := Lib.hid (pure_trans HB.out hb4)
          have HV4 := Lib.hid (fun (w' : World) (hb : Below w4.heap.size w4 w') => tFcts.mono _ _ _ _ (below_mem hb) hv4)
          obtain ⟨a4, c4, rfl, -⟩ := slice_form hv4
          clear hv4 hb4 HB HFO
          go_wp2_with fail
          refine (HFR.out w4 HB4.out).mono ?_
          rintro e w5 ⟨v5, rfl, hv5, hb5⟩
          rw [← HCE.out]
          rw [← HFE.out] at hv5
          have HB5 := Lib.hid (pure_trans HB4.out hb5)
          have HSM := Lib.hid (refSame_any F _ _ w5 (HV4.out w5 hb5) hv5)
          have HV5 := Lib.hid (HV4.out w5 hb5)
          obtain ⟨a5, c5, rfl, -⟩ := slice_form hv5
          clear hv5 hb5 HFR HV4 HB4
          go_wp2_with fail
          refine HSM.out.mono ?_
          rintro e w6 ⟨rfl, hb6⟩
          have HB6 := Lib.hid (pure_trans HB5.out hb6)
          have HV6 := Lib.hid (fun (w' : World) (hb : Below w6.heap.size w6 w') => tFcts.mono _ _ _ _ (below_mem (pure_trans hb6 hb)) HV5.out)
          clear hb6 HSM HV5 HB5
          go_wp2_with fail
          refine (HRO.out w6 HB6.out).mono ?_
          rintro e w7 ⟨v7, rfl, hv7, hb7⟩
          rw [← HCE.out]
          rw [← HRE.out] at hv7
          have HB7 := Lib.hid (pure_trans HB6.out hb7)
          have HQ7 := Lib.hid (fun (w' : World) (hb : Below w7.heap.size w7 w') => tInts.mono _ _ _ _ (below_mem hb) hv7)
          have HV7 := Lib.hid (fun (w' : World) (hb : Below w7.heap.size w7 w') => HV6.out w' (pure_trans hb7 hb))
          obtain ⟨a7, c7, rfl, hl7, hm7, -⟩ := slice_form hv7
          have hc7 : c7 ≤ 9223372036854775807 := by unfold maxLen at hm7; exact hm7
          clear hv7 hb7 HRO HV6 HB6 hm7
          go_wp2_with fail
          refine (HRR.out w7 HB7.out).mono ?_
          rintro e w8 ⟨v8, rfl, hv8, hb8⟩
          rw [← HCE.out]
          rw [← HRE.out] at hv8
          have HB8 := Lib.hid (pure_trans HB7.out hb8)
          have HQ8 := Lib.hid (fun (w' : World) (hb : Below w8.heap.size w8 w') => HQ7.out w' (pure_trans hb8 hb))
          have HP8 := Lib.hid (fun (w' : World) (hb : Below w8.heap.size w8 w') => tInts.mono _ _ _ _ (below_mem hb) hv8)
          have HV8 := Lib.hid (fun (w' : World) (hb : Below w8.heap.size w8 w') => HV7.out w' (pure_trans hb8 hb))
          obtain ⟨a8, c8, rfl, -⟩ := slice_form hv8
          clear hv8 hb8 HRR HV7 HB7 HQ7
          have hrl : ((R.length : Int) != (R.length : Int)) = false := by simp
          go_wp2_with fail
          go_loopw [15] (fun i wr => ∃ k : Nat, k ≤ R.length ∧ i = .int .i64 k ∧ Hid (Below w8.heap.size w8 wr)) (fun i _ => R.length - (intOf i).toNat)
          case atStart => exact ⟨0, by omega, rfl, Lib.hid (Below.refl _ _)⟩
          case round =>
            obtain ⟨k, hk, rfl, HB⟩ := hrel
            by_cases hlt : k < R.length
            · obtain ⟨b, o, rfl, cs, hat, rfl, -⟩ := slice_at (HQ8.out wr HB.out) hlt
              obtain ⟨b2, o2, rfl, cs2, hat2, rfl, -⟩ := slice_at (HP8.out wr HB.out) hlt
              have d0 : wr.cell? ⟨b, o + k, none⟩ = some (.int .i64 R[k]) := by have := hat 0 _ rfl; rw [show o + k * tInt.sz + 0 = o + k from by show o + k * 1 + 0 = _; omega] at this; exact this
              have d1 : wr.cell? ⟨b2, o2 + k, none⟩ = some (.int .i64 R[k]) := by have := hat2 0 _ rfl; rw [show o2 + k * tInt.sz + 0 = o2 + k from by show o2 + k * 1 + 0 = _; omega] at this; exact this
              clear hat hat2
              generalize R[k] = q at *
              have hqq : (q != q) = false := by simp
              go_wp2_with fail
              go_quiet (fail)
              go_wp2
              go_roundw
              case rel => exact ⟨k + 1, by omega, by go_num, Lib.hid (HB.out.trans ⟨rfl, rfl, rfl, Nat.le_refl _, fun _ _ => rfl⟩)⟩
              case measure => simp [intOf]; omega
            · obtain rfl : k = R.length := by omega
              have HBE := Lib.hid (pure_trans HB8.out HB.out)
              have HVE := Lib.hid (HV8.out wr HB.out)
              clear HQ8 HP8 HV8 HB8
              by_cases h0 : c = 0
              · subst h0
                by_cases h60 : (60 : Int) < F.length
                · go_wp2_with fail
                  refine (awake_any wr).mono ?_
                  rintro e w9 ⟨rfl, hb9⟩
                  have HB9 := Lib.hid (pure_trans HBE.out hb9)
                  go_wp2
                  go_ret
                  exact ⟨rfl, HB9.out⟩
                · have HT := Lib.hid (HC0.out rfl (by omega))
                  go_wp2_with fail
                  refine (HTW.out F _ wr HBE.out HVE.out).mono ?_
                  rintro e w9 ⟨v9, rfl, hv9, hb9⟩
                  rw [HT.out.1]
                  rw [HT.out.2] at hv9
                  have HB9 := Lib.hid (pure_trans HBE.out hb9)
                  have HSM := Lib.hid (refSame_any F _ _ w9 (tFcts.mono _ _ _ _ (below_mem hb9) HVE.out) hv9)
                  obtain ⟨a9, c9, rfl, -⟩ := slice_form hv9
                  clear hv9 hb9 HTW HVE HBE
                  go_wp2_with fail
                  refine HSM.out.mono ?_
                  rintro e w10 ⟨rfl, hb10⟩
                  have HB10 := Lib.hid (pure_trans HB9.out hb10)
                  clear hb10 HSM HB9
                  go_wp2_with fail
                  refine (awake_any w10).mono ?_
                  rintro e w11 ⟨rfl, hb11⟩
                  have HB11 := Lib.hid (pure_trans HB10.out hb11)
                  go_wp2
                  go_ret
                  exact ⟨rfl, HB11.out⟩
              · have hc0 : (c != 0) = true := by simp [h0]
                have hc1 : (c == 0) = false := by simp [h0]
                clear h0
                go_wp2_with fail
                refine (awake_any wr).mono ?_
                rintro e w9 ⟨rfl, hb9⟩
                have HB9 := Lib.hid (pure_trans HBE.out hb9)
                go_wp2
                go_ret
                exact ⟨rfl, HB9.out⟩
end Go.Proofs.Ytafeaeaildfohaa
namespace Go.Proofs.Ytafeaeaildfohaa.lawRingFollows
open Go.ChangeShapes Go.WideShapes Go.ChangeAt Go.RowKit
set_option maxRecDepth 100000 in
theorem lifted (os : Os) (started : os.Started) (H : Type) (enc : TypeId × Value → H) :
    ReturnsInHanded {} Try.checked os 3 .any (Rows.ringFollowsSpec.pre6 enc Try.prog Try.f3 Rows.ringFollowsRow.domain false) (Rows.ringFollowsSpec.post enc Try.prog Try.f3 false true false false) := by
  refine returnsInHanded_of_change_sized (C := Try.checked) Try.own started (by kernel_rfl) Try.func3
    (ChangeSpec.witness6 (enc := enc) (C := Try.checked) false ⟨#[], #[.slice none 0 0, .slice none 0 0], []⟩ 8 (by kernel_rfl) (by kernel_rfl) (by kernel_rfl) (by kernel_rfl)) ?_
  intro W base args ds gs before hval0 hW hcnd hszs _
  have hval : ∀ (j : Nat) t v, Try.f3.params[j]? = some t → args[j]? = some v → Value.okWide Try.prog W .any base t v := hval0
  have hW' := hW
  obtain ⟨p, q, hA0, hV, rfl, hfz, hnd⟩ := hW
  have hA : DataW.TrodAll enc Try.prog W 0 (fun _ => true) true Try.f3.params.toList args.toList ds p := hA0
  rw [Try.params3] at hA hval
  obtain ⟨v0, vs0, d0, ds0, p0, q0, hargs, rfl, rfl, h0, r0⟩ := trodAll_cons hA
  obtain ⟨v1, vs1, d1, ds1, p1, q1, rfl, rfl, rfl, h1, r1⟩ := trodAll_cons r0
  obtain ⟨rfl, rfl, rfl⟩ := trodAll_nil r1
  obtain rfl : args = #[v0, v1] := by cases args; simp_all
  obtain ⟨rfl, rfl⟩ := trodVars_none hV
  obtain ⟨x0, w0⟩ := arg_slice (t := tRul) reads_ruls Try.underlying22 (hval 0 22 v0 rfl rfl) h0
  obtain ⟨x1, w1⟩ := arg_slice (t := tFct) reads_fcts Try.underlying23 (hval 1 23 v1 rfl rfl) h1
  have hsz := sized_len (t := tFct) (v := v1) 1 48 Try.underlying23 (by kernel_rfl) w1 h1 hszs (by rw [Try.params3]; rfl) rfl
  clear hA0 hval0 hszs
  refine (ringFollows_law x0 v0 x1 v1 W w0 w1 hsz).mono fun e W' ⟨he, bel⟩ => ?_
  subst he
  exact ⟨_, rfl, law_post Try.laidOut rfl (by rw [Try.params3]; intro t ht; have hs : Try.prog.types.size = Try.prog.types.size := rfl; simp only [List.mem_cons, List.not_mem_nil, or_false] at ht; rcases ht with rfl | rfl <;> exact ⟨by kernel_rfl, of_decide_eq_true (by kernel_rfl)⟩) (by kernel_rfl) Try.underlying4 rfl rfl rfl hW' bel⟩

theorem proved : Rows.RingFollowsSaid :=
  OpenClaim.holds_of_wide 3 Try.f3 rfl rfl rfl rfl rfl rfl rfl ⟨rfl, rfl, rfl, rfl, rfl⟩ rfl rfl rfl rfl rfl (by kernel_rfl) Try.func3 (by kernel_rfl)
    (of_decide_eq_true (by kernel_rfl)) (by unfold Func.isWrapper; first | (rw [if_pos (by decide +kernel)]; kernel_rfl) | (rw [if_neg (by decide +kernel)]; exact ⟨rfl, rfl⟩))
    (fun os started H enc _ => lifted os started H enc)
#print axioms proved
end Go.Proofs.Ytafeaeaildfohaa.lawRingFollows
