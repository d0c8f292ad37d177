/- Part 9 of the texts that the law's proof stands on, merged. -/
import Derived.Test.YtafeaeaildfohaaRf08
set_option linter.unusedVariables false
set_option linter.unusedSimpArgs false
/- The reference's Gives; the law RingNeeds, walked. -/
namespace Go.Proofs.Ytafeaeaildfohaa
open Go.RowKit Go.Maps

def codeG (r : Rul) (l : List Fct) : Int := if (validR r && validG l) = false then 1 else if 400 < (srt (heads r (srt l))).length then 4 else 0
def factsG (r : Rul) (l : List Fct) : List Fct := if (validR r && validG l) = false then [] else if 400 < (srt (heads r (srt l))).length then [] else srt (heads r (srt l))
def GiveU (r : Rul) (l : List Fct) (w : World) (e : Ending) (w' : World) : Prop := ∃ v, e = .returned (.tuple #[v, .int .i64 (codeG r l)]) ∧ tFcts.rv (mem w') [v] (factsG r l) ∧ Below w.heap.size w w'
theorem GiveU.bad {r : Rul} {l : List Fct} {w w' : World} (h : (validR r && validG l) = false) (hb : Below w.heap.size w w') : GiveU r l w (.returned (.tuple #[.slice none 0 0, .int .i64 1])) w' :=
  ⟨.slice none 0 0, by unfold codeG; rw [if_pos h], by unfold factsG; rw [if_pos h]; exact slice_nil _ _, hb⟩
theorem GiveU.big {r : Rul} {l : List Fct} {w w' : World} (h : (validR r && validG l) = true) (h4 : 400 < (srt (heads r (srt l))).length) (hb : Below w.heap.size w w') : GiveU r l w (.returned (.tuple #[.slice none 0 0, .int .i64 4])) w' :=
  ⟨.slice none 0 0, by unfold codeG; rw [if_neg (by rw [h]; simp), if_pos h4], by unfold factsG; rw [if_neg (by rw [h]; simp), if_pos h4]; exact slice_nil _ _, hb⟩
theorem GiveU.yes {r : Rul} {l : List Fct} {w w' : World} {v : Value} (h : (validR r && validG l) = true) (h4 : ¬ 400 < (srt (heads r (srt l))).length) (hv : tFcts.rv (mem w') [v] (srt (heads r (srt l)))) (hb : Below w.heap.size w w') : GiveU r l w (.returned (.tuple #[v, .int .i64 0])) w' :=
  ⟨v, by unfold codeG; rw [if_neg (by rw [h]; simp), if_neg h4], by unfold factsG; rw [if_neg (by rw [h]; simp), if_neg h4]; exact hv, hb⟩
theorem GivesAns.uni {r : Rul} {l : List Fct} {w w' : World} {e : Ending} (h : GivesAns r l w w' e) : GiveU r l w e w' := by
  obtain ⟨hb, ⟨h1, rfl⟩ | ⟨h1, h2, rfl⟩ | ⟨v, h1, h2, rfl, h4⟩⟩ := h
  · exact GiveU.bad h1 hb
  · exact GiveU.big h1 h2 hb
  · exact GiveU.yes h1 (by omega) (tFcts.mono _ _ _ _ (Mem.on_le _ _) h4) hb
theorem validR_ok3 {r : Rul} (h : validR r = true) : r.bd.length ≤ 3 := (validR_bd h).2
set_option maxRecDepth 100000 in
set_option maxHeartbeats 8000000 in
theorem refGivesF_any (r : Rul) (l : List Fct) (bv lv : Value) (w : World) (hok : okF r.hd) (hbd : tFcts.rv (mem w) [bv] r.bd) (hl : tFcts.rv (mem w) [lv] l) :
    Calls Try.prog 23 #[r.v bv, lv] w (GiveU r l w) := by
  have HV := Lib.hid (fun w' (hb : Below w.heap.size w w') => refRule_any r bv w' hok (tFcts.mono _ _ _ _ (below_mem hb) hbd))
  have HG := Lib.hid (fun w' (hb : Below w.heap.size w w') => refFacts_any l lv w' (tFcts.mono _ _ _ _ (below_mem hb) hl))
  have HGV := Lib.hid (fun (L : List Fct) (sv : Value) w' (hb : Below w.heap.size w w') (h1 : tFcts.rv (mem w') [sv] L) (h2 : r.bd.length ≤ 3) (h3 : L.length ≤ 400) => refGives_any r L bv sv w' hok (tFcts.mono _ _ _ _ (below_mem hb) hbd) h1 h2 h3)
  obtain ⟨ab, cb, rfl, -, -, -⟩ := slice_form hbd
  obtain ⟨al, cl, rfl, hll, hml, hl⟩ := slice_form hl
  have hcl : cl ≤ 9223372036854775807 := by unfold maxLen at hml; exact hml
  have HL := Lib.hid (fun wr (hb : Below w.heap.size w wr) => tFcts.mono _ _ _ _ (below_mem hb) hl)
  obtain ⟨⟨r1, r2, r3⟩, bd⟩ := r
  obtain ⟨X, hX⟩ : ∃ X, X = w.alloc (.cells #[.string r1, .string r2, .string r3, .slice ab bd.length cb] 31) := ⟨_, rfl⟩
  have HBX := Lib.hid (show Below w.heap.size w X from by rw [hX]; exact boxW w _)
  have HCX := Lib.hid (show X.heap[w.heap.size]? = some (.cells #[.string r1, .string r2, .string r3, .slice ab bd.length cb] 31 (0, 0)) from by rw [hX]; exact heap_alloc_new w _)
  have HX := Lib.hid hX
  have HCB := Lib.hid (fun (w' : World) (hb : Below X.heap.size X w') => (hb.block _ (Array.getElem?_eq_some_iff.1 HCX.out).1).trans HCX.out)
  have hc := HCX.out
  have c0 : X.cell? ⟨w.heap.size, 0, none⟩ = some (.string r1) := mem_cells hc 0
  have c1 : X.cell? ⟨w.heap.size, 1, none⟩ = some (.string r2) := mem_cells hc 1
  have c2 : X.cell? ⟨w.heap.size, 2, none⟩ = some (.string r3) := mem_cells hc 2
  have c3 : X.cell? ⟨w.heap.size, 3, none⟩ = some (.slice ab bd.length cb) := mem_cells hc 3
  clear hX hbd hl hml hok hc
  go_enter Try.func23, Try.ntmps23
  go_wp2_with fail
  rw [← HX.out]
  refine (HV.out X HBX.out).mono ?_
  rintro e w1 ⟨rfl, hb1⟩
  clear c0 c1 c2 c3
  cases hp : validR ⟨⟨r1, r2, r3⟩, bd⟩ with
  | false =>
    have HE := Lib.hid (GiveU.bad (r := ⟨⟨r1, r2, r3⟩, bd⟩) (l := l) (by rw [hp]; rfl) (pure_trans HBX.out hb1))
    clear HV HG HGV hp
    go_wp2
    go_ret2
    exact HE.out
  | true =>
  go_wp2_with fail
  refine (HG.out w1 (pure_trans HBX.out hb1)).mono ?_
  rintro e w2 ⟨rfl, hb2⟩
  have hb2 := pure_trans hb1 hb2
  cases hg : validG l with
  | false =>
    have HE := Lib.hid (GiveU.bad (r := ⟨⟨r1, r2, r3⟩, bd⟩) (l := l) (by rw [hp, hg]; rfl) (pure_trans HBX.out hb2))
    clear HV HG HGV hp
    go_wp2
    go_ret2
    exact HE.out
  | true =>
  have HVV := Lib.hid (show (validR ⟨⟨r1, r2, r3⟩, bd⟩ && validG l) = true by rw [hp, hg]; rfl)
  have HLL := Lib.hid (validG_len hg)
  have HB3 := Lib.hid (validR_ok3 hp)
  have HB2 := Lib.hid hb2
  clear HV HG hp hg hb1 hb2
  go_wp2_with fail
  go_loopw [6, 7] (fun av i wr => ∃ k : Nat, k ≤ l.length ∧ i = .int .i64 k ∧ Hid (tFcts.rv ((mem wr).on (w.heap.size ≤ ·)) [av] (srt (l.take k))) ∧ Hid (Below X.heap.size X wr)) (fun _ i _ => l.length - (intOf i).toNat)
  case atStart => exact ⟨0, by omega, rfl, Lib.hid (slice_nil _ _), HB2⟩
  case round =>
    clear HB2
    obtain ⟨k, hk, rfl, HO, HBR⟩ := hrel
    by_cases hlt : k < l.length
    · obtain ⟨b, o, rfl, ⟨q0, q1, q2⟩, hok⟩ := fcts_at (HL.out _ (pure_trans HBX.out HBR.out)) hlt
      have c0 : wr.cell? ⟨b, o + k * 3, none⟩ = some (.string l[k].n) := q0
      have c1 : wr.cell? ⟨b, o + k * 3 + 1, none⟩ = some (.string l[k].a) := q1
      have c2 : wr.cell? ⟨b, o + k * 3 + 2, none⟩ = some (.string l[k].b) := q2
      have HTT := Lib.hid (show putS (srt (l.take k)) l[k] = srt (l.take (k + 1)) from by rw [List.take_succ_eq_append_getElem hlt, srt_snoc])
      have HA := Lib.hid (srt_asc (l.take k))
      have HLN := Lib.hid (srt_len_take (l := l) hk)
      have HOK := Lib.hid hok
      clear q0 q1 q2 hok
      generalize l[k] = y at *
      generalize srt (l.take k) = s at *
      obtain ⟨a0, e0, rfl, -⟩ := slice_form HO.out
      have HPUT := Lib.hid (refPut_any (w.heap.size ≤ ·) s y _ wr HO.out HOK.out HA.out (by have := HLN.out; have := HLL.out; omega))
      obtain ⟨y1, y2, y3⟩ := y
      simp only at c0 c1 c2
      go_wp2_with fail
      refine HPUT.out.mono ?_
      rintro e w3 ⟨v3, rfl, hv3, hb3⟩
      have HV3 := Lib.hid (tFcts.mono _ _ _ _ (Mem.on_mono _ (fun q (h : w.heap.size ≤ q ∨ wr.heap.size ≤ q) => by
        have h1 := (pure_trans HBX.out HBR.out).size
        rcases h with h | h
        · exact h
        · show w.heap.size ≤ q
          omega)) hv3)
      have HB4 := Lib.hid (pure_trans HBR.out hb3)
      obtain ⟨a1, e1, rfl, -⟩ := slice_form hv3
      clear hv3 hb3 HPUT HO HBR
      go_wp2
      go_roundw
      case rel => exact ⟨k + 1, by omega, by go_num, by rw [← HTT.out]; exact HV3, HB4⟩
      case measure => simp [intOf]; omega
    · obtain rfl : k = l.length := by omega
      rw [List.take_length] at HO
      have hc := HCB.out wr HBR.out
      have d0 : wr.cell? ⟨w.heap.size, 0, none⟩ = some (.string r1) := mem_cells hc 0
      have d1 : wr.cell? ⟨w.heap.size, 1, none⟩ = some (.string r2) := mem_cells hc 1
      have d2 : wr.cell? ⟨w.heap.size, 2, none⟩ = some (.string r3) := mem_cells hc 2
      have d3 : wr.cell? ⟨w.heap.size, 3, none⟩ = some (.slice ab bd.length cb) := mem_cells hc 3
      have HBW := Lib.hid (pure_trans HBX.out HBR.out)
      have HCALL := Lib.hid (HGV.out (srt l) u6 wr HBW.out (tFcts.mono _ _ _ _ (Mem.on_le _ _) HO.out) HB3.out (by have := srt_len_le l; have := HLL.out; omega))
      obtain ⟨a0, e0, rfl, -⟩ := slice_form HO.out
      clear hc HO HGV hk hlt
      go_wp2_with fail
      refine HCALL.out.mono ?_
      rintro e w3 ⟨v3, rfl, hv3, hb3⟩
      have HB4 := Lib.hid (pure_trans HBW.out hb3)
      by_cases h4 : 400 < (srt (heads ⟨⟨r1, r2, r3⟩, bd⟩ (srt l))).length
      · have HE := Lib.hid (GiveU.big HVV.out h4 HB4.out)
        obtain ⟨a1, e1, rfl, -⟩ := slice_form hv3
        clear HCALL hv3 hb3 d0 d1 d2 d3
        generalize (srt (heads ⟨⟨r1, r2, r3⟩, bd⟩ (srt l))).length = n at *
        have h5 : decide ((400 : Int) < (n : Int)) = true := decide_eq_true (by omega)
        clear h4
        go_wp2
        go_ret2
        exact HE.out
      · have HE := Lib.hid (GiveU.yes HVV.out h4 (tFcts.mono _ _ _ _ (Mem.on_le _ _) hv3) HB4.out)
        obtain ⟨a1, e1, rfl, -⟩ := slice_form hv3
        clear HCALL hv3 hb3 d0 d1 d2 d3
        generalize (srt (heads ⟨⟨r1, r2, r3⟩, bd⟩ (srt l))).length = n at *
        have h5 : decide ((400 : Int) < (n : Int)) = false := decide_eq_false (by omega)
        clear h4
        go_wp2
        go_ret2
        exact HE.out
set_option maxRecDepth 100000 in
set_option maxHeartbeats 8000000 in
theorem ringNeeds_any (rules : List Rul) (rv : Value) (l : List Fct) (lv : Value) (f : Fct) (w : World) (hr : tRuls.rv (mem w) [rv] rules) (hf : tFcts.rv (mem w) [lv] l) (hok : okF f) (hsz : l.length * 48 ≤ 140737488355328) :
    Calls Try.prog 5 #[rv, lv, f.v] w fun e w' => e = .returned (.bool true) ∧ Below w.heap.size w w' := by
  have HHV := Lib.hid (fun w' (hb : Below w.heap.size w w') => heavy_any rules l rv lv w' (tRuls.mono _ _ _ _ (below_mem hb) hr) (tFcts.mono _ _ _ _ (below_mem hb) hf) hsz)
  have HN1 := Lib.hid (fun w' (hb : Below w.heap.size w w') => ringNeeded_any rules l f rv lv w' (tRuls.mono _ _ _ _ (below_mem hb) hr) (tFcts.mono _ _ _ _ (below_mem hb) hf) hok)
  have HN2 := Lib.hid (fun w' (hb : Below w.heap.size w w') => refNeeded_any rules l f rv lv w' (tRuls.mono _ _ _ _ (below_mem hb) hr) (tFcts.mono _ _ _ _ (below_mem hb) hf) hok)
  have HG1 := Lib.hid (fun (r : Rul) (bv : Value) w' (hb : Below w.heap.size w w') (h1 : okF r.hd) (h2 : tFcts.rv (mem w') [bv] r.bd) => (ringGives_any r l bv lv w' h1 h2 (tFcts.mono _ _ _ _ (below_mem hb) hf)).mono (fun e w2 h => GivesAns.uni h))
  have HG2 := Lib.hid (fun (r : Rul) (bv : Value) w' (hb : Below w.heap.size w w') (h1 : okF r.hd) (h2 : tFcts.rv (mem w') [bv] r.bd) => refGivesF_any r l bv lv w' h1 h2 (tFcts.mono _ _ _ _ (below_mem hb) hf))
  obtain ⟨ar, cr, rfl, hlr, hmr, hr⟩ := slice_form hr
  obtain ⟨af, cf, rfl, -⟩ := slice_form hf
  have hcr : cr ≤ 9223372036854775807 := by unfold maxLen at hmr; exact hmr
  have HR := Lib.hid (fun wr (hb : Below w.heap.size w wr) => tRuls.mono _ _ _ _ (below_mem hb) hr)
  have HOKF := Lib.hid hok
  obtain ⟨f1, f2, f3⟩ := f
  obtain ⟨X, hX⟩ : ∃ X, X = w.alloc (.cells #[.string f1, .string f2, .string f3] 33) := ⟨_, rfl⟩
  have HBX := Lib.hid (show Below w.heap.size w X from by rw [hX]; exact boxW w _)
  have HCX := Lib.hid (show X.heap[w.heap.size]? = some (.cells #[.string f1, .string f2, .string f3] 33 (0, 0)) from by rw [hX]; exact heap_alloc_new w _)
  have HX := Lib.hid hX
  have HCB := Lib.hid (fun (w' : World) (hb : Below X.heap.size X w') => (show w'.cell? ⟨w.heap.size, 0, none⟩ = some (.string f1) ∧ w'.cell? ⟨w.heap.size, 1, none⟩ = some (.string f2) ∧ w'.cell? ⟨w.heap.size, 2, none⟩ = some (.string f3) from by
    have hb2 := (hb.block _ (Array.getElem?_eq_some_iff.1 HCX.out).1).trans HCX.out
    exact ⟨mem_cells hb2 0, mem_cells hb2 1, mem_cells hb2 2⟩))
  obtain ⟨s1, s2, s3⟩ := hok
  simp only at s1 s2 s3
  unfold maxLen at s1 s2 s3
  clear hr hf hmr hX hsz
  go_enter Try.func5, Try.ntmps5
  go_wp2_with fail
  rw [← HX.out]
  refine (HHV.out X HBX.out).mono ?_
  rintro e w1 ⟨b, rfl, hb1, -⟩
  have HB1 := Lib.hid hb1
  obtain ⟨c0, c1, c2⟩ := HCB.out w1 hb1
  clear hb1 HHV
  cases b with
  | true =>
    clear c0 c1 c2
    go_wp2_with fail
    refine (awake_any w1).mono ?_
    rintro e w2 ⟨rfl, hb2⟩
    have HB2 := Lib.hid (pure_trans HBX.out (pure_trans HB1.out hb2))
    go_wp2
    go_ret
    exact ⟨rfl, HB2.out⟩
  | false =>
  obtain ⟨c, hce⟩ : ∃ c, c = codeN rules l ⟨f1, f2, f3⟩ := ⟨_, rfl⟩
  have HCE := Lib.hid hce
  have hcc : (c != c) = false := by simp
  have hcc2 : (c == c) = true := by simp
  clear hce
  go_wp2_with fail
  · clear c0 c1 c2
    refine (awake_any w1).mono ?_
    rintro e w2 ⟨rfl, hb2⟩
    have HB2 := Lib.hid (pure_trans HBX.out (pure_trans HB1.out hb2))
    go_wp2
    go_ret
    exact ⟨rfl, HB2.out⟩
  · clear c0 c1 c2
    refine (HN1.out w1 (pure_trans HBX.out HB1.out)).mono ?_
    rintro e w4 ⟨v4, rfl, hv4, hb4⟩
    rw [← HCE.out]
    obtain ⟨F, hF⟩ : ∃ F, F = factsN rules l ⟨f1, f2, f3⟩ := ⟨_, rfl⟩
    have HFE := Lib.hid hF
    rw [← hF] at hv4
    have HB4 := Lib.hid (pure_trans HB1.out hb4)
    have HV4 := Lib.hid (fun (w' : World) (hb : Below w4.heap.size w4 w') => tFcts.mono _ _ _ _ (below_mem hb) hv4)
    obtain ⟨a4, c4, rfl, -⟩ := slice_form hv4
    obtain ⟨c0, c1, c2⟩ := HCB.out w4 HB4.out
    clear hv4 hb4 HN1 hF
    go_wp2_with fail
    refine (HN2.out w4 (pure_trans HBX.out HB4.out)).mono ?_
    rintro e w5 ⟨v5, rfl, hv5, hb5⟩
    rw [← HCE.out]
    rw [← HFE.out] at hv5
    have HB5 := Lib.hid (pure_trans HB4.out hb5)
    have HSM := Lib.hid (refSame_any F _ _ w5 (HV4.out w5 hb5) hv5)
    obtain ⟨a5, c5, rfl, -⟩ := slice_form hv5
    clear hv5 hb5 HN2 HV4 HB4 c0 c1 c2
    go_wp2_with fail
    refine HSM.out.mono ?_
    rintro e w6 ⟨rfl, hb6⟩
    have HB6 := Lib.hid (pure_trans HB5.out hb6)
    clear hb6 HSM HB5 HB1
    go_wp2_with fail
    clear hcc hcc2 HCE HFE
    go_loopw [11] (fun i wr => ∃ k : Nat, k ≤ rules.length ∧ i = .int .i64 k ∧ Hid (Below X.heap.size X wr)) (fun i _ => rules.length - (intOf i).toNat)
    case atStart => exact ⟨0, by omega, rfl, HB6⟩
    case round =>
      clear HB6
      obtain ⟨k, hk, rfl, HB⟩ := hrel
      by_cases hlt : k < rules.length
      · obtain ⟨b, o, bv, rfl, ⟨q0, q1, q2, q3⟩, hok, hbd⟩ := ruls_at (HR.out _ (pure_trans HBX.out HB.out)) hlt
        have c0 : wr.cell? ⟨b, o + k * 4, none⟩ = some (.string rules[k].hd.n) := q0
        have c1 : wr.cell? ⟨b, o + k * 4 + 1, none⟩ = some (.string rules[k].hd.a) := q1
        have c2 : wr.cell? ⟨b, o + k * 4 + 2, none⟩ = some (.string rules[k].hd.b) := q2
        have c3 : wr.cell? ⟨b, o + k * 4 + 3, none⟩ = some bv := q3
        have HV1 := Lib.hid (HG1.out rules[k] bv wr (pure_trans HBX.out HB.out) hok hbd)
        have HV2 := Lib.hid (fun (w' : World) (hb : Below wr.heap.size wr w') => HG2.out rules[k] bv w' (pure_trans HBX.out (pure_trans HB.out hb)) hok (tFcts.mono _ _ _ _ (below_mem hb) hbd))
        obtain ⟨ab, cb, rfl, -, -, -⟩ := slice_form hbd
        clear q0 q1 q2 q3 hok hbd
        generalize rules[k] = r at *
        obtain ⟨⟨r1, r2, r3⟩, bd⟩ := r
        simp only at c0 c1 c2 c3
        obtain ⟨c, hce⟩ : ∃ c, c = codeG ⟨⟨r1, r2, r3⟩, bd⟩ l := ⟨_, rfl⟩
        obtain ⟨F, hF⟩ : ∃ F, F = factsG ⟨⟨r1, r2, r3⟩, bd⟩ l := ⟨_, rfl⟩
        have HCE := Lib.hid hce
        have HFE := Lib.hid hF
        have hcc : (c != c) = false := by simp
        have hcc2 : (c == c) = true := by simp
        clear hce hF
        go_wp2_with fail
        refine HV1.out.mono ?_
        rintro e w4 ⟨v4, rfl, hv4, hb4⟩
        rw [← HCE.out]
        rw [← HFE.out] at hv4
        have HV4 := Lib.hid (fun (w' : World) (hb : Below w4.heap.size w4 w') => tFcts.mono _ _ _ _ (below_mem hb) hv4)
        have HW2 := Lib.hid (HV2.out w4 hb4)
        have HB4 := Lib.hid (pure_trans HB.out hb4)
        obtain ⟨a4, c4, rfl, -⟩ := slice_form hv4
        have d0 : w4.cell? ⟨b, o + k * 4, none⟩ = some (.string r1) := below_mem hb4 _ _ _ c0
        have d1 : w4.cell? ⟨b, o + k * 4 + 1, none⟩ = some (.string r2) := below_mem hb4 _ _ _ c1
        have d2 : w4.cell? ⟨b, o + k * 4 + 2, none⟩ = some (.string r3) := below_mem hb4 _ _ _ c2
        have d3 : w4.cell? ⟨b, o + k * 4 + 3, none⟩ = some (.slice ab bd.length cb) := below_mem hb4 _ _ _ c3
        clear hv4 hb4 HV1 HV2 c0 c1 c2 c3 HB
        go_wp2_with fail
        refine HW2.out.mono ?_
        rintro e w5 ⟨v5, rfl, hv5, hb5⟩
        rw [← HCE.out]
        rw [← HFE.out] at hv5
        have HB5 := Lib.hid (pure_trans HB4.out hb5)
        have HSM := Lib.hid (refSame_any F _ _ w5 (HV4.out w5 hb5) hv5)
        obtain ⟨a5, c5, rfl, -⟩ := slice_form hv5
        clear hv5 hb5 HW2 HV4 HB4 d0 d1 d2 d3
        go_wp2_with fail
        refine HSM.out.mono ?_
        rintro e w6 ⟨rfl, hb6⟩
        have HB6 := Lib.hid (pure_trans HB5.out hb6)
        clear hb6 HSM HB5
        go_wp2
        go_roundw
        case rel => exact ⟨k + 1, by omega, by go_num, HB6⟩
        case measure => simp [intOf]; omega
      · obtain rfl : k = rules.length := by omega
        go_wp2_with fail
        refine (awake_any wr).mono ?_
        rintro e w9 ⟨rfl, hb9⟩
        have HB9 := Lib.hid (pure_trans HBX.out (pure_trans HB.out hb9))
        go_wp2
        go_ret
        exact ⟨rfl, HB9.out⟩
end Go.Proofs.Ytafeaeaildfohaa
/- The law RingFollows, walked. -/
namespace Go.Proofs.Ytafeaeaildfohaa
open Go.RowKit Go.Maps

/-- The answer's number, its facts, their rounds. -/
def codeF (rules : List Rul) (l : List Fct) : Int := if (validP rules && validG l) = false then 1 else match followR rules l with | none => 4 | some _ => 0
def factsF (rules : List Rul) (l : List Fct) : List Fct := if (validP rules && validG l) = false then [] else match followR rules l with | none => [] | some M => srt (keysR M)
def roundsF (rules : List Rul) (l : List Fct) : List Int := if (validP rules && validG l) = false then [] else match followR rules l with | none => [] | some M => rndsOf M
theorem codeF_0 {rules : List Rul} {l : List Fct} (h : codeF rules l = 0) : ∃ M, (validP rules && validG l) = true ∧ followR rules l = some M ∧ factsF rules l = srt (keysR M) := by
  unfold codeF at h
  unfold factsF
  split at h
  · cases h
  · next hv =>
    have hv : (validP rules && validG l) = true := by simpa using hv
    cases hf : followR rules l with
    | none => rw [hf] at h; cases h
    | some M => exact ⟨M, hv, rfl, by rw [if_neg (by rw [hv]; simp)]⟩
theorem codeF_in (rules : List Rul) (l : List Fct) : 0 ≤ codeF rules l ∧ codeF rules l ≤ 4 := by
  unfold codeF
  split
  · decide
  · split <;> decide
/-- Following twice is once. -/
theorem codeF_twice {rules : List Rul} {l : List Fct} (h : codeF rules l = 0) (h60 : (factsF rules l).length ≤ 60) : codeF rules (factsF rules l) = 0 ∧ factsF rules (factsF rules l) = factsF rules l := by
  obtain ⟨M, hv, hf, he⟩ := codeF_0 h
  rw [Bool.and_eq_true] at hv
  have hfin := follow_fin hf
  have hg : validG (factsF rules l) = true := validG_of h60 (fun x hx => fin_valid hfin hv.1 hv.2 x (by rw [he, srt_mem] at hx; exact hx))
  obtain ⟨R, hR, hK⟩ := follow_twice hf
  rw [he] at hg
  constructor
  · unfold codeF
    rw [he, if_neg (by rw [hv.1, hg]; simp), hR]
  · rw [he]
    unfold factsF
    rw [if_neg (by rw [hv.1, hg]; simp), hR]
    exact hK
def FolU (rules : List Rul) (l : List Fct) (w : World) (e : Ending) (w' : World) : Prop := ∃ v, e = .returned (.tuple #[v, .int .i64 (codeF rules l)]) ∧ tFcts.rv (mem w') [v] (factsF rules l) ∧ Below w.heap.size w w'
def RndU (rules : List Rul) (l : List Fct) (w : World) (e : Ending) (w' : World) : Prop := ∃ v, e = .returned (.tuple #[v, .int .i64 (codeF rules l)]) ∧ tInts.rv (mem w') [v] (roundsF rules l) ∧ Below w.heap.size w w'
theorem FollowsAnsR.uni {rules : List Rul} {l : List Fct} {w w' : World} {e : Ending} (h : FollowsAnsR rules l w w' e) : FolU rules l w e w' := by
  obtain ⟨hb, h | ⟨h1, h2, h3⟩ | ⟨M, v, h1, h2, h3, h4⟩⟩ := h
  · exact ⟨_, by unfold codeF; rw [if_pos h.1]; exact h.2, by unfold factsF; rw [if_pos h.1]; exact slice_nil _ _, hb⟩
  · exact ⟨_, by unfold codeF; rw [if_neg (by rw [h1]; simp), h2]; exact h3, by unfold factsF; rw [if_neg (by rw [h1]; simp), h2]; exact slice_nil _ _, hb⟩
  · exact ⟨_, by unfold codeF; rw [if_neg (by rw [h1]; simp), h2]; exact h3, by unfold factsF; rw [if_neg (by rw [h1]; simp), h2]; exact h4, hb⟩
theorem FollowsAns.weak {rules : List Rul} {l : List Fct} {w w' : World} {e : Ending} (h : FollowsAns rules l w w' e) : FollowsAnsR rules l w w' e := by
  obtain ⟨hb, h | h | ⟨M, v, h1, h2, h3, h4⟩⟩ := h
  · exact ⟨hb, .inl h⟩
  · exact ⟨hb, .inr (.inl h)⟩
  · exact ⟨hb, .inr (.inr ⟨M, v, h1, h2, h3, tFcts.mono _ _ _ _ (Mem.on_le _ _) h4⟩)⟩
theorem RoundsAns.uni {rules : List Rul} {l : List Fct} {w w' : World} {e : Ending} (h : RoundsAns rules l w w' e) : RndU rules l w e w' := by
  obtain ⟨hb, h | ⟨h1, h2, h3⟩ | ⟨M, v, h1, h2, h3, h4⟩⟩ := h
  · exact ⟨_, by unfold codeF; rw [if_pos h.1]; exact h.2, by unfold roundsF; rw [if_pos h.1]; exact slice_nil _ _, hb⟩
  · exact ⟨_, by unfold codeF; rw [if_neg (by rw [h1]; simp), h2]; exact h3, by unfold roundsF; rw [if_neg (by rw [h1]; simp), h2]; exact slice_nil _ _, hb⟩
  · exact ⟨_, by unfold codeF; rw [if_neg (by rw [h1]; simp), h2]; exact h3, by unfold roundsF; rw [if_neg (by rw [h1]; simp), h2]; exact h4, hb⟩
set_option maxRecDepth 100000 in
set_option maxHeartbeats 8000000 in
theorem ringFollows_law (rules : List Rul) (rv : Value) (l : List Fct) (lv : Value) (w : World) (hr : tRuls.rv (mem w) [rv] rules) (hf : tFcts.rv (mem w) [lv] l) (hsz : l.length * 48 ≤ 140737488355328) :
    Calls Try.prog 3 #[rv, lv] w fun e w' => e = .returned (.bool true) ∧ Below w.heap.size w w' := by
  have HHV := Lib.hid (heavy_any rules l rv lv w hr hf hsz)
  have HFO := Lib.hid (fun w' (hb : Below w.heap.size w w') => (ringFollows_any rules l rv lv w' (tRuls.mono _ _ _ _ (below_mem hb) hr) (tFcts.mono _ _ _ _ (below_mem hb) hf)).mono (fun e w2 h => FollowsAnsR.uni (FollowsAns.weak h)))
  have HFR := Lib.hid (fun w' (hb : Below w.heap.size w w') => (refFollows_any rules l rv lv w' (tRuls.mono _ _ _ _ (below_mem hb) hr) (tFcts.mono _ _ _ _ (below_mem hb) hf)).mono (fun e w2 h => FollowsAnsR.uni h))
  have HRO := Lib.hid (fun w' (hb : Below w.heap.size w w') => (ringRounds_any rules l rv lv w' (tRuls.mono _ _ _ _ (below_mem hb) hr) (tFcts.mono _ _ _ _ (below_mem hb) hf)).mono (fun e w2 h => RoundsAns.uni h))
  have HRR := Lib.hid (fun w' (hb : Below w.heap.size w w') => (refRoundsF_any rules l rv lv w' (tRuls.mono _ _ _ _ (below_mem hb) hr) (tFcts.mono _ _ _ _ (below_mem hb) hf)).mono (fun e w2 h => RoundsAns.uni h))
  have HTW := Lib.hid (fun (F : List Fct) (fv : Value) w' (hb : Below w.heap.size w w') (hfv : tFcts.rv (mem w') [fv] F) => (ringFollows_any rules F rv fv w' (tRuls.mono _ _ _ _ (below_mem hb) hr) hfv).mono (fun e w2 h => FollowsAnsR.uni (FollowsAns.weak h)))
  obtain ⟨ar, cr, rfl, hlr, hmr, hr⟩ := slice_form hr
  obtain ⟨af, cf, rfl, hlf, hmf, hf⟩ := slice_form hf
  have hcr : cr ≤ 9223372036854775807 := by unfold maxLen at hmr; exact hmr
  have hcf : cf ≤ 9223372036854775807 := by unfold maxLen at hmf; exact hmf
  have HR := Lib.hid (fun wr (hb : Below w.heap.size w wr) => tRuls.mono _ _ _ _ (below_mem hb) hr)
  have HF := Lib.hid (fun wr (hb : Below w.heap.size w wr) => tFcts.mono _ _ _ _ (below_mem hb) hf)
  clear hr hf hmr hmf hsz
  go_enter Try.func3, Try.ntmps3
  go_wp2_with fail
  refine HHV.out.mono ?_
  rintro e w1 ⟨b, rfl, hb1, hsm⟩
  have HB1 := Lib.hid hb1
  clear HHV hb1 hsm
  cases b with
  | true =>
    go_wp2_with fail
    refine (awake_any w1).mono ?_
    rintro e w2 ⟨rfl, hb2⟩
    have HB2 := Lib.hid (pure_trans HB1.out hb2)
    go_wp2
    go_ret
    exact ⟨rfl, HB2.out⟩
  | false =>
  go_wp2_with fail
  go_loopw [5] (fun i wr => ∃ k : Nat, k ≤ rules.length ∧ i = .int .i64 k ∧ Hid (Below w.heap.size w wr)) (fun i _ => rules.length - (intOf i).toNat)
  case atStart => exact ⟨0, by omega, rfl, HB1⟩
  case round =>
    obtain ⟨k, hk, rfl, HB⟩ := hrel
    by_cases hlt : k < rules.length
    · obtain ⟨b, o, bv, rfl, ⟨q0, q1, q2, q3⟩, hok, hbd⟩ := ruls_at (HR.out _ HB.out) hlt
      have c0 : wr.cell? ⟨b, o + k * 4, none⟩ = some (.string rules[k].hd.n) := q0
      have c1 : wr.cell? ⟨b, o + k * 4 + 1, none⟩ = some (.string rules[k].hd.a) := q1
      have c2 : wr.cell? ⟨b, o + k * 4 + 2, none⟩ = some (.string rules[k].hd.b) := q2
      have c3 : wr.cell? ⟨b, o + k * 4 + 3, none⟩ = some bv := q3
      have HV1 := Lib.hid (fun (w' : World) (hb : Below wr.heap.size wr w') => ringRule_any rules[k] bv w' hok (tFcts.mono _ _ _ _ (below_mem hb) hbd))
      have HV2 := Lib.hid (fun (w' : World) (hb : Below wr.heap.size wr w') => refRule_any rules[k] bv w' hok (tFcts.mono _ _ _ _ (below_mem hb) hbd))
      obtain ⟨ab, cb, rfl, -, -, -⟩ := slice_form hbd
      clear q0 q1 q2 q3 hok hbd
      generalize rules[k] = r at *
      obtain ⟨⟨r1, r2, r3⟩, bd⟩ := r
      simp only at c0 c1 c2 c3
      generalize validR ⟨⟨r1, r2, r3⟩, bd⟩ = vb at *
      have hvb1 : (vb != vb) = false := by simp
      have hvb2 : (vb == vb) = true := by simp
      have hb0 : Below wr.heap.size wr wr.drew := (Below.refl _ _).drew
      have HKP := Lib.hid (fun (w' : World) (hb : Below wr.heap.size wr w') => (show w'.cell? ⟨b, o + k * 4, none⟩ = some (.string r1) ∧ w'.cell? ⟨b, o + k * 4 + 1, none⟩ = some (.string r2) ∧ w'.cell? ⟨b, o + k * 4 + 2, none⟩ = some (.string r3) ∧ w'.cell? ⟨b, o + k * 4 + 3, none⟩ = some (.slice ab bd.length cb) from ⟨below_mem hb _ _ _ c0, below_mem hb _ _ _ c1, below_mem hb _ _ _ c2, below_mem hb _ _ _ c3⟩))
      go_wp2_with fail
      go_region_held3 (fun w' => w'.cell? ⟨b, o + k * 4, none⟩ = some (.string r1) ∧ w'.cell? ⟨b, o + k * 4 + 1, none⟩ = some (.string r2) ∧ w'.cell? ⟨b, o + k * 4 + 2, none⟩ = some (.string r3) ∧ w'.cell? ⟨b, o + k * 4 + 3, none⟩ = some (.slice ab bd.length cb))
        ((refine HKP.out _ ?_; with_reducible assumption))
        ((first
          | (go_at_call 9; refine (HV1.out _ (by with_reducible assumption)).mono ?_; rintro e w3 ⟨rfl, hb3⟩; have hb3' := pure_trans (by with_reducible assumption) hb3)
          | (go_at_call 10; refine (HV2.out _ (by with_reducible assumption)).mono ?_; rintro e w3 ⟨rfl, hb3⟩; have hb3' := pure_trans (by with_reducible assumption) hb3)))
      have HB3 := Lib.hid (pure_trans HB.out hb3')
      clear hb3' hb3 hb0 HKP HV1 HV2 c0 c1 c2 c3
      go_wp2
      go_roundw
      case rel => exact ⟨k + 1, by omega, by go_num, HB3⟩
      case measure => simp [intOf]; omega
    · obtain rfl : k = rules.length := by omega
      clear hk hlt HB1
      go_wp2_with fail
      go_loopw [6] (fun i wr => ∃ k : Nat, k ≤ l.length ∧ i = .int .i64 k ∧ Hid (Below w.heap.size w wr)) (fun i _ => l.length - (intOf i).toNat)
      case atStart => exact ⟨0, by omega, rfl, HB⟩
      case round =>
        clear HB
        obtain ⟨k, hk, rfl, HB⟩ := hrel
        by_cases hlt : k < l.length
        · obtain ⟨b, o, rfl, ⟨q0, q1, q2⟩, hok⟩ := fcts_at (HF.out _ HB.out) hlt
          have c0 : wr.cell? ⟨b, o + k * 3, none⟩ = some (.string l[k].n) := q0
          have c1 : wr.cell? ⟨b, o + k * 3 + 1, none⟩ = some (.string l[k].a) := q1
          have c2 : wr.cell? ⟨b, o + k * 3 + 2, none⟩ = some (.string l[k].b) := q2
          have HV1 := Lib.hid (fun (w' : World) => ringFact_any l[k] w' hok)
          have HV2 := Lib.hid (fun (w' : World) => refFact_any l[k] w' hok)
          clear q0 q1 q2 hok
          generalize l[k] = r at *
          obtain ⟨r1, r2, r3⟩ := r
          simp only at c0 c1 c2
          generalize validF ⟨r1, r2, r3⟩ = vb at *
          have hvb1 : (vb != vb) = false := by simp
          have hvb2 : (vb == vb) = true := by simp
          have hb0 : Below wr.heap.size wr wr.drew := (Below.refl _ _).drew
          have HKP := Lib.hid (fun (w' : World) (hb : Below wr.heap.size wr w') => (show w'.cell? ⟨b, o + k * 3, none⟩ = some (.string r1) ∧ w'.cell? ⟨b, o + k * 3 + 1, none⟩ = some (.string r2) ∧ w'.cell? ⟨b, o + k * 3 + 2, none⟩ = some (.string r3) from ⟨below_mem hb _ _ _ c0, below_mem hb _ _ _ c1, below_mem hb _ _ _ c2⟩))
          go_wp2_with fail
          go_region_held3 (fun w' => w'.cell? ⟨b, o + k * 3, none⟩ = some (.string r1) ∧ w'.cell? ⟨b, o + k * 3 + 1, none⟩ = some (.string r2) ∧ w'.cell? ⟨b, o + k * 3 + 2, none⟩ = some (.string r3))
            ((refine HKP.out _ ?_; with_reducible assumption))
            ((first
              | (go_at_call 11; refine (HV1.out _).mono ?_; rintro e w3 ⟨rfl, hb3⟩; have hb3' := pure_trans (by with_reducible assumption) hb3)
              | (go_at_call 12; refine (HV2.out _).mono ?_; rintro e w3 ⟨rfl, hb3⟩; have hb3' := pure_trans (by with_reducible assumption) hb3)))
          have HB3 := Lib.hid (pure_trans HB.out hb3')
          clear hb3' hb3 hb0 HKP HV1 HV2 c0 c1 c2
          go_wp2
          go_roundw
          case rel => exact ⟨k + 1, by omega, by go_num, HB3⟩
          case measure => simp [intOf]; omega
        · obtain rfl : k = l.length := by omega
          clear hk hlt
          obtain ⟨c, hce⟩ : ∃ c, c = codeF rules l := ⟨_, rfl⟩
          obtain ⟨F, hfe⟩ : ∃ F, F = factsF rules l := ⟨_, rfl⟩
          obtain ⟨R, hre⟩ : ∃ R, R = roundsF rules l := ⟨_, rfl⟩
          have HC0 := Lib.hid (fun h h2 => codeF_twice (rules := rules) (l := l) h h2)
          rw [← hce, ← hfe] at HC0
          have HCE := Lib.hid hce
          have HFE := Lib.hid hfe
          have HRE := Lib.hid hre
          clear hce hfe hre
          have hcc : (c != c) = false := by simp
          have hcc2 : (c == c) = true := by simp
          go_wp2_with fail
          refine (HFO.out wr HB.out).mono ?_
          rintro e w4 ⟨v4, rfl, hv4, hb4⟩
          rw [← HCE.out]
          rw [← HFE.out] at hv4
          have HB4 := Lib.hid (pure_trans HB.out hb4)
          have HV4 := Lib.hid (fun (w' : World) (hb : Below w4.heap.size w4 w') => tFcts.mono _ _ _ _ (below_mem hb) hv4)
          obtain ⟨a4, c4, rfl, -⟩ := slice_form hv4
          clear hv4 hb4 HB HFO
          go_wp2_with fail
          refine (HFR.out w4 HB4.out).mono ?_
          rintro e w5 ⟨v5, rfl, hv5, hb5⟩
          rw [← HCE.out]
          rw [← HFE.out] at hv5
          have HB5 := Lib.hid (pure_trans HB4.out hb5)
          have HSM := Lib.hid (refSame_any F _ _ w5 (HV4.out w5 hb5) hv5)
          have HV5 := Lib.hid (HV4.out w5 hb5)
          obtain ⟨a5, c5, rfl, -⟩ := slice_form hv5
          clear hv5 hb5 HFR HV4 HB4
          go_wp2_with fail
          refine HSM.out.mono ?_
          rintro e w6 ⟨rfl, hb6⟩
          have HB6 := Lib.hid (pure_trans HB5.out hb6)
          have HV6 := Lib.hid (fun (w' : World) (hb : Below w6.heap.size w6 w') => tFcts.mono _ _ _ _ (below_mem (pure_trans hb6 hb)) HV5.out)
          clear hb6 HSM HV5 HB5
          go_wp2_with fail
          refine (HRO.out w6 HB6.out).mono ?_
          rintro e w7 ⟨v7, rfl, hv7, hb7⟩
          rw [← HCE.out]
          rw [← HRE.out] at hv7
          have HB7 := Lib.hid (pure_trans HB6.out hb7)
          have HQ7 := Lib.hid (fun (w' : World) (hb : Below w7.heap.size w7 w') => tInts.mono _ _ _ _ (below_mem hb) hv7)
          have HV7 := Lib.hid (fun (w' : World) (hb : Below w7.heap.size w7 w') => HV6.out w' (pure_trans hb7 hb))
          obtain ⟨a7, c7, rfl, hl7, hm7, -⟩ := slice_form hv7
          have hc7 : c7 ≤ 9223372036854775807 := by unfold maxLen at hm7; exact hm7
          clear hv7 hb7 HRO HV6 HB6 hm7
          go_wp2_with fail
          refine (HRR.out w7 HB7.out).mono ?_
          rintro e w8 ⟨v8, rfl, hv8, hb8⟩
          rw [← HCE.out]
          rw [← HRE.out] at hv8
          have HB8 := Lib.hid (pure_trans HB7.out hb8)
          have HQ8 := Lib.hid (fun (w' : World) (hb : Below w8.heap.size w8 w') => HQ7.out w' (pure_trans hb8 hb))
          have HP8 := Lib.hid (fun (w' : World) (hb : Below w8.heap.size w8 w') => tInts.mono _ _ _ _ (below_mem hb) hv8)
          have HV8 := Lib.hid (fun (w' : World) (hb : Below w8.heap.size w8 w') => HV7.out w' (pure_trans hb8 hb))
          obtain ⟨a8, c8, rfl, -⟩ := slice_form hv8
          clear hv8 hb8 HRR HV7 HB7 HQ7
          have hrl : ((R.length : Int) != (R.length : Int)) = false := by simp
          go_wp2_with fail
          go_loopw [15] (fun i wr => ∃ k : Nat, k ≤ R.length ∧ i = .int .i64 k ∧ Hid (Below w8.heap.size w8 wr)) (fun i _ => R.length - (intOf i).toNat)
          case atStart => exact ⟨0, by omega, rfl, Lib.hid (Below.refl _ _)⟩
          case round =>
            obtain ⟨k, hk, rfl, HB⟩ := hrel
            by_cases hlt : k < R.length
            · obtain ⟨b, o, rfl, cs, hat, rfl, -⟩ := slice_at (HQ8.out wr HB.out) hlt
              obtain ⟨b2, o2, rfl, cs2, hat2, rfl, -⟩ := slice_at (HP8.out wr HB.out) hlt
              have d0 : wr.cell? ⟨b, o + k, none⟩ = some (.int .i64 R[k]) := by have := hat 0 _ rfl; rw [show o + k * tInt.sz + 0 = o + k from by show o + k * 1 + 0 = _; omega] at this; exact this
              have d1 : wr.cell? ⟨b2, o2 + k, none⟩ = some (.int .i64 R[k]) := by have := hat2 0 _ rfl; rw [show o2 + k * tInt.sz + 0 = o2 + k from by show o2 + k * 1 + 0 = _; omega] at this; exact this
              clear hat hat2
              generalize R[k] = q at *
              have hqq : (q != q) = false := by simp
              go_wp2_with fail
              go_quiet (fail)
              go_wp2
              go_roundw
              case rel => exact ⟨k + 1, by omega, by go_num, Lib.hid (HB.out.trans ⟨rfl, rfl, rfl, Nat.le_refl _, fun _ _ => rfl⟩)⟩
              case measure => simp [intOf]; omega
            · obtain rfl : k = R.length := by omega
              have HBE := Lib.hid (pure_trans HB8.out HB.out)
              have HVE := Lib.hid (HV8.out wr HB.out)
              clear HQ8 HP8 HV8 HB8
              by_cases h0 : c = 0
              · subst h0
                by_cases h60 : (60 : Int) < F.length
                · go_wp2_with fail
                  refine (awake_any wr).mono ?_
                  rintro e w9 ⟨rfl, hb9⟩
                  have HB9 := Lib.hid (pure_trans HBE.out hb9)
                  go_wp2
                  go_ret
                  exact ⟨rfl, HB9.out⟩
                · have HT := Lib.hid (HC0.out rfl (by omega))
                  go_wp2_with fail
                  refine (HTW.out F _ wr HBE.out HVE.out).mono ?_
                  rintro e w9 ⟨v9, rfl, hv9, hb9⟩
                  rw [HT.out.1]
                  rw [HT.out.2] at hv9
                  have HB9 := Lib.hid (pure_trans HBE.out hb9)
                  have HSM := Lib.hid (refSame_any F _ _ w9 (tFcts.mono _ _ _ _ (below_mem hb9) HVE.out) hv9)
                  obtain ⟨a9, c9, rfl, -⟩ := slice_form hv9
                  clear hv9 hb9 HTW HVE HBE
                  go_wp2_with fail
                  refine HSM.out.mono ?_
                  rintro e w10 ⟨rfl, hb10⟩
                  have HB10 := Lib.hid (pure_trans HB9.out hb10)
                  clear hb10 HSM HB9
                  go_wp2_with fail
                  refine (awake_any w10).mono ?_
                  rintro e w11 ⟨rfl, hb11⟩
                  have HB11 := Lib.hid (pure_trans HB10.out hb11)
                  go_wp2
                  go_ret
                  exact ⟨rfl, HB11.out⟩
              · have hc0 : (c != 0) = true := by simp [h0]
                have hc1 : (c == 0) = false := by simp [h0]
                clear h0
                go_wp2_with fail
                refine (awake_any wr).mono ?_
                rintro e w9 ⟨rfl, hb9⟩
                have HB9 := Lib.hid (pure_trans HBE.out hb9)
                go_wp2
                go_ret
                exact ⟨rfl, HB9.out⟩
end Go.Proofs.Ytafeaeaildfohaa
/- Of which rule and which facts a fact follows first: plain. -/
namespace Go.Proofs.Ytafeaeaildfohaa
open Go.RowKit Go.Maps

def befB (M : Rnds) (f x : Fct) : Bool := decide (rnd M x < rnd M f)
def befL (M : Rnds) (f : Fct) : List Fct := (srt (keysR M)).filter (befB M f)
def hitF (r : Rul) (f : Fct) (x : Bnd × List Fct) : Bool := decide (headF r x.1 = f)
def wayW (r : Rul) (B : List Fct) (f : Fct) : Option (List Fct) := ((ways r.bd B [] []).find? (hitF r f)).map Prod.snd
def whyR (B : List Fct) (f : Fct) : List Rul → Nat → Option (Nat × List Fct)
  | [], _ => none
  | r :: rs, i => match wayW r B f with | some b => some (i, b) | none => whyR B f rs (i + 1)
theorem whyR_drop {rules : List Rul} {B : List Fct} {f : Fct} {k : Nat} (h : k < rules.length) : whyR B f (rules.drop k) k = match wayW rules[k] B f with | some b => some (k, b) | none => whyR B f (rules.drop (k + 1)) (k + 1) := by
  rw [List.drop_eq_getElem_cons h]
  rfl
theorem whyR_end (rules : List Rul) (B : List Fct) (f : Fct) : whyR B f (rules.drop rules.length) rules.length = none := by rw [List.drop_length]; rfl
theorem find_hit {α : Type} {P : α → Bool} {l pre post : List α} {x : α} (h : l = pre ++ x :: post) (h1 : ∀ y ∈ pre, P y = false) (h2 : P x = true) : l.find? P = some x := by
  subst h
  rw [List.find?_append, List.find?_eq_none.2 (fun y hy => by rw [h1 y hy]; simp), List.find?_cons, h2]
  rfl
theorem find_none {α : Type} {P : α → Bool} {l : List α} (h1 : ∀ y ∈ l, P y = false) : l.find? P = none := List.find?_eq_none.2 (fun y hy => by rw [h1 y hy]; simp)
theorem wayW_hit {r : Rul} {B : List Fct} {f : Fct} {pre post : List (Bnd × List Fct)} {x : Bnd × List Fct} (h : ways r.bd B [] [] = pre ++ x :: post) (h1 : ∀ y ∈ pre, hitF r f y = false) (h2 : hitF r f x = true) : wayW r B f = some x.2 := by
  unfold wayW
  rw [find_hit h h1 h2]
  rfl
theorem wayW_none {r : Rul} {B : List Fct} {f : Fct} (h : ∀ y ∈ ways r.bd B [] [], hitF r f y = false) : wayW r B f = none := by
  unfold wayW
  rw [find_none h]
  rfl
/-- The answer. -/
def whyT (rules : List Rul) (l : List Fct) (f : Fct) : Int × List Fct × Int := if (validP rules && (validG l && validF f)) = false then (0, [], 1) else if f ∈ l then (0, [], 10) else match followR rules l with
  | none => (0, [], 4)
  | some M => if f ∈ keysR M then (match whyR (befL M f) f rules 0 with | some (i, b) => ((i : Int), b, 0) | none => (0, [], 8)) else (0, [], 8)
def WhyU (rules : List Rul) (l : List Fct) (f : Fct) (w : World) (e : Ending) (w' : World) : Prop := ∃ v, e = .returned (.tuple #[.int .i64 (whyT rules l f).1, v, .int .i64 (whyT rules l f).2.2]) ∧ tFcts.rv (mem w') [v] (whyT rules l f).2.1 ∧ Below w.heap.size w w'
theorem WhyU.of {rules : List Rul} {l : List Fct} {f : Fct} {w w' : World} {i c : Int} {b : List Fct} {v : Value} (h : whyT rules l f = (i, b, c)) (hv : tFcts.rv (mem w') [v] b) (hb : Below w.heap.size w w') : WhyU rules l f w (.returned (.tuple #[.int .i64 i, v, .int .i64 c])) w' :=
  ⟨v, by rw [h], by rw [h]; exact hv, hb⟩
theorem WhyU.fails {rules : List Rul} {l : List Fct} {f : Fct} {w w' : World} {c : Int} (h : whyT rules l f = (0, [], c)) (hb : Below w.heap.size w w') : WhyU rules l f w (.returned (.tuple #[.int .i64 0, .slice none 0 0, .int .i64 c])) w' :=
  WhyU.of h (slice_nil _ _) hb
section
variable {rules : List Rul} {l : List Fct} {f : Fct} {M : Rnds}
theorem whyT_bad (h : (validP rules && (validG l && validF f)) = false) : whyT rules l f = (0, [], 1) := by unfold whyT; rw [if_pos h]
theorem whyT_in (h : (validP rules && (validG l && validF f)) = true) (h2 : f ∈ l) : whyT rules l f = (0, [], 10) := by unfold whyT; rw [if_neg (by rw [h]; simp), if_pos h2]
theorem whyT_big (h : (validP rules && (validG l && validF f)) = true) (h2 : f ∉ l) (h3 : followR rules l = none) : whyT rules l f = (0, [], 4) := by unfold whyT; rw [if_neg (by rw [h]; simp), if_neg h2, h3]
theorem whyT_no (h : (validP rules && (validG l && validF f)) = true) (h2 : f ∉ l) (h3 : followR rules l = some M) (h4 : f ∉ keysR M) : whyT rules l f = (0, [], 8) := by
  unfold whyT; rw [if_neg (by rw [h]; simp), if_neg h2, h3]
  simp only [if_neg h4]
theorem whyT_some (h : (validP rules && (validG l && validF f)) = true) (h2 : f ∉ l) (h3 : followR rules l = some M) (h4 : f ∈ keysR M) {i : Nat} {b : List Fct} (h5 : whyR (befL M f) f rules 0 = some (i, b)) : whyT rules l f = ((i : Int), b, 0) := by
  unfold whyT; rw [if_neg (by rw [h]; simp), if_neg h2, h3]
  simp only [if_pos h4, h5]
theorem whyT_none (h : (validP rules && (validG l && validF f)) = true) (h2 : f ∉ l) (h3 : followR rules l = some M) (h4 : f ∈ keysR M) (h5 : whyR (befL M f) f rules 0 = none) : whyT rules l f = (0, [], 8) := by
  unfold whyT; rw [if_neg (by rw [h]; simp), if_neg h2, h3]
  simp only [if_pos h4, h5]
end
theorem ways_sub {L : List Fct} : ∀ (bd : List Fct) (av : Bnd) (ls : List Fct) (w : Bnd × List Fct), w ∈ ways bd L av ls → ∃ ad, w.2 = ls ++ ad ∧ ad.length = bd.length ∧ (∀ x ∈ ad, x ∈ L) ∧ ∀ L', (∀ x ∈ ad, x ∈ L') → w ∈ ways bd L' av ls
  | [], av, ls, w, hw => by
    simp only [ways, List.mem_singleton] at hw
    subst hw
    exact ⟨[], by simp, rfl, by simp, fun L' _ => by simp [ways]⟩
  | x :: bd, av, ls, w, hw => by
    unfold ways at hw
    obtain ⟨g, hg, hw⟩ := List.mem_flatMap.1 hw
    split at hw
    · next hn =>
      cases hb : bindF av x g with
      | none => rw [hb] at hw; cases hw
      | some bs =>
        rw [hb] at hw
        obtain ⟨ad, h1, h2, h3, h4⟩ := ways_sub bd bs (ls ++ [g]) w hw
        refine ⟨g :: ad, by rw [h1]; simp, by simp [h2], fun y hy => ?_, fun L' hL => ?_⟩
        · rcases List.mem_cons.1 hy with e | e
          · rw [e]; exact hg
          · exact h3 y e
        · unfold ways
          refine List.mem_flatMap.2 ⟨g, hL g List.mem_cons_self, ?_⟩
          rw [if_pos hn, hb]
          exact h4 L' (fun y hy => hL y (List.mem_cons_of_mem _ hy))
    · cases hw
theorem wayW_good {r : Rul} {B : List Fct} {f : Fct} {b : List Fct} (h : wayW r B f = some b) : b.length = r.bd.length ∧ (∀ x ∈ b, x ∈ B) ∧ f ∈ heads r (srt b) := by
  unfold wayW at h
  rw [Option.map_eq_some_iff] at h
  obtain ⟨w, hw, rfl⟩ := h
  obtain ⟨ad, h1, h2, h3, h4⟩ := ways_sub r.bd [] [] w (List.mem_of_find?_eq_some hw)
  rw [List.nil_append] at h1
  rw [h1]
  refine ⟨h2, h3, List.mem_map.2 ⟨w, h4 _ (fun x hx => (srt_mem _ _).2 hx), ?_⟩⟩
  have := List.find?_some hw
  exact of_decide_eq_true this
theorem whyR_good {B : List Fct} {f : Fct} {i : Nat} {b : List Fct} : ∀ (rules : List Rul) (k : Nat), whyR B f rules k = some (i, b) → k ≤ i ∧ ∃ h : i - k < rules.length, wayW rules[i - k] B f = some b
  | [], k, h => by cases h
  | r :: rs, k, h => by
    unfold whyR at h
    split at h
    · next b' hb =>
      cases h
      exact ⟨Nat.le_refl _, by simp, by simpa using hb⟩
    · obtain ⟨h1, h2, h3⟩ := whyR_good rs (k + 1) h
      refine ⟨by omega, by simp; omega, ?_⟩
      have e : i - k = (i - (k + 1)) + 1 := by omega
      simp only [e, List.getElem_cons_succ]
      exact h3
theorem codeF_some {rules : List Rul} {l : List Fct} {M : Rnds} (hv : (validP rules && validG l) = true) (h : followR rules l = some M) : codeF rules l = 0 ∧ factsF rules l = srt (keysR M) :=
  ⟨by unfold codeF; rw [if_neg (by rw [hv]; simp), h], by unfold factsF; rw [if_neg (by rw [hv]; simp), h]⟩
/-- A reason given holds. -/
theorem whyT_good {rules : List Rul} {l : List Fct} {f : Fct} (h : (whyT rules l f).2.2 = 0) : ∃ i : Nat, (whyT rules l f).1 = (i : Int) ∧ codeF rules l = 0 ∧ lessF (whyT rules l f).2.1 (factsF rules l) = [] ∧
    ∃ hi : i < rules.length, codeG rules[i] (whyT rules l f).2.1 = 0 ∧ f ∈ factsG rules[i] (whyT rules l f).2.1 := by
  unfold whyT at h ⊢
  split at h
  · cases h
  · next hv =>
    rw [if_neg hv]
    split at h
    · cases h
    · next hm =>
      rw [if_neg hm]
      cases hf : followR rules l with
      | none => rw [hf] at h; cases h
      | some M =>
        rw [hf] at h
        simp only at h ⊢
        split at h
        · next hk =>
          rw [if_pos hk]
          cases hr : whyR (befL M f) f rules 0 with
          | none => rw [hr] at h; cases h
          | some p =>
            obtain ⟨i, b⟩ := p
            simp only [Bool.not_eq_false, Bool.and_eq_true] at hv
            obtain ⟨hP, hG, hF⟩ := hv
            obtain ⟨-, hi, hb⟩ := whyR_good rules 0 hr
            simp only [Nat.sub_zero] at hi hb
            obtain ⟨g1, g2, g3⟩ := wayW_good hb
            obtain ⟨c1, c2⟩ := codeF_some (l := l) (by rw [hP, hG]; rfl) hf
            have hB : ∀ x ∈ b, x ∈ srt (keysR M) := fun x hx => (List.mem_filter.1 (g2 x hx)).1
            have hR := validP_mem hP rules[i] (List.getElem_mem hi)
            have h3 := (validR_bd hR).2
            have hGb : validG b = true := validG_of (by omega) (fun x hx => fin_valid (follow_fin hf) hP hG x ((srt_mem _ _).1 (hB x hx)))
            have hlen : ¬ 400 < (srt (heads rules[i] (srt b))).length := by
              have q1 := srt_len_le (heads rules[i] (srt b))
              have q2 : (heads rules[i] (srt b)).length ≤ (srt b).length ^ rules[i].bd.length := by
                unfold heads
                rw [List.length_map]
                exact ways_len _ _ _ _
              have q3 : (srt b).length ^ rules[i].bd.length ≤ 3 ^ 3 := Nat.le_trans (Nat.pow_le_pow_left (Nat.le_trans (srt_len_le b) (by omega)) _) (Nat.pow_le_pow_right (by omega) h3)
              have : (3 : Nat) ^ 3 = 27 := by decide
              omega
            have hVV : (validR rules[i] && validG b) = true := by rw [hR, hGb]; rfl
            refine ⟨i, rfl, c1, by rw [c2]; exact less_nil hB, hi, ?_, ?_⟩
            · show codeG rules[i] b = 0
              unfold codeG
              rw [if_neg (by rw [hVV]; simp), if_neg hlen]
            · show f ∈ factsG rules[i] b
              unfold factsG
              rw [if_neg (by rw [hVV]; simp), if_neg hlen]
              exact (srt_mem _ _).2 g3
        · cases h
theorem whyT_in64 (rules : List Rul) (l : List Fct) (f : Fct) : 0 ≤ (whyT rules l f).1 ∧ (whyT rules l f).1 ≤ rules.length ∧ 0 ≤ (whyT rules l f).2.2 ∧ (whyT rules l f).2.2 ≤ 10 ∧ (whyT rules l f).2.1.length ≤ 1000 := by
  unfold whyT
  split
  · simp
  · split
    · simp
    · cases hf : followR rules l with
      | none => simp
      | some M =>
        simp only
        split
        · cases hr : whyR (befL M f) f rules 0 with
          | none => simp
          | some p =>
            next hv _ _ =>
            obtain ⟨i, b⟩ := p
            simp only [Bool.not_eq_false, Bool.and_eq_true] at hv
            obtain ⟨-, hi, hb⟩ := whyR_good rules 0 hr
            simp only [Nat.sub_zero] at hi hb
            have h3 := (validR_bd (validP_mem hv.1 rules[i] (List.getElem_mem hi))).2
            have := (wayW_good hb).1
            refine ⟨?_, ?_, ?_, ?_, ?_⟩ <;> simp <;> omega
        · simp
end Go.Proofs.Ytafeaeaildfohaa
/- The reference's Why. -/
namespace Go.Proofs.Ytafeaeaildfohaa
open Go.RowKit Go.Maps

theorem rst_neg {rules : List Rul} {l : List Fct} {j : Nat} {M : Rnds} {out : List (List Fct)} (h : RSt rules l j M out) (f : Fct) : rnd M f < 0 ↔ f ∉ keysR M := by
  unfold rnd
  constructor
  · intro h2 hm
    obtain ⟨i, hi⟩ := Option.isSome_iff_exists.1 (lkR_some.2 hm)
    rw [hi] at h2
    have := h.run.lt f i hi
    have h2 : i < 0 := h2
    omega
  · intro hm
    rw [lkR_none hm]
    decide
theorem take_snoc_all {α : Type} {P : α → Bool} {l : List α} {k : Nat} (h : k < l.length) (h1 : ∀ y ∈ l.take k, P y = false) (h2 : P l[k] = false) : ∀ y ∈ l.take (k + 1), P y = false := fun y hy => by
  rw [List.take_succ_eq_append_getElem h] at hy
  rcases List.mem_append.1 hy with hy | hy
  · exact h1 y hy
  · simp at hy; subst hy; exact h2
theorem split_at {α : Type} {l : List α} {k : Nat} (h : k < l.length) : l = l.take k ++ l[k] :: l.drop (k + 1) := by
  rw [← List.drop_eq_getElem_cons h, List.take_append_drop]
set_option maxRecDepth 100000 in
set_option maxHeartbeats 8000000 in
theorem refWhy_any (rules : List Rul) (l : List Fct) (f : Fct) (rv fv : Value) (w : World) (hr : tRuls.rv (mem w) [rv] rules) (hf : tFcts.rv (mem w) [fv] l) (hok : okF f) :
    Calls Try.prog 25 #[rv, fv, f.v] w (WhyU rules l f w) := by
  have HP := Lib.hid (fun w' (hb : Below w.heap.size w w') => refProgram_any rules rv w' (tRuls.mono _ _ _ _ (below_mem hb) hr))
  have HG := Lib.hid (fun w' (hb : Below w.heap.size w w') => refFacts_any l fv w' (tFcts.mono _ _ _ _ (below_mem hb) hf))
  have HV := Lib.hid (fun w' => refFact_any f w' hok)
  have HF := Lib.hid (fun w' (hb : Below w.heap.size w w') (h1 : validP rules = true) (h2 : l.length ≤ 60) => refRounds_any rules l rv fv w' (tRuls.mono _ _ _ _ (below_mem hb) hr) (tFcts.mono _ _ _ _ (below_mem hb) hf) (validP_bd h1) (validP_len h1) (by omega))
  have HIN := Lib.hid (fun w' (hb : Below w.heap.size w w') => refIn_any l f fv w' (tFcts.mono _ _ _ _ (below_mem hb) hf))
  obtain ⟨ar, cr, rfl, hlr, hmr, hr⟩ := slice_form hr
  obtain ⟨af, cf, rfl, -⟩ := slice_form hf
  have hcr : cr ≤ 9223372036854775807 := by unfold maxLen at hmr; exact hmr
  have HR := Lib.hid (fun wr (hb : Below w.heap.size w wr) => tRuls.mono _ _ _ _ (below_mem hb) hr)
  obtain ⟨f1, f2, f3⟩ := f
  obtain ⟨X, hX⟩ : ∃ X, X = w.alloc (.cells #[.string f1, .string f2, .string f3] 33) := ⟨_, rfl⟩
  have HBX := Lib.hid (show Below w.heap.size w X from by rw [hX]; exact boxW w _)
  have HCX := Lib.hid (show X.heap[w.heap.size]? = some (.cells #[.string f1, .string f2, .string f3] 33 (0, 0)) from by rw [hX]; exact heap_alloc_new w _)
  have HX := Lib.hid hX
  have HCB := Lib.hid (fun (w' : World) (hb : Below X.heap.size X w') => (show w'.cell? ⟨w.heap.size, 0, none⟩ = some (.string f1) ∧ w'.cell? ⟨w.heap.size, 1, none⟩ = some (.string f2) ∧ w'.cell? ⟨w.heap.size, 2, none⟩ = some (.string f3) from by
    have hb2 := (hb.block _ (Array.getElem?_eq_some_iff.1 HCX.out).1).trans HCX.out
    exact ⟨mem_cells hb2 0, mem_cells hb2 1, mem_cells hb2 2⟩))
  obtain ⟨F, hF⟩ : ∃ F : Fct, F = ⟨f1, f2, f3⟩ := ⟨_, rfl⟩
  have HFE := Lib.hid hF
  clear hr hf hok hmr hX hF
  go_enter Try.func25, Try.ntmps25
  go_wp2_with fail
  rw [← HX.out]
  refine (HP.out X HBX.out).mono ?_
  rintro e w1 ⟨rfl, hb1⟩
  cases hp : validP rules with
  | false =>
    have HE := Lib.hid (WhyU.fails (whyT_bad (rules := rules) (l := l) (f := ⟨f1, f2, f3⟩) (by rw [hp]; rfl)) (pure_trans HBX.out hb1))
    clear HP HG HF HV HIN hp
    go_wp2
    go_ret3
    exact HE.out
  | true =>
  go_wp2_with fail
  refine (HG.out w1 (pure_trans HBX.out hb1)).mono ?_
  rintro e w2 ⟨rfl, hb2⟩
  have hb2 := pure_trans hb1 hb2
  cases hg : validG l with
  | false =>
    have HE := Lib.hid (WhyU.fails (whyT_bad (rules := rules) (l := l) (f := ⟨f1, f2, f3⟩) (by rw [hp, hg]; rfl)) (pure_trans HBX.out hb2))
    clear HP HG HF HV HIN hp
    go_wp2
    go_ret3
    exact HE.out
  | true =>
  obtain ⟨c0, c1, c2⟩ := HCB.out w2 hb2
  go_wp2_with fail
  refine (HV.out w2).mono ?_
  rintro e w3 ⟨rfl, hb3⟩
  have hb3 := pure_trans hb2 hb3
  cases hv : validF ⟨f1, f2, f3⟩ with
  | false =>
    have HE := Lib.hid (WhyU.fails (whyT_bad (rules := rules) (l := l) (f := ⟨f1, f2, f3⟩) (by rw [hp, hg, hv]; rfl)) (pure_trans HBX.out hb3))
    clear HP HG HF HV HIN hp c0 c1 c2
    go_wp2
    go_ret3
    exact HE.out
  | true =>
  clear c0 c1 c2
  obtain ⟨c0, c1, c2⟩ := HCB.out w3 hb3
  go_wp2_with fail
  refine (HIN.out w3 (pure_trans HBX.out hb3)).mono ?_
  rintro e w4 ⟨rfl, hb4⟩
  have HB4 := Lib.hid (pure_trans hb3 hb4)
  have HVV := Lib.hid (show (validP rules && (validG l && validF ⟨f1, f2, f3⟩)) = true by rw [hp, hg, hv]; rfl)
  have HPP := Lib.hid hp
  have HLL := Lib.hid (validG_len hg)
  clear hb1 hb2 hb3 hb4 HP HG HV HIN hp hg hv c0 c1 c2
  by_cases hin : (⟨f1, f2, f3⟩ : Fct) ∈ l
  · rw [decide_eq_true hin]
    have HE := Lib.hid (WhyU.fails (whyT_in HVV.out hin) (pure_trans HBX.out HB4.out))
    clear HF hin
    go_wp2
    go_ret3
    exact HE.out
  rw [decide_eq_false hin]
  have HNI := Lib.hid hin
  clear hin
  go_wp2_with fail
  refine (HF.out w4 (pure_trans HBX.out HB4.out) HPP.out HLL.out).mono ?_
  rintro e w5 ⟨j, M, out, ov, av, hst, hlast, rfl, hov, hav, hb5⟩
  have HB5 := Lib.hid (pure_trans HB4.out hb5)
  have HM0 := Lib.hid (hst.done hlast)
  have HRN := Lib.hid (fun x => hst.rnd x)
  have HNG := Lib.hid (rst_neg hst ⟨f1, f2, f3⟩)
  have HRI := Lib.hid (fun x => (show -1 ≤ rnd M x from by
    unfold rnd
    cases hl : lkR M x with
    | none => decide
    | some i => have := hst.run.lt x i hl; show -1 ≤ i; omega))
  have HKL := Lib.hid (show (srt (keysR M)).length = M.length from hst.all)
  obtain ⟨ao, co, rfl, -⟩ := slice_form hov
  have HOV := Lib.hid (fun (w' : World) (hb : Below w5.heap.size w5 w') => tFctss.mono _ _ _ _ (below_mem hb) hov)
  obtain ⟨aa, ca, rfl, hla, hma, hav⟩ := slice_form hav
  have hca : ca ≤ 9223372036854775807 := by unfold maxLen at hma; exact hma
  have HAV := Lib.hid (fun (w' : World) (hb : Below w5.heap.size w5 w') => tFcts.mono _ _ _ _ (below_mem hb) hav)
  clear hst hlast hov hav hb5 HF hma HB4
  by_cases h400 : M.length ≤ 400
  · have HM := Lib.hid (HM0.out.trans (if_pos h400))
    have HM4 := Lib.hid h400
    rw [decide_eq_true (show (M.length : Int) ≤ 400 by omega)]
    obtain ⟨c0, c1, c2⟩ := HCB.out w5 HB5.out
    have HRD := Lib.hid (fun (x : Fct) w' (hb : Below w5.heap.size w5 w') => (show Calls Try.prog 44 #[.slice ao out.length co, x.v] w' fun e w2 => e = .returned (.int .i64 (rnd M x)) ∧ Below w'.heap.size w' w2 from by
      have := refRound_any out x (.slice ao out.length co) w' (HOV.out w' hb)
      rw [HRN.out] at this
      exact this))
    clear h400 HM0 HOV HRN
    generalize out.length = no at *
    go_wp2_with fail
    refine (HRD.out ⟨f1, f2, f3⟩ w5 (Below.refl _ _)).mono ?_
    rintro e w6 ⟨rfl, hb6⟩
    have HB6 := Lib.hid (pure_trans HB5.out hb6)
    have HB56 := Lib.hid hb6
    clear hb6 HB5 c0 c1 c2
    have HBF := Lib.hid (fun x => (show befB M ⟨f1, f2, f3⟩ x = decide (rnd M x < rnd M ⟨f1, f2, f3⟩) from rfl))
    have HRF := Lib.hid (HRI.out ⟨f1, f2, f3⟩)
    generalize hq : rnd M ⟨f1, f2, f3⟩ = q at *
    by_cases hneg : q < 0
    · have HE := Lib.hid (WhyU.fails (whyT_no HVV.out HNI.out HM.out (HNG.out.1 hneg)) (pure_trans HBX.out HB6.out))
      have hd : decide (q < 0) = true := decide_eq_true hneg
      clear HRD hneg
      go_wp2
      go_ret3
      exact HE.out
    · have HKM := Lib.hid (show (⟨f1, f2, f3⟩ : Fct) ∈ keysR M from by
        by_cases h : (⟨f1, f2, f3⟩ : Fct) ∈ keysR M
        · exact h
        · exact absurd (HNG.out.2 h) hneg)
      have hd : decide (q < 0) = false := decide_eq_false hneg
      have HBX6 := Lib.hid (pure_trans HBX.out HB6.out)
      have HBL := Lib.hid (show befL M ⟨f1, f2, f3⟩ = (srt (keysR M)).filter (befB M ⟨f1, f2, f3⟩) from rfl)
      obtain ⟨P, hP⟩ : ∃ P : Fct → Bool, P = befB M ⟨f1, f2, f3⟩ := ⟨_, rfl⟩
      rw [← hP] at HBF HBL
      have HKL4 := Lib.hid (show (srt (keysR M)).length ≤ 400 from by have := HKL.out; have := HM4.out; omega)
      clear hneg HNG hP HKL hq
      generalize srt (keysR M) = K at *
      go_wp2_with fail
      go_loopw [13, 14] (fun bv i wr => ∃ k : Nat, k ≤ K.length ∧ i = .int .i64 k ∧ Hid (Owns tFct wr w6.heap.size 33 bv ((K.take k).filter P)) ∧ Hid (Below w6.heap.size w6 wr)) (fun _ i _ => K.length - (intOf i).toNat)
      case atStart => exact ⟨0, by omega, rfl, Lib.hid (Owns.nil _ _ _ _), Lib.hid (Below.refl _ _)⟩
      case round =>
        obtain ⟨k, hk, rfl, HO, HBR⟩ := hrel
        by_cases hlt : k < K.length
        · have HB5R := Lib.hid (pure_trans HB56.out HBR.out)
          obtain ⟨bb, o, rfl, ⟨q0, q1, q2⟩, hok⟩ := fcts_at (HAV.out _ HB5R.out) hlt
          have c0 : wr.cell? ⟨bb, o + k * 3, none⟩ = some (.string K[k].n) := q0
          have c1 : wr.cell? ⟨bb, o + k * 3 + 1, none⟩ = some (.string K[k].a) := q1
          have c2 : wr.cell? ⟨bb, o + k * 3 + 2, none⟩ = some (.string K[k].b) := q2
          have HYO := Lib.hid hok
          have HLN := Lib.hid (show ((K.take k).filter P).length ≤ 1000000000 from Nat.le_trans (List.length_filter_le _ _) (by rw [List.length_take]; have := HKL4.out; omega))
          have HYES := Lib.hid (fun (e : P K[k] = true) => filtB_yes (P := P) hlt e)
          have HNO := Lib.hid (fun (e : P K[k] = false) => filtB_no (P := P) hlt e)
          clear q0 q1 q2 hok
          generalize (K.take k).filter P = nl at *
          generalize K[k] = y at *
          have HRY := Lib.hid (HRI.out y)
          obtain ⟨y1, y2, y3⟩ := y
          simp only at c0 c1 c2
          have HIY := Lib.hid (HRD.out ⟨y1, y2, y3⟩ wr HB5R.out)
          have HPY := Lib.hid (HBF.out ⟨y1, y2, y3⟩)
          go_wp2_with fail
          refine HIY.out.mono ?_
          rintro e w7 ⟨rfl, hb7⟩
          have HB7 := Lib.hid (pure_trans HBR.out hb7)
          have HO7 := Lib.hid (HO.out.keeps hb7)
          have HSZ := Lib.hid HB7.out.size
          have d0 : w7.cell? ⟨bb, o + k * 3, none⟩ = some (.string y1) := below_mem hb7 _ _ _ c0
          have d1 : w7.cell? ⟨bb, o + k * 3 + 1, none⟩ = some (.string y2) := below_mem hb7 _ _ _ c1
          have d2 : w7.cell? ⟨bb, o + k * 3 + 2, none⟩ = some (.string y3) := below_mem hb7 _ _ _ c2
          clear hb7 HIY c0 c1 c2 HO HBR
          generalize rnd M ⟨y1, y2, y3⟩ = z at *
          by_cases hin : z < q
          · have hd2 : decide (z < q) = true := decide_eq_true hin
            have HNX := Lib.hid (HYES.out (by rw [HPY.out, hd2]))
            clear HYES HNO HPY hin
            go_wp2_with (at_builtin; refine wpList_append_one rfl _ _ 23 rfl tFct Try.underlying23 infoFct rfl (by decide) w6.heap.size _ nl rfl (HO7.out.alloc _) _ _ ⟨y1, y2, y3⟩ rfl [.string y1, .string y2, .string y3] ?a2 ⟨rfl, HYO.out⟩ ?b2 ?c2 ?d2 ?e2 ?_)
            case a2 => exact fun j u hj => by match j, hj with | 0, hj => simp at hj; subst hj; simp [mem] | 1, hj => simp at hj; subst hj; simp [mem] | 2, hj => simp at hj; subst hj; simp [mem]
            case b2 => intro x hx; simp at hx; rcases hx with rfl | rfl | rfl <;> rfl
            case c2 => have := HLN.out; unfold maxLen; omega
            case d2 => have := HLN.out; omega
            case e2 => have := HSZ.out; simp; omega
            · intro v' w8 own6 hgrow _
              have HB8 := Lib.hid (show Below w6.heap.size w6 w8 from (HB7.out.alloc HB7.out.size _).grown hgrow (by have := HSZ.out; simp; omega) (fun k hk => ((HO7.out).lt k hk).1))
              obtain ⟨a6, cap6, rfl, _⟩ := own6.len
              have HO8 := Lib.hid (show Owns tFct w8 w6.heap.size 33 (.slice a6 (nl ++ [(⟨y1, y2, y3⟩ : Fct)]).length cap6) ((K.take (k + 1)).filter P) by
                rw [HNX.out]
                exact own6)
              clear own6 hgrow HO7
              go_wp2
              go_roundw
              case rel => exact ⟨k + 1, by omega, by go_num, HO8, HB8⟩
              case measure => simp [intOf]; omega
          · have hd2 : decide (z < q) = false := decide_eq_false hin
            have HNX := Lib.hid (HNO.out (by rw [HPY.out, hd2]))
            clear HYES HNO HPY hin
            obtain ⟨al, cl, rfl, _⟩ := HO7.out.len
            go_wp2
            go_roundw
            case rel => exact ⟨k + 1, by omega, by go_num, Lib.hid (by rw [HNX.out]; exact HO7.out), HB7⟩
            case measure => simp [intOf]; omega
        · obtain rfl : k = K.length := by omega
          rw [List.take_length, ← HBL.out] at HO
          have HBV := Lib.hid HO.out.rv'
          have HB7 := Lib.hid (pure_trans HBX6.out HBR.out)
          have HX7 := Lib.hid (pure_trans HB6.out HBR.out)
          have HL4 := Lib.hid (show (befL M ⟨f1, f2, f3⟩).length ≤ 400 from by rw [HBL.out]; exact Nat.le_trans (List.length_filter_le _ _) HKL4.out)
          have HSOM := Lib.hid (fun (i : Nat) (b : List Fct) (h5 : whyR (befL M ⟨f1, f2, f3⟩) ⟨f1, f2, f3⟩ rules 0 = some (i, b)) => whyT_some HVV.out HNI.out HM.out HKM.out h5)
          have HNON := Lib.hid (fun (h5 : whyR (befL M ⟨f1, f2, f3⟩) ⟨f1, f2, f3⟩ rules 0 = none) => whyT_none HVV.out HNI.out HM.out HKM.out h5)
          obtain ⟨al, cl, rfl, -⟩ := slice_form HBV.out
          clear HO HBR HBL HBF HRD HRI HKL4 HAV
          generalize befL M ⟨f1, f2, f3⟩ = B at *
          obtain ⟨W7, hW7⟩ : ∃ W7, W7 = wr := ⟨_, rfl⟩
          subst hW7
          have HB3 := Lib.hid (fun r (h : r ∈ rules) => (validP_bd HPP.out r h).2)
          have HWX := Lib.hid (fun (w' : World) (hb : Below W7.heap.size W7 w') => pure_trans HX7.out hb)
          have HHD := Lib.hid (fun (r : Rul) (x : Way) (bv a b c : Value) w' h1 h2 => refHead_any r x bv a b c w' h1 h2)
          clear HPP HVV HNI HM HKM HM4 HLL HBX6 HB6 HB56
          have HWY := Lib.hid (refWays_any B HL4.out)
          clear HL4
          generalize B.length = nb at *
          go_wp2_with fail
          go_loopw [15] (fun i wr => ∃ k : Nat, k ≤ rules.length ∧ i = .int .i64 k ∧ Hid (whyR B ⟨f1, f2, f3⟩ rules 0 = whyR B ⟨f1, f2, f3⟩ (rules.drop k) k) ∧ Hid (Below W7.heap.size W7 wr)) (fun i _ => rules.length - (intOf i).toNat)
          case atStart => exact ⟨0, by omega, rfl, Lib.hid rfl, Lib.hid (Below.refl _ _)⟩
          case round =>
            obtain ⟨k, hk, rfl, HT, HB⟩ := hrel
            by_cases hlt : k < rules.length
            · obtain ⟨W8, hW8⟩ : ∃ W8, W8 = wr := ⟨_, rfl⟩
              subst hW8
              have HBW8 := Lib.hid (pure_trans HB7.out HB.out)
              have HBX8 := Lib.hid (HWX.out W8 HB.out)
              obtain ⟨b, o, bv, rfl, ⟨q0, q1, q2, q3⟩, hok, hbd⟩ := ruls_at (HR.out _ HBW8.out) hlt
              have c0 : W8.cell? ⟨b, o + k * 4, none⟩ = some (.string rules[k].hd.n) := q0
              have c1 : W8.cell? ⟨b, o + k * 4 + 1, none⟩ = some (.string rules[k].hd.a) := q1
              have c2 : W8.cell? ⟨b, o + k * 4 + 2, none⟩ = some (.string rules[k].hd.b) := q2
              have c3 : W8.cell? ⟨b, o + k * 4 + 3, none⟩ = some bv := q3
              have hb3 := HB3.out _ (List.getElem_mem hlt)
              have HBV8 := Lib.hid (show tFcts.rv (mem W8) [.slice al nb cl] B from tFcts.mono _ _ _ _ (below_mem HB.out) HBV.out)
              have HW := Lib.hid (HWY.out rules[k].bd (· < W8.heap.size) [] [] bv (.slice al nb cl) (.slice none 0 0) (.slice none 0 0) (.slice none 0 0) W8 hb3 (by simp; omega) (by simpa using hb3) (fun q h => h) (tFcts.mono _ _ _ _ (mem_on_lt W8) hbd) (tFcts.mono _ _ _ _ (mem_on_lt W8) HBV8.out) (slice_nil _ _) (slice_nil _ _) (slice_nil _ _))
              have HWD := Lib.hid (HT.out.trans (whyR_drop hlt))
              have HHIT := Lib.hid (fun (pre : List Way) (x : Way) (post : List Way) (g1 : ways rules[k].bd B [] [] = pre ++ x :: post) (g2 : ∀ y ∈ pre, hitF rules[k] ⟨f1, f2, f3⟩ y = false) (g3 : hitF rules[k] ⟨f1, f2, f3⟩ x = true) => wayW_hit g1 g2 g3)
              have HMISS := Lib.hid (fun (g : ∀ y ∈ ways rules[k].bd B [] [], hitF rules[k] ⟨f1, f2, f3⟩ y = false) => wayW_none g)
              obtain ⟨ab, cb, rfl, -, -, -⟩ := slice_form hbd
              clear q0 q1 q2 q3 hok hbd hb3 HT HBV8
              generalize rules[k] = r at *
              obtain ⟨⟨r1, r2, r3⟩, bd⟩ := r
              simp only at c0 c1 c2 c3
              obtain ⟨ws, hws⟩ : ∃ ws, ws = ways bd B [] [] := ⟨_, rfl⟩
              have HWS := Lib.hid hws
              rw [← hws] at HHIT HMISS
              clear hws
              go_wp2_with fail
              refine HW.out.mono ?_
              rintro e w9 ⟨v9, rfl, hv9, hb9⟩
              rw [← HWS.out] at hv9
              have hv9 := tWays.mono _ _ _ _ (Mem.on_le _ _) hv9
              have HV9 := Lib.hid (fun (w' : World) (hb : Below w9.heap.size w9 w') => tWays.mono _ _ _ _ (below_mem hb) hv9)
              have HB9 := Lib.hid (pure_trans HB.out hb9)
              have HB89 := Lib.hid hb9
              have HKC := Lib.hid (fun (w' : World) (hb : Below W8.heap.size W8 w') => (show w'.cell? ⟨b, o + k * 4, none⟩ = some (.string r1) ∧ w'.cell? ⟨b, o + k * 4 + 1, none⟩ = some (.string r2) ∧ w'.cell? ⟨b, o + k * 4 + 2, none⟩ = some (.string r3) ∧ w'.cell? ⟨b, o + k * 4 + 3, none⟩ = some (.slice ab bd.length cb) from ⟨below_mem hb _ _ _ c0, below_mem hb _ _ _ c1, below_mem hb _ _ _ c2, below_mem hb _ _ _ c3⟩))
              obtain ⟨aw, cw, rfl, hlw, hmw, -⟩ := slice_form hv9
              have hcw : cw ≤ 9223372036854775807 := by unfold maxLen at hmw; exact hmw
              clear hv9 hb9 HW c0 c1 c2 c3 hmw HB
              go_wp2_with fail
              go_loopw [17] (fun i wr => ∃ m : Nat, m ≤ ws.length ∧ i = .int .i64 m ∧ Hid (∀ y ∈ ws.take m, hitF ⟨⟨r1, r2, r3⟩, bd⟩ ⟨f1, f2, f3⟩ y = false) ∧ Hid (Below w9.heap.size w9 wr)) (fun i _ => ws.length - (intOf i).toNat)
              case atStart => exact ⟨0, by omega, rfl, Lib.hid (by simp), Lib.hid (Below.refl _ _)⟩
              case round =>
                obtain ⟨m, hm, rfl, HT, HB⟩ := hrel
                by_cases hlt2 : m < ws.length
                · have HBR8 := Lib.hid (pure_trans HB89.out HB.out)
                  have HBRX := Lib.hid (pure_trans HX7.out (pure_trans HB9.out HB.out))
                  obtain ⟨wb, wo, x0, x1, x2, rfl, ⟨q0, q1, q2⟩, s0, s1, s2⟩ := ways_at (HV9.out wr HB.out) hlt2
                  have d0 : wr.cell? ⟨wb, wo + m * 3, none⟩ = some x0 := q0
                  have d1 : wr.cell? ⟨wb, wo + m * 3 + 1, none⟩ = some x1 := q1
                  have d2 : wr.cell? ⟨wb, wo + m * 3 + 2, none⟩ = some x2 := q2
                  obtain ⟨c0, c1, c2, c3⟩ := HKC.out wr HBR8.out
                  obtain ⟨g0, g1, g2⟩ := HCB.out wr HBRX.out
                  have HCH := Lib.hid (fun (w' : World) (hb : Below wr.heap.size wr w') => HHD.out ⟨⟨r1, r2, r3⟩, bd⟩ ws[m] (.slice ab bd.length cb) x0 x1 x2 w' (tStrs.mono _ _ _ _ (below_mem hb) s0) (tStrs.mono _ _ _ _ (below_mem hb) s1))
                  have HHY := Lib.hid (fun (h2 : hitF ⟨⟨r1, r2, r3⟩, bd⟩ ⟨f1, f2, f3⟩ ws[m] = true) => HHIT.out (ws.take m) ws[m] (ws.drop (m + 1)) (split_at hlt2) HT.out h2)
                  have HHN := Lib.hid (fun (h2 : hitF ⟨⟨r1, r2, r3⟩, bd⟩ ⟨f1, f2, f3⟩ ws[m] = false) => take_snoc_all (P := hitF ⟨⟨r1, r2, r3⟩, bd⟩ ⟨f1, f2, f3⟩) hlt2 HT.out h2)
                  have HHQ := Lib.hid (show hitF ⟨⟨r1, r2, r3⟩, bd⟩ ⟨f1, f2, f3⟩ ws[m] = decide (headF ⟨⟨r1, r2, r3⟩, bd⟩ ws[m].1 = ⟨f1, f2, f3⟩) from rfl)
                  have HS2 := Lib.hid (fun (w' : World) (hb : Below wr.heap.size wr w') => tFcts.mono _ _ _ _ (below_mem hb) s2)
                  obtain ⟨a0, p0, rfl, -⟩ := slice_form s0
                  obtain ⟨a1, p1, rfl, -⟩ := slice_form s1
                  obtain ⟨a2, p2, rfl, -⟩ := slice_form s2
                  have HBE := Lib.hid (fun (w' : World) (hb : Below wr.heap.size wr w') => pure_trans HB.out hb)
                  clear q0 q1 q2 s0 s1 s2 HHIT HB HT
                  generalize ws[m] = x at *
                  generalize (x.1.map Prod.fst).length = n0 at *
                  generalize (x.1.map Prod.snd).length = n1 at *
                  generalize x.2.length = n2 at *
                  have HEQ := Lib.hid (fct_eqB (headF ⟨⟨r1, r2, r3⟩, bd⟩ x.1) ⟨f1, f2, f3⟩)
                  obtain ⟨hf, hhf⟩ : ∃ hf, hf = headF ⟨⟨r1, r2, r3⟩, bd⟩ x.1 := ⟨_, rfl⟩
                  have HHF := Lib.hid hhf
                  rw [← hhf] at HEQ HHQ
                  clear hhf
                  obtain ⟨h1, h2, h3⟩ := hf
                  have hb0 : Below wr.heap.size wr wr.drew := (Below.refl _ _).drew
                  have HKP := Lib.hid (fun (w' : World) (hb : Below wr.heap.size wr w') => (show (w'.cell? ⟨wb, wo + m * 3, none⟩ = some (.slice a0 n0 p0) ∧ w'.cell? ⟨wb, wo + m * 3 + 1, none⟩ = some (.slice a1 n1 p1) ∧ w'.cell? ⟨wb, wo + m * 3 + 2, none⟩ = some (.slice a2 n2 p2)) ∧ (w'.cell? ⟨b, o + k * 4, none⟩ = some (.string r1) ∧ w'.cell? ⟨b, o + k * 4 + 1, none⟩ = some (.string r2) ∧ w'.cell? ⟨b, o + k * 4 + 2, none⟩ = some (.string r3) ∧ w'.cell? ⟨b, o + k * 4 + 3, none⟩ = some (.slice ab bd.length cb)) ∧ w'.cell? ⟨w.heap.size, 0, none⟩ = some (.string f1) ∧ w'.cell? ⟨w.heap.size, 1, none⟩ = some (.string f2) ∧ w'.cell? ⟨w.heap.size, 2, none⟩ = some (.string f3) from
                    ⟨⟨below_mem hb _ _ _ d0, below_mem hb _ _ _ d1, below_mem hb _ _ _ d2⟩, HKC.out w' (pure_trans HBR8.out hb), HCB.out w' (pure_trans HBRX.out hb)⟩))
                  have HYE := Lib.hid (fun (e : decide ((⟨h1, h2, h3⟩ : Fct) = ⟨f1, f2, f3⟩) = true) (w' : World) (hb : Below wr.heap.size wr w') => (show WhyU rules l ⟨f1, f2, f3⟩ w (.returned (.tuple #[.int .i64 k, .slice a2 n2 p2, .int .i64 0])) w' from
                    WhyU.of (HSOM.out k x.2 (HWD.out.trans (by rw [HHY.out (HHQ.out.trans e)]))) (HS2.out w' hb) (pure_trans (pure_trans HBX.out HBRX.out) hb)))
                  have HNE := Lib.hid (fun (e : decide ((⟨h1, h2, h3⟩ : Fct) = ⟨f1, f2, f3⟩) = false) => HHN.out (HHQ.out.trans e))
                  have HDR := Lib.hid (fun (w' : World) (hb : Below wr.heap.size wr w') (n : Nat) => (show Below wr.heap.size wr (w'.drewN n) from hb.trans ⟨rfl, rfl, rfl, Nat.le_refl _, fun _ _ => rfl⟩))
                  clear HHY HHN HHQ HS2 HSOM HNON HHD HMISS HWD
                  cases e1 : (h1.toList == f1.toList) <;> cases e2 : (h2.toList == f2.toList) <;> cases e3 : (h3.toList == f3.toList)
                  all_goals
                    have HQ := Lib.hid (HEQ.out.trans (by rw [e1, e2, e3]))
                    clear HEQ
                    go_wp2_with fail
                    go_region_held3 (fun w' => (w'.cell? ⟨wb, wo + m * 3, none⟩ = some (.slice a0 n0 p0) ∧ w'.cell? ⟨wb, wo + m * 3 + 1, none⟩ = some (.slice a1 n1 p1) ∧ w'.cell? ⟨wb, wo + m * 3 + 2, none⟩ = some (.slice a2 n2 p2)) ∧ (w'.cell? ⟨b, o + k * 4, none⟩ = some (.string r1) ∧ w'.cell? ⟨b, o + k * 4 + 1, none⟩ = some (.string r2) ∧ w'.cell? ⟨b, o + k * 4 + 2, none⟩ = some (.string r3) ∧ w'.cell? ⟨b, o + k * 4 + 3, none⟩ = some (.slice ab bd.length cb)) ∧ w'.cell? ⟨w.heap.size, 0, none⟩ = some (.string f1) ∧ w'.cell? ⟨w.heap.size, 1, none⟩ = some (.string f2) ∧ w'.cell? ⟨w.heap.size, 2, none⟩ = some (.string f3))
                      ((refine HKP.out _ ?_; with_reducible assumption))
                      ((go_at_call 56; refine (HCH.out _ hb0).mono ?_; rintro e w10 ⟨rfl, hb10⟩; rw [← HHF.out]; have hb4 := pure_trans hb0 hb10))
                    have k0 : w10.cell? ⟨wb, wo + m * 3, none⟩ = some (.slice a0 n0 p0) := below_mem hb4 _ _ _ d0
                    have k1 : w10.cell? ⟨wb, wo + m * 3 + 1, none⟩ = some (.slice a1 n1 p1) := below_mem hb4 _ _ _ d1
                    have k2 : w10.cell? ⟨wb, wo + m * 3 + 2, none⟩ = some (.slice a2 n2 p2) := below_mem hb4 _ _ _ d2
                    have HB10 := Lib.hid hb4
                    clear hb4 hb0 HKP HCH HHF d0 d1 d2 c0 c1 c2 c3 g0 g1 g2
                    go_wp2_with fail
                    first
                      | (go_roundw
                         case rel => exact ⟨m + 1, by omega, by go_num, Lib.hid (HNE.out HQ.out), Lib.hid (HBE.out _ HB10.out)⟩
                         case measure => simp [intOf]; omega)
                      | (go_quiet (fail)
                         go_wp2
                         go_ret3
                         exact HYE.out HQ.out _ (HDR.out _ HB10.out _))
                · obtain rfl : m = ws.length := by omega
                  rw [List.take_length] at HT
                  have HNX := Lib.hid (HWD.out.trans (by rw [HMISS.out HT.out]))
                  have HBE := Lib.hid (pure_trans HB9.out HB.out)
                  clear HHIT HMISS HT HB
                  go_wp2
                  go_roundw
                  case rel => exact ⟨k + 1, by omega, by go_num, HNX, HBE⟩
                  case measure => simp [intOf]; omega
            · obtain rfl : k = rules.length := by omega
              have HE := Lib.hid (WhyU.fails (HNON.out (HT.out.trans (whyR_end _ _ _))) (pure_trans HB7.out HB.out))
              clear HSOM HNON HT HB
              go_wp2
              go_ret3
              exact HE.out
  · have HM := Lib.hid (HM0.out.trans (if_neg h400))
    rw [decide_eq_false (show ¬ ((M.length : Int) ≤ 400) by omega)]
    have HE := Lib.hid (WhyU.fails (whyT_big HVV.out HNI.out HM.out) (pure_trans HBX.out HB5.out))
    clear h400 HM0 HOV HAV HRN HNG HRI
    go_wp2
    go_ret3
    exact HE.out
end Go.Proofs.Ytafeaeaildfohaa
/- ring.sorted's answer is a row that starts its own block; slices.DeleteFunc at such a row. -/
namespace Go.Proofs.Ytafeaeaildfohaa
open Go.RowKit Go.Maps

/-- A slice begins at its block's first cell. -/
def Off0 (v : Value) : Prop := ∀ b o n c, v = .slice (some ⟨b, o, none⟩) n c → o = 0
theorem owns_off {w : World} {B : Nat} {v : Value} {xs : List Fct} (h : Owns tFct w B 33 v xs) : Off0 v := by
  obtain ⟨css, h1, ⟨h2, h3⟩, h4, h5⟩ := h
  intro b o n c e
  rcases h3 with ⟨rfl, h6⟩ | ⟨g, cap, cur, rfl, hg, hh, hn, hm, hc, ht⟩
  · cases e
  · injection e with e
    injection e with e
    injection e with e1 e2
    exact e2.symm
/-- A row of facts of the call's own. -/
structure OwnF (w : World) (B : Nat) (v : Value) (xs : List Fct) : Prop where
  rd : tFcts.rv ((mem w).on (B ≤ ·)) [v] xs
  row : 0 < xs.length → ∃ g cap, v = .slice (some ⟨g, 0, none⟩) xs.length cap ∧ xs.length ≤ cap ∧ cap ≤ maxLen ∧ B ≤ g ∧ g < w.heap.size ∧ RowF w g xs ∧ (∀ o, w.frozen? ⟨g, o, none⟩ = false)
theorem OwnF.rv' {w : World} {B : Nat} {v : Value} {xs : List Fct} (h : OwnF w B v xs) : tFcts.rv (mem w) [v] xs := tFcts.mono _ _ _ _ (Mem.on_le _ _) h.rd
theorem OwnF.rd2 {w w' : World} {B : Nat} {v : Value} {xs : List Fct} (h : OwnF w B v xs) (hb : Below w.heap.size w w') : tFcts.rv ((mem w').on (B ≤ ·)) [v] xs := tFcts.mono _ _ _ _ (fun b o u e => by
  obtain ⟨hs, e⟩ := Mem.of_on e
  exact Mem.on_some (below_mem hb _ _ _ e) hs) h.rd
theorem OwnF.len {w : World} {B : Nat} {v : Value} {xs : List Fct} (h : OwnF w B v xs) : ∃ a cap, v = .slice a xs.length cap ∧ True := by
  obtain ⟨a, c, e, -⟩ := slice_form h.rd
  exact ⟨a, c, e, trivial⟩
theorem OwnF.lt {w : World} {B : Nat} {v : Value} {xs : List Fct} (h : OwnF w B v xs) (h0 : 0 < xs.length) : ∀ k, v.ownBlock = some k → B ≤ k := fun k hk => by
  obtain ⟨g, cap, rfl, -, -, h1, -⟩ := h.row h0
  simp [Value.ownBlock] at hk
  omega
theorem ownF_of {w : World} {B : Nat} {v : Value} {xs : List Fct} (hr : tFcts.rv ((mem w).on (B ≤ ·)) [v] xs) (ht : ∀ k, v.ownBlock = some k → ∃ cur, w.heap[k]? = some (.cells cur 33 (0, 0))) (h0 : Off0 v) : OwnF w B v xs := by
  refine ⟨hr, fun hl => ?_⟩
  obtain ⟨a, cap, rfl, h1, h2, hr⟩ := slice_form hr
  obtain ⟨b, o, rfl, ⟨q0, q1, q2⟩, -⟩ := fcts_at hr hl
  obtain rfl := h0 b o _ _ rfl
  obtain ⟨cur, hc⟩ := ht b rfl
  obtain ⟨e1, e2⟩ := Mem.of_on q0
  refine ⟨b, cap, rfl, h1, h2, e1, (Array.getElem?_eq_some_iff.1 hc).1, fun k hk => ?_, fun o => frozen_cells hc o⟩
  obtain ⟨b', o', e, ⟨q0, q1, q2⟩, -⟩ := fcts_at hr hk
  injection e with e
  injection e with e1 e2
  subst e1; subst e2
  simp only [Nat.zero_add] at q0 q1 q2
  exact ⟨(Mem.of_on q0).2, (Mem.of_on q1).2, (Mem.of_on q2).2⟩
set_option maxRecDepth 100000 in
set_option maxHeartbeats 8000000 in
theorem sortedFcts2 (B b n : Nat) (f : (Fct → Option Int)) (w : World) (hB : w.cell? ⟨B, 0, none⟩ = some (.map (some b))) (hf : FM w b n f) (hn : n ≤ 1000000000) :
    Calls Try.prog 64 #[.func (.func 78) #[] #[.pointer (some ⟨B, 0, none⟩)], .func (.func 66) #[] #[]] w
      fun e w' => ∃ v ss, e = .returned v ∧ KeysF f ss ∧ (∀ x ∈ ss, okF x) ∧ ss.length ≤ n ∧ tFcts.rv ((mem w').on (w.heap.size ≤ ·)) [v] ss ∧ Below w.heap.size w w' ∧ (∀ k, v.ownBlock = some k → ∃ cur, w'.heap[k]? = some (.cells cur 33 (0, 0)))  ∧ Off0 v := by
  have HK := Lib.hid (fun wr (h : Below w.heap.size w wr) => appendSeqS_any 78 #[.pointer (some ⟨B, 0, none⟩)] (fun pre x => pre.length < n ∧ okF x) (AllKeys f) n wr (fun _ _ => rfl)
    (keysS_gives B b n f wr (below_mem h _ _ _ hB) (hf.below h)) (fun _ _ h => h) hn)
  have HC := Lib.hid (fun wr (h : Below w.heap.size w wr) => (show Calls Try.prog 76 #[.func (.func 78) #[] #[.pointer (some ⟨B, 0, none⟩)]] wr
      fun e w' => ∃ v ss, e = .returned v ∧ AllKeys f ss ∧ Owns tFct w' wr.heap.size 33 v ss ∧ Below wr.heap.size wr w' from by
    go_enter Try.func76, Try.ntmps76
    go_wp2_with fail
    refine (HK.out _ h).mono ?_
    rintro e w1 ⟨v, ss, rfl, h1, h2, h3⟩
    obtain ⟨a1, c1, rfl, _⟩ := h2.len
    go_wp2
    go_ret
    exact ⟨_, ss, rfl, h1, h2, h3⟩))
  have HD := Lib.hid (show ∀ ss, AllKeys f ss → ss.length ≤ n from fun ss h => by
    obtain ⟨D, hown, hs⟩ := hf
    have : Col D (fun _ => false) ss := ⟨h.1, h.2.2, fun x hx => by
      rw [h.2.1 x]
      cases hfx : f x with
      | none => rw [hs.1 x hfx]; simp
      | some a => rw [(hs.2.1 x a hfx).1]; simp⟩
    exact this.room hown)
  clear hB hf HK
  go_enter Try.func64, Try.ntmps64
  go_wp2_with fail
  refine (HC.out _ (Below.refl _ _)).mono ?_
  rintro e w1 ⟨v, ss, rfl, h1, h2, h3⟩
  have hlen := HD.out ss h1
  have HS := Lib.hid (sortFcts_any _ _ _ _ h2 (by omega))
  have H1 := Lib.hid h1
  have H3 := Lib.hid h3
  have HOFF := Lib.hid (owns_off h2)
  obtain ⟨a1, c1, rfl, hml⟩ := h2.len
  clear h1 h2 h3 HC HD
  go_wp2_with fail
  refine HS.out.mono ?_
  rintro e w2 ⟨rfl, tt, hp, hs, hrv, hk, hty⟩
  have HTY := Lib.hid hty
  clear hty
  have HR := Lib.hid hrv
  have HF := Lib.hid (KeysF.of H1.out hp hs)
  have HO := Lib.hid (show ∀ x ∈ tt, okF x from fun x hx => H1.out.2.2 x (hp.mem_iff.1 hx))
  have hl2 := hp.length_eq
  have HB := Lib.hid (Keeps.belowStep H3.out hk (fun k h => h) H3.out.size)
  clear hp hs hrv hk H1 H3 HS
  go_wp2
  go_ret
  exact ⟨_, tt, rfl, HF.out, HO.out, by omega, HR.out, HB.out, HTY.out, HOFF.out⟩
set_option maxRecDepth 100000 in
set_option maxHeartbeats 8000000 in
theorem ringSorted2 (b n : Nat) (f : Fct → Option Int) (w : World) (hf : FM w b n f) (hn : n ≤ 1000000000) :
    Calls Try.prog 39 #[.map (some b)] w fun e w' => ∃ v ss, e = .returned v ∧ KeysF f ss ∧ (∀ x ∈ ss, okF x) ∧ ss.length ≤ n ∧ OwnF w' w.heap.size v ss ∧ Below w.heap.size w w' := by
  have HS := Lib.hid (sortedFcts2 w.heap.size b n f (w.alloc (.cells #[.map (some b)] 56)) (mem_cells_new w _ _ (0, 0) 0) (hf.alloc _) hn)
  have HB := Lib.hid (show Below w.heap.size w (w.alloc (.cells #[.map (some b)] 56)) from (Below.refl _ _).alloc (Nat.le_refl _) _)
  clear hf
  go_enter Try.func39, Try.ntmps39
  go_wp2_with fail
  refine (keysCall_any b _).mono ?_
  rintro e w1 ⟨rfl, rfl⟩
  go_wp2_with fail
  refine HS.out.mono ?_
  rintro e w1 ⟨v, ss, rfl, h1, h2, h3, h4, h5, h6, h7⟩
  have H1 := Lib.hid h1
  have H2 := Lib.hid h2
  have H3 := Lib.hid h3
  have H4 := Lib.hid (tFcts.mono _ _ _ _ (Mem.on_mono (mem w1) (S' := (w.heap.size ≤ ·)) (fun k hk => by simp at hk; omega)) h4)
  have H6 := Lib.hid (ownF_of H4.out h6 h7)
  have H5 := Lib.hid (HB.out.trans (h5.mono (by simp)))
  obtain ⟨a, c, rfl, -⟩ := slice_form h4
  clear h1 h2 h3 h4 h5 h6 h7 HS
  go_wp2
  go_ret
  exact ⟨_, ss, rfl, H1.out, H2.out, H3.out, H6.out, H5.out⟩
set_option maxRecDepth 100000 in
set_option maxHeartbeats 8000000 in
theorem deleteFct2 (Fn : FuncId) (capt : Array Value) (p : Fct → Bool) (xs : List Fct) (v : Value) (B : Nat) (w : World) (hv : OwnF w B v xs) (hB : B ≤ w.heap.size) (hlen : xs.length ≤ 1000000000)
    (hcf : ∀ args w, Sem.run Try.prog (callFunc Fn args) w = .ok (.enter Fn args) w)
    (hf : ∀ x : Fct, okF x → ∀ wr, Keeps (fun k => v.ownBlock = some k ∨ w.heap.size ≤ k) w wr → Calls Try.prog Fn (#[x.v] ++ capt) wr fun e w' => e = .returned (.bool (p x)) ∧ Below wr.heap.size wr w') :
    Calls Try.prog 48 #[v, .func (.func Fn) #[] capt] w fun e w' => ∃ v', e = .returned v' ∧ tFcts.rv ((mem w').on (B ≤ ·)) [v'] (xs.filter fun x => !p x) ∧ Below B w w' := by
  have HI := Lib.hid (indexFuncFct Fn capt p xs v w hv.rv' hcf (fun x hx wr hb => hf x hx wr ((below_keeps hb).wide (fun k _ e => .inr e))))
  have HOKA := Lib.hid (fcts_okAll hv.rv')
  rcases any_split p xs with hno | ⟨k0, hk0, hp0, hn0⟩
  · rw [idxOf_neg hno] at HI
    have HR := Lib.hid (fun (w' : World) (hb : Below w.heap.size w w') => (show tFcts.rv ((mem w').on (B ≤ ·)) [v] (xs.filter fun x => !p x) from by rw [filter_all hno]; exact hv.rd2 hb))
    obtain ⟨a, c, rfl, -⟩ := hv.len
    clear hno hf hcf hv HOKA
    go_enter Try.func48, Try.ntmps48
    go_wp2_with fail
    refine HI.out.mono ?_
    rintro e w1 ⟨rfl, hb1⟩
    have HE := Lib.hid (HR.out w1 hb1)
    have HB1 := Lib.hid (hb1.mono hB)
    clear hb1 HR HI
    go_wp2
    go_ret
    exact ⟨_, rfl, HE.out, HB1.out⟩
  · obtain ⟨g, cap, rfl, hlc, hm, hgB, hgl, hrow, hfz⟩ := hv.row (by omega)
    rw [idxOf_at hk0 hp0 hn0] at HI
    have HST := Lib.hid (fun w' (hb : Below w.heap.size w w') => DelSt.start (p := p) hrow hfz hgl ((below_keeps hb).wide (fun k _ e => .inr e)) hb hk0 hp0 hn0)
    have HF := Lib.hid (fun x hx wr (hk : Keeps (fun k => k = g ∨ w.heap.size ≤ k) w wr) => hf x hx wr (hk.wide (fun k _ e => by rcases e with e | e; exact .inl (by rw [e]; rfl); exact .inr e)))
    have HM := Lib.hid hm
    have hcap : cap ≤ 9223372036854775807 := by unfold maxLen at hm; exact hm
    clear hf hv hrow hfz hp0 hn0 hm
    go_enter Try.func48, Try.ntmps48
    go_wp2_with fail
    refine HI.out.mono ?_
    rintro e w1 ⟨rfl, hb1⟩
    have HST1 := Lib.hid (HST.out w1 hb1)
    clear HST HI hb1
    have hk1 : ((k0 : Int) == -1) = false := by rw [beq_eq_false_iff_ne]; omega
    go_wp2_with fail
    go_loopw [5, 6] (fun iv jv wr => ∃ i j : Nat, j ≤ xs.length ∧ iv = .int .i64 i ∧ jv = .int .i64 j ∧ Hid (DelSt w g p xs i j wr)) (fun _ jv _ => xs.length - (intOf jv).toNat)
    case atStart => exact ⟨k0, k0 + 1, by omega, rfl, by go_num, HST1⟩
    case round =>
      clear HST1
      obtain ⟨i, j, hj, rfl, rfl, HS⟩ := hrel
      have hij : i < j := HS.out.lt
      by_cases hlt : j < xs.length
      · obtain ⟨q0, q1, q2⟩ := HS.out.at hlt
        have c0 : wr.cell? ⟨g, j * 3, none⟩ = some (.string xs[j].n) := q0
        have c1 : wr.cell? ⟨g, j * 3 + 1, none⟩ = some (.string xs[j].a) := q1
        have c2 : wr.cell? ⟨g, j * 3 + 2, none⟩ = some (.string xs[j].b) := q2
        have HBB := Lib.hid (boxW wr)
        have HCALL := Lib.hid (fun o => HF.out xs[j] (HOKA.out _ (List.getElem_mem hlt)) (wr.alloc o) ((HS.out.kp).alloc o))
        have HKEEP := Lib.hid (fun (w' : World) (hb : Below wr.heap.size wr w') (e : p xs[j] = false) => (HS.out.keeps hb).keep hlt e)
        have HDROP := Lib.hid (fun (w' : World) (hb : Below wr.heap.size wr w') (e : p xs[j] = true) => (HS.out.keeps hb).drop hlt e)
        have HNEW := Lib.hid (fun o => heap_alloc_new wr o)
        have HII := Lib.hid (fun (w' : World) (hb : Below wr.heap.size wr w') => (HS.out.keeps hb))
        have HIJ := Lib.hid (fun (w' : World) (hb : Below wr.heap.size wr w') => (HII.out w' hb).cellsAt (show i < xs.length by omega))
        clear q0 q1 q2 HS
        generalize xs[j] = x at *
        generalize hpx : p x = t at *
        clear hpx
        obtain ⟨x1, x2, x3⟩ := x
        simp only at c0 c1 c2 HKEEP
        go_wp2_with fail
        refine (HCALL.out _).mono ?_
        rintro e w2 ⟨rfl, hb2⟩
        have hbx := (hb2.block wr.heap.size (by simp)).trans (HNEW.out _)
        have HB2 := Lib.hid (pure_trans (HBB.out _) hb2)
        have d0 : w2.cell? ⟨wr.heap.size, 0, none⟩ = some (.string x1) := mem_cells hbx 0
        have d1 : w2.cell? ⟨wr.heap.size, 1, none⟩ = some (.string x2) := mem_cells hbx 1
        have d2 : w2.cell? ⟨wr.heap.size, 2, none⟩ = some (.string x3) := mem_cells hbx 2
        have hlt2 : wr.heap.size < w2.heap.size := (Array.getElem?_eq_some_iff.1 hbx).1
        clear hb2 hbx HCALL HNEW HBB c0 c1 c2
        cases t with
        | true =>
          have HD := Lib.hid (HDROP.out w2 HB2.out rfl)
          clear HKEEP HDROP HIJ HII d0 d1 d2
          go_wp2
          go_roundw
          case rel => exact ⟨i, j + 1, by omega, rfl, by go_num, HD⟩
          case measure => simp [intOf]; omega
        | false =>
          have HD := Lib.hid (HKEEP.out w2 HB2.out rfl)
          obtain ⟨y0, y1, y2, e0, e1, e2, z0, z1, z2⟩ := HIJ.out w2 HB2.out
          have hi0 : (0 : Int) ≤ (i : Int) := by omega
          have hi1 : (i : Int) < (xs.length : Int) := by omega
          have hi2 : i < xs.length := by omega
          clear HKEEP HDROP HIJ HII
          go_wp2_with fail
          go_roundw
          case rel => exact ⟨i + 1, j + 1, by omega, by go_num, by go_num, HD⟩
          case measure => simp [intOf]; omega
      · obtain rfl : j = xs.length := by omega
        have hi2 : i < xs.length := hij
        obtain ⟨vs, hcl⟩ := HS.out.clr (c := cap - i)
        have hs1 : ∀ w2, (Instr.slice 23 (.slice (some ⟨g, 0, none⟩) xs.length cap) (some (.int .i64 i)) none none).run Try.prog w2 = .ok (.slice (some ⟨g, i * 3, none⟩) (xs.length - i) (cap - i)) w2 := cut_hi_at (P := Try.prog) (T := 23) Try.underlying23 fctSize (g := g) (cap := cap) hij hlc HM.out
        have hs2 := cut_lo_at (P := Try.prog) (T := 23) Try.underlying23 fctSize (g := g) (cap := cap) (Nat.le_of_lt hij) hlc HM.out (by omega)
        have HEE := Lib.hid (show tFcts.rv ((mem (wr.setCells g (i * 3) vs)).on (B ≤ ·)) [.slice (some ⟨g, 0, none⟩) i cap] (xs.filter fun x => !p x) from HS.out.res HOKA.out hgB hlc HM.out vs)
        have HBE := Lib.hid (show Below B w (wr.setCells g (i * 3) vs) from (HS.out.kp.trans ((keeps_setCells g vs (i * 3) wr).wide (fun k _ e => .inl e))).below hB (fun k e => by rcases e with e | e; omega; omega))
        clear HS
        go_wp2_with fail
        go_ret
        exact ⟨_, rfl, HEE.out, HBE.out⟩
end Go.Proofs.Ytafeaeaildfohaa
/- slices.Contains at facts; Why's closure. -/
namespace Go.Proofs.Ytafeaeaildfohaa
open Go.RowKit Go.Maps

set_option maxRecDepth 100000 in
set_option maxHeartbeats 4000000 in
theorem indexFct_any (l : List Fct) (f : Fct) (v : Value) (w : World) (hv : tFcts.rv (mem w) [v] l) :
    Calls Try.prog 72 #[v, f.v] w fun e w' => ∃ i : Int, e = .returned (.int .i64 i) ∧ decide (0 ≤ i) = decide (f ∈ l) ∧ Below w.heap.size w w' := by
  obtain ⟨a, cap, rfl, hlc, hm, hv⟩ := slice_form hv
  have hcap : cap ≤ 9223372036854775807 := by unfold maxLen at hm; exact hm
  have HV := Lib.hid (fun wr (hb : Below w.heap.size w wr) => tFcts.mono _ _ _ _ (below_mem hb) hv)
  obtain ⟨f1, f2, f3⟩ := f
  have hbx := heap_alloc_new w (.cells #[.string f1, .string f2, .string f3] 33)
  have HBX := Lib.hid hbx
  have HB0 := Lib.hid (boxW w)
  clear hm hv hbx
  go_enter Try.func72, Try.ntmps72
  go_wp2_with fail
  go_loopw [8] (fun i wr => ∃ k : Nat, k ≤ l.length ∧ i = .int .i64 k ∧ Hid (⟨f1, f2, f3⟩ ∉ l.take k) ∧ Hid (Below w.heap.size w wr) ∧ Hid (wr.heap[w.heap.size]? = some (.cells #[.string f1, .string f2, .string f3] 33 (0, 0)))) (fun i _ => l.length - (intOf i).toNat)
  case atStart => exact ⟨0, by omega, rfl, Lib.hid (by simp), Lib.hid (HB0.out _), HBX⟩
  case round =>
    clear HBX HB0
    obtain ⟨k, hk, rfl, HT, HB, HC⟩ := hrel
    by_cases hlt : k < l.length
    · obtain ⟨b, o, rfl, ⟨q0, q1, q2⟩, hok⟩ := fcts_at (HV.out _ HB.out) hlt
      have c0 : wr.cell? ⟨b, o + k * 3, none⟩ = some (.string l[k].n) := q0
      have c1 : wr.cell? ⟨b, o + k * 3 + 1, none⟩ = some (.string l[k].a) := q1
      have c2 : wr.cell? ⟨b, o + k * 3 + 2, none⟩ = some (.string l[k].b) := q2
      have d0 : wr.cell? ⟨w.heap.size, 0, none⟩ = some (.string f1) := mem_cells HC.out 0
      have d1 : wr.cell? ⟨w.heap.size, 1, none⟩ = some (.string f2) := mem_cells HC.out 1
      have d2 : wr.cell? ⟨w.heap.size, 2, none⟩ = some (.string f3) := mem_cells HC.out 2
      have HE := Lib.hid (fct_eqB ⟨f1, f2, f3⟩ l[k])
      have HY := Lib.hid (show ⟨f1, f2, f3⟩ = l[k] → decide ((0 : Int) ≤ (k : Int)) = decide ((⟨f1, f2, f3⟩ : Fct) ∈ l) from fun e => (decide_eq_true (by omega)).trans (decide_eq_true (by rw [e]; exact List.getElem_mem hlt)).symm)
      have HN := Lib.hid (show ⟨f1, f2, f3⟩ ≠ l[k] → (⟨f1, f2, f3⟩ : Fct) ∉ l.take (k + 1) from fun e h => by
        rw [List.take_succ_eq_append_getElem hlt] at h
        rcases List.mem_append.1 h with h | h
        · exact HT.out h
        · simp at h; exact e h)
      have HD := Lib.hid (show ∀ m, Below w.heap.size w (wr.drewN m) from fun m => HB.out.trans ⟨rfl, rfl, rfl, Nat.le_refl _, fun _ _ => rfl⟩)
      clear q0 q1 q2 hok
      generalize l[k] = x at *
      obtain ⟨x1, x2, x3⟩ := x
      cases h1 : (f1.toList == x1.toList) <;> cases h2 : (f2.toList == x2.toList) <;> cases h3 : (f3.toList == x3.toList)
      all_goals
        have HQ := Lib.hid (HE.out.trans (by rw [h1, h2, h3]))
        clear HE
        go_wp2_with fail
        go_quiet (fail)
        all_goals
          go_wp2
          first
            | (go_ret; exact ⟨_, rfl, HY.out (of_decide_eq_true HQ.out), HD.out _⟩)
            | exact ⟨⟨k + 1, by omega, by go_num, Lib.hid (HN.out (of_decide_eq_false HQ.out)), Lib.hid (HD.out _), HC⟩, by simp [intOf]; omega⟩
    · obtain rfl : k = l.length := by omega
      have HX := Lib.hid (show decide ((0 : Int) ≤ -1) = decide ((⟨f1, f2, f3⟩ : Fct) ∈ l) from (decide_eq_false (by omega)).trans (decide_eq_false (by have := HT.out; rwa [List.take_length] at this)).symm)
      go_wp2
      go_ret
      exact ⟨_, rfl, HX.out, HB.out⟩
set_option maxRecDepth 100000 in
set_option maxHeartbeats 4000000 in
theorem containsFct_any (l : List Fct) (f : Fct) (v : Value) (w : World) (hv : tFcts.rv (mem w) [v] l) :
    Calls Try.prog 53 #[v, f.v] w fun e w' => e = .returned (.bool (decide (f ∈ l))) ∧ Below w.heap.size w w' := by
  have HI := Lib.hid (fun (w' : World) (hb : Below w.heap.size w w') => indexFct_any l f v w' (tFcts.mono _ _ _ _ (below_mem hb) hv))
  obtain ⟨a, cap, rfl, -⟩ := slice_form hv
  obtain ⟨f1, f2, f3⟩ := f
  have HB0 := Lib.hid (boxW w)
  clear hv
  go_enter Try.func53, Try.ntmps53
  go_wp2_with fail
  refine (HI.out _ (HB0.out _)).mono ?_
  rintro e w1 ⟨i, rfl, hi, hb1⟩
  have HB1 := Lib.hid (pure_trans (HB0.out _) hb1)
  have HQ := Lib.hid hi
  clear hb1 hi HI HB0
  go_wp2
  go_ret
  refine ⟨?_, HB1.out⟩
  rw [← HQ.out]
  rfl
set_option maxRecDepth 100000 in
set_option maxHeartbeats 2000000 in
theorem why1_any (M : Rnds) (mb cb rb : Nat) (q : Int) (x : Fct) (w : World) (hm : FM w mb M.length (lkR M)) (hc : w.cell? ⟨cb, 0, none⟩ = some (.map (some mb))) (hr : w.cell? ⟨rb, 0, none⟩ = some (.int .i64 q)) (hx : okF x) :
    Calls Try.prog 54 #[x.v, ptr0 cb, ptr0 rb] w fun e w' => e = .returned (.bool (!decide (intOr (lkR M x) < q))) ∧ Below w.heap.size w w' := by
  have hlk : ∀ o n, (Instr.lookup 56 (.map (some mb)) x.v false).run Try.prog ((w.alloc o).drewN n) = .ok (.int .i64 (intOr (lkR M x))) ((w.alloc o).drewN n) := fun o n => by
    have := FM.look (W := (w.alloc o).drewN n) (FM.at hm ((boxW w o).block mb (MapOf.lt hm))) hx
    exact this
  have n1 : ∀ o, (w.alloc o).cell? ⟨cb, 0, none⟩ = some (.map (some mb)) := fun o => below_mem (boxW w o) _ _ _ hc
  have n2 : ∀ o, (w.alloc o).cell? ⟨rb, 0, none⟩ = some (.int .i64 q) := fun o => below_mem (boxW w o) _ _ _ hr
  have HB0 := Lib.hid (fun o m => (show Below w.heap.size w ((w.alloc o).drewN m) from (boxW w o).trans ⟨rfl, rfl, rfl, Nat.le_refl _, fun _ _ => rfl⟩))
  obtain ⟨x1, x2, x3⟩ := x
  have HQ := Lib.hid (show decide (intOr (lkR M ⟨x1, x2, x3⟩) ≥ q) = !decide (intOr (lkR M ⟨x1, x2, x3⟩) < q) from by by_cases h : intOr (lkR M ⟨x1, x2, x3⟩) < q <;> simp [h]; omega)
  clear hm hc hr hx
  replace hlk : ∀ o n, (Instr.lookup 56 (.map (some mb)) (.agg #[.string x1, .string x2, .string x3]) false).run Try.prog ((w.alloc o).drewN n) = .ok (.int .i64 (intOr (lkR M ⟨x1, x2, x3⟩))) ((w.alloc o).drewN n) := hlk
  generalize intOr (lkR M ⟨x1, x2, x3⟩) = z at *
  go_enter Try.func54, Try.ntmps54
  go_wp2_with fail
  go_quiet (fail)
  all_goals
    go_wp2
    go_ret
    exact ⟨by rw [← HQ.out]; rfl, HB0.out _ _⟩
end Go.Proofs.Ytafeaeaildfohaa
/- ring.Why: what stands between its rounds. -/
namespace Go.Proofs.Ytafeaeaildfohaa
open Go.RowKit Go.Maps

/-- The fact's box and the results' cells. -/
structure WS (W : World) (fcs : Array Value) (w : World) : Prop where
  bx : w.heap[W.heap.size]? = some (.cells fcs 33 (0, 0))
  r6 : w.heap[W.heap.size + 1]? = some (.cells #[.int .i64 0] 3 (0, 0))
  r7 : w.heap[W.heap.size + 2]? = some (.cells #[.slice none 0 0] 23 (0, 0))
  r8 : w.heap[W.heap.size + 3]? = some (.cells #[.int .i64 0] 34 (0, 0))
  bl : Below W.heap.size W w
section
variable {W B w w' : World} {fcs : Array Value}
theorem WS.lt (h : WS W fcs w) : W.heap.size + 4 ≤ w.heap.size := (Array.getElem?_eq_some_iff.1 h.r8).1
theorem WS.keeps {F : Nat → Prop} (h : WS W fcs w) (hk : Keeps F w w') (hF : ∀ q, F q → W.heap.size + 4 ≤ q) : WS W fcs w' := by
  have hl := h.lt
  have hb : ∀ q, q < W.heap.size + 4 → w'.heap[q]? = w.heap[q]? := fun q hq => hk.block q (by omega) (fun e => by have := hF q e; omega)
  exact ⟨(hb _ (by omega)).trans h.bx, (hb _ (by omega)).trans h.r6, (hb _ (by omega)).trans h.r7, (hb _ (by omega)).trans h.r8, h.bl.trans (hk.below (B := W.heap.size) (by omega) (fun q e => by have := hF q e; omega))⟩
theorem WS.below (h : WS W fcs w) (hb : Below w.heap.size w w') : WS W fcs w' := h.keeps (below_keeps hb) (fun q e => by have := h.lt; omega)
theorem WS.start (w : World) {X : World} {fcs : Array Value} (hX : X = (((w.alloc (.cells fcs 33)).alloc (.cells #[.int .i64 0] 3)).alloc (.cells #[.slice none 0 0] 23)).alloc (.cells #[.int .i64 0] 34)) : WS w fcs X := by
  subst hX
  have q1 := heap_alloc_new (w.alloc (.cells fcs 33)) (.cells #[.int .i64 0] 3)
  have q2 := heap_alloc_new ((w.alloc (.cells fcs 33)).alloc (.cells #[.int .i64 0] 3)) (.cells #[.slice none 0 0] 23)
  have q3 := heap_alloc_new (((w.alloc (.cells fcs 33)).alloc (.cells #[.int .i64 0] 3)).alloc (.cells #[.slice none 0 0] 23)) (.cells #[.int .i64 0] 34)
  simp only [World.size_alloc] at q1 q2 q3
  exact ⟨(Below.heap_alloc _ _ _ (by simp <;> omega)).trans ((Below.heap_alloc _ _ _ (by simp <;> omega)).trans ((Below.heap_alloc _ _ _ (by simp <;> omega)).trans (heap_alloc_new w _))), (Below.heap_alloc _ _ _ (by simp <;> omega)).trans ((Below.heap_alloc _ _ _ (by simp <;> omega)).trans q1), (Below.heap_alloc _ _ _ (by simp <;> omega)).trans q2, q3,
    ((((Below.refl _ _).alloc (Nat.le_refl _) _).alloc (by simp) _).alloc (by simp <;> omega) _).alloc (by simp <;> omega) _⟩
end
/-- Where the results are stored. -/
def rF (W B : World) (q : Nat) : Prop := q = W.heap.size + 1 ∨ q = W.heap.size + 2 ∨ q = W.heap.size + 3 ∨ B.heap.size ≤ q
structure P3 (W B : World) (v6 v7 v8 : Value) (R : Option (Value × List Fct)) (w : World) : Prop where
  r6 : w.heap[W.heap.size + 1]? = some (.cells #[v6] 3 (0, 0))
  r7 : w.heap[W.heap.size + 2]? = some (.cells #[v7] 23 (0, 0))
  r8 : w.heap[W.heap.size + 3]? = some (.cells #[v8] 34 (0, 0))
  kp : Keeps (rF W B) B w
  rd : ∀ p, R = some p → tFcts.rv ((mem w).on (B.heap.size ≤ ·)) [p.1] p.2
section
variable {W B w w' : World} {fcs : Array Value} {v6 v7 v8 u : Value} {R : Option (Value × List Fct)}
theorem P3.start (h : WS W fcs B) : P3 W B (.int .i64 0) (.slice none 0 0) (.int .i64 0) none B := ⟨h.r6, h.r7, h.r8, Keeps.refl _ _, fun p h => by cases h⟩
theorem P3.drew (h : P3 W B v6 v7 v8 R w) : P3 W B v6 v7 v8 R w.drew := ⟨h.r6, h.r7, h.r8, h.kp.drew, h.rd⟩
theorem P3.drewN (h : P3 W B v6 v7 v8 R w) (n : Nat) : P3 W B v6 v7 v8 R (w.drewN n) := ⟨h.r6, h.r7, h.r8, h.kp.trans ((Keeps.refl (rF W B) w).drewN n), h.rd⟩
theorem rd_set {a : Nat} (ha : a < B.heap.size) (h : ∀ p, R = some p → tFcts.rv ((mem w).on (B.heap.size ≤ ·)) [p.1] p.2) : ∀ p, R = some p → tFcts.rv ((mem (w.setCell ⟨a, 0, none⟩ u)).on (B.heap.size ≤ ·)) [p.1] p.2 := fun p hp => by
  refine tFcts.mono _ _ _ _ (fun b o x e => ?_) (h p hp)
  obtain ⟨e1, e2⟩ := Mem.of_on e
  exact Mem.on_some ((mem_of_block (setC_other (by omega)) o).trans e2) e1
theorem P3.set6 (hB : W.heap.size + 4 ≤ B.heap.size) (h : P3 W B v6 v7 v8 R w) : P3 W B u v7 v8 R (w.setCell ⟨W.heap.size + 1, 0, none⟩ u) :=
  ⟨setC_block h.r6, (setC_other (by omega)).trans h.r7, (setC_other (by omega)).trans h.r8, h.kp.setCell (p := ⟨W.heap.size + 1, 0, none⟩) (fun _ => .inl rfl) _, rd_set (by omega) h.rd⟩
theorem P3.set7 (hB : W.heap.size + 4 ≤ B.heap.size) (h : P3 W B v6 v7 v8 R w) : P3 W B v6 u v8 R (w.setCell ⟨W.heap.size + 2, 0, none⟩ u) :=
  ⟨(setC_other (by omega)).trans h.r6, setC_block h.r7, (setC_other (by omega)).trans h.r8, h.kp.setCell (p := ⟨W.heap.size + 2, 0, none⟩) (fun _ => .inr (.inl rfl)) _, rd_set (by omega) h.rd⟩
theorem P3.set8 (hB : W.heap.size + 4 ≤ B.heap.size) (h : P3 W B v6 v7 v8 R w) : P3 W B v6 v7 u R (w.setCell ⟨W.heap.size + 3, 0, none⟩ u) :=
  ⟨(setC_other (by omega)).trans h.r6, (setC_other (by omega)).trans h.r7, setC_block h.r8, h.kp.setCell (p := ⟨W.heap.size + 3, 0, none⟩) (fun _ => .inr (.inr (.inl rfl))) _, rd_set (by omega) h.rd⟩
theorem P3.call (hB : W.heap.size + 4 ≤ B.heap.size) (hb : Below w.heap.size w w') {p : Value × List Fct} (hr : tFcts.rv ((mem w').on (B.heap.size ≤ ·)) [p.1] p.2) (h : P3 W B v6 v7 v8 R w) : P3 W B v6 v7 v8 (some p) w' := by
  have hs := h.kp.size
  exact ⟨(hb.block _ (by omega)).trans h.r6, (hb.block _ (by omega)).trans h.r7, (hb.block _ (by omega)).trans h.r8, h.kp.trans ((below_keeps hb).wide (fun q _ e => .inr (.inr (.inr (by omega))))), fun q hq => by cases hq; exact hr⟩
theorem P3.bl (h : P3 W B v6 v7 v8 R w) (hB : WS W fcs B) : Below W.heap.size W w := hB.bl.trans (h.kp.below (by have := hB.lt; omega) (fun q e => by have := hB.lt; rcases e with e | e | e | e <;> omega))
theorem marks_p3 {ds : List Deferred} {F : Nat → Prop} (hm : Marks (W.heap.size + 4) ds B) (hk : Keeps F B w) (hF : ∀ q, F q → q < W.heap.size + 4 ∨ B.heap.size ≤ q) : Marks (W.heap.size + 4) ds w := by
  obtain ⟨Ds, e, hn, hd⟩ := hm
  refine ⟨Ds, e, hn, fun D hD => ?_⟩
  obtain ⟨h1, h2⟩ := hd D hD
  have hlt := (Array.getElem?_eq_some_iff.1 h2).1
  exact ⟨h1, (hk.block D hlt (fun h => by have := hF D h; omega)).trans h2⟩
end
theorem mem_defer {w WF : World} {Ds : List Nat} (hd : ∀ D ∈ Ds, w.heap[D]? = some (.deferred (some []))) (hk : Keeps (fun k => k ∈ Ds) w WF) : (mem w).le (mem WF) := fun b o u e => by
  refine (mem_of_block (hk.block b (mem_lt e) (fun hb => ?_)) o).trans e
  have := hd b hb
  simp [mem, World.cell?, this] at e
/-- The end: the results are read from their cells. -/
theorem why_leave {W w : World} {rules : List Rul} {l b : List Fct} {f : Fct} {ds : List Deferred} {tm : Array Value} {i c : Int} {v : Value} (h6 : tm.getD 6 undef = .pointer (some ⟨W.heap.size + 1, 0, none⟩)) (h7 : tm.getD 7 undef = .pointer (some ⟨W.heap.size + 2, 0, none⟩)) (h8 : tm.getD 8 undef = .pointer (some ⟨W.heap.size + 3, 0, none⟩))
    (hm : Marks (W.heap.size + 4) ds w) (c6 : w.heap[W.heap.size + 1]? = some (.cells #[.int .i64 i] 3 (0, 0))) (c7 : w.heap[W.heap.size + 2]? = some (.cells #[v] 23 (0, 0))) (c8 : w.heap[W.heap.size + 3]? = some (.cells #[.int .i64 c] 34 (0, 0)))
    (hbl : Below W.heap.size W w) (hT : whyT rules l f = (i, b, c)) (hv : tFcts.rv (mem w) [v] b) :
    bodyPostM Fence.wide 0 Try.prog Try.f24 (WhyU rules l f W) .ret { tmps := tm, defers := ds } w := by
  obtain ⟨Ds, rfl, hnd, hds⟩ := hm
  show LeavesInM Fence.wide 0 _ _ _ _ _ .returning _
  refine leaves_marks (v := .tuple #[.int .i64 i, v, .int .i64 c]) Ds _ hnd (fun D hD => (hds D hD).2) (fun WF hk => ?_)
  have hq : ∀ q o, q < W.heap.size + 4 → w.heap[q]? = some o → WF.heap[q]? = some o := fun q o h1 h2 => (hk.block q (Array.getElem?_eq_some_iff.1 h2).1 (fun e => by have := (hds q e).1; omega)).trans h2
  have g6 := hq _ _ (by omega) c6
  have g7 := hq _ _ (by omega) c7
  have g8 := hq _ _ (by omega) c8
  refine ⟨?_, WhyU.of hT (tFcts.mono _ _ _ _ (mem_defer (fun D hD => (hds D hD).2) hk) hv) (hbl.trans (hk.below hbl.size (fun q e => by have := (hds q e).1; omega)))⟩
  have m6 : WF.cell? ⟨W.heap.size + 1, 0, none⟩ = some (.int .i64 i) := mem_cells g6 0
  have m7 : WF.cell? ⟨W.heap.size + 2, 0, none⟩ = some v := mem_cells g7 0
  have m8 : WF.cell? ⟨W.heap.size + 3, 0, none⟩ = some (.int .i64 c) := mem_cells g8 0
  obtain ⟨a, n, rfl, -⟩ := slice_form hv
  simp only [Array.getD_eq_getD_getElem?] at h6 h7 h8
  simp [results, Try.results24, go_sem, h6, h7, h8, m6, m7, m8]
/-- An end without an answer. -/
theorem why_fail {W B w : World} {fcs : Array Value} {rules : List Rul} {l : List Fct} {f : Fct} {ds : List Deferred} {tm : Array Value} {c : Int} (h6 : tm.getD 6 undef = .pointer (some ⟨W.heap.size + 1, 0, none⟩)) (h7 : tm.getD 7 undef = .pointer (some ⟨W.heap.size + 2, 0, none⟩)) (h8 : tm.getD 8 undef = .pointer (some ⟨W.heap.size + 3, 0, none⟩))
    (hB : WS W fcs B) (hm : Marks (W.heap.size + 4) ds B) (hT : whyT rules l f = (0, [], c)) {R : Option (Value × List Fct)} (h : P3 W B (.int .i64 0) (.slice none 0 0) (.int .i64 c) R w) :
    bodyPostM Fence.wide 0 Try.prog Try.f24 (WhyU rules l f W) .ret { tmps := tm, defers := ds } w :=
  why_leave h6 h7 h8 (marks_p3 hm h.kp (fun q e => by rcases e with e | e | e | e; exact .inl (by omega); exact .inl (by omega); exact .inl (by omega); exact .inr e)) h.r6 h.r7 h.r8 (h.bl hB) hT (slice_nil _ _)
/-- Between two rules. -/
structure WI (W We : World) (fcs : Array Value) (ds : List Deferred) (w : World) : Prop where
  st : WS W fcs w
  mks : Marks (W.heap.size + 4) ds w
  kp : Below We.heap.size We w
/-- Between two ways of one rule. -/
structure WR (W X : World) (fcs : Array Value) (r : Rul) (f : Fct) (pre : List (Bnd × List Fct)) (w : World) : Prop where
  st : WS W fcs w
  kp : Below X.heap.size X w
  ms : ∀ y ∈ pre, hitF r f y = false
/-- A round left with an answer. -/
structure WL (W X : World) (r : Rul) (f : Fct) (k : Nat) (pre : List (Bnd × List Fct)) (x : Bnd × List Fct) (w : World) : Prop where
  ex : ∃ v, P3 W X (.int .i64 k) v (.int .i64 0) none w ∧ tFcts.rv ((mem w).on (X.heap.size + 2 ≤ ·)) [v] x.2
  ms : ∀ y ∈ pre, hitF r f y = false
  hit : hitF r f x = true
section
variable {W X A B : World} {fcs : Array Value} {r : Rul} {f : Fct} {k : Nat} {pre : List (Bnd × List Fct)} {x : Bnd × List Fct}
theorem WR.keeps (h : WR W X fcs r f pre A) (hX : W.heap.size + 4 ≤ X.heap.size) {F : Nat → Prop} (hk : Keeps F A B) (hF : ∀ q, F q → X.heap.size ≤ q) : WR W X fcs r f pre B :=
  ⟨h.st.keeps hk (fun q e => Nat.le_trans hX (hF q e)), h.kp.trans (hk.below h.kp.size (fun q e => hF q e)), h.ms⟩
theorem WL.keeps (h : WL W X r f k pre x A) (hX : W.heap.size + 4 ≤ X.heap.size) (hA : X.heap.size + 2 ≤ A.heap.size) (hk : Keeps (fun q => q = X.heap.size + 1 ∨ (X.heap.size ≤ q ∧ ∃ es c, A.heap[q]? = some (.map es c))) A B) : WL W X r f k pre x B := by
  obtain ⟨⟨v, h3, hr⟩, h1, h2⟩ := h
  have hb : ∀ q, q < X.heap.size → B.heap[q]? = A.heap[q]? := fun q hq => hk.block q (by omega) (fun e => by rcases e with e | ⟨e, -⟩ <;> omega)
  refine ⟨⟨v, ⟨(hb _ (by omega)).trans h3.r6, (hb _ (by omega)).trans h3.r7, (hb _ (by omega)).trans h3.r8, h3.kp.trans (hk.wide (fun q _ e => .inr (.inr (.inr (by rcases e with e | ⟨e, -⟩ <;> omega))))), fun p hp => by cases hp⟩, tFcts.mono _ _ _ _ (fun b o u e => ?_) hr⟩, h1, h2⟩
  obtain ⟨e1, e2⟩ := Mem.of_on e
  refine Mem.on_some ((mem_of_block (hk.block b (mem_lt e2) (fun hh => ?_)) o).trans e2) e1
  rcases hh with hh | ⟨-, es, c, hh⟩
  · omega
  · simp [mem, World.cell?, hh] at e2
/-- The stores are done. -/
theorem WL.of {W3 w' : World} (hX : W.heap.size + 4 ≤ X.heap.size) (h : WR W X fcs r f pre W3) (h3 : X.heap.size + 2 ≤ W3.heap.size) (hit : hitF r f x = true) {v : Value} (hp : P3 W W3 (.int .i64 k) v (.int .i64 0) (some (v, x.2)) w') : WL W X r f k pre x w' :=
  ⟨⟨v, ⟨hp.r6, hp.r7, hp.r8, (below_keeps h.kp).wide (fun q _ e => .inr (.inr (.inr e))) |>.trans (hp.kp.wide (fun q _ e => by rcases e with e | e | e | e; exact .inl e; exact .inr (.inl e); exact .inr (.inr (.inl e)); exact .inr (.inr (.inr (by omega))))), fun p hp => by cases hp⟩,
    tFcts.mono _ _ _ _ (Mem.on_mono _ (fun q (e : W3.heap.size ≤ q) => (by omega : X.heap.size + 2 ≤ q))) (hp.rd _ rfl)⟩, h.ms, hit⟩
end
/-- What the iterator reads. -/
def SW (W X : World) (q : Nat) : Prop := q < X.heap.size ∧ q ≠ W.heap.size + 1 ∧ q ≠ W.heap.size + 2 ∧ q ≠ W.heap.size + 3
theorem why_env {W W4 We wr X : World} {fcs : Array Value} {ds : List Deferred} {ib n bb bx : Nat} {L : List Fct} {f : ByteArray → Option Value} (hI : Idx We W4.heap.size ib n L f) (h4 : W.heap.size + 4 ≤ W4.heap.size) (h45 : W4.heap.size ≤ We.heap.size) (h3 : WI W We fcs ds wr) (hX : Below wr.heap.size wr X)
    {bv : Value} {bd : List Fct} (hbd : tFcts.rv ((mem wr).on (· < W.heap.size)) [bv] bd) (hl : bd.length ≤ 3) (cb : X.cell? ⟨bb, 0, none⟩ = some bv) (cx : X.cell? ⟨bx, 0, none⟩ = some (.map (some ib))) (hb : wr.heap.size ≤ bb) (hx : wr.heap.size ≤ bx) :
    MEnv X (SW W X) bb bx ib n bv bd L f := by
  have hs := h3.kp.size
  have hxs := hX.size
  have hge := hI.ge
  have hib := hI.im.lt
  have hblk : ∀ q, q < We.heap.size → X.heap[q]? = We.heap[q]? := fun q h1 => (hX.block q (by omega)).trans (h3.kp.block q h1)
  refine ⟨cb, tFcts.mono _ _ _ _ (fun b o u e => ?_) hbd, cx, hI.im.at (hblk ib hib), fun k => ?_, ⟨⟨mem_lt cb, by omega, by omega, by omega⟩, ⟨mem_lt cx, by omega, by omega, by omega⟩, ⟨by omega, by omega, by omega, by omega⟩⟩, fun k hk => hk.1, hl⟩
  · obtain ⟨e1, e2⟩ := Mem.of_on e
    have hb' := mem_lt e2
    exact Mem.on_some ((mem_of_block (hX.block b hb') o).trans e2) ⟨by omega, by omega, by omega, by omega⟩
  · have := (hI.row k).rv (S := (W4.heap.size ≤ ·)) (fun q e => e) (fun i cs _ h => h)
    refine tFcts.mono _ _ _ _ (fun b o u e => ?_) this
    obtain ⟨e1, e2⟩ := Mem.of_on e
    have hb' := mem_lt e2
    exact Mem.on_some ((mem_of_block (hblk b hb') o).trans e2) ⟨by omega, by omega, by omega, by omega⟩
end Go.Proofs.Ytafeaeaildfohaa
