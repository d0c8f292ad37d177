/- The statement RingLeastSaid: for every input the law RingLeast returns true and leaves its arguments as they were. -/
import Derived.Test.YtafeaeaildfohaaRg04
set_option linter.unusedVariables false
set_option linter.unusedSimpArgs false
/- What follows is valid, closed and least: plain. -/
namespace Go.Proofs.Ytafeaeaildfohaa

/-- The values of variables are texts of facts. -/
theorem ways_le {n : Nat} {L : List Fct} (hL : ∀ x ∈ L, x.a.size ≤ n ∧ x.b.size ≤ n) : ∀ (bd : List Fct) (av : Bnd) (l : List Fct), (∀ p ∈ av, p.2.size ≤ n) → ∀ w ∈ ways bd L av l, ∀ p ∈ w.1, p.2.size ≤ n
  | [], av, l, ha, w, hw, p, hp => by simp [ways] at hw; subst hw; exact ha p hp
  | x :: bd, av, l, ha, w, hw, p, hp => by
    unfold ways at hw
    obtain ⟨f, hf, hw⟩ := List.mem_flatMap.1 hw
    split at hw
    · have hb1 : ∀ (bs : Bnd) (m v : ByteArray) (cs : Bnd), (∀ p ∈ bs, p.2.size ≤ n) → v.size ≤ n → bind1 bs m v = some cs → ∀ p ∈ cs, p.2.size ≤ n := by
        intro bs m v cs hbs hv e q hq
        unfold bind1 at e
        split at e
        · split at e
          · cases e; exact hbs q hq
          · cases e
        · cases e
          rcases List.mem_append.1 hq with hq | hq
          · exact hbs q hq
          · simp at hq; subst hq; exact hv
      cases hb : bindF av x f with
      | none => rw [hb] at hw; cases hw
      | some bs =>
        rw [hb] at hw
        refine ways_le hL bd bs _ (fun q hq => ?_) w hw p hp
        unfold bindF at hb
        cases h1 : bind1 av x.a f.a with
        | none => rw [h1] at hb; cases hb
        | some cs =>
          rw [h1] at hb
          exact hb1 cs _ _ bs (hb1 av _ _ cs ha (hL f hf).1 h1) (hL f hf).2 hb q hq
    · cases hw
theorem lkB_le {n : Nat} {av : Bnd} (ha : ∀ p ∈ av, p.2.size ≤ n) (k : ByteArray) : (strD (lkB av k)).size ≤ n := by
  induction av with
  | nil => exact Nat.zero_le _
  | cons p av ih =>
    simp only [lkB]
    split
    · exact ha p List.mem_cons_self
    · exact ih (fun q hq => ha q (List.mem_cons_of_mem _ hq))
theorem validR_hd {r : Rul} (h : validR r = true) : isName r.hd.n = true := by
  unfold validR validA at h
  simp only [Bool.and_eq_true] at h
  exact h.2.1.1
theorem validF_iff {x : Fct} : validF x = true ↔ isName x.n = true ∧ x.a.size ≤ 16 ∧ x.b.size ≤ 16 := by
  unfold validF
  simp [Bool.and_eq_true]
theorem head_valid {r : Rul} {L : List Fct} (hr : validR r = true) (hL : ∀ x ∈ L, validF x = true) {x : Fct} (hx : x ∈ heads r L) : validF x = true := by
  unfold heads at hx
  obtain ⟨w, hw, rfl⟩ := List.mem_map.1 hx
  have h16 : ∀ y ∈ L, y.a.size ≤ 16 ∧ y.b.size ≤ 16 := fun y hy => (validF_iff.1 (hL y hy)).2
  exact validF_iff.2 ⟨validR_hd hr, lkB_le (ways_le h16 r.bd [] [] (by simp) w hw) _, lkB_le (ways_le h16 r.bd [] [] (by simp) w hw) _⟩
theorem validP_mem {l : List Rul} (h : validP l = true) : ∀ r ∈ l, validR r = true := fun r hr => by
  unfold validP at h
  rw [Bool.and_eq_true] at h
  have h2 := h.2
  rw [Bool.not_eq_true', List.any_eq_false] at h2
  simpa using h2 r hr
theorem validG_mem {l : List Fct} (h : validG l = true) : ∀ r ∈ l, validF r = true := fun r hr => by
  unfold validG at h
  rw [Bool.and_eq_true] at h
  have h2 := h.2
  rw [Bool.not_eq_true', List.any_eq_false] at h2
  simpa using h2 r hr
theorem validG_of {l : List Fct} (hn : l.length ≤ 60) (h : ∀ x ∈ l, validF x = true) : validG l = true := by
  unfold validG
  rw [Bool.and_eq_true]
  refine ⟨decide_eq_true hn, ?_⟩
  rw [Bool.not_eq_true', List.any_eq_false]
  intro x hx
  simp [h x hx]
theorem heads_all {rules : List Rul} {L : List Fct} {r : Rul} (hr : r ∈ rules) {x : Fct} (hx : x ∈ heads r L) : x ∈ headsAll rules L := List.mem_flatMap.2 ⟨r, hr, hx⟩
theorem fin_valid {rules : List Rul} {l : List Fct} {M : Rnds} (hf : Fin' rules l M) (hP : validP rules = true) (hG : validG l = true) : ∀ x ∈ keysR M, validF x = true := fun x hx => by
  have := hf.least ((keysR M).filter fun y => validF y) (fun y hy => List.mem_filter.2 ⟨hf.ge y hy, validG_mem hG y hy⟩) (fun y hy => by
    refine List.mem_filter.2 ⟨hf.closed y (headsAll_mono (fun z hz => (srt_mem _ _).2 (List.mem_filter.1 hz).1) rules y hy), ?_⟩
    obtain ⟨r, hr, hy⟩ := List.mem_flatMap.1 hy
    exact head_valid (validP_mem hP r hr) (fun z hz => (List.mem_filter.1 hz).2) hy) x hx
  exact (List.mem_filter.1 this).2
/-- What a rule gives of all that follows, follows. -/
theorem fin_gives {rules : List Rul} {l : List Fct} {M : Rnds} (hf : Fin' rules l M) {r : Rul} (hr : r ∈ rules) : ∀ x ∈ srt (heads r (srt (srt (keysR M)))), x ∈ srt (keysR M) := fun x hx => by
  rw [srt_self (srt_asc _)] at hx
  exact (srt_mem _ _).2 (hf.closed x (heads_all hr ((srt_mem _ _).1 hx)))
theorem fin_gives_len {rules : List Rul} {l : List Fct} {M : Rnds} (hf : Fin' rules l M) {r : Rul} (hr : r ∈ rules) : (srt (heads r (srt (srt (keysR M))))).length ≤ (srt (keysR M)).length :=
  nodup_sub (srt_asc _).nodup (fin_gives hf hr)
theorem less_nil {a b : List Fct} (h : ∀ x ∈ a, x ∈ b) : lessF a b = [] := by
  unfold lessF
  rw [List.filter_eq_nil_iff]
  intro x hx
  simp [h x hx]
/-- All that the rules give of a list, rule by rule. -/
def givenAll (rules : List Rul) (L : List Fct) : List Fct := rules.flatMap fun r => srt (heads r (srt L))
theorem givenAll_take {rules : List Rul} {L : List Fct} {i : Nat} (hi : i < rules.length) : givenAll (rules.take (i + 1)) L = givenAll (rules.take i) L ++ srt (heads rules[i] (srt L)) := by
  rw [List.take_succ_eq_append_getElem hi]
  unfold givenAll
  rw [List.flatMap_append]
  simp
theorem fin_least {rules : List Rul} {l : List Fct} {M : Rnds} (hf : Fin' rules l M) : ∀ x ∈ srt (keysR M), x ∈ givenAll rules (srt (keysR M)) ++ l := fun x hx => by
  rcases hf.src x ((srt_mem _ _).1 hx) with h | h
  · exact List.mem_append.2 (.inr h)
  · refine List.mem_append.2 (.inl ?_)
    obtain ⟨r, hr, h⟩ := List.mem_flatMap.1 h
    exact List.mem_flatMap.2 ⟨r, hr, (srt_mem _ _).2 (by rw [srt_self (srt_asc _)]; exact h)⟩
theorem givenAll_len {rules : List Rul} {l : List Fct} {M : Rnds} (hf : Fin' rules l M) {i : Nat} (hi : i ≤ rules.length) (h60 : (srt (keysR M)).length ≤ 60) : (givenAll (rules.take i) (srt (keysR M))).length ≤ 60 * i := by
  have := flatMap_len_le (fun r => srt (heads r (srt (srt (keysR M))))) 60 (rules.take i) (fun r hr => Nat.le_trans (fin_gives_len hf (List.mem_of_mem_take hr)) h60)
  unfold givenAll
  rw [List.length_take, Nat.min_eq_left hi] at this
  omega
end Go.Proofs.Ytafeaeaildfohaa
/- The law RingLeast, walked. -/
namespace Go.Proofs.Ytafeaeaildfohaa
open Go.RowKit Go.Maps

theorem tFct_one : ∀ m cs x, tFct.rv m cs x → ∀ u ∈ cs, u.oneCell' = true := fun m cs x h u hu => by
  obtain ⟨rfl, _⟩ := h
  simp at hu
  rcases hu with rfl | rfl | rfl <;> rfl
set_option maxRecDepth 100000 in
set_option maxHeartbeats 8000000 in
theorem ringLeast_any (rules : List Rul) (rv : Value) (l : List Fct) (lv : Value) (w : World) (hr : tRuls.rv (mem w) [rv] rules) (hf : tFcts.rv (mem w) [lv] l) (hsz : l.length * 48 ≤ 140737488355328) :
    Calls Try.prog 4 #[rv, lv] w fun e w' => e = .returned (.bool true) ∧ Below w.heap.size w w' := by
  have HHV := Lib.hid (heavy_any rules l rv lv w hr hf hsz)
  have HFO := Lib.hid (fun w' (hb : Below w.heap.size w w') => ringFollows_any rules l rv lv w' (tRuls.mono _ _ _ _ (below_mem hb) hr) (tFcts.mono _ _ _ _ (below_mem hb) hf))
  obtain ⟨ar, cr, rfl, hlr, hmr, hr⟩ := slice_form hr
  obtain ⟨af, cf, rfl, hlf, hmf, hf⟩ := slice_form hf
  have hcr : cr ≤ 9223372036854775807 := by unfold maxLen at hmr; exact hmr
  have hcf : cf ≤ 9223372036854775807 := by unfold maxLen at hmf; exact hmf
  have HR := Lib.hid (fun wr (hb : Below w.heap.size w wr) => tRuls.mono _ _ _ _ (below_mem hb) hr)
  have HF := Lib.hid (fun wr (hb : Below w.heap.size w wr) => tFcts.mono _ _ _ _ (below_mem hb) hf)
  clear hr hf hmr hmf hsz
  go_enter Try.func4, Try.ntmps4
  go_wp2_with fail
  refine HHV.out.mono ?_
  rintro e w1 ⟨b, rfl, hb1, hsm⟩
  have HB1 := Lib.hid hb1
  clear HHV hb1
  cases b with
  | true =>
    go_wp2_with fail
    refine (awake_any w1).mono ?_
    rintro e w2 ⟨rfl, hb2⟩
    have HB2 := Lib.hid (pure_trans HB1.out hb2)
    go_wp2
    go_ret
    exact ⟨rfl, HB2.out⟩
  | false =>
  have hsm := hsm rfl
  go_wp2_with fail
  refine (HFO.out w1 HB1.out).mono ?_
  rintro e w2 ⟨hb2, h⟩
  have HB2 := Lib.hid (pure_trans HB1.out hb2)
  clear hb2 HFO HB1
  rcases h with ⟨-, rfl⟩ | ⟨-, -, rfl⟩ | ⟨M, v, hval, hfo, rfl, hv⟩
  · go_wp2_with fail
    refine (awake_any w2).mono ?_
    rintro e w3 ⟨rfl, hb3⟩
    have HB3 := Lib.hid (pure_trans HB2.out hb3)
    go_wp2
    go_ret
    exact ⟨rfl, HB3.out⟩
  · go_wp2_with fail
    refine (awake_any w2).mono ?_
    rintro e w3 ⟨rfl, hb3⟩
    have HB3 := Lib.hid (pure_trans HB2.out hb3)
    go_wp2
    go_ret
    exact ⟨rfl, HB3.out⟩
  · have hv := tFcts.mono _ _ _ _ (Mem.on_le _ _) hv
    have HFIN := Lib.hid (follow_fin hfo)
    rw [Bool.and_eq_true] at hval
    have HP := Lib.hid hval.1
    have HG := Lib.hid hval.2
    clear hval hfo
    have HV2 := Lib.hid (fun (wr : World) (hb : Below w2.heap.size w2 wr) => tFcts.mono _ _ _ _ (below_mem hb) hv)
    have HVM := Lib.hid (fun x => srt_mem (keysR M) x)
    obtain ⟨K, hK⟩ : ∃ K, K = srt (keysR M) := ⟨_, rfl⟩
    have HK := Lib.hid hK
    rw [← hK] at hv HV2
    clear hK
    obtain ⟨av, cv, rfl, -, -, -⟩ := slice_form hv
    clear hv
    by_cases h60 : (60 : Int) < K.length
    · go_wp2_with fail
      refine (awake_any w2).mono ?_
      rintro e w3 ⟨rfl, hb3⟩
      have HB3 := Lib.hid (pure_trans HB2.out hb3)
      go_wp2
      go_ret
      exact ⟨rfl, HB3.out⟩
    · have HW2 := Lib.hid (fun (wr : World) (hb : Below w2.heap.size w2 wr) => (show Below w.heap.size w wr from pure_trans HB2.out hb))
      have HINV := Lib.hid (show ∀ x ∈ l, decide (x ∈ K) = true from fun x hx => decide_eq_true (by rw [HK.out]; exact (HVM.out x).2 (HFIN.out.ge x hx)))
      have HVG := Lib.hid (show validG K = true from validG_of (by omega) (fun x hx => fin_valid HFIN.out HP.out HG.out x (by rw [HK.out] at hx; exact (HVM.out x).1 hx)))
      have HGL := Lib.hid (show ∀ i, i ≤ rules.length → (givenAll (rules.take i) K).length ≤ 60 * i from fun i hi => by rw [HK.out]; exact givenAll_len HFIN.out hi (by rw [← HK.out]; omega))
      have HGN := Lib.hid (show ∀ r ∈ rules, validR r = true ∧ (srt (heads r (srt K))).length ≤ 60 ∧ lessF (srt (heads r (srt K))) K = [] from fun r hr => ⟨validP_mem HP.out r hr, Nat.le_trans (by rw [HK.out]; exact fin_gives_len HFIN.out hr) (show K.length ≤ 60 by omega), less_nil (by rw [HK.out]; exact fin_gives HFIN.out hr)⟩)
      have HEND := Lib.hid (show lessF K (givenAll rules K ++ l) = [] from less_nil (by rw [HK.out]; exact fin_least HFIN.out))
      clear HVM HFIN HP HG HK
      go_wp2_with fail
      go_loopw [8] (fun i wr => ∃ k : Nat, k ≤ l.length ∧ i = .int .i64 k ∧ Hid (Below w2.heap.size w2 wr)) (fun i _ => l.length - (intOf i).toNat)
      case atStart => exact ⟨0, by omega, rfl, Lib.hid (Below.refl _ _)⟩
      case round =>
        obtain ⟨k, hk, rfl, HB⟩ := hrel
        by_cases hlt : k < l.length
        · obtain ⟨b, o, rfl, ⟨q0, q1, q2⟩, hok⟩ := fcts_at (HF.out _ (HW2.out _ HB.out)) hlt
          have c0 : wr.cell? ⟨b, o + k * 3, none⟩ = some (.string l[k].n) := q0
          have c1 : wr.cell? ⟨b, o + k * 3 + 1, none⟩ = some (.string l[k].a) := q1
          have c2 : wr.cell? ⟨b, o + k * 3 + 2, none⟩ = some (.string l[k].b) := q2
          have HIN := Lib.hid (refIn_any K l[k] _ wr (HV2.out _ HB.out))
          have HIV := Lib.hid (HINV.out l[k] (List.getElem_mem hlt))
          clear q0 q1 q2 hok
          generalize l[k] = y at *
          obtain ⟨y1, y2, y3⟩ := y
          simp only at c0 c1 c2
          go_wp2_with fail
          refine HIN.out.mono ?_
          rintro e w3 ⟨rfl, hb3⟩
          rw [HIV.out]
          have HB3 := Lib.hid (pure_trans HB.out hb3)
          clear hb3 HIN HIV
          go_wp2
          go_roundw
          case rel => exact ⟨k + 1, by omega, by go_num, HB3⟩
          case measure => simp [intOf]; omega
        · obtain rfl : k = l.length := by omega
          clear hk hlt HINV
          obtain ⟨w3, hw3⟩ : ∃ w3, w3 = wr := ⟨_, rfl⟩
          subst hw3
          have HV3 := Lib.hid (fun (wr : World) (hb : Below w3.heap.size w3 wr) => HV2.out wr (pure_trans HB.out hb))
          have HW3 := Lib.hid (fun (wr : World) (hb : Below w3.heap.size w3 wr) => HW2.out wr (pure_trans HB.out hb))
          clear HV2 HW2 HB HB2
          go_wp2_with fail
          go_loopw [7, 9] (fun gv i wr => ∃ k : Nat, k ≤ rules.length ∧ i = .int .i64 k ∧ Hid (Owns tFct wr w3.heap.size 33 gv (givenAll (rules.take k) K)) ∧ Hid (Below w3.heap.size w3 wr)) (fun _ i _ => rules.length - (intOf i).toNat)
          case atStart => exact ⟨0, by omega, rfl, Lib.hid (Owns.nil _ _ _ _), Lib.hid (Below.refl _ _)⟩
          case round =>
            obtain ⟨k, hk, rfl, HO, HB⟩ := hrel
            obtain ⟨ag, cg, rfl, -⟩ := HO.out.len
            by_cases hlt : k < rules.length
            · obtain ⟨b, o, bv, rfl, ⟨q0, q1, q2, q3⟩, hok, hbd⟩ := ruls_at (HR.out _ (HW3.out _ HB.out)) hlt
              have c0 : wr.cell? ⟨b, o + k * 4, none⟩ = some (.string rules[k].hd.n) := q0
              have c1 : wr.cell? ⟨b, o + k * 4 + 1, none⟩ = some (.string rules[k].hd.a) := q1
              have c2 : wr.cell? ⟨b, o + k * 4 + 2, none⟩ = some (.string rules[k].hd.b) := q2
              have c3 : wr.cell? ⟨b, o + k * 4 + 3, none⟩ = some bv := q3
              have HCALL := Lib.hid (ringGives_any rules[k] K bv _ wr hok hbd (HV3.out _ HB.out))
              obtain ⟨hn1, hn2, hn3⟩ := HGN.out rules[k] (List.getElem_mem hlt)
              have HN1 := Lib.hid hn1
              have HN2 := Lib.hid hn2
              have HN3 := Lib.hid hn3
              have HTK := Lib.hid (givenAll_take (L := K) hlt)
              have HGK := Lib.hid (HGL.out k hk)
              obtain ⟨ab, cb, rfl, -, -, -⟩ := slice_form hbd
              clear q0 q1 q2 q3 hok hbd hn1 hn2 hn3
              generalize rules[k] = r at *
              generalize givenAll (rules.take k) K = gl at *
              obtain ⟨⟨r1, r2, r3⟩, bd⟩ := r
              simp only at c0 c1 c2 c3
              go_wp2_with fail
              refine HCALL.out.mono ?_
              rintro e w4 ⟨hb4, h⟩
              rcases h with ⟨h, -⟩ | ⟨-, h, -⟩ | ⟨v4, -, -, rfl, hv4⟩
              · rw [HN1.out, HVG.out] at h; cases h
              · have := HN2.out; omega
              · have hv4 := tFcts.mono _ _ _ _ (Mem.on_le _ _) hv4
                generalize srt (heads ⟨⟨r1, r2, r3⟩, bd⟩ (srt K)) = H at *
                have HB4 := Lib.hid (pure_trans HB.out hb4)
                have HO4 := Lib.hid (HO.out.keeps hb4)
                have HV4 := Lib.hid (fun (w' : World) (hb : Below w4.heap.size w4 w') => tFcts.mono _ _ _ _ (below_mem hb) hv4)
                have HLS := Lib.hid (refLess_any H K v4 _ w4 hv4 (HV3.out _ HB4.out) (by have := HN2.out; omega))
                obtain ⟨a4, c4, rfl, -, -, -⟩ := slice_form hv4
                clear hb4 hv4 HCALL HO HB c0 c1 c2 c3 HN1
                go_wp2_with fail
                refine HLS.out.mono ?_
                rintro e w5 ⟨v5, rfl, hv5, hb5⟩
                rw [HN3.out] at hv5
                obtain ⟨a5, c5, rfl, -⟩ := hv5.len
                have HB5 := Lib.hid (pure_trans HB4.out hb5)
                have HO5 := Lib.hid (HO4.out.keeps hb5)
                have HV5 := Lib.hid (HV4.out _ hb5)
                clear hb5 hv5 HO4 HB4 HLS HV4 HN3
                go_wp2_with (at_builtin; refine wpList_append_flat rfl _ _ 23 rfl tFct_flat tFct_one Try.underlying23 infoFct rfl (by decide) w3.heap.size _ gl H rfl HO5.out _ _ _ rfl rfl HV5.out ?c1 ?c2 ?c3 ?_)
                case c1 => have := HGK.out; have := HN2.out; unfold maxLen; omega
                case c2 => have := HGK.out; have := HN2.out; omega
                case c3 => exact HB5.out.size
                · intro v' w6 own6 hgrow
                  have HB6 := Lib.hid (show Below w3.heap.size w3 w6 from HB5.out.grown hgrow HB5.out.size (fun k hk => ((HO5.out).lt k hk).1))
                  obtain ⟨a6, cap6, rfl, _⟩ := own6.len
                  have HO6 := Lib.hid (show Owns tFct w6 w3.heap.size 33 (.slice a6 (gl ++ H).length cap6) (givenAll (rules.take (k + 1)) K) from by rw [HTK.out]; exact own6)
                  clear own6 hgrow HO5
                  go_wp2
                  go_roundw
                  case rel => exact ⟨k + 1, by omega, by go_num, HO6, HB6⟩
                  case measure => simp [intOf]; omega
            · obtain rfl : k = rules.length := by omega
              have HO2 := Lib.hid (show Owns tFct wr w3.heap.size 33 (.slice ag (givenAll (rules.take rules.length) K).length cg) (givenAll rules K) from by have := HO.out; rw [List.take_length] at this ⊢; exact this)
              rw [List.take_length]
              have HGK := Lib.hid (show (givenAll rules K).length ≤ 60 * rules.length from by have := HGL.out rules.length (Nat.le_refl _); rwa [List.take_length] at this)
              have HFA := Lib.hid (HF.out _ (HW3.out _ HB.out))
              have HWR := Lib.hid (HW3.out _ HB.out)
              clear HGL HGN HO hk hlt
              rw [List.take_length] at HO2
              generalize givenAll rules K = gl at *
              go_wp2_with (at_builtin; refine wpList_append_flat rfl _ _ 23 rfl tFct_flat tFct_one Try.underlying23 infoFct rfl (by decide) w3.heap.size _ gl l rfl HO2.out _ _ _ rfl rfl HFA.out ?c1 ?c2 ?c3 ?_)
              case c1 => have := HGK.out; unfold maxLen; omega
              case c2 => have := HGK.out; omega
              case c3 => exact HB.out.size
              · intro v' w6 own6 hgrow
                have HB6 := Lib.hid (show Below w3.heap.size w3 w6 from HB.out.grown hgrow HB.out.size (fun k hk => ((HO2.out).lt k hk).1))
                generalize gl ++ l = ql at *
                have HLS := Lib.hid (refLess_any K ql _ _ w6 (HV3.out _ HB6.out) own6.rv' (by omega))
                obtain ⟨a6, cap6, rfl, _⟩ := own6.len
                have HW6 := Lib.hid (HW3.out _ HB6.out)
                clear own6 hgrow HO2 HB HWR
                go_wp2_with fail
                refine HLS.out.mono ?_
                rintro e w7 ⟨v7, rfl, hv7, hb7⟩
                rw [HEND.out] at hv7
                obtain ⟨a7, c7, rfl, -⟩ := hv7.len
                have HW7 := Lib.hid (pure_trans HW6.out hb7)
                clear hv7 hb7 HLS HEND HW6 HB6
                go_wp2_with fail
                refine (awake_any w7).mono ?_
                rintro e w8 ⟨rfl, hb8⟩
                have HB8 := Lib.hid (pure_trans HW7.out hb8)
                go_wp2
                go_ret
                exact ⟨rfl, HB8.out⟩
end Go.Proofs.Ytafeaeaildfohaa
namespace Go.Proofs.Ytafeaeaildfohaa.lawRingLeast
open Go.ChangeShapes Go.WideShapes Go.ChangeAt Go.RowKit
set_option maxRecDepth 100000 in
theorem lifted (os : Os) (started : os.Started) (H : Type) (enc : TypeId × Value → H) :
    ReturnsInHanded {} Try.checked os 4 .any (Rows.ringLeastSpec.pre6 enc Try.prog Try.f4 Rows.ringLeastRow.domain false) (Rows.ringLeastSpec.post enc Try.prog Try.f4 false true false false) := by
  refine returnsInHanded_of_change_sized (C := Try.checked) Try.own started (by kernel_rfl) Try.func4
    (ChangeSpec.witness6 (enc := enc) (C := Try.checked) false ⟨#[], #[.slice none 0 0, .slice none 0 0], []⟩ 8 (by kernel_rfl) (by kernel_rfl) (by kernel_rfl) (by kernel_rfl)) ?_
  intro W base args ds gs before hval0 hW hcnd hszs _
  have hval : ∀ (j : Nat) t v, Try.f4.params[j]? = some t → args[j]? = some v → Value.okWide Try.prog W .any base t v := hval0
  have hW' := hW
  obtain ⟨p, q, hA0, hV, rfl, hfz, hnd⟩ := hW
  have hA : DataW.TrodAll enc Try.prog W 0 (fun _ => true) true Try.f4.params.toList args.toList ds p := hA0
  rw [Try.params4] at hA hval
  obtain ⟨v0, vs0, d0, ds0, p0, q0, hargs, rfl, rfl, h0, r0⟩ := trodAll_cons hA
  obtain ⟨v1, vs1, d1, ds1, p1, q1, rfl, rfl, rfl, h1, r1⟩ := trodAll_cons r0
  obtain ⟨rfl, rfl, rfl⟩ := trodAll_nil r1
  obtain rfl : args = #[v0, v1] := by cases args; simp_all
  obtain ⟨rfl, rfl⟩ := trodVars_none hV
  obtain ⟨x0, w0⟩ := arg_slice (t := tRul) reads_ruls Try.underlying22 (hval 0 22 v0 rfl rfl) h0
  obtain ⟨x1, w1⟩ := arg_slice (t := tFct) reads_fcts Try.underlying23 (hval 1 23 v1 rfl rfl) h1
  have hsz := sized_len (t := tFct) (v := v1) 1 48 Try.underlying23 (by kernel_rfl) w1 h1 hszs (by rw [Try.params4]; rfl) rfl
  clear hA0 hval0 hszs
  refine (ringLeast_any x0 v0 x1 v1 W w0 w1 hsz).mono fun e W' ⟨he, bel⟩ => ?_
  subst he
  exact ⟨_, rfl, law_post Try.laidOut rfl (by rw [Try.params4]; intro t ht; have hs : Try.prog.types.size = Try.prog.types.size := rfl; simp only [List.mem_cons, List.not_mem_nil, or_false] at ht; rcases ht with rfl | rfl <;> exact ⟨by kernel_rfl, of_decide_eq_true (by kernel_rfl)⟩) (by kernel_rfl) Try.underlying4 rfl rfl rfl hW' bel⟩

theorem proved : Rows.RingLeastSaid :=
  OpenClaim.holds_of_wide 4 Try.f4 rfl rfl rfl rfl rfl rfl rfl ⟨rfl, rfl, rfl, rfl, rfl⟩ rfl rfl rfl rfl rfl (by kernel_rfl) Try.func4 (by kernel_rfl)
    (of_decide_eq_true (by kernel_rfl)) (by unfold Func.isWrapper; first | (rw [if_pos (by decide +kernel)]; kernel_rfl) | (rw [if_neg (by decide +kernel)]; exact ⟨rfl, rfl⟩))
    (fun os started H enc _ => lifted os started H enc)
#print axioms proved
end Go.Proofs.Ytafeaeaildfohaa.lawRingLeast
