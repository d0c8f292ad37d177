/- RowValid's walk. -/
import Derived.Test.YtkldimaoafgolaaDoorFits
import Derived.Test.YtkldimaoafgolaaDoorAwake2
namespace Go.Proofs.YtkldimaoafgolaaDoor
open Go.RowKit Go.Maps

theorem rows1 {m : Mem} {b : Nat} {x : List Val} {u : Value} (h0 : m b 0 = some u) (hx : tRow.rv m [u] x) :
    tRows.rv m [.slice (some ⟨b, 0, none⟩) 1 1] [x] := by
  refine ⟨some ⟨b, 0, none⟩, 1, rfl, Nat.le_refl 1, by unfold maxLen; decide, fun _ => ⟨b, 0, rfl, fun k hk => ?_⟩⟩
  have hk : k < 1 := hk
  match k, hk with
  | 0, _ => exact ⟨[u], fun j v hj => by match j, hj with | 0, hj => simp at hj; subst hj; exact h0, hx⟩

set_option maxRecDepth 100000 in
set_option maxHeartbeats 4000000 in
theorem rowValid_law (s : List Col) (r : List Val) (nm : ByteArray) (vs vr : Value) (w : World) (hvs : tSchema.rv (mem w) [vs] s) (hvr : tRow.rv (mem w) [vr] r) (hnm : nm.size ≤ maxLen) (ht : Tryd.Tab w) :
    Calls Tryd.prog 3 #[vs, vr, .string nm] w fun e w' => e = .returned (.bool true) ∧ Below w.heap.size w w' := by
  have hb0 : ∀ o, Below w.heap.size w (w.alloc o) := fun o => (Below.refl _ _).alloc (Nat.le_refl _) o
  have HAW := Lib.hid (fun (wr : World) (h : Below w.heap.size w wr) => awake_any wr (Tryd.tabStays ht h))
  have HL := Lib.hid (fun (m : Mem) bk h0 hx => rows1 (m := m) (b := bk) (x := r) (u := vr) h0 hx)
  have HVr := Lib.hid hvr
  have HA1 := Lib.hid (fun wr (h : Below w.heap.size w wr) => rowValid_any r vr wr (tRow.mono _ _ _ _ (below_mem h) hvr))
  have HA2 := Lib.hid (fun wr (h : Below w.heap.size w wr) => refValid_any r vr wr (tRow.mono _ _ _ _ (below_mem h) hvr))
  have HB1 := Lib.hid (fun wr => rowName_any nm wr hnm)
  have HB2 := Lib.hid (fun wr => refName_any nm wr hnm)
  have HC1 := Lib.hid (fun wr (h : Below w.heap.size w wr) => rowValidSchema_any s vs wr (tSchema.mono _ _ _ _ (below_mem h) hvs))
  have HC2 := Lib.hid (fun wr (h : Below w.heap.size w wr) => refValidSchema_any s vs wr (tSchema.mono _ _ _ _ (below_mem h) hvs))
  have HD1 := Lib.hid (fun wr (h : Below w.heap.size w wr) => rowFits_any s r vs vr wr (tSchema.mono _ _ _ _ (below_mem h) hvs) (tRow.mono _ _ _ _ (below_mem h) hvr))
  have HD2 := Lib.hid (fun wr (h : Below w.heap.size w wr) => refFits_any s r vs vr wr (tSchema.mono _ _ _ _ (below_mem h) hvs) (tRow.mono _ _ _ _ (below_mem h) hvr))
  have HE1 := Lib.hid (fun wr (h : Below w.heap.size w wr) => rowFind_any s nm vs wr (tSchema.mono _ _ _ _ (below_mem h) hvs))
  have HE2 := Lib.hid (fun wr (h : Below w.heap.size w wr) => refFind_any s nm vs wr (tSchema.mono _ _ _ _ (below_mem h) hvs))
  obtain ⟨a1, cap1, rfl, hl1, hm1, hvs⟩ := slice_form hvs
  have hcap1 : cap1 ≤ 9223372036854775807 := by unfold maxLen at hm1; exact hm1
  obtain ⟨a2, cap2, rfl, hl2, hm2, hvr⟩ := slice_form hvr
  have hcap2 : cap2 ≤ 9223372036854775807 := by unfold maxLen at hm2; exact hm2
  unfold maxLen at hnm
  clear hm1 hm2 hvs ht
  go_enter Tryd.func3, Tryd.ntmps3
  go_wp2_with fail
  refine (long_any [r] _ _ (HL.out _ _ (by simp [mem]) (tRow.mono _ _ _ _ (below_mem (hb0 _)) HVr.out))).mono ?_
  rintro e w1 ⟨⟨lg, rfl⟩, hb1⟩
  have hB := pure_trans (hb0 _) hb1
  clear hb0 hb1 HL HVr
  by_cases hbig : lg = true ∨ 100 < s.length ∨ 1000 < nm.size
  · rcases hbig with rfl | hbig | hbig
    · go_wp2_with fail
      refine (HAW.out _ hB).mono ?_
      rintro e wz ⟨rfl, hz⟩
      have hz := pure_trans hB hz
      go_wp2
      go_ret
      exact ⟨rfl, hz⟩
    · cases lg
      all_goals
        go_wp2_with fail
        refine (HAW.out _ hB).mono ?_
        rintro e wz ⟨rfl, hz⟩
        have hz := pure_trans hB hz
        go_wp2
        go_ret
        exact ⟨rfl, hz⟩
    · cases lg
      · by_cases hs : 100 < s.length
        all_goals
          go_wp2_with fail
          refine (HAW.out _ hB).mono ?_
          rintro e wz ⟨rfl, hz⟩
          have hz := pure_trans hB hz
          go_wp2
          go_ret
          exact ⟨rfl, hz⟩
      · go_wp2_with fail
        refine (HAW.out _ hB).mono ?_
        rintro e wz ⟨rfl, hz⟩
        have hz := pure_trans hB hz
        go_wp2
        go_ret
        exact ⟨rfl, hz⟩
  · obtain rfl : lg = false := by cases lg <;> simp_all
    have hs1 : ¬ 100 < s.length := fun h => hbig (.inr (.inl h))
    have hs2 : ¬ 1000 < nm.size := fun h => hbig (.inr (.inr h))
    clear hbig
    go_wp2
    go_loopw [7] (fun i wr => ∃ k : Nat, k ≤ r.length ∧ i = .int .i64 k ∧ Below w.heap.size w wr) (fun i _ => r.length - (intOf i).toNat)
    case atStart => exact ⟨0, by omega, rfl, hB⟩
    case round =>
      obtain ⟨k, hk, rfl, hB⟩ := hrel
      by_cases hlt : k < r.length
      · have hB := hB.drew
        obtain ⟨b1, o1, rfl, hat⟩ := slice_at (tRow.mono _ _ _ _ (below_mem hB) hvr) hlt
        obtain ⟨c0, c1, c2, i0, i1, i2⟩ := val_at hat
        have c0 : wr.drew.cell? ⟨b1, o1 + k * 3, none⟩ = some (.int .i64 r[k].kind) := c0
        have c1 : wr.drew.cell? ⟨b1, o1 + k * 3 + 1, none⟩ = some (.int .i64 r[k].n) := c1
        have c2 : wr.drew.cell? ⟨b1, o1 + k * 3 + 2, none⟩ = some (.string r[k].s) := c2
        have HC := Lib.hid (fun w => validValue_any r[k] w i2)
        have HD := Lib.hid (fun w => refValidValue_any r[k] w i2)
        clear hvr hat i0 i1 i2
        generalize validVal r[k] = q at HC HD
        generalize r[k] = x at *
        obtain ⟨xk, xn, xs'⟩ := x
        simp only at c0 c1 c2 HC HD
        cases q
        all_goals
          go_wp2_with fail
          go_region_held3 (fun w' => w'.cell? ⟨b1, o1 + k * 3, none⟩ = some (.int .i64 xk) ∧ w'.cell? ⟨b1, o1 + k * 3 + 1, none⟩ = some (.int .i64 xn) ∧ w'.cell? ⟨b1, o1 + k * 3 + 2, none⟩ = some (.string xs'))
            (first | go_keep | exact ⟨below_mem (by assumption) _ _ _ c0, below_mem (by assumption) _ _ _ c1, below_mem (by assumption) _ _ _ c2⟩)
            ((first
              | (go_at_call 13; refine (HC.out _).mono ?_; rintro e w2 ⟨rfl, hbc⟩; have hbx : Below wr.drew.heap.size wr.drew w2 := by first | exact hbc | exact pure_trans (by assumption) hbc)
              | (go_at_call 14; refine (HD.out _).mono ?_; rintro e w3 ⟨rfl, hbd⟩; have hby : Below wr.drew.heap.size wr.drew w3 := by first | exact hbd | exact pure_trans (by assumption) hbd)))
          all_goals
            have hB1 := pure_trans hB (by assumption)
            go_wp2
            go_roundw
            case rel => exact ⟨k + 1, by omega, by go_num, hB1⟩
            case measure => simp [intOf]; omega
      · obtain rfl : k = r.length := by omega
        clear hvr hlt hs1 hs2
        generalize validRow r = q1 at HA1 HA2
        generalize isName nm = q2 at HB1 HB2
        generalize validSchema s = q3 at HC1 HC2
        generalize fitsOf s r = q4 at HD1 HD2
        generalize findOf s nm = f5 at HE1 HE2
        obtain ⟨f5a, f5b⟩ := f5
        have e1 : (q1 == q1) = true := by simp
        have e2 : (q2 == q2) = true := by simp
        have e3 : (q3 == q3) = true := by simp
        have e4 : (q4 == q4) = true := by simp
        have e5 : (f5a == f5a) = true := by simp
        have e6 : (f5b == f5b) = true := by simp
        go_wp2_with fail
        refine (HA1.out _ hB).mono ?_
        rintro e g1 ⟨rfl, hb1⟩
        have hB1 := pure_trans hB hb1
        clear hb1
        go_wp2_with fail
        refine (HA2.out _ hB1).mono ?_
        rintro e g2 ⟨rfl, hb2⟩
        have hB2 := pure_trans hB1 hb2
        clear hb2
        go_wp2_with (first | (go_at_call 17; refine (HB1.out _).mono ?_; rintro e w' ⟨rfl, rfl⟩) | (go_at_call 18; refine (HB2.out _).mono ?_; rintro e w' ⟨rfl, rfl⟩) | fail)
        refine (HC1.out _ hB2).mono ?_
        rintro e g3 ⟨rfl, hb3⟩
        have hB3 := pure_trans hB2 hb3
        clear hb3
        go_wp2_with fail
        refine (HC2.out _ hB3).mono ?_
        rintro e g4 ⟨rfl, hb4⟩
        have hB4 := pure_trans hB3 hb4
        clear hb4
        go_wp2_with fail
        refine (HD1.out _ hB4).mono ?_
        rintro e g5 ⟨rfl, hb5⟩
        have hB5 := pure_trans hB4 hb5
        clear hb5
        go_wp2_with fail
        refine (HD2.out _ hB5).mono ?_
        rintro e g6 ⟨rfl, hb6⟩
        have hB6 := pure_trans hB5 hb6
        clear hb6
        go_wp2_with fail
        refine (HE1.out _ hB6).mono ?_
        rintro e g7 ⟨rfl, hb7⟩
        have hB7 := pure_trans hB6 hb7
        clear hb7
        go_wp2_with fail
        refine (HE2.out _ hB7).mono ?_
        rintro e g8 ⟨rfl, hb8⟩
        have hB8 := pure_trans hB7 hb8
        clear hb8
        go_wp2_with fail
        refine (HAW.out _ hB8).mono ?_
        rintro e wz ⟨rfl, hz⟩
        have hz := pure_trans hB8 hz
        go_wp2
        go_ret
        exact ⟨rfl, hz⟩
end Go.Proofs.YtkldimaoafgolaaDoor
