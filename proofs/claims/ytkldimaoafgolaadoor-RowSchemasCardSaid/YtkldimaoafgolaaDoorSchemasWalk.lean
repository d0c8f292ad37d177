/- RowSchemas' walk. -/
import Derived.Test.YtkldimaoafgolaaDoorJoinedR
import Derived.Test.YtkldimaoafgolaaDoorAwake2
namespace Go.Proofs.YtkldimaoafgolaaDoor
open Go.RowKit Go.Maps

set_option maxRecDepth 100000 in
set_option maxHeartbeats 4000000 in
theorem rowSchemas_law (a b : List Col) (cs : List Int) (p : ByteArray) (va vb vc : Value) (w : World) (hva : tSchema.rv (mem w) [va] a) (hvb : tSchema.rv (mem w) [vb] b) (hvc : tInts.rv (mem w) [vc] cs) (hp : p.size ≤ maxLen) (ht : Tryd.Tab w) :
    Calls Tryd.prog 6 #[va, vb, vc, .string p] w fun e w' => e = .returned (.bool true) ∧ Below w.heap.size w w' := by
  have HAW := Lib.hid (fun (wr : World) (h : Below w.heap.size w wr) => awake_any wr (Tryd.tabStays ht h))
  have HP1 := Lib.hid (rowPicked_any a cs va vc w hva hvc)
  have HP2 := Lib.hid (fun wr (h : Below w.heap.size w wr) => refPicked_any a cs va vc wr (tSchema.mono _ _ _ _ (below_mem h) hva) (tInts.mono _ _ _ _ (below_mem h) hvc))
  have HJ1 := Lib.hid (fun wr (h : Below w.heap.size w wr) => rowJoined_any a b p va vb wr (tSchema.mono _ _ _ _ (below_mem h) hva) (tSchema.mono _ _ _ _ (below_mem h) hvb) hp)
  have HJ2 := Lib.hid (fun wr (h : Below w.heap.size w wr) => refJoined_any a b p va vb wr (tSchema.mono _ _ _ _ (below_mem h) hva) (tSchema.mono _ _ _ _ (below_mem h) hvb) hp)
  obtain ⟨a1, cap1, rfl, hl1, hm1, _⟩ := slice_form hva
  have hcap1 : cap1 ≤ 9223372036854775807 := by unfold maxLen at hm1; exact hm1
  obtain ⟨a2, cap2, rfl, hl2, hm2, _⟩ := slice_form hvb
  have hcap2 : cap2 ≤ 9223372036854775807 := by unfold maxLen at hm2; exact hm2
  obtain ⟨a3, cap3, rfl, hl3, hm3, _⟩ := slice_form hvc
  have hcap3 : cap3 ≤ 9223372036854775807 := by unfold maxLen at hm3; exact hm3
  unfold maxLen at hp
  clear hm1 hm2 hm3 hva hvb hvc ht
  by_cases hbig : 100 < a.length ∨ 100 < b.length ∨ 1000 < cs.length ∨ 1000 < p.size
  · have h4 : (100 < a.length) ∨ (¬ 100 < a.length ∧ 100 < b.length) ∨ (¬ 100 < a.length ∧ ¬ 100 < b.length ∧ 1000 < cs.length) ∨ (¬ 100 < a.length ∧ ¬ 100 < b.length ∧ ¬ 1000 < cs.length ∧ 1000 < p.size) := by omega
    clear hbig
    rcases h4 with h4 | ⟨h5, h4⟩ | ⟨h6, h5, h4⟩ | ⟨h7, h6, h5, h4⟩
    all_goals
      go_enter Tryd.func6, Tryd.ntmps6
      go_wp2_with fail
      refine (HAW.out _ (Below.refl _ _)).mono ?_
      rintro e wz ⟨rfl, hz⟩
      go_wp2
      go_ret
      exact ⟨rfl, hz⟩
  · have g1 : ¬ 100 < a.length := by omega
    have g2 : ¬ 100 < b.length := by omega
    have g3 : ¬ 1000 < cs.length := by omega
    have g4 : ¬ 1000 < p.size := by omega
    have hpe : ((pickedOf a cs).2 == (pickedOf a cs).2) = true := by simp
    have hpn : ((pickedOf a cs).2 != (pickedOf a cs).2) = false := by simp
    have hje : ((joinedOf a b p).2 == (joinedOf a b p).2) = true := by simp
    clear hbig
    go_enter Tryd.func6, Tryd.ntmps6
    go_wp2_with fail
    refine HP1.out.mono ?_
    rintro e w2 ⟨x1, rfl, hx1, hB2⟩
    obtain ⟨xa1, xc1, rfl, _, _, hx1⟩ := slice_form hx1
    have HX1 := Lib.hid hx1
    clear hx1
    go_wp2_with fail
    refine (HP2.out _ hB2).mono ?_
    rintro e w3 ⟨x2, rfl, hx2, hb3⟩
    have hB3 := pure_trans hB2 hb3
    have HX1b := Lib.hid (tSchema.mono _ _ _ _ (below_mem hb3) HX1.out)
    obtain ⟨xa2, xc2, rfl, _, _, hx2⟩ := slice_form hx2
    have HX2 := Lib.hid hx2
    clear hx2 hB2 hb3
    go_wp2_with fail
    refine (sameSchema_any _ _ _ _ _ HX1b.out HX2.out).mono ?_
    rintro e w4 ⟨rfl, hb4⟩
    rw [sameSchema_refl]
    have hB4 := pure_trans hB3 hb4
    clear hB3 hb4
    go_wp2_with fail
    refine (HJ1.out _ hB4).mono ?_
    rintro e w5 ⟨y1, rfl, hy1, hb5⟩
    have hB5 := pure_trans hB4 hb5
    clear hB4 hb5
    obtain ⟨ya1, yc1, rfl, _, _, hy1⟩ := slice_form hy1
    have HY1 := Lib.hid hy1
    clear hy1
    go_wp2_with fail
    refine (HJ2.out _ hB5).mono ?_
    rintro e w6 ⟨y2, rfl, hy2, hb6⟩
    have hB6 := pure_trans hB5 hb6
    have HY1b := Lib.hid (tSchema.mono _ _ _ _ (below_mem hb6) HY1.out)
    obtain ⟨ya2, yc2, rfl, _, _, hy2⟩ := slice_form hy2
    have HY2 := Lib.hid hy2
    clear hy2 hB5 hb6
    go_wp2_with fail
    refine (sameSchema_any _ _ _ _ _ HY1b.out HY2.out).mono ?_
    rintro e w7 ⟨rfl, hb7⟩
    rw [sameSchema_refl]
    have hB7 := pure_trans hB6 hb7
    clear hB6 hb7
    go_wp2_with fail
    refine (HAW.out _ hB7).mono ?_
    rintro e wz ⟨rfl, hz⟩
    have hz := pure_trans hB7 hz
    go_wp2
    go_ret
    exact ⟨rfl, hz⟩
end Go.Proofs.YtkldimaoafgolaaDoor
