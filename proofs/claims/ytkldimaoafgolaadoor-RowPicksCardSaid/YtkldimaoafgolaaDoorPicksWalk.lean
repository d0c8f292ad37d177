/- RowPicks's walk. -/
import Derived.Test.YtkldimaoafgolaaDoorPickPlain
import Derived.Test.YtkldimaoafgolaaDoorOrderWalk
namespace Go.Proofs.YtkldimaoafgolaaDoor
open Go.RowKit

theorem Tryd.infoInt : (Tryd.prog.info? 3).map (fun i => (i.zero, i.size, i.bytes)) = some (some (.int .i64 0), 1, 8) := by kernel_rfl

theorem concOf_ok {a b : List Val} (h : (concOf a b).2 = 0) : validRow a = true ∧ validRow b = true ∧ ¬ 8 < a.length + b.length ∧ concOf a b = (a ++ b, 0) := by
  have hc := concOf_cases a b
  cases ha : validRow a
  · rw [hc.1 ha] at h; cases h
  · cases hb : validRow b
    · rw [hc.2.1 hb] at h; cases h
    · by_cases h8 : 8 < a.length + b.length
      · rw [hc.2.2.1 ha hb h8] at h; cases h
      · exact ⟨rfl, rfl, h8, hc.2.2.2 ha hb h8⟩

set_option maxRecDepth 100000 in
set_option maxHeartbeats 4000000 in
theorem rowPicks_any (a b : List Val) (cs : List Int) (va vb vc : Value) (w : World) (hva : tRow.rv (mem w) [va] a) (hvb : tRow.rv (mem w) [vb] b) (hvc : tInts.rv (mem w) [vc] cs) (ht : Tryd.Tab w) :
    Calls Tryd.prog 4 #[va, vb, vc] w fun e w' => e = .returned (.bool true) ∧ Below w.heap.size w w' := by
  have hb0 : ∀ o, Below w.heap.size w (w.alloc o) := fun o => (Below.refl _ _).alloc (Nat.le_refl _) o
  have HAW := Lib.hid (fun (wr : World) (h : Below w.heap.size w wr) => awake_any wr (Tryd.tabStays ht h))
  have HL := Lib.hid (fun (m : Mem) bk h0 h1 hx hy => rows2 (m := m) (b := bk) (x := a) (y := b) (u := va) (v := vb) h0 h1 hx hy)
  have HVa := Lib.hid hva
  have HVb := Lib.hid hvb
  have HP1 := Lib.hid (fun wr (h : Below w.heap.size w wr) => rowProject_any a cs va vc wr (tRow.mono _ _ _ _ (below_mem h) hva) (tInts.mono _ _ _ _ (below_mem h) hvc))
  have HP2 := Lib.hid (fun wr (h : Below w.heap.size w wr) => refProject_any a cs va vc wr (tRow.mono _ _ _ _ (below_mem h) hva) (tInts.mono _ _ _ _ (below_mem h) hvc))
  have HC1 := Lib.hid (fun wr (h : Below w.heap.size w wr) => rowConcat_any a b va vb wr (tRow.mono _ _ _ _ (below_mem h) hva) (tRow.mono _ _ _ _ (below_mem h) hvb))
  have HC2 := Lib.hid (fun wr (h : Below w.heap.size w wr) => refConcat_any a b va vb wr (tRow.mono _ _ _ _ (below_mem h) hva) (tRow.mono _ _ _ _ (below_mem h) hvb))
  obtain ⟨a1, cap1, rfl, hl1, hm1, hva⟩ := slice_form hva
  have hcap1 : cap1 ≤ 9223372036854775807 := by unfold maxLen at hm1; exact hm1
  obtain ⟨a2, cap2, rfl, hl2, hm2, hvb⟩ := slice_form hvb
  have hcap2 : cap2 ≤ 9223372036854775807 := by unfold maxLen at hm2; exact hm2
  obtain ⟨a3, cap3, rfl, hl3, hm3, hvc⟩ := slice_form hvc
  have hcap3 : cap3 ≤ 9223372036854775807 := by unfold maxLen at hm3; exact hm3
  clear hm1 hm2 hm3 hvc hva hvb ht
  go_enter Tryd.func4, Tryd.ntmps4
  go_wp2_with fail
  refine (long_any [a, b] _ _ (HL.out _ _ (by simp [mem]) (by simp [mem]) (tRow.mono _ _ _ _ (below_mem (hb0 _)) HVa.out) (tRow.mono _ _ _ _ (below_mem (hb0 _)) HVb.out))).mono ?_
  rintro e w1 ⟨⟨r, rfl⟩, hb1⟩
  have hB := pure_trans (hb0 _) hb1
  clear hb0 hb1 HL
  cases r
  · by_cases hbig : 1000 < cs.length
    · go_wp2_with fail
      refine (HAW.out _ hB).mono ?_
      rintro e wz ⟨rfl, hz⟩
      have hz := pure_trans hB hz
      go_wp2
      go_ret
      exact ⟨rfl, hz⟩
    · go_wp2_with fail
      refine (HP1.out _ hB).mono ?_
      rintro e w2 ⟨x1, rfl, hx1, hb2⟩
      have hB2 := pure_trans hB hb2
      clear hB hb2
      obtain ⟨xa1, xc1, rfl, _, _, hx1⟩ := slice_form hx1
      have HX1 := Lib.hid hx1
      clear hx1
      go_wp2_with fail
      refine (HP2.out _ hB2).mono ?_
      rintro e w3 ⟨x2, rfl, hx2, hb3⟩
      have hB3 := pure_trans hB2 hb3
      have HX1b := Lib.hid (tRow.mono _ _ _ _ (below_mem hb3) HX1.out)
      obtain ⟨xa2, xc2, rfl, _, _, hx2⟩ := slice_form hx2
      have HX2 := Lib.hid hx2
      clear hx2 hB2 hb3
      have hpe : ((projOf a cs).2 == (projOf a cs).2) = true := by simp
      go_wp2_with fail
      refine (same_any _ _ _ _ _ HX1b.out HX2.out).mono ?_
      rintro e w4 ⟨rfl, hb4⟩
      rw [sameRow_refl]
      have hB4 := pure_trans hB3 hb4
      clear hB3 hb4
      go_wp2_with fail
      refine (HC1.out _ hB4).mono ?_
      rintro e w5 ⟨y1, rfl, hy1, hb5⟩
      have hB5 := pure_trans hB4 hb5
      clear hB4 hb5
      obtain ⟨ya1, yc1, rfl, _, _, hy1⟩ := slice_form hy1
      have HY1 := Lib.hid hy1
      clear hy1
      go_wp2_with fail
      refine (HC2.out _ hB5).mono ?_
      rintro e w6 ⟨y2, rfl, hy2, hb6⟩
      have hB6 := pure_trans hB5 hb6
      have HY1b := Lib.hid (tRow.mono _ _ _ _ (below_mem hb6) HY1.out)
      obtain ⟨ya2, yc2, rfl, _, _, hy2⟩ := slice_form hy2
      have HY2 := Lib.hid hy2
      clear hy2 hB5 hb6
      have hce : ((concOf a b).2 == (concOf a b).2) = true := by simp
      go_wp2_with fail
      refine (same_any _ _ _ _ _ HY1b.out HY2.out).mono ?_
      rintro e w7 ⟨rfl, hb7⟩
      rw [sameRow_refl]
      have hB7 := pure_trans hB6 hb7
      have HY := Lib.hid (tRow.mono _ _ _ _ (below_mem hb7) HY1b.out)
      clear hB6 hb7
      by_cases hok : (concOf a b).2 = 0
      · obtain ⟨hva1, hvb1, h8, hcc⟩ := concOf_ok hok
        have HCC := Lib.hid hcc
        have HFA := Lib.hid (proj_first a b (valid_append hva1 hvb1 h8) (by omega))
        have HFB := Lib.hid (proj_first a [] (by rw [List.append_nil]; exact hva1) (by omega))
        have hok2 : ((concOf a b).2 == 0) = true := by rw [hok]; rfl
        clear hcc hva1 hvb1
        go_wp2
        go_loopw [13, 14] (fun ov i wr => ∃ k : Nat, k ≤ a.length ∧ i = .int .i64 k ∧ Owns tInt wr w7.heap.size 3 ov (firstCols k) ∧ Below w7.heap.size w7 wr) (fun _ i _ => a.length - (intOf i).toNat)
        case atStart => exact ⟨0, by omega, rfl, Owns.nil _ _ _ _, Below.refl _ _⟩
        case round =>
          obtain ⟨k, hk, rfl, hown, hB⟩ := hrel
          by_cases hlt : k < a.length
          · have HFS := Lib.hid (firstCols_succ k)
            have HFL := Lib.hid (firstCols_length k)
            generalize firstCols k = l at hown HFS HFL
            go_wp2_with (at_builtin; refine wpList_append_int rfl _ _ 39 rfl Tryd.underlying39 Tryd.infoInt w7.heap.size _ l rfl (hown.alloc _) _ _ (k : Int) rfl ?c1 ?c2 ?c3 ?c4 ?_)
            case c1 => simp
            case c2 => unfold inI64; omega
            case c3 => rw [HFL.out]; omega
            case c4 => have := hB.size; simp; omega
            intro v' w8 hown' hgrow _
            have hB8 : Below w7.heap.size w7 w8 := (hB.alloc hB.size _).grown hgrow (by have := hB.size; simp; omega) (fun k hk => (hown.lt k hk).1)
            have hown' : Owns tInt w8 w7.heap.size 3 v' (firstCols (k + 1)) := by rw [HFS.out]; exact hown'
            clear hown hgrow
            go_wp2
            go_roundw
            case rel => exact ⟨k + 1, by omega, by go_num, hown', hB8⟩
            case measure => simp [intOf]; omega
          · obtain rfl : k = a.length := by omega
            have hB8 := pure_trans hB7 hB
            have hy := tRow.mono _ _ _ _ (below_mem hB) HY.out
            have hfr := hown.rv'
            obtain ⟨fa, fc, rfl, _, _, hfr⟩ := slice_form hfr
            have H1 := Lib.hid (rowProject_any (concOf a b).1 (firstCols a.length) _ _ wr hy hfr)
            have H2 := Lib.hid (fun w9 (h : Below wr.heap.size wr w9) => rowProject_any a (firstCols a.length) _ _ w9 (tRow.mono _ _ _ _ (below_mem (pure_trans hB8 h)) HVa.out) (tInts.mono _ _ _ _ (below_mem h) hfr))
            have HPa := Lib.hid (show projOf (concOf a b).1 (firstCols a.length) = (a, 0) by rw [HCC.out]; exact HFA.out)
            have HPb := Lib.hid (show projOf a (firstCols a.length) = (a, 0) by have := HFB.out; rwa [List.append_nil] at this)
            clear hy hfr hown
            go_wp2_with fail
            refine H1.out.mono ?_
            rintro e w9 ⟨z1, rfl, hz1, hb9⟩
            rw [HPa.out] at hz1 ⊢
            have hB9 := pure_trans hB8 hb9
            obtain ⟨za1, zc1, rfl, _, _, hz1⟩ := slice_form hz1
            have HZ1 := Lib.hid hz1
            clear hz1
            go_wp2_with fail
            refine (H2.out _ hb9).mono ?_
            rintro e w10 ⟨z2, rfl, hz2, hb10⟩
            rw [HPb.out] at hz2 ⊢
            have hB10 := pure_trans hB9 hb10
            obtain ⟨za2, zc2, rfl, _, _, hz2⟩ := slice_form hz2
            have HZ2 := Lib.hid hz2
            have HZ1b := Lib.hid (tRow.mono _ _ _ _ (below_mem hb10) HZ1.out)
            clear hz2
            go_wp2_with fail
            refine (same_any _ _ _ _ _ HZ1b.out (tRow.mono _ _ _ _ (below_mem hB10) HVa.out)).mono ?_
            rintro e w11 ⟨rfl, hb11⟩
            rw [sameRow_refl]
            have hB11 := pure_trans hB10 hb11
            go_wp2_with fail
            refine (same_any _ _ _ _ _ (tRow.mono _ _ _ _ (below_mem hb11) HZ2.out) (tRow.mono _ _ _ _ (below_mem hB11) HVa.out)).mono ?_
            rintro e w12 ⟨rfl, hb12⟩
            rw [sameRow_refl]
            have hB12 := pure_trans hB11 hb12
            go_wp2_with fail
            refine (HAW.out _ hB12).mono ?_
            rintro e wz ⟨rfl, hz⟩
            have hz := pure_trans hB12 hz
            go_wp2
            go_ret
            exact ⟨rfl, hz⟩
      · have hok1 : ((concOf a b).2 == 0) = false := by simpa using hok
        go_wp2_with fail
        refine (HAW.out _ hB7).mono ?_
        rintro e wz ⟨rfl, hz⟩
        have hz := pure_trans hB7 hz
        go_wp2
        go_ret
        exact ⟨rfl, hz⟩
  · go_wp2_with fail
    refine (HAW.out _ hB).mono ?_
    rintro e wz ⟨rfl, hz⟩
    have hz := pure_trans hB hz
    go_wp2
    go_ret
    exact ⟨rfl, hz⟩
end Go.Proofs.YtkldimaoafgolaaDoor
