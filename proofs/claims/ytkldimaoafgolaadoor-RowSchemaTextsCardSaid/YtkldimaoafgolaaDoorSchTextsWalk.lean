/- The law RowSchemaTexts, walked. -/
import Derived.Test.YtkldimaoafgolaaDoorSchW
import Derived.Test.YtkldimaoafgolaaDoorPickedR
import Derived.Test.YtkldimaoafgolaaDoorAwake2
namespace Go.Proofs.YtkldimaoafgolaaDoor
open Go.RowKit

/-- What ParseSchema answers at a text. -/
def SchIs (t : ByteArray) (c : Int) (s : List Col) : Prop :=
  (65536 < t.size ∧ c = 3 ∧ s = []) ∨ (t.size ≤ 65536 ∧ (∀ s, ¬ IsSch s t) ∧ c = 2 ∧ s = []) ∨ (t.size ≤ 65536 ∧ IsSch s t ∧ (∀ r, IsSch r t → r = s) ∧ c = 0)
theorem SchIs.one {t : ByteArray} {c c' : Int} {s s' : List Col} (h : SchIs t c s) (h' : SchIs t c' s') : c' = c ∧ s' = s := by
  rcases h with ⟨h1, rfl, rfl⟩ | ⟨h1, h2, rfl, rfl⟩ | ⟨h1, h2, h3, rfl⟩ <;> rcases h' with ⟨g1, rfl, rfl⟩ | ⟨g1, g2, rfl, rfl⟩ | ⟨g1, g2, g3, rfl⟩
  · exact ⟨rfl, rfl⟩
  · omega
  · omega
  · omega
  · exact ⟨rfl, rfl⟩
  · exact absurd g2 (h2 _)
  · omega
  · exact absurd h2 (g2 _)
  · exact ⟨rfl, h3 _ g2⟩
theorem SchOut.form {t : ByteArray} {w w' : World} {e : Ending} (h : SchOut t w e w') :
    ∃ v c s, e = .returned (.tuple #[v, .int .i64 c]) ∧ tSchema.rv ((mem w').on (w.heap.size ≤ ·)) [v] s ∧ Below w.heap.size w w' ∧ SchIs t c s ∧ inI64 c := by
  obtain ⟨hb, ⟨h1, rfl⟩ | ⟨h1, h2, rfl⟩ | ⟨h1, s, v, ⟨h2, h3⟩, rfl, hv⟩⟩ := h
  · exact ⟨_, _, [], rfl, slice_nil _ _, hb, .inl ⟨h1, rfl, rfl⟩, by unfold inI64; decide⟩
  · exact ⟨_, _, [], rfl, slice_nil _ _, hb, .inr (.inl ⟨h1, h2, rfl, rfl⟩), by unfold inI64; decide⟩
  · exact ⟨_, _, s, rfl, hv, hb, .inr (.inr ⟨h1, h2, h3, rfl⟩), by unfold inI64; decide⟩
theorem schText_is {xs : List Col} (h : validSchema xs = true) : IsSch xs ⟨(schemaText xs).toArray⟩ := ⟨h, rfl⟩
theorem schText_size (xs : List Col) : (⟨(schemaText xs).toArray⟩ : ByteArray).size ≤ 184 := by
  cases h : validSchema xs with
  | true => exact (schText_is h).small.2
  | false =>
    have : schemaText xs = [] := by unfold schemaText; rw [h]; rfl
    rw [this]
    exact Nat.zero_le _
set_option maxRecDepth 100000 in
set_option maxHeartbeats 4000000 in
theorem rowSchemaTexts_any (xs : List Col) (p : ByteArray) (v : Value) (w : World) (hv : tSchema.rv (mem w) [v] xs) (hp : p.size ≤ maxLen) (ht : Tryd.Tab w) (m : Int) (hm : w.cell? ⟨0, 0, none⟩ = some (.int .i64 m)) :
    Calls Tryd.prog 8 #[v, .string p] w fun e w' => e = .returned (.bool true) ∧ Below w.heap.size w w' := by
  have HAW := Lib.hid (fun (wr : World) (h : Below w.heap.size w wr) => awake_any wr (Tryd.tabStays ht h))
  have HV := Lib.hid hv
  have HF1 := Lib.hid (rowFormat_any xs v w hv)
  have HF2 := Lib.hid (fun wr (h : Below w.heap.size w wr) => refFormat_any xs v wr (tSchema.mono _ _ _ _ (below_mem h) hv))
  have HVS := Lib.hid (fun wr (h : Below w.heap.size w wr) => refValidSchema_any xs v wr (tSchema.mono _ _ _ _ (below_mem h) hv))
  have HP := Lib.hid (fun (t : ByteArray) wr (hs : t.size ≤ 200000) (h : Below w.heap.size w wr) => (rowParseSchema_any t wr hs m (below_mem h _ _ _ hm)).mono fun _ _ => SchOut.form)
  have HPR := Lib.hid (fun (t : ByteArray) wr (hs : t.size ≤ 200000) => (refParseSchema_any t wr hs).mono fun _ _ => SchOut.form)
  have HSZ := Lib.hid (schText_size xs)
  have HIS := Lib.hid (schText_is (xs := xs))
  obtain ⟨a1, cap1, rfl, hl1, hm1, _⟩ := slice_form hv
  have hcap1 : cap1 ≤ 9223372036854775807 := by unfold maxLen at hm1; exact hm1
  unfold maxLen at hp
  clear hm1 hv ht hm
  by_cases hbig : 100 < xs.length ∨ 131072 < p.size
  · have h4 : (100 < xs.length) ∨ (¬ 100 < xs.length ∧ 131072 < p.size) := by omega
    clear hbig
    rcases h4 with h4 | ⟨h5, h4⟩
    all_goals
      go_enter Tryd.func8, Tryd.ntmps8
      go_wp2_with fail
      refine (HAW.out _ (Below.refl _ _)).mono ?_
      rintro e wz ⟨rfl, hz⟩
      go_wp2
      go_ret
      exact ⟨rfl, hz⟩
  have g1 : ¬ 100 < xs.length := by omega
  have g2 : ¬ 131072 < p.size := by omega
  clear hbig
  go_enter Tryd.func8, Tryd.ntmps8
  go_wp2_with fail
  refine HF1.out.mono ?_
  rintro e w2 ⟨rfl, hB2⟩
  generalize hta : schemaText xs = ta at *
  have qa : (ta == ta) = true := by simp
  clear hta
  go_wp2_with fail
  refine (HF2.out _ hB2).mono ?_
  rintro e w3 ⟨rfl, hb3⟩
  have hB3 := pure_trans hB2 hb3
  clear hB2 hb3
  go_wp2_with fail
  refine (HP.out _ _ (by have := HSZ.out; omega) hB3).mono ?_
  rintro e w4 ⟨v4, c4, s4, rfl, hr4, hb4, hs4, hc4⟩
  have HS4 := Lib.hid hs4
  have HC4 := Lib.hid hc4
  have hB4 := pure_trans hB3 hb4
  obtain ⟨a4, k4, rfl, _, _, hr4⟩ := slice_form hr4
  have HR4 := Lib.hid (tSchema.mono _ _ _ _ (Mem.on_le _ _) hr4)
  clear hb4 hs4 hr4 hB3 hc4
  go_wp2_with fail
  refine (HVS.out _ hB4).mono ?_
  rintro e w5 ⟨rfl, hb5⟩
  have hB5 := pure_trans hB4 hb5
  have HR4b := Lib.hid (tSchema.mono _ _ _ _ (below_mem hb5) HR4.out)
  clear hB4 hb5
  cases hvs : validSchema xs with
  | false =>
    go_wp2_with fail
    refine (HP.out p _ (by omega) hB5).mono ?_
    rintro e w7 ⟨v7, c7, s7, rfl, hr7, hb7, hs7, hc7⟩
    have hB7 := pure_trans hB5 hb7
    have HS7 := Lib.hid hs7
    obtain ⟨a7, k7, rfl, _, hm7, hr7⟩ := slice_form hr7
    have hk7 : k7 ≤ 9223372036854775807 := by unfold maxLen at hm7; exact hm7
    have HR7 := Lib.hid (tSchema.mono _ _ _ _ (Mem.on_le _ _) hr7)
    clear hb7 hs7 hr7 hB5 hm7
    go_wp2_with fail
    refine (HPR.out p _ (by omega)).mono ?_
    rintro e w8 ⟨v8, c8, s8, rfl, hr8, hb8, hs8, _⟩
    obtain ⟨rfl, rfl⟩ := SchIs.one HS7.out hs8
    have hB8 := pure_trans hB7 hb8
    have HR7b := Lib.hid (tSchema.mono _ _ _ _ (below_mem hb8) HR7.out)
    obtain ⟨a8, k8, rfl, _, hm8, hr8⟩ := slice_form hr8
    have hk8 : k8 ≤ 9223372036854775807 := by unfold maxLen at hm8; exact hm8
    have HR8 := Lib.hid (tSchema.mono _ _ _ _ (Mem.on_le _ _) hr8)
    clear hb8 hs8 hr8 hB7 hm8
    go_wp2_with fail
    refine (sameSchema_any _ _ _ _ _ HR7b.out HR8.out).mono ?_
    rintro e w9 ⟨rfl, hb9⟩
    rw [sameSchema_refl]
    have hB9 := pure_trans hB8 hb9
    clear hB8 hb9
    go_wp2_with fail
    refine (HAW.out _ hB9).mono ?_
    rintro e wz ⟨rfl, hz⟩
    have hz := pure_trans hB9 hz
    go_wp2
    go_ret
    exact ⟨rfl, hz⟩
  | true =>
  obtain ⟨rfl, rfl⟩ : s4 = xs ∧ c4 = 0 := by
    rcases HS4.out with ⟨h, _⟩ | ⟨_, h, _⟩ | ⟨_, _, h, h0⟩
    · exact absurd h (by have := HSZ.out; omega)
    · exact absurd (HIS.out hvs) (h _)
    · exact ⟨(h _ (HIS.out hvs)).symm, h0⟩
  clear hvs
  go_wp2_with fail
  refine (sameSchema_any _ _ _ _ _ HR4b.out (tSchema.mono _ _ _ _ (below_mem hB5) HV.out)).mono ?_
  rintro e w6 ⟨rfl, hb6⟩
  rw [sameSchema_refl]
  have hB6 := pure_trans hB5 hb6
  clear hB5 hb6
  go_wp2_with fail
  refine (HP.out p _ (by omega) hB6).mono ?_
  rintro e w7 ⟨v7, c7, s7, rfl, hr7, hb7, hs7, hc7⟩
  have hB7 := pure_trans hB6 hb7
  have HS7 := Lib.hid hs7
  obtain ⟨a7, k7, rfl, _, hm7, hr7⟩ := slice_form hr7
  have hk7 : k7 ≤ 9223372036854775807 := by unfold maxLen at hm7; exact hm7
  have HR7 := Lib.hid (tSchema.mono _ _ _ _ (Mem.on_le _ _) hr7)
  clear hb7 hs7 hr7 hB6 hm7
  go_wp2_with fail
  refine (HPR.out p _ (by omega)).mono ?_
  rintro e w8 ⟨v8, c8, s8, rfl, hr8, hb8, hs8, _⟩
  obtain ⟨rfl, rfl⟩ := SchIs.one HS7.out hs8
  have hB8 := pure_trans hB7 hb8
  have HR7b := Lib.hid (tSchema.mono _ _ _ _ (below_mem hb8) HR7.out)
  obtain ⟨a8, k8, rfl, _, hm8, hr8⟩ := slice_form hr8
  have hk8 : k8 ≤ 9223372036854775807 := by unfold maxLen at hm8; exact hm8
  have HR8 := Lib.hid (tSchema.mono _ _ _ _ (Mem.on_le _ _) hr8)
  clear hb8 hs8 hr8 hB7 hm8
  go_wp2_with fail
  refine (sameSchema_any _ _ _ _ _ HR7b.out HR8.out).mono ?_
  rintro e w9 ⟨rfl, hb9⟩
  rw [sameSchema_refl]
  have hB9 := pure_trans hB8 hb9
  clear hB8 hb9
  go_wp2_with fail
  refine (HAW.out _ hB9).mono ?_
  rintro e wz ⟨rfl, hz⟩
  have hz := pure_trans hB9 hz
  go_wp2
  go_ret
  exact ⟨rfl, hz⟩
end Go.Proofs.YtkldimaoafgolaaDoor
