/- The law MarkSorts, walked. -/
import Derived.Test.YtfoocifhifpbdaaSortsLaw0
namespace Go.Proofs.Ytfoocifhifpbdaa
open Go.RowKit

set_option maxRecDepth 100000 in
set_option maxHeartbeats 4000000 in
theorem markSorts_any (b : Int) (ts : List Int) (v1 : Value) (xs : List Ev) (v2 : Value) (n0 n1 : Int) (w : World) (_h0 : inI64 b) (h1 : (tSlice tInt).rv (mem w) [v1] ts) (h2 : tEvs.rv (mem w) [v2] xs) :
    Calls Try.prog 3 #[.int .i64 b, v1, v2, .agg #[.int .i64 n0, .int .i64 n1]] w fun e w' => e = .returned (.bool true) ∧ Below w.heap.size w w' := by
  obtain ⟨a1, cap1, rfl, hl1, hm1, h1⟩ := slice_form h1
  obtain ⟨a2, cap2, rfl, hl2, hm2, h2⟩ := slice_form h2
  have hcap : cap1 ≤ 9223372036854775807 := by unfold maxLen at hm1; exact hm1
  have HA := Lib.hid (fun (wq : World) => awake_any wq)
  have HL := Lib.hid (fun (wq : World) (h : Below w.heap.size w wq) => longEv_any xs _ wq (tEvs.mono _ _ _ _ (below_mem h) h2))
  have HM := Lib.hid (fun (wq : World) (h : Below w.heap.size w wq) => gmarks_any b ts _ wq ((tSlice tInt).mono _ _ _ _ (below_mem h) h1))
  have HR := Lib.hid (fun (wq : World) (h : Below w.heap.size w wq) => rmarks_any b ts _ wq ((tSlice tInt).mono _ _ _ _ (below_mem h) h1))
  have HS := Lib.hid (fun (wq : World) (h : Below w.heap.size w wq) => sorted_any b xs _ wq (tEvs.mono _ _ _ _ (below_mem h) h2))
  have HT := Lib.hid (fun (wq : World) (h : Below w.heap.size w wq) => refSorted_any b xs _ wq (tEvs.mono _ _ _ _ (below_mem h) h2))
  have hb0 : ∀ o, Below w.heap.size w (w.alloc o) := fun o => (Below.refl _ _).alloc (Nat.le_refl _) o
  have HB0 := Lib.hid hb0
  clear hm1 hm2 h1 h2 hb0
  by_cases h500 : 500 < ts.length
  · go_enter Try.func3, Try.ntmps3
    go_wp2_with fail
    refine (HA.out _).mono ?_
    rintro e w1 ⟨rfl, hB⟩
    go_wp2
    go_ret
    exact ⟨rfl, (HB0.out _).trans (hB.mono (by simp))⟩
  · go_enter Try.func3, Try.ntmps3
    go_wp2_with fail
    refine (HL.out _ (HB0.out _)).mono ?_
    rintro e w1 ⟨⟨r, rfl, _⟩, hB1⟩
    have hB1' := (HB0.out (.cells #[.int .i64 n0, .int .i64 n1] 24)).trans (hB1.mono (by simp))
    have c0 : w1.cell? ⟨w.heap.size, 0, none⟩ = some (.int .i64 n0) := below_mem hB1 _ _ _ (cell_new 0 rfl)
    have c1 : w1.cell? ⟨w.heap.size, 1, none⟩ = some (.int .i64 n1) := below_mem hB1 _ _ _ (cell_new 1 rfl)
    clear hB1
    cases r
    · go_wp2_with fail
      refine (HM.out _ hB1').mono ?_
      rintro e w2 ⟨u, rfl, hu, hB2⟩
      have hB2' := pure_trans hB1' hB2
      have c0 : w2.cell? ⟨w.heap.size, 0, none⟩ = some (.int .i64 n0) := below_mem hB2 _ _ _ c0
      have c1 : w2.cell? ⟨w.heap.size, 1, none⟩ = some (.int .i64 n1) := below_mem hB2 _ _ _ c1
      have hu := (tSlice tInt).mono _ _ _ _ (Mem.on_le _ _) hu
      clear hB2 hB1'
      go_wp2_with fail
      refine (HR.out _ hB2').mono ?_
      rintro e w3 ⟨u', rfl, hu', hB3⟩
      have hB3' := pure_trans hB2' hB3
      have c0 : w3.cell? ⟨w.heap.size, 0, none⟩ = some (.int .i64 n0) := below_mem hB3 _ _ _ c0
      have c1 : w3.cell? ⟨w.heap.size, 1, none⟩ = some (.int .i64 n1) := below_mem hB3 _ _ _ c1
      have hsi := sameInts_any _ _ _ _ w3.drew ((tSlice tInt).mono _ _ _ _ (below_mem (hB3.drew : Below w2.heap.size w2 w3.drew)) hu) ((tSlice tInt).mono _ _ _ _ (Mem.on_le _ _) hu')
      simp only [decide_true] at hsi
      have HI := Lib.hid hsi
      generalize marksOf b ts = r at *
      obtain ⟨ms, er⟩ := r
      clear hB3 hB2' hu hu' hsi
      have hBd : Below w.heap.size w w3.drew := hB3'.drew
      have d0 : w3.drew.cell? ⟨w.heap.size, 0, none⟩ = some (.int .i64 n0) := c0
      have d1 : w3.drew.cell? ⟨w.heap.size, 1, none⟩ = some (.int .i64 n1) := c1
      clear c0 c1
      go_wp2_with fail
      go_region_held3 (fun w' => w'.cell? ⟨w.heap.size, 0, none⟩ = some (.int .i64 n0) ∧ w'.cell? ⟨w.heap.size, 1, none⟩ = some (.int .i64 n1))
        (first | go_keep | exact ⟨d0, d1⟩ | exact ⟨below_mem (by assumption) _ _ _ d0, below_mem (by assumption) _ _ _ d1⟩)
        ((first
          | (go_at_call 11; refine HI.out.mono ?_; rintro e w4 ⟨rfl, hb4⟩)
          | (go_at_call 12; refine (mlate_any _ _ _).mono ?_; rintro e w5 ⟨rfl, rfl⟩) | (go_at_call 13; refine (rlate_any _ _ _).mono ?_; rintro e w6 ⟨rfl, rfl⟩)))
      all_goals
        have hB4 : Below w.heap.size w w4 := pure_trans hBd (by assumption)
        clear HM HR hBd d0 d1
        go_wp2_with fail
        refine (HS.out _ hB4).mono ?_
        rintro e w5 ⟨p, p', rfl, hp, hp', hB5⟩
        have hB5' := pure_trans hB4 hB5
        clear hB5
        go_wp2_with fail
        refine (HT.out _ hB5').mono ?_
        rintro e w6 ⟨q, q', rfl, hq, hq', hB6⟩
        have hB6' := pure_trans hB5' hB6
        have HE1 := Lib.hid (fun (wq : World) (h : Below w6.heap.size w6 wq) => sameEvents_self _ _ _ wq (tEvs.mono _ _ _ _ (Mem.le_trans (below_mem hB6) (below_mem h)) hp) (tEvs.mono _ _ _ _ (below_mem h) hq))
        have HE2 := Lib.hid (fun (wq : World) (h : Below w6.heap.size w6 wq) => sameEvents_self _ _ _ wq (tEvs.mono _ _ _ _ (Mem.le_trans (below_mem hB6) (below_mem h)) hp') (tEvs.mono _ _ _ _ (below_mem h) hq'))
        clear hB6 hp hp' hq hq'
        generalize sortedOf b xs = r at *
        obtain ⟨ron, rlate, rer⟩ := r
        try simp only at HE1 HE2
        go_wp2_with fail
        refine (HE1.out _ (Below.refl _ _)).mono ?_
        rintro e w7 ⟨rfl, hB7⟩
        go_wp2_with fail
        refine (HE2.out _ hB7).mono ?_
        rintro e w8 ⟨rfl, hB8⟩
        have hB8' := pure_trans hB6' (pure_trans hB7 hB8)
        go_wp2_with fail
        refine (HA.out _).mono ?_
        rintro e w9 ⟨rfl, hB9⟩
        go_wp2
        go_ret
        exact ⟨rfl, pure_trans hB8' hB9⟩
    · go_wp2_with fail
      refine (HA.out _).mono ?_
      rintro e w2 ⟨rfl, hB⟩
      go_wp2
      go_ret
      exact ⟨rfl, pure_trans hB1' hB⟩
end Go.Proofs.Ytfoocifhifpbdaa
