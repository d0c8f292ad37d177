/- RowOrder's walk. -/
import Derived.Test.YtkldimaoafgolaaDoorOrdY
namespace Go.Proofs.YtkldimaoafgolaaDoor
open Go.RowKit

theorem rows3 {m : Mem} {b : Nat} {x y z : List Val} {u v t : Value} (h0 : m b 0 = some u) (h1 : m b 1 = some v) (h2 : m b 2 = some t) (hx : tRow.rv m [u] x) (hy : tRow.rv m [v] y) (hz : tRow.rv m [t] z) :
    tRows.rv m [.slice (some ⟨b, 0, none⟩) 3 3] [x, y, z] := by
  refine ⟨some ⟨b, 0, none⟩, 3, rfl, Nat.le_refl 3, by unfold maxLen; decide, fun _ => ⟨b, 0, rfl, fun k hk => ?_⟩⟩
  have hk : k < 3 := hk
  match k, hk with
  | 0, _ => exact ⟨[u], fun j v hj => by match j, hj with | 0, hj => simp at hj; subst hj; exact h0, hx⟩
  | 1, _ => exact ⟨[v], fun j v hj => by match j, hj with | 0, hj => simp at hj; subst hj; exact h1, hy⟩
  | 2, _ => exact ⟨[t], fun j v hj => by match j, hj with | 0, hj => simp at hj; subst hj; exact h2, hz⟩

set_option maxRecDepth 100000 in
set_option maxHeartbeats 4000000 in
theorem rowOrder_any (a b c : List Val) (va vb vc : Value) (w : World) (hva : tRow.rv (mem w) [va] a) (hvb : tRow.rv (mem w) [vb] b) (hvc : tRow.rv (mem w) [vc] c) (ht : Tryd.Tab w) :
    Calls Tryd.prog 5 #[va, vb, vc] w fun e w' => e = .returned (.bool true) ∧ Below w.heap.size w w' := by
  have hb0 : ∀ o, Below w.heap.size w (w.alloc o) := fun o => (Below.refl _ _).alloc (Nat.le_refl _) o
  have HT := Lib.hid (Tryd.tabStays (w := w) (w' := w) ht)
  have HAW := Lib.hid (fun (wr : World) (h : Below w.heap.size w wr) => awake_any wr (Tryd.tabStays ht h))
  have HVa := Lib.hid hva
  have HVb := Lib.hid hvb
  have HVc := Lib.hid hvc
  have rA := cmpRow_good.range a b
  have rB := cmpRow_good.range b c
  have rC := cmpRow_good.range a c
  have aA := cmpRow_good.anti a b
  have rf := cmpRow_good.refl a
  have tr := cmpRow_good.trans a b c
  have HRab := fun (wr : World) (h : Below w.heap.size w wr) => rowCmp_any a b va vb wr (tRow.mono _ _ _ _ (below_mem h) hva) (tRow.mono _ _ _ _ (below_mem h) hvb)
  have HRbc := fun (wr : World) (h : Below w.heap.size w wr) => rowCmp_any b c vb vc wr (tRow.mono _ _ _ _ (below_mem h) hvb) (tRow.mono _ _ _ _ (below_mem h) hvc)
  have HRac := fun (wr : World) (h : Below w.heap.size w wr) => rowCmp_any a c va vc wr (tRow.mono _ _ _ _ (below_mem h) hva) (tRow.mono _ _ _ _ (below_mem h) hvc)
  have HRba := fun (wr : World) (h : Below w.heap.size w wr) => rowCmp_any b a vb va wr (tRow.mono _ _ _ _ (below_mem h) hvb) (tRow.mono _ _ _ _ (below_mem h) hva)
  have HRaa := fun (wr : World) (h : Below w.heap.size w wr) => rowCmp_any a a va va wr (tRow.mono _ _ _ _ (below_mem h) hva) (tRow.mono _ _ _ _ (below_mem h) hva)
  have HFab := fun (wr : World) (h : Below w.heap.size w wr) => refCmp_any a b va vb wr (tRow.mono _ _ _ _ (below_mem h) hva) (tRow.mono _ _ _ _ (below_mem h) hvb)
  have HFbc := fun (wr : World) (h : Below w.heap.size w wr) => refCmp_any b c vb vc wr (tRow.mono _ _ _ _ (below_mem h) hvb) (tRow.mono _ _ _ _ (below_mem h) hvc)
  have HFac := fun (wr : World) (h : Below w.heap.size w wr) => refCmp_any a c va vc wr (tRow.mono _ _ _ _ (below_mem h) hva) (tRow.mono _ _ _ _ (below_mem h) hvc)
  rw [aA] at HRba
  rw [rf] at HRaa
  clear aA rf
  generalize cmpRow a b = A at *
  generalize cmpRow b c = B at *
  generalize cmpRow a c = C at *
  have HRabh := Lib.hid HRab
  clear HRab
  have HRbch := Lib.hid HRbc
  clear HRbc
  have HRach := Lib.hid HRac
  clear HRac
  have HRbah := Lib.hid HRba
  clear HRba
  have HRaah := Lib.hid HRaa
  clear HRaa
  have HFabh := Lib.hid HFab
  clear HFab
  have HFbch := Lib.hid HFbc
  clear HFbc
  have HFach := Lib.hid HFac
  clear HFac
  have hAA : (A == A) = true := by simp
  have hBB : (B == B) = true := by simp
  have hCC : (C == C) = true := by simp
  have HL := Lib.hid (fun (m : Mem) bk h0 h1 h2 hx hy hz => rows3 (m := m) (b := bk) (x := a) (y := b) (z := c) (u := va) (v := vb) (t := vc) h0 h1 h2 hx hy hz)
  obtain ⟨a1, cap1, rfl, hl1, hm1, hva⟩ := slice_form hva
  have hcap1 : cap1 ≤ 9223372036854775807 := by unfold maxLen at hm1; exact hm1
  obtain ⟨a2, cap2, rfl, hl2, hm2, hvb⟩ := slice_form hvb
  have hcap2 : cap2 ≤ 9223372036854775807 := by unfold maxLen at hm2; exact hm2
  obtain ⟨a3, cap3, rfl, hl3, hm3, hvc⟩ := slice_form hvc
  clear hm1 hm2 hm3 hvc ht
  have HTR := Lib.hid tr
  clear tr
  go_enter Tryd.func5, Tryd.ntmps5
  go_wp2_with fail
  refine (long_any [a, b, c] _ _ (HL.out _ _ (by simp [mem]) (by simp [mem]) (by simp [mem]) (tRow.mono _ _ _ _ (below_mem (hb0 _)) HVa.out) (tRow.mono _ _ _ _ (below_mem (hb0 _)) HVb.out) (tRow.mono _ _ _ _ (below_mem (hb0 _)) HVc.out))).mono ?_
  rintro e w1 ⟨⟨r, rfl⟩, hb1⟩
  have hB := pure_trans (hb0 _) hb1
  clear hb0 hb1 HL
  cases r
  · go_wp2
    go_loopw [7] (fun i wr => ∃ k : Nat, k ≤ a.length ∧ k ≤ b.length ∧ i = .int .i64 k ∧ Below w.heap.size w wr) (fun i _ => a.length - (intOf i).toNat)
    case atStart => exact ⟨0, by omega, by omega, rfl, hB⟩
    case round =>
      obtain ⟨k, hk, hk2, rfl, hB⟩ := hrel
      by_cases hlt : k < a.length ∧ k < b.length
      · obtain ⟨hlt, hlt2⟩ := hlt
        have hB := hB.drew
        obtain ⟨b1, o1, rfl, c0, c1, c2⟩ := row_cells (tRow.mono _ _ _ _ (below_mem hB) hva) hlt
        have c0 : wr.drew.cell? ⟨b1, o1 + k * 3, none⟩ = some (.int .i64 a[k].kind) := c0
        have c1 : wr.drew.cell? ⟨b1, o1 + k * 3 + 1, none⟩ = some (.int .i64 a[k].n) := c1
        have c2 : wr.drew.cell? ⟨b1, o1 + k * 3 + 2, none⟩ = some (.string a[k].s) := c2
        obtain ⟨b2, o2, rfl, d0, d1, d2⟩ := row_cells (tRow.mono _ _ _ _ (below_mem hB) hvb) hlt2
        have d0 : wr.drew.cell? ⟨b2, o2 + k * 3, none⟩ = some (.int .i64 b[k].kind) := d0
        have d1 : wr.drew.cell? ⟨b2, o2 + k * 3 + 1, none⟩ = some (.int .i64 b[k].n) := d1
        have d2 : wr.drew.cell? ⟨b2, o2 + k * 3 + 2, none⟩ = some (.string b[k].s) := d2
        have HC := Lib.hid (cmpVals_any a[k] b[k])
        have HD := Lib.hid (refCmpVals_any a[k] b[k])
        clear hva hvb
        generalize cmpVal a[k] b[k] = r at HC HD
        generalize a[k] = x at *
        generalize b[k] = y at *
        obtain ⟨xk, xn, xs'⟩ := x
        obtain ⟨yk, yn, ys'⟩ := y
        simp only at c0 c1 c2 d0 d1 d2
        have hrr : (r == r) = true := by simp
        go_wp2_with fail
        go_region_held3 (fun w' => w'.cell? ⟨b1, o1 + k * 3, none⟩ = some (.int .i64 xk) ∧ w'.cell? ⟨b1, o1 + k * 3 + 1, none⟩ = some (.int .i64 xn) ∧ w'.cell? ⟨b1, o1 + k * 3 + 2, none⟩ = some (.string xs') ∧
            w'.cell? ⟨b2, o2 + k * 3, none⟩ = some (.int .i64 yk) ∧ w'.cell? ⟨b2, o2 + k * 3 + 1, none⟩ = some (.int .i64 yn) ∧ w'.cell? ⟨b2, o2 + k * 3 + 2, none⟩ = some (.string ys'))
          (first | go_keep | exact ⟨below_mem (by assumption) _ _ _ c0, below_mem (by assumption) _ _ _ c1, below_mem (by assumption) _ _ _ c2, below_mem (by assumption) _ _ _ d0, below_mem (by assumption) _ _ _ d1, below_mem (by assumption) _ _ _ d2⟩)
          ((first
            | (go_at_call 30; refine (HC.out _).mono ?_; rintro e w2 ⟨rfl, hbc⟩; have hbx : Below wr.drew.heap.size wr.drew w2 := by first | exact hbc | exact pure_trans (by assumption) hbc)
            | (go_at_call 31; refine (HD.out _).mono ?_; rintro e w3 ⟨rfl, hbd⟩; have hby : Below wr.drew.heap.size wr.drew w3 := by first | exact hbd | exact pure_trans (by assumption) hbd)))
        all_goals
          have hB1 := pure_trans hB (by assumption)
          go_wp2
          go_roundw
          case rel => exact ⟨k + 1, by omega, by omega, by go_num, hB1⟩
          case measure => simp [intOf]; omega
      · have hor : (k < a.length ∧ b.length ≤ k) ∨ a.length ≤ k := by omega
        clear hlt hva hvb
        rcases hor with ⟨hx, hx2⟩ | hx
        all_goals
          go_wp2_with fail
          refine (HRabh.out _ hB).mono ?_
          rintro e wg0 ⟨rfl, hbg0⟩
          have g0 := pure_trans hB hbg0
          clear hbg0
          go_wp2_with fail
          refine (HRbch.out _ g0).mono ?_
          rintro e wg1 ⟨rfl, hbg1⟩
          have g1 := pure_trans g0 hbg1
          clear hbg1
          go_wp2_with fail
          refine (HRach.out _ g1).mono ?_
          rintro e wg2 ⟨rfl, hbg2⟩
          have g2 := pure_trans g1 hbg2
          clear hbg2
          go_wp2_with fail
          refine (HFabh.out _ g2).mono ?_
          rintro e wg3 ⟨rfl, hbg3⟩
          have g3 := pure_trans g2 hbg3
          clear hbg3
          go_wp2_with fail
          refine (HFbch.out _ g3).mono ?_
          rintro e wg4 ⟨rfl, hbg4⟩
          have g4 := pure_trans g3 hbg4
          clear hbg4
          go_wp2_with fail
          refine (HFach.out _ g4).mono ?_
          rintro e wg5 ⟨rfl, hbg5⟩
          have g5 := pure_trans g4 hbg5
          clear hbg5
          go_wp2_with fail
          refine (HRbah.out _ g5).mono ?_
          rintro e wg6 ⟨rfl, hbg6⟩
          have g6 := pure_trans g5 hbg6
          clear hbg6
          go_wp2_with fail
          refine (HRaah.out _ g6).mono ?_
          rintro e wg7 ⟨rfl, hbg7⟩
          have g7 := pure_trans g6 hbg7
          clear hbg7
          have fin := HAW.out _ g7
          have FIN := Lib.hid fin
          clear fin
          by_cases hA : A ≤ 0
          · by_cases hB2 : B ≤ 0
            · have hC := HTR.out hA hB2
              by_cases hC0 : C = 0
              · obtain ⟨hA0, hB0⟩ := hC.2 hC0
                subst hA0 hB0 hC0
                go_wp2_with fail
                refine FIN.out.mono ?_
                rintro e wz ⟨rfl, hz⟩
                have hz := pure_trans g7 hz
                go_wp2
                go_ret
                exact ⟨rfl, hz⟩
              · have hC1 : C = -1 := by omega
                subst hC1
                go_wp2_with fail
                refine FIN.out.mono ?_
                rintro e wz ⟨rfl, hz⟩
                have hz := pure_trans g7 hz
                go_wp2
                go_ret
                exact ⟨rfl, hz⟩
            · go_wp2_with fail
              refine FIN.out.mono ?_
              rintro e wz ⟨rfl, hz⟩
              have hz := pure_trans g7 hz
              go_wp2
              go_ret
              exact ⟨rfl, hz⟩
          · go_wp2_with fail
            refine FIN.out.mono ?_
            rintro e wz ⟨rfl, hz⟩
            have hz := pure_trans g7 hz
            go_wp2
            go_ret
            exact ⟨rfl, hz⟩
  · go_wp2_with fail
    refine (HAW.out _ hB).mono ?_
    rintro e w2 ⟨rfl, hb⟩
    have hB := pure_trans hB hb
    go_wp2
    go_ret
    exact ⟨rfl, hB⟩
end Go.Proofs.YtkldimaoafgolaaDoor
