/- Fits of both packages. -/
import Derived.Test.YtkldimaoafgolaaDoorSchemaR
import Derived.Test.YtkldimaoafgolaaDoorOrdY
namespace Go.Proofs.YtkldimaoafgolaaDoor
open Go.RowKit Go.Maps

def fitAt (s : List Col) (r : List Val) (i : Nat) : Bool := match r[i]?, s[i]? with | some v, some c => v.kind == 0 || v.kind == c.kind | _, _ => true
def fitsOf (s : List Col) (r : List Val) : Bool := validSchema s && validRow r && decide (r.length = s.length) && (List.range r.length).all (fitAt s r)
theorem fitAt_get {s : List Col} {r : List Val} {k : Nat} (h1 : k < r.length) (h2 : k < s.length) : fitAt s r k = (r[k].kind == 0 || r[k].kind == s[k].kind) := by
  unfold fitAt
  rw [List.getElem?_eq_getElem h1, List.getElem?_eq_getElem h2]
theorem fitsOf_all {s : List Col} {r : List Val} (h1 : validSchema s = true) (h2 : validRow r = true) (h3 : r.length = s.length) (h : ∀ i, i < r.length → fitAt s r i = true) : fitsOf s r = true := by
  unfold fitsOf
  rw [h1, h2]
  simp only [h3, decide_true, Bool.true_and]
  rw [List.all_eq_true]; intro i hi; exact h i (by rw [h3]; simpa using hi)
theorem fitsOf_bad {s : List Col} {r : List Val} {k : Nat} (h1 : k < r.length) (h : fitAt s r k = false) : fitsOf s r = false := by
  unfold fitsOf
  have : (List.range r.length).all (fitAt s r) = false := by rw [List.all_eq_false]; exact ⟨k, by simpa using h1, by simp [h]⟩
  rw [this, Bool.and_false]
theorem fitsOf_s {s : List Col} {r : List Val} (h : validSchema s = false) : fitsOf s r = false := by unfold fitsOf; rw [h]; rfl
theorem fitsOf_r {s : List Col} {r : List Val} (h : validRow r = false) : fitsOf s r = false := by unfold fitsOf; rw [h]; simp
theorem fitsOf_len {s : List Col} {r : List Val} (h : ¬ r.length = s.length) : fitsOf s r = false := by unfold fitsOf; simp [h]

set_option maxRecDepth 100000 in
set_option maxHeartbeats 2000000 in
theorem rowFits_any (s : List Col) (r : List Val) (vs vr : Value) (w : World) (hvs : tSchema.rv (mem w) [vs] s) (hvr : tRow.rv (mem w) [vr] r) :
    Calls Tryd.prog 21 #[vs, vr] w fun e w' => e = .returned (.bool (fitsOf s r)) ∧ Below w.heap.size w w' := by
  have H1 := Lib.hid (rowValidSchema_any s vs w hvs)
  have H2 := Lib.hid (fun wr (h : Below w.heap.size w wr) => rowValid_any r vr wr (tRow.mono _ _ _ _ (below_mem h) hvr))
  obtain ⟨a, cap, rfl, hl, hm, hvs⟩ := slice_form hvs
  have hcap : cap ≤ 9223372036854775807 := by unfold maxLen at hm; exact hm
  obtain ⟨a2, cap2, rfl, hl2, hm2, hvr⟩ := slice_form hvr
  have hcap2 : cap2 ≤ 9223372036854775807 := by unfold maxLen at hm2; exact hm2
  clear hm hm2
  cases h1 : validSchema s
  · have HR := Lib.hid (fitsOf_s (r := r) h1)
    rw [h1] at H1
    clear h1 hvs hvr
    go_enter Tryd.func21, Tryd.ntmps21
    go_wp2_with fail
    refine H1.out.mono ?_
    rintro e w1 ⟨rfl, hB⟩
    go_wp2
    go_ret
    exact ⟨by rw [HR.out]; rfl, hB⟩
  rw [h1] at H1
  cases h2 : validRow r
  · have HR := Lib.hid (fitsOf_r (s := s) h2)
    rw [h2] at H2
    clear h1 h2 hvs hvr
    go_enter Tryd.func21, Tryd.ntmps21
    go_wp2_with fail
    refine H1.out.mono ?_
    rintro e w1 ⟨rfl, hB⟩
    go_wp2_with fail
    refine (H2.out _ hB).mono ?_
    rintro e w2 ⟨rfl, hB2⟩
    have hB2 := pure_trans hB hB2
    go_wp2
    go_ret
    exact ⟨by rw [HR.out]; rfl, hB2⟩
  rw [h2] at H2
  by_cases h3 : r.length = s.length
  · have HA := Lib.hid (fun h => fitsOf_all h1 h2 h3 h)
    have e3 : ((r.length : Int) == (s.length : Int)) = true := by simp [h3]
    have e3n : ((r.length : Int) != (s.length : Int)) = false := by simp [h3]
    have H3 := Lib.hid h3
    clear h1 h2 h3
    go_enter Tryd.func21, Tryd.ntmps21
    go_wp2_with fail
    refine H1.out.mono ?_
    rintro e w1 ⟨rfl, hB⟩
    go_wp2_with fail
    refine (H2.out _ hB).mono ?_
    rintro e w2 ⟨rfl, hB2⟩
    have hB2 := pure_trans hB hB2
    clear hB H1 H2
    go_wp2
    go_loopw [24] (fun i wr => ∃ k : Nat, k ≤ r.length ∧ i = .int .i64 k ∧ Hid (∀ i, i < k → fitAt s r i = true) ∧ Below w.heap.size w wr) (fun i _ => r.length - (intOf i).toNat)
    case atStart => exact ⟨0, by omega, rfl, Lib.hid (fun i hi => absurd hi (by omega)), hB2⟩
    case round =>
      obtain ⟨k, hk, rfl, HT, hB⟩ := hrel
      by_cases hlt : k < r.length
      · have hlt2 : k < s.length := by have := H3.out; omega
        obtain ⟨b, o, rfl, c0, c1, c2⟩ := row_cells (tRow.mono _ _ _ _ (below_mem hB) hvr) hlt
        have c0 : wr.cell? ⟨b, o + k * 3, none⟩ = some (.int .i64 r[k].kind) := c0
        have c1 : wr.cell? ⟨b, o + k * 3 + 1, none⟩ = some (.int .i64 r[k].n) := c1
        have c2 : wr.cell? ⟨b, o + k * 3 + 2, none⟩ = some (.string r[k].s) := c2
        obtain ⟨b2, o2, rfl, d0, d1, d2, d3⟩ := schema_cells (tSchema.mono _ _ _ _ (below_mem hB) hvs) hlt2
        have d0 : wr.cell? ⟨b2, o2 + k * 2, none⟩ = some (.string s[k].name) := d0
        have d1 : wr.cell? ⟨b2, o2 + k * 2 + 1, none⟩ = some (.int .i64 s[k].kind) := d1
        have hb2 : b2 < wr.heap.size := World.block_lt_of_cell? wr ⟨b2, _, none⟩ d1
        have HG := Lib.hid (fitAt_get hlt hlt2)
        have HN := Lib.hid (fun h => upto_succ (p := fitAt s r) HT.out h)
        have HX := Lib.hid (fun h => fitsOf_bad (s := s) hlt h)
        have hBa := fun o => hB.alloc hB.size o
        clear hvs hvr HT d2 d3 HA
        generalize r[k] = x at *
        generalize s[k] = y at *
        obtain ⟨xk, xn, xs⟩ := x
        obtain ⟨yn, yk⟩ := y
        simp only at c0 c1 c2 d0 d1 HG
        generalize fitAt s r k = z at HG HN HX
        by_cases hx : xk = 0
        · have HR := Lib.hid (show z = true by rw [HG.out, hx]; rfl)
          subst hx
          have e0 : ((0 : Int) != 0) = false := rfl
          go_wp2
          go_quiet (fail)
          go_wp2
          go_roundw
          case rel => first | exact ⟨k + 1, by omega, by go_num, Lib.hid (HN.out HR.out), below_drewN (hBa _) _⟩ | ((repeat apply Exists.intro); exact ⟨⟨k + 1, by omega, by go_num, Lib.hid (HN.out HR.out), below_drewN (hBa _) _⟩, rfl⟩)
          case measure => simp [intOf]; omega
        · have e0 : (xk != 0) = true := by simpa using hx
          have e0' : (xk == 0) = false := by simpa using hx
          by_cases hy : xk = yk
          · have HR := Lib.hid (show z = true by rw [HG.out, hy]; simp)
            have e1 : (xk != yk) = false := by simpa using hy
            have e1' : (xk == yk) = true := by simpa using hy
            clear hx hy
            go_wp2
            go_quiet (fail)
            go_wp2
            go_roundw
            case rel => first | exact ⟨k + 1, by omega, by go_num, Lib.hid (HN.out HR.out), below_drewN (hBa _) _⟩ | ((repeat apply Exists.intro); exact ⟨⟨k + 1, by omega, by go_num, Lib.hid (HN.out HR.out), below_drewN (hBa _) _⟩, rfl⟩)
            case measure => simp [intOf]; omega
          · have e1 : (xk != yk) = true := by simpa using hy
            have e1' : (xk == yk) = false := by simpa using hy
            have HR := Lib.hid (show z = false by rw [HG.out, e0', e1']; rfl)
            clear hx hy
            go_wp2
            go_quiet (fail)
            go_wp2
            go_ret
            exact ⟨by rw [HX.out HR.out]; rfl, below_drewN (hBa _) _⟩
      · obtain rfl : k = r.length := by omega
        have HR := Lib.hid (HA.out HT.out)
        go_wp2
        go_ret
        exact ⟨by rw [HR.out]; rfl, hB⟩
  · have HR := Lib.hid (fitsOf_len (s := s) (r := r) h3)
    have e3 : ((r.length : Int) == (s.length : Int)) = false := by simp; omega
    have e3n : ((r.length : Int) != (s.length : Int)) = true := by simp; omega
    clear h1 h2 h3 hvs hvr
    go_enter Tryd.func21, Tryd.ntmps21
    go_wp2_with fail
    refine H1.out.mono ?_
    rintro e w1 ⟨rfl, hB⟩
    go_wp2_with fail
    refine (H2.out _ hB).mono ?_
    rintro e w2 ⟨rfl, hB2⟩
    have hB2 := pure_trans hB hB2
    go_wp2
    go_ret
    exact ⟨by rw [HR.out]; rfl, hB2⟩

set_option maxRecDepth 100000 in
set_option maxHeartbeats 2000000 in
theorem refFits_any (s : List Col) (r : List Val) (vs vr : Value) (w : World) (hvs : tSchema.rv (mem w) [vs] s) (hvr : tRow.rv (mem w) [vr] r) :
    Calls Tryd.prog 22 #[vs, vr] w fun e w' => e = .returned (.bool (fitsOf s r)) ∧ Below w.heap.size w w' := by
  have H1 := Lib.hid (refValidSchema_any s vs w hvs)
  have H2 := Lib.hid (fun wr (h : Below w.heap.size w wr) => refValid_any r vr wr (tRow.mono _ _ _ _ (below_mem h) hvr))
  obtain ⟨a, cap, rfl, hl, hm, hvs⟩ := slice_form hvs
  have hcap : cap ≤ 9223372036854775807 := by unfold maxLen at hm; exact hm
  obtain ⟨a2, cap2, rfl, hl2, hm2, hvr⟩ := slice_form hvr
  have hcap2 : cap2 ≤ 9223372036854775807 := by unfold maxLen at hm2; exact hm2
  clear hm hm2
  cases h1 : validSchema s
  · have HR := Lib.hid (fitsOf_s (r := r) h1)
    rw [h1] at H1
    clear h1 hvs hvr
    go_enter Tryd.func22, Tryd.ntmps22
    go_wp2_with fail
    refine H1.out.mono ?_
    rintro e w1 ⟨rfl, hB⟩
    go_wp2
    go_ret
    exact ⟨by rw [HR.out]; rfl, hB⟩
  rw [h1] at H1
  cases h2 : validRow r
  · have HR := Lib.hid (fitsOf_r (s := s) h2)
    rw [h2] at H2
    clear h1 h2 hvs hvr
    go_enter Tryd.func22, Tryd.ntmps22
    go_wp2_with fail
    refine H1.out.mono ?_
    rintro e w1 ⟨rfl, hB⟩
    go_wp2_with fail
    refine (H2.out _ hB).mono ?_
    rintro e w2 ⟨rfl, hB2⟩
    have hB2 := pure_trans hB hB2
    go_wp2
    go_ret
    exact ⟨by rw [HR.out]; rfl, hB2⟩
  rw [h2] at H2
  by_cases h3 : r.length = s.length
  · have HA := Lib.hid (fun h => fitsOf_all h1 h2 h3 h)
    have e3 : ((r.length : Int) == (s.length : Int)) = true := by simp [h3]
    have e3n : ((r.length : Int) != (s.length : Int)) = false := by simp [h3]
    have H3 := Lib.hid h3
    clear h1 h2 h3
    go_enter Tryd.func22, Tryd.ntmps22
    go_wp2_with fail
    refine H1.out.mono ?_
    rintro e w1 ⟨rfl, hB⟩
    go_wp2_with fail
    refine (H2.out _ hB).mono ?_
    rintro e w2 ⟨rfl, hB2⟩
    have hB2 := pure_trans hB hB2
    clear hB H1 H2
    go_wp2
    go_loopw [5] (fun i wr => ∃ k : Nat, k ≤ r.length ∧ i = .int .i64 k ∧ Hid (∀ i, i < k → fitAt s r i = true) ∧ Below w.heap.size w wr) (fun i _ => r.length - (intOf i).toNat)
    case atStart => exact ⟨0, by omega, rfl, Lib.hid (fun i hi => absurd hi (by omega)), hB2⟩
    case round =>
      obtain ⟨k, hk, rfl, HT, hB⟩ := hrel
      by_cases hlt : k < r.length
      · have hlt2 : k < s.length := by have := H3.out; omega
        obtain ⟨b, o, rfl, c0, c1, c2⟩ := row_cells (tRow.mono _ _ _ _ (below_mem hB) hvr) hlt
        have c0 : wr.cell? ⟨b, o + k * 3, none⟩ = some (.int .i64 r[k].kind) := c0
        obtain ⟨b2, o2, rfl, d0, d1, d2, d3⟩ := schema_cells (tSchema.mono _ _ _ _ (below_mem hB) hvs) hlt2
        have d1 : wr.cell? ⟨b2, o2 + k * 2 + 1, none⟩ = some (.int .i64 s[k].kind) := d1
        have HG := Lib.hid (fitAt_get hlt hlt2)
        have HN := Lib.hid (fun h => upto_succ (p := fitAt s r) HT.out h)
        have HX := Lib.hid (fun h => fitsOf_bad (s := s) hlt h)
        clear hvs hvr HT d2 d3 HA c1 c2 d0
        generalize r[k].kind = xk at *
        generalize s[k].kind = yk at *
        generalize fitAt s r k = z at HG HN HX
        by_cases hx : xk = 0
        · have HR := Lib.hid (show z = true by rw [HG.out, hx]; rfl)
          subst hx
          have e0 : ((0 : Int) != 0) = false := rfl
          go_wp2
          go_quiet (fail)
          go_wp2
          go_roundw
          case rel => exact ⟨k + 1, by omega, by go_num, Lib.hid (HN.out HR.out), below_drewN hB _⟩
          case measure => simp [intOf]; omega
        · have e0 : (xk != 0) = true := by simpa using hx
          have e0' : (xk == 0) = false := by simpa using hx
          by_cases hy : xk = yk
          · have HR := Lib.hid (show z = true by rw [HG.out, hy]; simp)
            have e1 : (xk != yk) = false := by simpa using hy
            have e1' : (xk == yk) = true := by simpa using hy
            clear hx hy
            go_wp2
            go_quiet (fail)
            go_wp2
            go_roundw
            case rel => exact ⟨k + 1, by omega, by go_num, Lib.hid (HN.out HR.out), below_drewN hB _⟩
            case measure => simp [intOf]; omega
          · have e1 : (xk != yk) = true := by simpa using hy
            have e1' : (xk == yk) = false := by simpa using hy
            have HR := Lib.hid (show z = false by rw [HG.out, e0', e1']; rfl)
            clear hx hy
            go_wp2
            go_quiet (fail)
            go_wp2
            go_ret
            exact ⟨by rw [HX.out HR.out]; rfl, below_drewN hB _⟩
      · obtain rfl : k = r.length := by omega
        have HR := Lib.hid (HA.out HT.out)
        go_wp2
        go_ret
        exact ⟨by rw [HR.out]; rfl, hB⟩
  · have HR := Lib.hid (fitsOf_len (s := s) (r := r) h3)
    have e3 : ((r.length : Int) == (s.length : Int)) = false := by simp; omega
    have e3n : ((r.length : Int) != (s.length : Int)) = true := by simp; omega
    clear h1 h2 h3 hvs hvr
    go_enter Tryd.func22, Tryd.ntmps22
    go_wp2_with fail
    refine H1.out.mono ?_
    rintro e w1 ⟨rfl, hB⟩
    go_wp2_with fail
    refine (H2.out _ hB).mono ?_
    rintro e w2 ⟨rfl, hB2⟩
    have hB2 := pure_trans hB hB2
    go_wp2
    go_ret
    exact ⟨by rw [HR.out]; rfl, hB2⟩
end Go.Proofs.YtkldimaoafgolaaDoor
