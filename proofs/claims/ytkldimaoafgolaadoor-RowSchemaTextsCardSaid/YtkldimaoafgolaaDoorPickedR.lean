/- The reference's Picked; SameSchema. -/
import Derived.Test.YtkldimaoafgolaaDoorPicked
namespace Go.Proofs.YtkldimaoafgolaaDoor
open Go.RowKit Go.Maps

set_option maxRecDepth 100000 in
set_option maxHeartbeats 2000000 in
theorem refPicked_any (r : List Col) (cs : List Int) (v u : Value) (w : World) (hv : tSchema.rv (mem w) [v] r) (hu : tInts.rv (mem w) [u] cs) :
    Calls Tryd.prog 35 #[v, u] w (PickedC r cs w) := by
  have HV := Lib.hid (refValidSchema_any r v w hv)
  have HP := Lib.hid (pickedOf_cases r cs)
  have HIN := Lib.hid (fun (h : cs.any (colBad r.length) = false) k (hk : k < cs.length) => (show 0 ≤ cs[k] ∧ cs[k].toNat < r.length by
    rw [List.any_eq_false] at h
    have := h _ (List.getElem_mem hk)
    simp [colBad] at this
    omega))
  have HDN0 := Lib.hid (fun (h : validSchema r = true) (h2 : cs.any (colBad r.length) = false) k (hk : k < cs.length) => dup_names h h2 hk)
  obtain ⟨a1, cap1, rfl, hl1, hm1, hv⟩ := slice_form hv
  have hcap1 : cap1 ≤ 9223372036854775807 := by unfold maxLen at hm1; exact hm1
  obtain ⟨a2, cap2, rfl, hl2, hm2, hu⟩ := slice_form hu
  have hcap2 : cap2 ≤ 9223372036854775807 := by unfold maxLen at hm2; exact hm2
  clear hm1 hm2
  generalize validSchema r = vr at HV HP HDN0
  have hoks : ∀ k, k < cs.length → colBad r.length (cs.getD k 0) = true → cs.any (colBad r.length) = true := fun k hk h => List.any_eq_true.2 ⟨_, List.getElem_mem hk, by rw [List.getD_eq_getElem?_getD, List.getElem?_eq_getElem hk] at h; exact h⟩
  have HOK := Lib.hid hoks
  clear hoks
  go_enter Tryd.func35, Tryd.ntmps35
  go_wp2_with fail
  refine HV.out.mono ?_
  rintro e w1 ⟨rfl, hB⟩
  clear HV
  cases vr
  · have HQ := Lib.hid (HP.out.1 (by trivial))
    go_wp2
    go_ret2
    exact ⟨_, by rw [HQ.out]; rfl, by rw [HQ.out]; exact slice_nil _ _, hB⟩
  · go_wp2
    go_loopw [6] (fun i wr => ∃ k : Nat, k ≤ cs.length ∧ i = .int .i64 k ∧ Hid (∀ c ∈ cs.take k, colBad r.length c = false) ∧ Below w.heap.size w wr) (fun i _ => cs.length - (intOf i).toNat)
    case atStart => exact ⟨0, by omega, rfl, Lib.hid (by simp), hB⟩
    case round =>
      clear hB
      obtain ⟨k, hk, rfl, HT, hB⟩ := hrel
      by_cases hlt : k < cs.length
      · obtain ⟨b, o, rfl, d0, hin⟩ := int_cell (tInts.mono _ _ _ _ (below_mem hB) hu) hlt
        have d0 : wr.cell? ⟨b, o + k, none⟩ = some (.int .i64 cs[k]) := d0
        have HB1 := Lib.hid (show colBad r.length cs[k] = !decide (0 ≤ cs[k] ∧ cs[k] ≤ (r.length : Int) - 1) from rfl)
        have HI := Lib.hid (show colBad r.length cs[k] = true → cs.any (colBad r.length) = true from fun h => List.any_eq_true.2 ⟨_, List.getElem_mem hlt, h⟩)
        have HN := Lib.hid (show colBad r.length cs[k] = false → ∀ c ∈ cs.take (k + 1), colBad r.length c = false from fun h => mem_take_snoc hlt HT.out h)
        clear HT hu
        generalize colBad r.length cs[k] = z at *
        generalize cs[k] = c at *
        generalize hq : decide (0 ≤ c ∧ c ≤ (r.length : Int) - 1) = q at HB1
        have HQ := Lib.hid hq
        clear hq
        go_wp2_with fail
        refine (refRowWithin_any _ _ _ _).mono ?_
        rintro e w' ⟨rfl, rfl⟩
        rw [HQ.out]
        cases q
        · have HQ7 := Lib.hid (HP.out.2.1 (by trivial) (HI.out HB1.out))
          go_wp2
          go_ret2
          exact ⟨_, by rw [HQ7.out]; rfl, by rw [HQ7.out]; exact slice_nil _ _, hB⟩
        · have HN2 := Lib.hid (HN.out HB1.out)
          go_wp2
          go_roundw
          case rel => exact ⟨k + 1, by omega, by go_num, HN2, hB⟩
          case measure => simp [intOf]; omega
      · obtain rfl : k = cs.length := by omega
        have hvc : cs.any (colBad r.length) = false := by rw [List.any_eq_false]; intro c hc; rw [HT.out c (by rw [List.take_length]; exact hc)]; exact Bool.false_ne_true
        have HVC := Lib.hid hvc
        have HIK := Lib.hid (HIN.out hvc)
        clear hvc HT HIN HOK
        by_cases h8 : 1 ≤ cs.length ∧ cs.length ≤ 8
        · have HQ6 := Lib.hid (HP.out.2.2.2.1 (by trivial) HVC.out h8)
          have HQ0 := Lib.hid (HP.out.2.2.2.2 (by trivial) HVC.out h8)
          have ew : decide ((1 : Int) ≤ (cs.length : Int) ∧ (cs.length : Int) ≤ 8) = true := by simp; omega
          have HW := Lib.hid ew
          have HDN1 := Lib.hid (HDN0.out (by trivial) HVC.out)
          obtain ⟨h81, h82⟩ := h8
          clear ew HP HDN0 HVC
          go_wp2_with (go_at_call 53; refine (refRowWithin_any _ _ _ _).mono ?_; rintro e w' ⟨rfl, rfl⟩; rw [HW.out])
          go_loopw [7, 8] (fun ov i wr => ∃ k : Nat, k ≤ cs.length ∧ i = .int .i64 k ∧ Hid (∀ i, i < k → dupAt cs i = false) ∧ Owns tCol wr w.heap.size 69 ov ((cs.take k).map (colAt r)) ∧ Below w.heap.size w wr) (fun _ i _ => cs.length - (intOf i).toNat)
          case atStart => exact ⟨0, by omega, rfl, Lib.hid (fun i hi => absurd hi (by omega)), Owns.nil _ _ _ _, hB⟩
          case round =>
            clear hB hlt hk
            obtain ⟨k, hk, rfl, HT, hown, hB⟩ := hrel
            have hbs : w.heap.size ≤ wr.heap.size := hB.size
            by_cases hlt : k < cs.length
            · obtain ⟨hc1, hc2⟩ := HIK.out k hlt
              obtain ⟨b, o, rfl, d0, hin⟩ := int_cell (tInts.mono _ _ _ _ (below_mem hB) hu) hlt
              have d0 : wr.cell? ⟨b, o + k, none⟩ = some (.int .i64 cs[k]) := d0
              obtain ⟨b1, o1, rfl, c0, c1, c2, c3⟩ := schema_cells (tSchema.mono _ _ _ _ (below_mem hB) hv) hc2
              have c0 : wr.cell? ⟨b1, o1 + cs[k].toNat * 2, none⟩ = some (.string r[cs[k].toNat].name) := c0
              have c1 : wr.cell? ⟨b1, o1 + cs[k].toNat * 2 + 1, none⟩ = some (.int .i64 r[cs[k].toNat].kind) := c1
              have HLEN := Lib.hid (show ((cs.take k).map (colAt r)).length = k by rw [List.length_map, List.length_take]; omega)
              obtain ⟨oa, oc, rfl, _⟩ := hown.len
              have HCT := Lib.hid (fun nm => at_any ((cs.take k).map (colAt r)) nm _ wr hown.rv')
              have HD := Lib.hid (HDN1.out k hlt)
              have HDC := Lib.hid (colAt_eq (s := r) (c := cs[k]) hc2)
              have HDY := Lib.hid (fun h : dupAt cs k = true => HQ6.out (hasDup_at hlt h))
              have HDN := Lib.hid (fun h : dupAt cs k = false => upto_succF (p := dupAt cs) HT.out h)
              have HSN := Lib.hid ((map_snoc (colAt r) hlt).trans (by rw [colAt_eq hc2]))
              clear hu hv HIK HT
              generalize (cs.take k).map (colAt r) = l at hown HSN HLEN HCT HD
              have HD := Lib.hid (show decide (0 ≤ idxOf (colIs r[cs[k].toNat].name) l) = dupAt cs k by rw [idxOf_any, ← HDC.out]; exact HD.out)
              have HCC := Lib.hid (HCT.out r[cs[k].toNat].name)
              clear HDC HCT
              generalize idxOf (colIs r[cs[k].toNat].name) l = ix at HD HCC
              generalize dupAt cs k = z at HD HDY HDN
              generalize r[cs[k].toNat] = x at *
              generalize cs[k] = c at *
              obtain ⟨n, rfl⟩ : ∃ n : Nat, c = n := ⟨c.toNat, by omega⟩
              simp only [Int.toNat_natCast] at *
              obtain ⟨xn, xk⟩ := x
              simp only at c0 c1 c2 c3
              cases z
              · have e1 : decide (0 ≤ ix) = false := HD.out
                have HDN2 := Lib.hid (HDN.out (by trivial))
                go_wp2_with (first
                  | (go_at_call 57; refine HCC.out.mono ?_; rintro e w' ⟨rfl, rfl⟩)
                  | (at_builtin; refine wpList_append_one rfl _ _ 23 rfl tCol Tryd.underlying23 Tryd.infoCol rfl (by decide) w.heap.size _ l rfl (hown.alloc _) _ _ ⟨xn, xk⟩ rfl [.string xn, .int .i64 xk] ?c1 ?c2 ?c3 ?c4 ?c5 ?c6 ?_))
                case c1 =>
                  intro j u hj
                  match j, hj with
                  | 0, hj => simp at hj; subst hj; simp [mem]
                  | 1, hj => simp at hj; subst hj; simp [mem]
                case c2 => exact ⟨rfl, c2, c3⟩
                case c3 => first | exact ⟨rfl, rfl⟩ | (intro u hu; simp at hu; rcases hu with rfl | rfl <;> rfl)
                case c4 => rw [HLEN.out]; unfold maxLen; omega
                case c5 => rw [HLEN.out]; omega
                case c6 => first | omega | (simp; omega)
                · intro v' w3 hown' hgrow _
                  have hB3 : Below w.heap.size w w3 := (hB.alloc hB.size _).grown hgrow (by simp; omega) (fun k hk => (hown.lt k hk).1)
                  clear hown hgrow hB c0 c1 c2 c3 d0
                  go_wp2
                  go_roundw
                  case rel => exact ⟨k + 1, by omega, by go_num, HDN2, by rw [HSN.out]; exact hown', hB3⟩
                  case measure => simp [intOf]; omega
              · have e1 : decide (0 ≤ ix) = true := HD.out
                have HDY2 := Lib.hid (HDY.out (by trivial))
                go_wp2_with (go_at_call 57; refine HCC.out.mono ?_; rintro e w' ⟨rfl, rfl⟩)
                go_ret2
                exact ⟨_, by rw [HDY2.out]; rfl, by rw [HDY2.out]; exact slice_nil _ _, hB⟩
            · obtain rfl : k = cs.length := by omega
              rw [List.take_length] at hown
              have HF := Lib.hid (HQ0.out (hasDup_none HT.out))
              obtain ⟨a', cap', rfl, _⟩ := hown.len
              go_wp2
              go_ret2
              refine ⟨_, ?_, by rw [HF.out]; exact hown.rv', hB⟩
              rw [HF.out]
              first | rfl | (rw [List.length_map]; rfl) | (simp only [List.length_map]; rfl)
        · have HQ := Lib.hid (HP.out.2.2.1 (by trivial) HVC.out h8)
          have ew : decide ((1 : Int) ≤ (cs.length : Int) ∧ (cs.length : Int) ≤ 8) = false := by simp; omega
          have HW := Lib.hid ew
          clear ew h8
          go_wp2_with (go_at_call 53; refine (refRowWithin_any _ _ _ _).mono ?_; rintro e w' ⟨rfl, rfl⟩; rw [HW.out])
          go_ret2
          exact ⟨_, by rw [HQ.out]; rfl, by rw [HQ.out]; exact slice_nil _ _, hB⟩

/-! ### SameSchema -/
def colEq (x y : Col) : Bool := x.name.toList == y.name.toList && x.kind == y.kind
def sameSchema (xs ys : List Col) : Bool := xs.length == ys.length && (xs.zip ys).all fun p => colEq p.1 p.2
theorem sameSchema_true {xs ys : List Col} (hl : xs.length = ys.length) (h : ∀ j (h : j < xs.length) (h' : j < ys.length), colEq xs[j] ys[j] = true) : sameSchema xs ys = true := by
  unfold sameSchema
  rw [Bool.and_eq_true, beq_iff_eq, List.all_eq_true]
  refine ⟨hl, fun p hp => ?_⟩
  obtain ⟨j, hj, rfl⟩ := List.getElem_of_mem hp
  rw [List.length_zip] at hj
  rw [List.getElem_zip]
  exact h j (by omega) (by omega)
theorem sameSchema_false {xs ys : List Col} {j : Nat} (h1 : j < xs.length) (h2 : j < ys.length) (h : colEq xs[j] ys[j] = false) : sameSchema xs ys = false := by
  unfold sameSchema
  rw [Bool.and_eq_false_iff]
  right
  rw [List.all_eq_false]
  exact ⟨(xs.zip ys)[j]'(by rw [List.length_zip]; omega), List.getElem_mem _, by rw [List.getElem_zip]; simpa using h⟩
theorem sameSchema_len {xs ys : List Col} (h : xs.length ≠ ys.length) : sameSchema xs ys = false := by
  unfold sameSchema
  rw [Bool.and_eq_false_iff]
  exact .inl (by simpa using h)
theorem sameSchema_refl (xs : List Col) : sameSchema xs xs = true := sameSchema_true rfl (fun j h h' => by simp [colEq])
theorem colEq_mk (s : ByteArray) (a : Int) (t : ByteArray) (c : Int) : colEq ⟨s, a⟩ ⟨t, c⟩ = true ↔ s.toList = t.toList ∧ a = c := by
  simp [colEq]

set_option maxRecDepth 100000 in
set_option maxHeartbeats 1000000 in
theorem sameSchema_any (xs ys : List Col) (v u : Value) (w : World) (hv : tSchema.rv (mem w) [v] xs) (hu : tSchema.rv (mem w) [u] ys) :
    Calls Tryd.prog 36 #[v, u] w fun e w' => e = .returned (.bool (sameSchema xs ys)) ∧ Below w.heap.size w w' := by
  obtain ⟨a1, cap1, rfl, hl1, hm1, hv⟩ := slice_form hv
  have hcap1 : cap1 ≤ 9223372036854775807 := by unfold maxLen at hm1; exact hm1
  obtain ⟨a2, cap2, rfl, hl2, hm2, hu⟩ := slice_form hu
  have hcap2 : cap2 ≤ 9223372036854775807 := by unfold maxLen at hm2; exact hm2
  clear hm1 hm2
  by_cases hle : xs.length = ys.length
  · have e3 : ((xs.length : Int) == (ys.length : Int)) = true := by simp [hle]
    have e3n : ((xs.length : Int) != (ys.length : Int)) = false := by simp [hle]
    have HLE := Lib.hid hle
    clear hle
    go_enter Tryd.func36, Tryd.ntmps36
    go_wp2
    go_loopw [5] (fun i wr => ∃ k : Nat, k ≤ xs.length ∧ i = .int .i64 k ∧ Hid (∀ j (h : j < xs.length) (h' : j < ys.length), j < k → colEq xs[j] ys[j] = true) ∧ Below w.heap.size w wr) (fun i _ => xs.length - (intOf i).toNat)
    case atStart => exact ⟨0, by omega, rfl, Lib.hid (fun j h h' hj => by omega), Below.refl _ _⟩
    case round =>
      obtain ⟨k, hk, rfl, HT, hB⟩ := hrel
      by_cases hlt : k < xs.length
      · have hlt2 : k < ys.length := by have := HLE.out; omega
        obtain ⟨b, o, rfl, c0, c1, _⟩ := schema_cells (tSchema.mono _ _ _ _ (below_mem hB) hv) hlt
        have c0 : wr.cell? ⟨b, o + k * 2, none⟩ = some (.string xs[k].name) := c0
        have c1 : wr.cell? ⟨b, o + k * 2 + 1, none⟩ = some (.int .i64 xs[k].kind) := c1
        obtain ⟨b2, o2, rfl, d0, d1, _⟩ := schema_cells (tSchema.mono _ _ _ _ (below_mem hB) hu) hlt2
        have d0 : wr.cell? ⟨b2, o2 + k * 2, none⟩ = some (.string ys[k].name) := d0
        have d1 : wr.cell? ⟨b2, o2 + k * 2 + 1, none⟩ = some (.int .i64 ys[k].kind) := d1
        have hBd := hB.drew
        have HN := Lib.hid (show colEq xs[k] ys[k] = false → sameSchema xs ys = false from fun h => sameSchema_false hlt hlt2 h)
        have HY := Lib.hid (show colEq xs[k] ys[k] = true → ∀ j (h : j < xs.length) (h' : j < ys.length), j < k + 1 → colEq xs[j] ys[j] = true from fun h j h1 h2 hj => by
          by_cases hjk : j < k
          · exact HT.out j h1 h2 hjk
          · obtain rfl : j = k := by omega
            exact h)
        have HV := Lib.hid (colEq_mk xs[k].name xs[k].kind ys[k].name ys[k].kind)
        clear hv hu HT
        generalize hx : xs[k] = x at *
        generalize hy : ys[k] = y at *
        clear hx hy
        obtain ⟨xs', xk⟩ := x
        obtain ⟨ys', yk⟩ := y
        simp only at c0 c1 d0 d1 HV
        by_cases he : xs'.toList = ys'.toList ∧ xk = yk
        · have HY2 := Lib.hid (HY.out (HV.out.2 he))
          obtain ⟨e1, e2⟩ := he
          clear HN HY HV
          go_wp2
          go_region
          all_goals
            go_wp2
            go_roundw
            case rel => exact ⟨k + 1, by omega, by go_num, HY2, hBd⟩
            case measure => simp [intOf]; omega
        · have hf : colEq ⟨xs', xk⟩ ⟨ys', yk⟩ = false := by
            rw [Bool.eq_false_iff]; exact fun h => he (HV.out.1 h)
          have HN2 := Lib.hid (HN.out hf)
          clear HN HY HV hf
          by_cases e1 : xs'.toList = ys'.toList
          · have e2 : ¬ xk = yk := fun e2 => he ⟨e1, e2⟩
            clear he
            go_wp2
            go_region
            all_goals
              go_wp2
              go_ret
              exact ⟨by rw [HN2.out]; rfl, hBd⟩
          · clear he
            go_wp2
            go_region
            all_goals
              go_wp2
              go_ret
              exact ⟨by rw [HN2.out]; rfl, hBd⟩
      · obtain rfl : k = xs.length := by omega
        have HR := Lib.hid (sameSchema_true HLE.out (fun j h h' => HT.out j h h' h))
        clear HT
        go_wp2
        go_ret
        exact ⟨by rw [HR.out]; rfl, hB⟩
  · have HR := Lib.hid (sameSchema_len hle)
    go_enter Tryd.func36, Tryd.ntmps36
    go_wp2
    go_ret
    exact ⟨by rw [HR.out]; rfl, Below.refl _ _⟩
end Go.Proofs.YtkldimaoafgolaaDoor
