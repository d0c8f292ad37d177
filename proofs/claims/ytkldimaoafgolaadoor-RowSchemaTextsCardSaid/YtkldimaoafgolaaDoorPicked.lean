/- Picked of both packages, SameSchema. -/
import Derived.Test.YtkldimaoafgolaaDoorSchemaR
import Derived.Test.YtkldimaoafgolaaDoorPickR
namespace Go.Proofs.YtkldimaoafgolaaDoor
open Go.RowKit Go.Maps

def dupAt (cs : List Int) (k : Nat) : Bool := match cs[k]? with | some c => (cs.take k).any (fun x => decide (x = c)) | none => false
def hasDup (cs : List Int) : Bool := (List.range cs.length).any (dupAt cs)
def colAt (s : List Col) (c : Int) : Col := s[c.toNat]?.getD ⟨⟨#[]⟩, 0⟩
def pickedOf (s : List Col) (cs : List Int) : List Col × Int :=
  if validSchema s = true then (if cs.any (colBad s.length) = true then ([], 7) else if ¬ (1 ≤ cs.length ∧ cs.length ≤ 8) then ([], 9) else if hasDup cs = true then ([], 6) else (cs.map (colAt s), 0)) else ([], 1)
theorem pickedOf_cases (s : List Col) (cs : List Int) : (validSchema s = false → pickedOf s cs = ([], 1)) ∧ (validSchema s = true → cs.any (colBad s.length) = true → pickedOf s cs = ([], 7)) ∧
    (validSchema s = true → cs.any (colBad s.length) = false → ¬ (1 ≤ cs.length ∧ cs.length ≤ 8) → pickedOf s cs = ([], 9)) ∧ (validSchema s = true → cs.any (colBad s.length) = false → (1 ≤ cs.length ∧ cs.length ≤ 8) → hasDup cs = true → pickedOf s cs = ([], 6)) ∧
    (validSchema s = true → cs.any (colBad s.length) = false → (1 ≤ cs.length ∧ cs.length ≤ 8) → hasDup cs = false → pickedOf s cs = (cs.map (colAt s), 0)) := by
  unfold pickedOf
  refine ⟨fun h => by rw [h]; rfl, fun h h2 => by rw [h, h2]; rfl, fun h h2 h3 => ?_, fun h h2 h3 h4 => ?_, fun h h2 h3 h4 => ?_⟩
  · rw [h, h2, if_pos rfl, if_neg Bool.false_ne_true, if_pos h3]
  · rw [h, h2, if_pos rfl, if_neg Bool.false_ne_true, if_neg (fun hn => hn h3), h4, if_pos rfl]
  · rw [h, h2, if_pos rfl, if_neg Bool.false_ne_true, if_neg (fun hn => hn h3), h4, if_neg Bool.false_ne_true]
def PickedC (s : List Col) (cs : List Int) (w : World) (e : Ending) (w' : World) : Prop :=
  ∃ v, e = .returned (.tuple #[v, .int .i64 (pickedOf s cs).2]) ∧ tSchema.rv (mem w') [v] (pickedOf s cs).1 ∧ Below w.heap.size w w'
theorem dupAt_get {cs : List Int} {k : Nat} (hk : k < cs.length) : dupAt cs k = (cs.take k).any (fun x => decide (x = cs[k])) := by
  unfold dupAt
  rw [List.getElem?_eq_getElem hk]
theorem hasDup_at {cs : List Int} {k : Nat} (hk : k < cs.length) (h : dupAt cs k = true) : hasDup cs = true := List.any_eq_true.2 ⟨k, by simpa using hk, h⟩
theorem hasDup_none {cs : List Int} (h : ∀ i, i < cs.length → dupAt cs i = false) : hasDup cs = false := by
  unfold hasDup
  rw [List.any_eq_false]
  intro i hi
  rw [h i (by simpa using hi)]
  exact Bool.false_ne_true
theorem upto_succF {p : Nat → Bool} {k : Nat} (h : ∀ i, i < k → p i = false) (hk : p k = false) : ∀ i, i < k + 1 → p i = false := fun i hi => by
  by_cases e : i = k
  · subst e; exact hk
  · exact h i (by omega)
theorem colAt_eq {s : List Col} {c : Int} (h : c.toNat < s.length) : colAt s c = s[c.toNat] := by
  unfold colAt
  rw [List.getElem?_eq_getElem h]
  rfl
theorem names_apart {s : List Col} (h : validSchema s = true) {i j : Nat} (hi : i < s.length) (hj : j < s.length) (e : s[i].name = s[j].name) : i = j := by
  have key : ∀ a b (ha : a < s.length) (hb : b < s.length), a < b → s[a].name ≠ s[b].name := fun a b ha hb hab e => by
    have := validSchema_step h hb
    rw [stepOk_at hb, Bool.and_eq_true] at this
    have hm : metBefore s b s[b].name = true := by
      unfold metBefore
      rw [List.any_eq_true]
      exact ⟨s[a], List.mem_take_iff_getElem.2 ⟨a, by omega, rfl⟩, by simpa using e⟩
    rw [hm] at this
    exact absurd this.2 (by simp)
  rcases Nat.lt_trichotomy i j with h1 | h1 | h1
  · exact absurd e (key i j hi hj h1)
  · exact h1
  · exact absurd e.symm (key j i hj hi h1)
/-- The reference's test on names is the test on numbers. -/
theorem dup_names {s : List Col} {cs : List Int} (hs : validSchema s = true) (hc : cs.any (colBad s.length) = false) {k : Nat} (hk : k < cs.length) :
    ((cs.take k).map (colAt s)).any (colIs (colAt s cs[k]).name) = dupAt cs k := by
  rw [dupAt_get hk, List.any_map]
  rw [Bool.eq_iff_iff, List.any_eq_true, List.any_eq_true]
  have hin : ∀ i (h : i < cs.length), 0 ≤ cs[i] ∧ cs[i].toNat < s.length := fun i h => by
    rw [List.any_eq_false] at hc
    have := hc _ (List.getElem_mem h)
    simp [colBad] at this
    omega
  constructor
  · rintro ⟨x, hx, hp⟩
    obtain ⟨j, hj, rfl⟩ := List.mem_take_iff_getElem.1 hx
    have hj' : j < cs.length := by omega
    refine ⟨cs[j], List.mem_take_iff_getElem.2 ⟨j, hj, rfl⟩, ?_⟩
    simp only [Function.comp, colIs, decide_eq_true_eq] at hp
    rw [colAt_eq (hin j hj').2, colAt_eq (hin k hk).2] at hp
    have := names_apart hs _ _ hp
    have h1 := (hin j hj').1
    have h2 := (hin k hk).1
    simp only [decide_eq_true_eq]
    omega
  · rintro ⟨x, hx, hp⟩
    refine ⟨x, hx, ?_⟩
    have hp : x = cs[k] := of_decide_eq_true hp
    simp only [Function.comp, colIs, decide_eq_true_eq, hp]

theorem schema_col {m : Mem} {xs : List Col} {a : Option Addr} {n cap : Nat} (h : tSchema.rv m [.slice a n cap] xs) {k : Nat} (hk : k < xs.length) : xs[k].name.size ≤ maxLen ∧ inI64 xs[k].kind := by
  obtain ⟨b, o, rfl, hat⟩ := slice_at h hk
  exact (col_at hat).2.2
theorem Tryd.infoCol : (Tryd.prog.info? 69).map (fun i => (i.zero, i.size, i.bytes)) = some (some (.agg #[.string ⟨#[]⟩, .int .i64 0]), tCol.sz, 24) := by kernel_rfl

set_option maxHeartbeats 400000 in
theorem picked1_any (r : List Col) (c : Int) (b : Nat) (v : Value) (w : World) (hb : w.cell? ⟨b, 0, none⟩ = some v) (hv : tSchema.rv (mem w) [v] r) :
    Calls Tryd.prog 73 #[.int .i64 c, .pointer (some ⟨b, 0, none⟩)] w fun e w' => e = .returned (.bool (colBad r.length c)) ∧ Below w.heap.size w w' := by
  obtain ⟨a, cap, rfl, hl, hm, hv⟩ := slice_form hv
  have hcap : cap ≤ 9223372036854775807 := by unfold maxLen at hm; exact hm
  have HC := Lib.hid (show colBad r.length c = !decide (0 ≤ c ∧ c ≤ (r.length : Int) - 1) from rfl)
  generalize colBad r.length c = z at *
  generalize hq : decide (0 ≤ c ∧ c ≤ (r.length : Int) - 1) = q at HC
  have HQ := Lib.hid hq
  clear hm hq hv
  go_enter Tryd.func73, Tryd.ntmps73
  go_wp2_with fail
  refine (rowWithin_any _ _ _ _).mono ?_
  rintro e w' ⟨rfl, rfl⟩
  rw [HQ.out]
  go_wp2
  go_ret
  exact ⟨by rw [HC.out]; rfl, Below.refl _ _⟩

set_option maxHeartbeats 1000000 in
theorem indexInt_any (c : Int) (xs : List Int) (v : Value) (w : World) (hv : tInts.rv (mem w) [v] xs) :
    Calls Tryd.prog 93 #[v, .int .i64 c] w fun e w' => e = .returned (.int .i64 (idxOf (fun x => decide (x = c)) xs)) ∧ w = w' := by
  obtain ⟨a, cap, rfl, hl, hm, hv⟩ := slice_form hv
  have hcap : cap ≤ 9223372036854775807 := by unfold maxLen at hm; exact hm
  clear hm
  go_enter Tryd.func93, Tryd.ntmps93
  go_wp2
  go_loop [8] (fun i => ∃ k : Nat, k ≤ xs.length ∧ i = .int .i64 k ∧ Hid (∀ x ∈ xs.take k, decide (x = c) = false)) (fun i => xs.length - (intOf i).toNat)
  case atStart => exact ⟨0, by omega, rfl, Lib.hid (by simp)⟩
  case round =>
    obtain ⟨k, hk, rfl, HT⟩ := hrel
    by_cases hlt : k < xs.length
    · obtain ⟨b, o, rfl, c0, hin⟩ := int_cell hv hlt
      have c0 : w.cell? ⟨b, o + k, none⟩ = some (.int .i64 xs[k]) := c0
      have HI := Lib.hid (fun h : decide (xs[k] = c) = true => idxOf_at (p := fun x => decide (x = c)) hlt h HT.out)
      have HN := Lib.hid (fun h : decide (xs[k] = c) = false => mem_take_snoc (q := fun x => decide (x = c) = false) hlt HT.out h)
      clear hv HT
      generalize xs[k] = x at *
      by_cases hx : x = c
      · have HI2 := Lib.hid (HI.out (by simpa using hx))
        have e1 : (c == x) = true := by simp [hx]
        clear hx HI HN
        go_wp2
        go_ret
        exact ⟨by rw [HI2.out]; rfl, rfl⟩
      · have HN2 := Lib.hid (HN.out (by simpa using hx))
        have e1 : (c == x) = false := by simp; exact fun e => hx e.symm
        clear hx HI HN
        go_wp2
        go_round
        case rel => exact ⟨k + 1, by omega, by go_num, HN2⟩
        case measure => simp [intOf]; omega
    · obtain rfl : k = xs.length := by omega
      have HX := Lib.hid (idxOf_none (p := fun x => decide (x = c)) (l := xs) (fun x hx => HT.out x (by rw [List.take_length]; exact hx)))
      go_wp2
      go_ret
      exact ⟨by rw [HX.out]; rfl, rfl⟩
set_option maxHeartbeats 400000 in
theorem containsInt_any (c : Int) (xs : List Int) (v : Value) (w : World) (hv : tInts.rv (mem w) [v] xs) :
    Calls Tryd.prog 74 #[v, .int .i64 c] w fun e w' => e = .returned (.bool (xs.any (fun x => decide (x = c)))) ∧ w = w' := by
  have H := Lib.hid (indexInt_any c xs v w hv)
  have HA := Lib.hid (idxOf_any (fun x => decide (x = c)) xs)
  clear hv
  generalize idxOf (fun x => decide (x = c)) xs = i at H HA
  go_enter Tryd.func74, Tryd.ntmps74
  go_wp2_with fail
  refine H.out.mono ?_
  rintro e w1 ⟨rfl, rfl⟩
  go_wp2
  go_ret
  exact ⟨by rw [← HA.out]; rfl, rfl⟩

set_option maxRecDepth 100000 in
set_option maxHeartbeats 2000000 in
theorem rowPicked_any (r : List Col) (cs : List Int) (v u : Value) (w : World) (hv : tSchema.rv (mem w) [v] r) (hu : tInts.rv (mem w) [u] cs) :
    Calls Tryd.prog 34 #[v, u] w (PickedC r cs w) := by
  have hb0 : ∀ o, Below w.heap.size w (w.alloc o) := fun o => (Below.refl _ _).alloc (Nat.le_refl _) o
  have HV := Lib.hid (fun wr (h : Below w.heap.size w wr) => rowValidSchema_any r v wr (tSchema.mono _ _ _ _ (below_mem h) hv))
  have HC := Lib.hid (fun wr (h : Below w.heap.size w wr) (hc : wr.cell? ⟨w.heap.size, 0, none⟩ = some v) => containsFuncInt 73 #[.pointer (some ⟨w.heap.size, 0, none⟩)] (colBad r.length) cs u wr (tInts.mono _ _ _ _ (below_mem h) hu) (fun _ _ => rfl)
    (fun x _ w2 hb2 => picked1_any r x w.heap.size v w2 (below_mem hb2 _ _ _ hc) (tSchema.mono _ _ _ _ (below_mem (pure_trans h hb2)) hv)))
  have HP := Lib.hid (pickedOf_cases r cs)
  have HIN := Lib.hid (fun (h : cs.any (colBad r.length) = false) k (hk : k < cs.length) => (show 0 ≤ cs[k] ∧ cs[k].toNat < r.length by
    rw [List.any_eq_false] at h
    have := h _ (List.getElem_mem hk)
    simp [colBad] at this
    omega))
  obtain ⟨a1, cap1, rfl, hl1, hm1, hv⟩ := slice_form hv
  have hcap1 : cap1 ≤ 9223372036854775807 := by unfold maxLen at hm1; exact hm1
  obtain ⟨a2, cap2, rfl, hl2, hm2, hu⟩ := slice_form hu
  have hcap2 : cap2 ≤ 9223372036854775807 := by unfold maxLen at hm2; exact hm2
  clear hm1 hm2
  generalize validSchema r = vr at HV HP
  generalize cs.any (colBad r.length) = vc at HC HP HIN
  have hbox := mem_cells_new w #[.slice a1 r.length cap1] 23 (0, 0) 0
  go_enter Tryd.func34, Tryd.ntmps34
  go_wp2_with fail
  refine (HV.out _ (hb0 _)).mono ?_
  rintro e w1 ⟨rfl, hb1⟩
  have hbox : w1.cell? ⟨w.heap.size, 0, none⟩ = some (.slice a1 r.length cap1) := below_mem hb1 _ _ _ hbox
  have hB := pure_trans (hb0 _) hb1
  clear hb1 HV
  cases vr
  · have HQ := Lib.hid (HP.out.1 (by trivial))
    go_wp2
    go_ret2
    exact ⟨_, by rw [HQ.out]; rfl, by rw [HQ.out]; exact slice_nil _ _, hB⟩
  · go_wp2_with fail
    refine (HC.out _ hB hbox).mono ?_
    rintro e w2 ⟨rfl, hb2⟩
    have hbox : w2.cell? ⟨w.heap.size, 0, none⟩ = some (.slice a1 r.length cap1) := below_mem hb2 _ _ _ hbox
    have hB := pure_trans hB hb2
    clear hb2 HC
    cases vc
    · have HIK := Lib.hid (HIN.out (by trivial))
      by_cases h8 : 1 ≤ cs.length ∧ cs.length ≤ 8
      · have HQ6 := Lib.hid (HP.out.2.2.2.1 (by trivial) (by trivial) h8)
        have HQ0 := Lib.hid (HP.out.2.2.2.2 (by trivial) (by trivial) h8)
        have ew : decide ((1 : Int) ≤ (cs.length : Int) ∧ (cs.length : Int) ≤ 8) = true := by simp; omega
        have HW := Lib.hid ew
        obtain ⟨h81, h82⟩ := h8
        clear ew HP
        go_wp2_with (go_at_call 52; refine (rowWithin_any _ _ _ _).mono ?_; rintro e w' ⟨rfl, rfl⟩; rw [HW.out])
        go_loopw [6, 24] (fun ov i wr => ∃ k : Nat, k ≤ cs.length ∧ i = .int .i64 k ∧ Hid (∀ i, i < k → dupAt cs i = false) ∧ Owns tCol wr (w.heap.size + 1) 69 ov ((cs.take k).map (colAt r)) ∧ Below w.heap.size w wr ∧ wr.cell? ⟨w.heap.size, 0, none⟩ = some (.slice a1 r.length cap1)) (fun _ i _ => cs.length - (intOf i).toNat)
        case atStart => exact ⟨0, by omega, rfl, Lib.hid (fun i hi => absurd hi (by omega)), Owns.nil _ _ _ _, hB, hbox⟩
        case round =>
          clear hbox
          obtain ⟨k, hk, rfl, HT, hown, hB, hbox⟩ := hrel
          have hbs : w.heap.size + 1 ≤ wr.heap.size := by have := mem_lt (w := wr) hbox; omega
          by_cases hlt : k < cs.length
          · obtain ⟨hc1, hc2⟩ := HIK.out k hlt
            have hui := tInts.mono _ _ _ _ (below_mem hB) hu
            have HCT := Lib.hid (fun c => containsInt_any c (cs.take k) _ wr (slice_take hui (k := k) (by omega)))
            obtain ⟨b, o, rfl, d0, hin⟩ := int_cell hui hlt
            have d0 : wr.cell? ⟨b, o + k, none⟩ = some (.int .i64 cs[k]) := d0
            obtain ⟨b1, o1, rfl, c0, c1, c2, c3⟩ := schema_cells (tSchema.mono _ _ _ _ (below_mem hB) hv) hc2
            have c0 : wr.cell? ⟨b1, o1 + cs[k].toNat * 2, none⟩ = some (.string r[cs[k].toNat].name) := c0
            have c1 : wr.cell? ⟨b1, o1 + cs[k].toNat * 2 + 1, none⟩ = some (.int .i64 r[cs[k].toNat].kind) := c1
            have HCC := Lib.hid (HCT.out cs[k])
            have HD := Lib.hid (dupAt_get hlt)
            have HDY := Lib.hid (fun h : dupAt cs k = true => HQ6.out (hasDup_at hlt h))
            have HDN := Lib.hid (fun h : dupAt cs k = false => upto_succF (p := dupAt cs) HT.out h)
            have HSN := Lib.hid ((map_snoc (colAt r) hlt).trans (by rw [colAt_eq hc2]))
            have HLEN := Lib.hid (show ((cs.take k).map (colAt r)).length = k by rw [List.length_map, List.length_take]; omega)
            clear hu hv HIN HIK HT HCT hui
            generalize (cs.take k).map (colAt r) = l at hown HSN HLEN
            generalize (cs.take k).any (fun x => decide (x = cs[k])) = q at HCC HD
            generalize dupAt cs k = z at HD HDY HDN
            generalize r[cs[k].toNat] = x at *
            generalize cs[k] = c at *
            obtain ⟨n, rfl⟩ : ∃ n : Nat, c = n := ⟨c.toNat, by omega⟩
            simp only [Int.toNat_natCast] at *
            obtain ⟨xn, xk⟩ := x
            simp only at c0 c1 c2 c3
            cases q
            · have HDN2 := Lib.hid (HDN.out HD.out)
              go_wp2_with (first
                | (go_at_call 74; refine HCC.out.mono ?_; rintro e w' ⟨rfl, rfl⟩)
                | (at_builtin; refine wpList_append_one rfl _ _ 23 rfl tCol Tryd.underlying23 Tryd.infoCol rfl (by decide) (w.heap.size + 1) _ l rfl (hown.alloc _) _ _ ⟨xn, xk⟩ rfl [.string xn, .int .i64 xk] ?c1 ?c2 ?c3 ?c4 ?c5 ?c6 ?_))
              case c1 =>
                intro j u hj
                match j, hj with
                | 0, hj => simp at hj; subst hj; simp [mem]
                | 1, hj => simp at hj; subst hj; simp [mem]
              case c2 => exact ⟨rfl, c2, c3⟩
              case c3 => first | exact ⟨rfl, rfl⟩ | (intro u hu; simp at hu; rcases hu with rfl | rfl <;> rfl)
              case c4 => rw [HLEN.out]; unfold maxLen; omega
              case c5 => rw [HLEN.out]; omega
              case c6 => first | omega | (simp; omega)
              · intro v' w3 hown' hgrow _
                have hB3 : Below w.heap.size w w3 := (hB.alloc hB.size _).grown hgrow (by simp; omega) (fun k hk => by have := (hown.lt k hk).1; omega)
                have hbox3 : w3.cell? ⟨w.heap.size, 0, none⟩ = some (.slice (some ⟨b1, o1, none⟩) r.length cap1) :=
                  (mem_of_block ((hgrow.block _ (by simp; omega) (fun e => by have := (hown.lt _ e.symm).1; omega)).trans (Below.heap_alloc _ _ _ (by omega))) _).trans hbox
                clear hown hgrow hB hbox c0 c1 c2 c3 d0
                go_wp2
                go_roundw
                case rel => exact ⟨k + 1, by omega, by go_num, HDN2, by rw [HSN.out]; exact hown', hB3, hbox3⟩
                case measure => simp [intOf]; omega
            · have HDY2 := Lib.hid (HDY.out HD.out)
              go_wp2_with (go_at_call 74; refine HCC.out.mono ?_; rintro e w' ⟨rfl, rfl⟩)
              go_ret2
              exact ⟨_, by rw [HDY2.out]; rfl, by rw [HDY2.out]; exact slice_nil _ _, hB⟩
          · obtain rfl : k = cs.length := by omega
            rw [List.take_length] at hown
            have HF := Lib.hid (HQ0.out (hasDup_none HT.out))
            obtain ⟨a', cap', rfl, _⟩ := hown.len
            go_wp2
            go_ret2
            refine ⟨_, ?_, by rw [HF.out]; exact hown.rv', hB⟩
            rw [HF.out]
            first | rfl | (rw [List.length_map]; rfl) | (simp only [List.length_map]; rfl)
      · have HQ := Lib.hid (HP.out.2.2.1 (by trivial) (by trivial) h8)
        have ew : decide ((1 : Int) ≤ (cs.length : Int) ∧ (cs.length : Int) ≤ 8) = false := by simp; omega
        have HW := Lib.hid ew
        clear ew h8
        go_wp2_with (go_at_call 52; refine (rowWithin_any _ _ _ _).mono ?_; rintro e w' ⟨rfl, rfl⟩; rw [HW.out])
        go_ret2
        exact ⟨_, by rw [HQ.out]; rfl, by rw [HQ.out]; exact slice_nil _ _, hB⟩
    · have HQ := Lib.hid (HP.out.2.1 (by trivial) (by trivial))
      go_wp2
      go_ret2
      exact ⟨_, by rw [HQ.out]; rfl, by rw [HQ.out]; exact slice_nil _ _, hB⟩
end Go.Proofs.YtkldimaoafgolaaDoor
