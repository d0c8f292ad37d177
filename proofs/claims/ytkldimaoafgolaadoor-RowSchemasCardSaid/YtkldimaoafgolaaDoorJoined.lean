/- row.Joined. -/
import Derived.Test.YtkldimaoafgolaaDoorClone
namespace Go.Proofs.YtkldimaoafgolaaDoor
open Go.RowKit Go.Maps

def joinCol (p : ByteArray) (c : Col) : Col := ⟨p ++ ⟨#[95]⟩ ++ c.name, c.kind⟩
def tooLong (p : ByteArray) (b : List Col) : Bool := b.any (fun c => decide (16 < (joinCol p c).name.size))
def joinedOf (a b : List Col) (p : ByteArray) : List Col × Int :=
  if validSchema a = true ∧ validSchema b = true ∧ isName p = true then
    (if tooLong p b = true ∨ 8 < a.length + b.length then ([], 4) else if validSchema (a ++ b.map (joinCol p)) = true then (a ++ b.map (joinCol p), 0) else ([], 6)) else ([], 1)
theorem joinedOf_bad {a b : List Col} {p : ByteArray} (h : validSchema a = false ∨ validSchema b = false ∨ isName p = false) : joinedOf a b p = ([], 1) := by
  unfold joinedOf
  rw [if_neg]
  rintro ⟨h1, h2, h3⟩
  rcases h with h | h | h
  · rw [h1] at h; cases h
  · rw [h2] at h; cases h
  · rw [h3] at h; cases h
theorem joinedOf_long {a b : List Col} {p : ByteArray} (h1 : validSchema a = true) (h2 : validSchema b = true) (h3 : isName p = true) (h : tooLong p b = true ∨ 8 < a.length + b.length) : joinedOf a b p = ([], 4) := by
  unfold joinedOf
  rw [if_pos ⟨h1, h2, h3⟩, if_pos h]
theorem joinedOf_dup {a b : List Col} {p : ByteArray} (h1 : validSchema a = true) (h2 : validSchema b = true) (h3 : isName p = true) (h : tooLong p b = false) (h4 : ¬ 8 < a.length + b.length) (h5 : validSchema (a ++ b.map (joinCol p)) = false) : joinedOf a b p = ([], 6) := by
  unfold joinedOf
  rw [if_pos ⟨h1, h2, h3⟩, if_neg (by rw [h]; rintro (h | h); cases h; exact h4 h), if_neg (by rw [h5]; exact Bool.false_ne_true)]
theorem joinedOf_ok {a b : List Col} {p : ByteArray} (h1 : validSchema a = true) (h2 : validSchema b = true) (h3 : isName p = true) (h : tooLong p b = false) (h4 : ¬ 8 < a.length + b.length) (h5 : validSchema (a ++ b.map (joinCol p)) = true) : joinedOf a b p = (a ++ b.map (joinCol p), 0) := by
  unfold joinedOf
  rw [if_pos ⟨h1, h2, h3⟩, if_neg (by rw [h]; rintro (h | h); cases h; exact h4 h), if_pos h5]
def JoinedC (a b : List Col) (p : ByteArray) (w : World) (e : Ending) (w' : World) : Prop :=
  ∃ v, e = .returned (.tuple #[v, .int .i64 (joinedOf a b p).2]) ∧ tSchema.rv (mem w') [v] (joinedOf a b p).1 ∧ Below w.heap.size w w'
theorem tooLong_at {p : ByteArray} {b : List Col} {k : Nat} (hk : k < b.length) (h : 16 < (joinCol p b[k]).name.size) : tooLong p b = true := List.any_eq_true.2 ⟨_, List.getElem_mem hk, by simpa using h⟩
theorem tooLong_none {p : ByteArray} {b : List Col} (h : ∀ i (hi : i < b.length), (joinCol p b[i]).name.size ≤ 16) : tooLong p b = false := by
  unfold tooLong
  rw [List.any_eq_false]
  intro c hc
  obtain ⟨i, hi, rfl⟩ := List.getElem_of_mem hc
  have := h i hi
  simp; omega
theorem uptoB {b : List Col} {q : Nat → Prop} {k : Nat} (h : ∀ i, i < k → q i) (hk : q k) : ∀ i, i < k + 1 → q i := fun i hi => by
  by_cases e : i = k
  · subst e; exact hk
  · exact h i (by omega)

theorem schema_small {s : List Col} (h : validSchema s = true) {k : Nat} (hk : k < s.length) : s[k].name.size ≤ 16 := by
  have := validSchema_step h hk
  rw [stepOk_at hk, Bool.and_eq_true, Bool.and_eq_true] at this
  exact (isName_size this.1.1).2

set_option maxRecDepth 100000 in
set_option maxHeartbeats 2000000 in
theorem rowJoined_any (a b : List Col) (p : ByteArray) (v u : Value) (w : World) (hv : tSchema.rv (mem w) [v] a) (hu : tSchema.rv (mem w) [u] b) (hp : p.size ≤ maxLen) :
    Calls Tryd.prog 37 #[v, u, .string p] w (JoinedC a b p w) := by
  have HV := Lib.hid (rowValidSchema_any a v w hv)
  have HW := Lib.hid (fun wr (h : Below w.heap.size w wr) => rowValidSchema_any b u wr (tSchema.mono _ _ _ _ (below_mem h) hu))
  have HNp := Lib.hid (fun wr => rowName_any p wr hp)
  have HCl := Lib.hid (fun wr (h : Below w.heap.size w wr) h8 => cloneSchema_any a v wr (tSchema.mono _ _ _ _ (below_mem h) hv) h8)
  have HVO := Lib.hid (fun xs v wr h => rowValidSchema_any xs v wr h)
  obtain ⟨a1, cap1, rfl, hl1, hm1, hv⟩ := slice_form hv
  have hcap1 : cap1 ≤ 9223372036854775807 := by unfold maxLen at hm1; exact hm1
  obtain ⟨a2, cap2, rfl, hl2, hm2, hu⟩ := slice_form hu
  have hcap2 : cap2 ≤ 9223372036854775807 := by unfold maxLen at hm2; exact hm2
  clear hm1 hm2 hv
  cases h1 : validSchema a
  · have HR := Lib.hid (joinedOf_bad (b := b) (p := p) (.inl h1))
    rw [h1] at HV
    clear h1 hu
    go_enter Tryd.func37, Tryd.ntmps37
    go_wp2_with fail
    refine HV.out.mono ?_
    rintro e w1 ⟨rfl, hB⟩
    go_wp2
    go_ret2
    exact ⟨_, by rw [HR.out]; rfl, by rw [HR.out]; exact slice_nil _ _, hB⟩
  rw [h1] at HV
  cases h2 : validSchema b
  · have HR := Lib.hid (joinedOf_bad (a := a) (p := p) (.inr (.inl h2)))
    rw [h2] at HW
    clear h1 h2 hu
    go_enter Tryd.func37, Tryd.ntmps37
    go_wp2_with fail
    refine HV.out.mono ?_
    rintro e w1 ⟨rfl, hB⟩
    go_wp2_with fail
    refine (HW.out _ hB).mono ?_
    rintro e w2 ⟨rfl, hB2⟩
    have hB2 := pure_trans hB hB2
    go_wp2
    go_ret2
    exact ⟨_, by rw [HR.out]; rfl, by rw [HR.out]; exact slice_nil _ _, hB2⟩
  rw [h2] at HW
  cases h3 : isName p
  · have HR := Lib.hid (joinedOf_bad (a := a) (b := b) (.inr (.inr h3)))
    rw [h3] at HNp
    clear h1 h2 h3 hu
    go_enter Tryd.func37, Tryd.ntmps37
    go_wp2_with fail
    refine HV.out.mono ?_
    rintro e w1 ⟨rfl, hB⟩
    go_wp2_with fail
    refine (HW.out _ hB).mono ?_
    rintro e w2 ⟨rfl, hB2⟩
    have hB2 := pure_trans hB hB2
    go_wp2_with (go_at_call 17; refine (HNp.out _).mono ?_; rintro e w' ⟨rfl, rfl⟩)
    go_ret2
    exact ⟨_, by rw [HR.out]; rfl, by rw [HR.out]; exact slice_nil _ _, hB2⟩
  rw [h3] at HNp
  have HL := Lib.hid (fun h => joinedOf_long h1 h2 h3 h)
  have HD := Lib.hid (fun h h4 h5 => joinedOf_dup h1 h2 h3 h h4 h5)
  have HK := Lib.hid (fun h h4 h5 => joinedOf_ok h1 h2 h3 h h4 h5)
  have HBN := Lib.hid (fun k (hk : k < b.length) => schema_small h2 hk)
  obtain ⟨la1, la2⟩ := validSchema_len h1
  obtain ⟨lb1, lb2⟩ := validSchema_len h2
  obtain ⟨lp1, lp2⟩ := isName_size h3
  clear h1 h2 h3 hp
  go_enter Tryd.func37, Tryd.ntmps37
  go_wp2_with fail
  refine HV.out.mono ?_
  rintro e w1 ⟨rfl, hB⟩
  go_wp2_with fail
  refine (HW.out _ hB).mono ?_
  rintro e w2 ⟨rfl, hB2⟩
  have hB2 := pure_trans hB hB2
  go_wp2_with (first | (go_at_call 17; refine (HNp.out _).mono ?_; rintro e w' ⟨rfl, rfl⟩) | fail)
  refine (HCl.out _ hB2 (by omega)).mono ?_
  rintro e w3 ⟨x, rfl, hown, hb3⟩
  have hB3 := pure_trans hB2 hb3
  have hown : Owns tCol w3 w.heap.size 69 x (a ++ (b.take 0).map (joinCol p)) := by
    rw [List.take_zero, List.map_nil, List.append_nil]
    obtain ⟨css, g1, ⟨g2, g3⟩, g4, g5⟩ := hown
    exact ⟨css, g1, ⟨g2, g3.imp id (fun ⟨g, cap, cur, h1, h2, h3⟩ => ⟨g, cap, cur, h1, Nat.le_trans hB2.size h2, h3⟩)⟩, g4, g5⟩
  clear HV HW HNp HCl hB hB2 hb3
  go_wp2
  go_loopw [8, 28] (fun ov i wr => ∃ k : Nat, k ≤ b.length ∧ i = .int .i64 k ∧ Hid (∀ i, i < k → ∀ hi : i < b.length, (joinCol p b[i]).name.size ≤ 16) ∧ Owns tCol wr w.heap.size 69 ov (a ++ (b.take k).map (joinCol p)) ∧ Below w.heap.size w wr) (fun _ i _ => b.length - (intOf i).toNat)
  case atStart => exact ⟨0, by omega, rfl, Lib.hid (fun i hi => absurd hi (by omega)), hown, hB3⟩
  case round =>
    clear hown hB3
    obtain ⟨k, hk, rfl, HT, hown, hB⟩ := hrel
    have hbs : w.heap.size ≤ wr.heap.size := hB.size
    by_cases hlt : k < b.length
    · obtain ⟨b1, o1, rfl, c0, c1, c2, c3⟩ := schema_cells (tSchema.mono _ _ _ _ (below_mem hB) hu) hlt
      have c0 : wr.cell? ⟨b1, o1 + k * 2, none⟩ = some (.string b[k].name) := c0
      have c1 : wr.cell? ⟨b1, o1 + k * 2 + 1, none⟩ = some (.int .i64 b[k].kind) := c1
      have HTL := Lib.hid (fun h => HL.out (.inl (tooLong_at hlt h)))
      have HTN := Lib.hid (fun (h : (joinCol p b[k]).name.size ≤ 16) => uptoB (b := b) (q := fun i => ∀ hi : i < b.length, (joinCol p b[i]).name.size ≤ 16) HT.out (fun _ => h))
      have HSN := Lib.hid (show a ++ (b.take (k + 1)).map (joinCol p) = (a ++ (b.take k).map (joinCol p)) ++ [joinCol p b[k]] by rw [map_snoc (joinCol p) hlt, List.append_assoc])
      have HLEN := Lib.hid (show (a ++ (b.take k).map (joinCol p)).length = a.length + k by rw [List.length_append, List.length_map, List.length_take]; omega)
      have hxs := HBN.out k hlt
      clear hu HT HBN
      generalize (a ++ (b.take k).map (joinCol p)) = l at hown HSN HLEN
      generalize b[k] = x at *
      obtain ⟨xn, xk⟩ := x
      simp only at c0 c1 c2 c3 hxs
      have hsz : (p ++ ⟨#[95]⟩ ++ xn).size = p.size + 1 + xn.size := by simp; rfl
      have HSZ := Lib.hid (show (joinCol p ⟨xn, xk⟩).name.size = p.size + 1 + xn.size from hsz)
      have HJ := Lib.hid (show joinCol p ⟨xn, xk⟩ = ⟨p ++ ⟨#[95]⟩ ++ xn, xk⟩ from rfl)
      generalize joinCol p ⟨xn, xk⟩ = jc at HTL HTN HSN HSZ HJ
      have hno : ¬ 9223372036854775807 < p.size + 1 + xn.size := by omega
      by_cases hbig : 16 < p.size + 1 + xn.size
      · have HQ := Lib.hid (HTL.out (by rw [HSZ.out]; exact hbig))
        go_wp2
        go_ret2
        exact ⟨_, by rw [HQ.out]; rfl, by rw [HQ.out]; exact slice_nil _ _, hB.alloc hB.size _⟩
      · have HTN2 := Lib.hid (HTN.out (by rw [HSZ.out]; omega))
        go_wp2_with (at_builtin; refine wpList_append_one rfl _ _ 23 rfl tCol Tryd.underlying23 Tryd.infoCol rfl (by decide) w.heap.size _ l rfl ((hown.alloc _).alloc _) _ _ ⟨p ++ ⟨#[95]⟩ ++ xn, xk⟩ rfl [.string (p ++ ⟨#[95]⟩ ++ xn), .int .i64 xk] ?c1 ?c2 ?c3 ?c4 ?c5 ?c6 ?_)
        case c1 =>
          intro j u hj
          match j, hj with
          | 0, hj => simp at hj; subst hj; simp [mem]
          | 1, hj => simp at hj; subst hj; simp [mem]
        case c2 => exact ⟨rfl, by unfold maxLen; show (p ++ ⟨#[95]⟩ ++ xn).size ≤ _; omega, c3⟩
        case c3 => first | exact ⟨rfl, rfl⟩ | (intro u hu; simp at hu; rcases hu with rfl | rfl <;> rfl)
        case c4 => rw [HLEN.out]; unfold maxLen; omega
        case c5 => rw [HLEN.out]; omega
        case c6 => first | omega | (simp; omega)
        · intro v' w4 hown' hgrow _
          have hB4 : Below w.heap.size w w4 := ((hB.alloc hB.size _).alloc (by simp; omega) _).grown hgrow (by simp; omega) (fun k hk => (hown.lt k hk).1)
          clear hown hgrow hB c0 c1 c2 c3
          go_wp2
          go_roundw
          case rel => exact ⟨k + 1, by omega, by go_num, HTN2, by rw [HSN.out, HJ.out]; exact hown', hB4⟩
          case measure => simp [intOf]; omega
    · obtain rfl : k = b.length := by omega
      rw [List.take_length] at hown
      have HNL := Lib.hid (tooLong_none (p := p) (b := b) (fun i hi => HT.out i hi hi))
      have hlen : (a ++ b.map (joinCol p)).length = a.length + b.length := by simp
      have HLN := Lib.hid hlen
      have HVV := Lib.hid (fun ov (wr : World) (h : tSchema.rv (mem wr) [ov] (a ++ b.map (joinCol p))) => rowValidSchema_any _ ov wr h)
      clear hlen HVO hu
      generalize a ++ b.map (joinCol p) = out at hown HLN HVV HD HK
      have hor := hown.rv'
      obtain ⟨oa, oc, rfl, ho1, ho2, hor⟩ := slice_form hor
      have hoc : oc ≤ 9223372036854775807 := by unfold maxLen at ho2; exact ho2
      have HVV2 := Lib.hid (HVV.out _ _ hor)
      have HOR := Lib.hid hor
      clear HVV hown hor ho2
      by_cases h8 : 8 < a.length + b.length
      · have HQ := Lib.hid (HL.out (.inr h8))
        have h8o : 8 < out.length := by rw [HLN.out]; exact h8
        go_wp2
        go_ret2
        exact ⟨_, by rw [HQ.out]; rfl, by rw [HQ.out]; exact slice_nil _ _, hB⟩
      · have h8o : ¬ 8 < out.length := by rw [HLN.out]; exact h8
        have HD2 := Lib.hid (HD.out HNL.out h8)
        have HK2 := Lib.hid (HK.out HNL.out h8)
        clear HD HK HL h8
        generalize validSchema out = q at HVV2 HD2 HK2
        go_wp2_with fail
        refine HVV2.out.mono ?_
        rintro e w4 ⟨rfl, hb4⟩
        have hB4 := pure_trans hB hb4
        cases q
        · have HQ := Lib.hid (HD2.out (by trivial))
          go_wp2
          go_ret2
          exact ⟨_, by rw [HQ.out]; rfl, by rw [HQ.out]; exact slice_nil _ _, hB4⟩
        · have HQ := Lib.hid (HK2.out (by trivial))
          have HR := Lib.hid (tSchema.mono _ _ _ _ (below_mem hb4) HOR.out)
          clear hb4
          go_wp2
          go_ret2
          exact ⟨_, by rw [HQ.out]; rfl, by rw [HQ.out]; exact HR.out, hB4⟩
end Go.Proofs.YtkldimaoafgolaaDoor
