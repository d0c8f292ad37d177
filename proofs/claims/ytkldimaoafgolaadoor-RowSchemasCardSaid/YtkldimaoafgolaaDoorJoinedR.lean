/- Joined of the reference. -/
import Derived.Test.YtkldimaoafgolaaDoorJoined
import Derived.Test.YtkldimaoafgolaaDoorStep
namespace Go.Proofs.YtkldimaoafgolaaDoor
open Go.RowKit Go.Maps

set_option maxRecDepth 100000 in
set_option maxHeartbeats 2000000 in
theorem refJoined_any (a b : List Col) (p : ByteArray) (v u : Value) (w : World) (hv : tSchema.rv (mem w) [v] a) (hu : tSchema.rv (mem w) [u] b) (hp : p.size ≤ maxLen) :
    Calls Tryd.prog 38 #[v, u, .string p] w (JoinedC a b p w) := by
  have HV := Lib.hid (refValidSchema_any a v w hv)
  have HW := Lib.hid (fun wr (h : Below w.heap.size w wr) => refValidSchema_any b u wr (tSchema.mono _ _ _ _ (below_mem h) hu))
  have HNp := Lib.hid (fun wr => refName_any p wr hp)
  have HAv := Lib.hid (fun wr (h : Below w.heap.size w wr) => tSchema.mono _ _ _ _ (below_mem h) hv)
  have hown0 : ∀ (wx : World) T, T = 69 → w.heap.size ≤ wx.heap.size → Owns tCol (wx.alloc (.cells #[] T)) w.heap.size 69 (.slice (some ⟨wx.heap.size, 0, none⟩) 0 0) [] := fun wx T hT hle => by
    subst hT
    exact ⟨[], rfl, World.ownsRow_lit wx #[] 0 hle (Nat.zero_le _) (by simp), fun c h => absurd h (by simp), fun k h => absurd h (by simp)⟩
  have HVO := Lib.hid (fun xs v wr h => refValidSchema_any xs v wr h)
  obtain ⟨a1, cap1, rfl, hl1, hm1, hv⟩ := slice_form hv
  have hcap1 : cap1 ≤ 9223372036854775807 := by unfold maxLen at hm1; exact hm1
  obtain ⟨a2, cap2, rfl, hl2, hm2, hu⟩ := slice_form hu
  have hcap2 : cap2 ≤ 9223372036854775807 := by unfold maxLen at hm2; exact hm2
  clear hm1 hm2 hv
  cases h1 : validSchema a
  · have HR := Lib.hid (joinedOf_bad (b := b) (p := p) (.inl h1))
    rw [h1] at HV
    clear h1 hu hown0
    go_enter Tryd.func38, Tryd.ntmps38
    go_wp2_with fail
    refine HV.out.mono ?_
    rintro e w1 ⟨rfl, hB⟩
    go_wp2
    go_ret2
    exact ⟨_, by rw [HR.out]; rfl, by rw [HR.out]; exact slice_nil _ _, hB⟩
  rw [h1] at HV
  cases h2 : validSchema b
  · have HR := Lib.hid (joinedOf_bad (a := a) (p := p) (.inr (.inl h2)))
    rw [h2] at HW
    clear h1 h2 hu hown0
    go_enter Tryd.func38, Tryd.ntmps38
    go_wp2_with fail
    refine HV.out.mono ?_
    rintro e w1 ⟨rfl, hB⟩
    go_wp2_with fail
    refine (HW.out _ hB).mono ?_
    rintro e w2 ⟨rfl, hB2⟩
    have hB2 := pure_trans hB hB2
    go_wp2
    go_ret2
    exact ⟨_, by rw [HR.out]; rfl, by rw [HR.out]; exact slice_nil _ _, hB2⟩
  rw [h2] at HW
  cases h3 : isName p
  · have HR := Lib.hid (joinedOf_bad (a := a) (b := b) (.inr (.inr h3)))
    rw [h3] at HNp
    clear h1 h2 h3 hu hown0
    go_enter Tryd.func38, Tryd.ntmps38
    go_wp2_with fail
    refine HV.out.mono ?_
    rintro e w1 ⟨rfl, hB⟩
    go_wp2_with fail
    refine (HW.out _ hB).mono ?_
    rintro e w2 ⟨rfl, hB2⟩
    have hB2 := pure_trans hB hB2
    go_wp2_with (go_at_call 18; refine (HNp.out _).mono ?_; rintro e w' ⟨rfl, rfl⟩)
    go_ret2
    exact ⟨_, by rw [HR.out]; rfl, by rw [HR.out]; exact slice_nil _ _, hB2⟩
  rw [h3] at HNp
  have HL := Lib.hid (fun h => joinedOf_long h1 h2 h3 h)
  have HD := Lib.hid (fun h h4 h5 => joinedOf_dup h1 h2 h3 h h4 h5)
  have HK := Lib.hid (fun h h4 h5 => joinedOf_ok h1 h2 h3 h h4 h5)
  have HAN := Lib.hid (fun k (hk : k < a.length) => schema_small h1 hk)
  have HBN := Lib.hid (fun k (hk : k < b.length) => schema_small h2 hk)
  obtain ⟨la1, la2⟩ := validSchema_len h1
  obtain ⟨lb1, lb2⟩ := validSchema_len h2
  obtain ⟨lp1, lp2⟩ := isName_size h3
  have HO0 := Lib.hid hown0
  clear h1 h2 h3 hp hown0
  go_enter Tryd.func38, Tryd.ntmps38
  go_wp2_with fail
  refine HV.out.mono ?_
  rintro e w1 ⟨rfl, hB⟩
  go_wp2_with fail
  refine (HW.out _ hB).mono ?_
  rintro e w2 ⟨rfl, hB2⟩
  have hB2 := pure_trans hB hB2
  have hs2 : w.heap.size ≤ w2.heap.size := hB2.size
  clear hB
  by_cases h8 : 8 < a.length + b.length
  · have HQ := Lib.hid (HL.out (.inr h8))
    go_wp2_with (go_at_call 18; refine (HNp.out _).mono ?_; rintro e w' ⟨rfl, rfl⟩)
    go_ret2
    exact ⟨_, by rw [HQ.out]; rfl, by rw [HQ.out]; exact slice_nil _ _, hB2⟩
  have H8 := Lib.hid h8
  have HAL := Lib.hid (HAv.out _ (hB2.alloc hs2 (.cells #[] 69)))
  have HO1 := Lib.hid (HO0.out w2 _ rfl hs2)
  clear HO0 HAv
  go_wp2_with (first
    | (go_at_call 18; refine (HNp.out _).mono ?_; rintro e w' ⟨rfl, rfl⟩)
    | (at_builtin; refine wpList_append_flat rfl _ _ 23 rfl tCol_flat tCol_one Tryd.underlying23 Tryd.infoCol rfl (by decide) w.heap.size _ [] a rfl HO1.out _ _ _ rfl rfl HAL.out ?c1 ?c2 ?c3 ?_))
  case c1 => simp; unfold maxLen; omega
  case c2 => simp; omega
  case c3 => simp; omega
  intro x w3 hown hgrow
  have hB3 : Below w.heap.size w w3 := (hB2.alloc hs2 _).grown hgrow (by simp; omega) (fun k hk => by simp [Value.ownBlock] at hk; omega)
  have hown : Owns tCol w3 w.heap.size 69 x (a ++ (b.take 0).map (joinCol p)) := by
    rw [List.take_zero, List.map_nil, List.append_nil]
    exact hown
  clear HV HW HNp hB2 hgrow HAL HO1 hs2
  go_wp2
  go_loopw [8, 9] (fun ov i wr => ∃ k : Nat, k ≤ b.length ∧ i = .int .i64 k ∧ Owns tCol wr w.heap.size 69 ov (a ++ (b.take k).map (joinCol p)) ∧ Below w.heap.size w wr) (fun _ i _ => b.length - (intOf i).toNat)
  case atStart => exact ⟨0, by omega, rfl, hown, hB3⟩
  case round =>
    clear hown hB3
    obtain ⟨k, hk, rfl, hown, hB⟩ := hrel
    have hbs : w.heap.size ≤ wr.heap.size := hB.size
    by_cases hlt : k < b.length
    · obtain ⟨b1, o1, rfl, c0, c1, c2, c3⟩ := schema_cells (tSchema.mono _ _ _ _ (below_mem hB) hu) hlt
      have c0 : wr.cell? ⟨b1, o1 + k * 2, none⟩ = some (.string b[k].name) := c0
      have c1 : wr.cell? ⟨b1, o1 + k * 2 + 1, none⟩ = some (.int .i64 b[k].kind) := c1
      have HSN := Lib.hid (show a ++ (b.take (k + 1)).map (joinCol p) = (a ++ (b.take k).map (joinCol p)) ++ [joinCol p b[k]] by rw [map_snoc (joinCol p) hlt, List.append_assoc])
      have HLEN := Lib.hid (show (a ++ (b.take k).map (joinCol p)).length = a.length + k by rw [List.length_append, List.length_map, List.length_take]; omega)
      have hxs := HBN.out k hlt
      clear hu HBN
      generalize (a ++ (b.take k).map (joinCol p)) = l at hown HSN HLEN
      generalize b[k] = x at *
      obtain ⟨xn, xk⟩ := x
      simp only at c0 c1 c2 c3 hxs
      have hsz : (p ++ ⟨#[95]⟩ ++ xn).size = p.size + 1 + xn.size := by simp; rfl
      have HJ := Lib.hid (show joinCol p ⟨xn, xk⟩ = ⟨p ++ ⟨#[95]⟩ ++ xn, xk⟩ from rfl)
      generalize joinCol p ⟨xn, xk⟩ = jc at HSN HJ
      have hno : ¬ 9223372036854775807 < p.size + 1 + xn.size := by omega
      have hno1 : ¬ 9223372036854775807 < p.size + 1 := by omega
      have d0 : wr.drew.cell? ⟨b1, o1 + k * 2, none⟩ = some (.string xn) := c0
      have d1 : wr.drew.cell? ⟨b1, o1 + k * 2 + 1, none⟩ = some (.int .i64 xk) := c1
      have hownd := hown.drew
      have hBd := hB.drew
      have hbd : w.heap.size ≤ wr.drew.heap.size := hbs
      clear hown hB
      go_wp2_with fail
      go_region_law ((refine step_append_one rfl (.tmp 39) (.tmp 54) 23 rfl tCol Tryd.underlying23 Tryd.infoCol rfl (by decide) w.heap.size _ l rfl (hownd.alloc _) _ _ ⟨p ++ ⟨#[95]⟩ ++ xn, xk⟩ rfl [.string (p ++ ⟨#[95]⟩ ++ xn), .int .i64 xk] (fun j u hj => by
          match j, hj with
          | 0, hj => simp at hj; subst hj; simp [mem]
          | 1, hj => simp at hj; subst hj; simp [mem]) ⟨rfl, by unfold maxLen; show (p ++ ⟨#[95]⟩ ++ xn).size ≤ _; omega, c3⟩ (by intro u hu; simp at hu; rcases hu with rfl | rfl <;> rfl) (by rw [HLEN.out]; unfold maxLen; omega) (by rw [HLEN.out]; omega) (by simp; omega) ?_; intro v' w5 hown' hgrow _))
      all_goals
        have hB5 : Below w.heap.size w w5 := (hBd.alloc hbd _).grown hgrow (by simp; omega) (fun k hk => (hownd.lt k hk).1)
        clear hownd hgrow hBd c2 c3
        go_wp2
        go_roundw
        case rel => exact ⟨k + 1, by omega, by go_num, by rw [HSN.out, HJ.out]; exact hown', hB5⟩
        case measure => simp [intOf]; omega
    · obtain rfl : k = b.length := by omega
      rw [List.take_length] at hown
      have hlen : (a ++ b.map (joinCol p)).length = a.length + b.length := by simp
      have HLN := Lib.hid hlen
      have HVV := Lib.hid (fun ov (wr : World) (h : tSchema.rv (mem wr) [ov] (a ++ b.map (joinCol p))) => refValidSchema_any _ ov wr h)
      have HTY := Lib.hid (fun k (hk : k < (a ++ b.map (joinCol p)).length) (h : 16 < (a ++ b.map (joinCol p))[k].name.size) => (show tooLong p b = true by
        by_cases hka : k < a.length
        · rw [List.getElem_append_left hka] at h
          have := HAN.out k hka
          omega
        · rw [List.getElem_append_right (by omega), List.getElem_map] at h
          exact tooLong_at (by rw [hlen] at hk; omega) h))
      have HTN := Lib.hid (fun (h : ∀ i (hi : i < (a ++ b.map (joinCol p)).length), (a ++ b.map (joinCol p))[i].name.size ≤ 16) => (show tooLong p b = false from tooLong_none (fun i hi => by
        have := h (a.length + i) (by rw [hlen]; omega)
        rw [List.getElem_append_right (by omega), List.getElem_map] at this
        simpa using this)))
      clear hlen HVO hu HAN HBN
      generalize a ++ b.map (joinCol p) = out at hown HLN HVV HD HK HTY HTN
      have hor := hown.rv'
      obtain ⟨oa, oc, rfl, ho1, ho2, hor⟩ := slice_form hor
      have hoc : oc ≤ 9223372036854775807 := by unfold maxLen at ho2; exact ho2
      have hol : out.length ≤ 9223372036854775807 := by omega
      have HVV2 := Lib.hid (HVV.out _ _ hor)
      have HOR := Lib.hid hor
      clear HVV hown ho2
      go_wp2
      go_loop [10] (fun i => ∃ k : Nat, k ≤ out.length ∧ i = .int .i64 k ∧ Hid (∀ i, i < k → ∀ hi : i < out.length, out[i].name.size ≤ 16)) (fun i => out.length - (intOf i).toNat)
      case atStart => exact ⟨0, by omega, rfl, Lib.hid (fun i hi => absurd hi (by omega))⟩
      case round =>
        clear hlt hk
        obtain ⟨k, hk, rfl, HT⟩ := hrel
        by_cases hlt : k < out.length
        · obtain ⟨b1, o1, rfl, c0, c1, c2, c3⟩ := schema_cells hor hlt
          have c0 : wr.cell? ⟨b1, o1 + k * 2, none⟩ = some (.string out[k].name) := c0
          have HY := Lib.hid (fun h => HL.out (.inl (HTY.out k hlt h)))
          have HN := Lib.hid (fun (h : out[k].name.size ≤ 16) => uptoB (b := out) (q := fun i => ∀ hi : i < out.length, out[i].name.size ≤ 16) HT.out (fun _ => h))
          clear c1 c3 HT hor hu
          unfold maxLen at c2
          generalize out[k].name = xn at *
          by_cases hbig : 16 < xn.size
          · have HQ := Lib.hid (HY.out hbig)
            go_wp2
            go_ret2
            exact ⟨_, by rw [HQ.out]; rfl, by rw [HQ.out]; exact slice_nil _ _, hB⟩
          · have HN2 := Lib.hid (HN.out (by omega))
            go_wp2
            go_round
            case rel => exact ⟨k + 1, by omega, by go_num, HN2⟩
            case measure => simp [intOf]; omega
        · obtain rfl : k = out.length := by omega
          have HNL := Lib.hid (HTN.out (fun i hi => HT.out i hi hi))
          have HD2 := Lib.hid (HD.out HNL.out H8.out)
          have HK2 := Lib.hid (HK.out HNL.out H8.out)
          clear HD HK HL HT hor hu
          generalize validSchema out = q at HVV2 HD2 HK2
          go_wp2_with fail
          refine HVV2.out.mono ?_
          rintro e w4 ⟨rfl, hb4⟩
          have hB4 := pure_trans hB hb4
          cases q
          · have HQ := Lib.hid (HD2.out (by trivial))
            go_wp2
            go_ret2
            exact ⟨_, by rw [HQ.out]; rfl, by rw [HQ.out]; exact slice_nil _ _, hB4⟩
          · have HQ := Lib.hid (HK2.out (by trivial))
            have HR := Lib.hid (tSchema.mono _ _ _ _ (below_mem hb4) HOR.out)
            clear hb4
            go_wp2
            go_ret2
            exact ⟨_, by rw [HQ.out]; rfl, by rw [HQ.out]; exact HR.out, hB4⟩
end Go.Proofs.YtkldimaoafgolaaDoor
