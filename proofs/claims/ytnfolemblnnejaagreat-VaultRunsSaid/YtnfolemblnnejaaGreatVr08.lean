/- Part 8 of the texts that the law's proof stands on, merged. -/
import Derived.Shelf.SlSortCmp.WholeK
import Derived.Ground.SlsfProg
import Derived.Test.YtnfolemblnnejaaGreatProg
import Derived.Deep.RegionHeld3
import Derived.Shelf.SlSortCmp.NoneTotal
import Derived.BigQuiet
import Derived.Test.YtnfolemblnnejaaGreatVr07
set_option linter.unusedVariables false
set_option linter.unusedSimpArgs false
/- package vault: Missing. -/
namespace Go.Proofs.YtnfolemblnnejaaGreat
open Go.RowKit Go.Maps

/-- What Missing answers. -/
def missAns (o : Option Sn) : List Int × Int := match o with | none => ([], 8) | some t => (missOf t.bits, 0)
theorem missTo_le (bs : List Bool) (j : Nat) : (missTo bs j).length ≤ j := by
  unfold missTo
  rw [List.length_map]
  exact Nat.le_trans (List.length_filter_le _ _) (by rw [List.length_range]; omega)
set_option maxRecDepth 100000 in
set_option maxHeartbeats 8000000 in
theorem vMissing_any {base p : Nat} {r : HV} (k : Int) (w : World) (hI : VInv w base p r) (hk : inI64 k) :
    Calls Tryz.prog 26 #[ptrTo p, .int .i64 k] w fun e w' => ∃ a cap, e = .returned (.tuple #[.slice a (missAns (r.vs.find k)).1.length cap, .int .i64 (missAns (r.vs.find k)).2]) ∧ Owns tInt w' w.heap.size 3 (.slice a (missAns (r.vs.find k)).1.length cap) (missAns (r.vs.find k)).1 ∧ Below w.heap.size w w' := by
  have c3 : w.cell? ⟨p, 3, none⟩ = some (.map (some r.mb)) := mem_cells hI.hb 3
  cases hf : r.vs.find k with
  | none =>
    have hlk := hI.look_none hk hf
    have HT := Lib.hid (show missAns none = ([], 8) from rfl)
    generalize missAns none = A at *
    obtain rfl := HT.out
    clear hI hf
    go_enter Tryz.func26, Tryz.ntmps26
    go_wp2
    go_ret2
    exact ⟨none, 0, rfl, Owns.nil _ _ _ _, Below.refl _ _⟩
  | some t =>
    have hlk := hI.look_some hf
    have hm := find_mem hf
    have hta := (hI.ok.tk _ hm).2.1
    simp only at hta
    have HT := Lib.hid (show missAns (some t) = (missTo t.bits t.told.length, 0) from by unfold missAns; simp only; rw [← (show t.bits.length = t.told.length from by unfold Sn.bits; simp)]; rfl)
    generalize missAns (some t) = A at *
    obtain rfl := HT.out
    have HLK := Lib.hid (fun (w' : World) (hb : Below w.heap.size w w') => (hI.pure hb).look_some hf)
    have HCS := Lib.hid (fun (w' : World) (hb : Below w.heap.size w w') => (show w'.cell? ⟨p, 3, none⟩ = some (.map (some r.mb)) from mem_cells (hI.pure hb).hb 3))
    have HSN := Lib.hid (fun (w' : World) (hb : Below w.heap.size w w') => ((hI.pure hb).sb _ hm).1)
    simp only at HSN
    have hbl := bits_lt hta
    unfold snCells at HSN
    have d8 : w.cell? ⟨r.ad k, 8, none⟩ = some (.slice (some ⟨r.pb k, 0, none⟩) t.told.length t.told.length) := mem_cells (HSN.out w (Below.refl _ _)) 8
    clear hI hf hm HT
    go_enter Tryz.func26, Tryz.ntmps26
    go_wp2_with fail
    clear c3 hlk d8
    go_loopw [6, 29] (fun ov iv wr => ∃ j : Nat, j ≤ t.told.length ∧ iv = .int .i64 j ∧ Hid (Owns tInt wr w.heap.size 3 ov (missTo t.bits j)) ∧ Hid (Below w.heap.size w wr)) (fun _ iv _ => t.told.length - (intOf iv).toNat)
    case atStart => exact ⟨0, by omega, rfl, Lib.hid (Owns.nil _ _ _ _), Lib.hid (Below.refl _ _)⟩
    case round =>
      obtain ⟨j, hj, rfl, HO, HBR⟩ := hrel
      by_cases hlt : j < t.told.length
      · have hsn := HSN.out _ HBR.out
        have c3 := HCS.out _ HBR.out
        have hlk := HLK.out _ HBR.out
        have d1 : wr.cell? ⟨r.ad k, 1, none⟩ = some (.int .u64 (bw t.bits)) := mem_cells hsn 1
        have d2 : wr.cell? ⟨r.ad k, 2, none⟩ = some (.int .u64 0) := mem_cells hsn 2
        have d3 : wr.cell? ⟨r.ad k, 3, none⟩ = some (.int .u64 0) := mem_cells hsn 3
        have d4 : wr.cell? ⟨r.ad k, 4, none⟩ = some (.int .u64 0) := mem_cells hsn 4
        have d5 : wr.cell? ⟨r.ad k, 5, none⟩ = some (.int .u64 0) := mem_cells hsn 5
        have d6 : wr.cell? ⟨r.ad k, 6, none⟩ = some (.int .u64 0) := mem_cells hsn 6
        have d7 : wr.cell? ⟨r.ad k, 7, none⟩ = some (.int .u64 0) := mem_cells hsn 7
        have HH := Lib.hid (fun w' => has_any (bw t.bits) j w' (by omega) hbl)
        rw [bw_bit] at HH
        have HTK := Lib.hid (missTo_succ t.bits j)
        have HLL := Lib.hid (missTo_le t.bits j)
        have HSZ := Lib.hid HBR.out.size
        generalize t.bits.getD j false = y at *
        generalize missTo t.bits j = l at *
        obtain ⟨al, cl, hvl, _⟩ := HO.out.len
        subst hvl
        clear hsn
        go_wp2_with fail
        refine (HH.out _).mono ?_
        rintro e w5 ⟨rfl, hb5⟩
        have HB5 := Lib.hid (pure_trans HBR.out hb5)
        have HO5 := Lib.hid (HO.out.keeps hb5)
        have HSZ5 := Lib.hid HB5.out.size
        clear hb5 HH d1 d2 d3 d4 d5 d6 d7 c3 hlk HBR HO
        cases y with
        | true =>
          have HO4 := Lib.hid (show Owns tInt w5 w.heap.size 3 (.slice al l.length cl) (missTo t.bits (j + 1)) by rw [HTK.out, if_pos rfl]; exact HO5.out)
          go_wp2
          go_roundw
          case rel => exact ⟨j + 1, by omega, by go_num, HO4, HB5⟩
          case measure => simp [intOf]; omega
        | false =>
          have HTL := Lib.hid (show l ++ [(j : Int)] = missTo t.bits (j + 1) by rw [HTK.out, if_neg (by simp)])
          clear HTK
          go_wp2_with (at_builtin; refine wpList_append_int rfl _ _ 46 rfl Tryz.underlying46 Tryz.infoInt w.heap.size _ l rfl (HO5.out.alloc _) _ _ (j : Int) rfl ?c1 ?c2 ?c3 ?c4 ?_)
          case c1 => simp
          case c2 => unfold inI64; omega
          case c3 => have := HLL.out; omega
          case c4 => have := HSZ5.out; simp; omega
          · intro v' w6 own6 hgrow _
            have HB6 := Lib.hid (show Below w.heap.size w w6 from (HB5.out.alloc HB5.out.size _).grown hgrow (by have := HSZ5.out; simp; omega) (fun k hk => ((HO5.out).lt k hk).1))
            obtain ⟨a6, cap6, rfl, _⟩ := own6.len
            have HO6 := Lib.hid (show Owns tInt w6 w.heap.size 3 (.slice a6 (l ++ [(j : Int)]).length cap6) (missTo t.bits (j + 1)) by
              rw [← HTL.out]
              exact own6)
            clear own6 hgrow HO5
            go_wp2
            go_roundw
            case rel => exact ⟨j + 1, by omega, by go_num, HO6, HB6⟩
            case measure => simp [intOf]; omega
      · obtain rfl : j = t.told.length := by omega
        obtain ⟨a7, c7, hv7, _⟩ := HO.out.len
        subst hv7
        go_wp2
        go_ret2
        exact ⟨a7, c7, rfl, HO.out, HBR.out⟩
end Go.Proofs.YtnfolemblnnejaaGreat
/- The reference of a vault: Latest, Missing, complete, Texts. -/
namespace Go.Proofs.YtnfolemblnnejaaGreat
open Go.RowKit Go.Maps

theorem comp_eq (s : VS) : s.those (fun t => t.done == true) = s.comp := by
  unfold VS.comp
  congr 1
  funext t
  simp
/-- The cells of a vault's box. -/
theorem box5 (W : World) (s : VS) (a : Value) : Hid (Below W.heap.size W (W.alloc (rvB s a))) ∧ Hid (∀ w', Below (W.alloc (rvB s a)).heap.size (W.alloc (rvB s a)) w' → w'.cell? ⟨W.heap.size, 0, none⟩ = some (.int .i64 s.tasks) ∧ w'.cell? ⟨W.heap.size, 1, none⟩ = some (.int .i64 s.most) ∧ w'.cell? ⟨W.heap.size, 2, none⟩ = some (.int .i64 s.keep) ∧ w'.cell? ⟨W.heap.size, 3, none⟩ = some (.int .i64 ((s.last : Int) + 1)) ∧ w'.cell? ⟨W.heap.size, 4, none⟩ = some a) := by
  have hk := heap_alloc_new W (rvB s a)
  have hl := (Array.getElem?_eq_some_iff.1 hk).1
  refine ⟨Lib.hid (box_below W _), Lib.hid (fun w' hb => ?_)⟩
  have h := (hb.block _ hl).trans hk
  exact ⟨mem_cells h 0, mem_cells h 1, mem_cells h 2, mem_cells h 3, mem_cells h 4⟩
set_option maxRecDepth 100000 in
set_option maxHeartbeats 4000000 in
theorem refLatest_any (s : VS) (a : Value) (W : World) (h : RV (mem W) s a) :
    Calls Tryz.prog 64 #[rvV s a] W fun e w' => e = .returned (.tuple #[.int .i64 (latAns s.comp).1, .int .i64 (latAns s.comp).2]) ∧ Below W.heap.size W w' := by
  have HN := Lib.hid (fun w' (hb : Below W.heap.size W w') => refNumbers_any s a w' (h.mono (below_mem hb)) true)
  rw [comp_eq] at HN
  obtain ⟨HB, HC⟩ := box5 W s a
  have hcl := those_len h.ok Sn.done
  change s.comp.length ≤ 1000000 at hcl
  generalize s.comp = l at *
  obtain ⟨aa, ca, rfl, hla, hma, hra⟩ := slice_form h.ha
  clear h hla hma hra
  go_enter Tryz.func64, Tryz.ntmps64
  go_wp2_with fail
  refine (HN.out _ HB.out).mono ?_
  rintro e w1 ⟨a, cap, rfl, ho, hb1⟩
  have hb := HB.out.trans (hb1.mono HB.out.size)
  clear HN hb1 HC
  by_cases h0 : l = []
  · subst h0
    have hl : (([] : List Int).length : Int) = 0 := rfl
    go_wp2
    go_ret2
    exact ⟨rfl, hb⟩
  · have hl : 0 < l.length := List.length_pos_iff.2 h0
    obtain ⟨b, o, e, hat⟩ := slice_at ho.rv' (k := l.length - 1) (by omega)
    subst e
    have d0 : w1.cell? ⟨b, o + (l.length - 1), none⟩ = some (.int .i64 l[l.length - 1]) := by
      have := (int_at hat).1
      simpa [tInt, mem] using this
    have HL := Lib.hid (show latAns l = (l[l.length - 1], 0) from by unfold latAns; rw [if_neg h0, List.getLast?_eq_getElem?, List.getElem?_eq_getElem (by omega)]; rfl)
    have hcp : cap ≤ 9223372036854775807 ∧ l.length ≤ cap := by
      obtain ⟨a', k', e', h2, h3, -⟩ := slice_form ho.rv'
      simp only [Value.slice.injEq] at e'
      unfold maxLen at h3
      rw [e'.2.2]; exact ⟨h3, h2⟩
    obtain ⟨hc1, hc2⟩ := hcp
    have hsub : (l.length : Int) - 1 = ((l.length - 1 : Nat) : Int) := by omega
    have hlb : ((l.length : Int) == 0) = false := by rw [beq_eq_false_iff_ne]; omega
    clear hat ho
    generalize l[l.length - 1] = y at *
    generalize hm : l.length - 1 = m at *
    have hml : l.length = m + 1 := by omega
    go_wp2
    go_ret2
    exact ⟨by rw [HL.out] <;> rfl, hb⟩
set_option maxRecDepth 100000 in
set_option maxHeartbeats 4000000 in
theorem refMissingV_any (s : VS) (a : Value) (W : World) (h : RV (mem W) s a) (k : Int) :
    Calls Tryz.prog 27 #[rvV s a, .int .i64 k] W fun e w' => ∃ b c, e = .returned (.tuple #[.slice b (missAns (s.find k)).1.length c, .int .i64 (missAns (s.find k)).2]) ∧ Owns tInt w' W.heap.size 3 (.slice b (missAns (s.find k)).1.length c) (missAns (s.find k)).1 ∧ Below W.heap.size W w' := by
  obtain ⟨aa, ca, rfl, hla, hma, hra⟩ := slice_form h.ha
  have hca : ca ≤ 9223372036854775807 := by unfold maxLen at hma; exact hma
  obtain ⟨HB, HC⟩ := box5 W s (.slice aa s.all.length ca)
  have HAL := Lib.hid (show s.all.length ≤ 1000000 from by have := all_len h.ok; have := h.ok.l; omega)
  have HRW := Lib.hid (fun w' (hb : Below W.heap.size W w') => (h.mono (below_mem hb) : RV (mem w') s (.slice aa s.all.length ca)))
  have HOK := Lib.hid h.ok
  clear hma hra h
  go_enter Tryz.func27, Tryz.ntmps27
  obtain ⟨c0, c1, c2, c3, c4⟩ := HC.out _ (Below.refl _ _)
  go_wp2_with fail
  generalize W.alloc (rvB s (.slice aa s.all.length ca)) = X at *
  refine (refPlace_any s _ X (HRW.out _ HB.out) k).mono ?_
  rintro e w1 ⟨i, rfl, hf, hb1⟩
  have HX1 := Lib.hid hb1
  have HB1 := Lib.hid (HB.out.trans (hb1.mono HB.out.size))
  clear c0 c1 c2 c3 c4
  obtain ⟨c0, c1, c2, c3, c4⟩ := HC.out _ hb1
  clear hb1
  rcases hf with ⟨i, t, hj, rfl⟩ | ⟨hn, rfl⟩
  case inr =>
    have HA := Lib.hid (show missAns (s.find k) = ([], 8) from by rw [find_none.2 hn]; rfl)
    clear hn
    go_wp2
    go_ret2
    exact ⟨none, 0, by rw [HA.out] <;> rfl, by rw [HA.out]; exact Owns.nil _ _ _ _, HB1.out⟩
  have HA := Lib.hid (show missAns (s.find k) = (missOf t.bits, 0) from by rw [HOK.out.find (List.mem_of_getElem? hj)]; rfl)
  obtain ⟨hil, hie⟩ := List.getElem?_eq_some_iff.1 hj
  obtain ⟨b, o, s1, s2, s3, e, ⟨q0, q1, q2, q3, q4, q5⟩, -, -, r1, r2, r3⟩ := rsn_at (HRW.out _ HB1.out).ha hil
  subst e
  rw [hie] at q0 q1 q2 r1 r2 r3
  have hbl : t.bits.length ≤ 1000 := by
    have h1 := (HOK.out.tk _ (List.mem_of_getElem? hj)).2.1
    simp only at h1
    unfold Sn.bits
    rw [List.length_map]
    omega
  have e0 : w1.cell? ⟨b, o + i * 6, none⟩ = some (.int .i64 k) := q0
  have e1 : w1.cell? ⟨b, o + i * 6 + 1, none⟩ = some (.string t.name) := q1
  have e2 : w1.cell? ⟨b, o + i * 6 + 2, none⟩ = some (.bool t.done) := q2
  have e3 : w1.cell? ⟨b, o + i * 6 + 3, none⟩ = some s1 := q3
  have e4 : w1.cell? ⟨b, o + i * 6 + 4, none⟩ = some s2 := q4
  have e5 : w1.cell? ⟨b, o + i * 6 + 5, none⟩ = some s3 := q5
  obtain ⟨a2, k2, f2, -⟩ := slice_form r2
  obtain ⟨a3, k3, f3, -⟩ := slice_form r3
  have HM := Lib.hid (refMissing_any k t.name t.done s1 s2 s3 t.bits w1 r1 hbl ⟨_, _, _, f2⟩ ⟨_, _, _, f3⟩)
  clear q0 q1 q2 q3 q4 q5 r1 r2 r3 hie f2 f3 hj
  generalize missOf t.bits = mo at *
  go_wp2_with fail
  refine HM.out.mono ?_
  rintro e w2 ⟨b2, c2', rfl, ho, hb2⟩
  have HO := Lib.hid (ho.low HB1.out.size)
  have HB2 := Lib.hid (HB1.out.trans (hb2.mono HB1.out.size))
  clear ho hb2
  go_wp2
  go_ret2
  exact ⟨b2, c2', by rw [HA.out] <;> rfl, by rw [HA.out]; exact HO.out, HB2.out⟩
end Go.Proofs.YtnfolemblnnejaaGreat
/-
  DERIVED: THE SHELF's CONTRACTS AT THIS DUMP, IN PLAIN WORDS (tools/lay-plain.mjs out of 'TryShelfV3.lean', which tools/lay-shelf.mjs wrote): THE SAME DECLARATIONS UNDER THE SAME NAMES: 'import', 'namespace', 'open', 'def', 'theorem' AND NOTHING ELSE: no command of the shelf's: FOR A HAND-IN. Each laying: the table of numbers ('.._ren') and one theorem, a field a fact of the dump's own or the kernel's comparison; each contract: ONE APPLICATION.
-/
namespace Go.Proofs
open Go.Shelf
def Tryz.sort81_ren : Go.Shelf.Ren := ⟨fun | 6 => 81 | 15 => 91 | 14 => 90 | 28 => 108 | 29 => 109 | 20 => 100 | 21 => 101 | 22 => 102 | 23 => 103 | 24 => 104 | 25 => 105 | 26 => 106 | 27 => 107 | 46 => 134 | 47 => 135 | 48 => 136 | 49 => 137 | 50 => 138 | 57 => 146 | n => n, fun | 22 => 34 | 24 => 92 | 25 => 129 | 3 => 3 | 39 => 135 | 0 => 0 | 53 => 150 | 55 => 82 | 4 => 4 | 46 => 143 | 45 => 142 | 50 => 147 | 5 => 5 | 9 => 9 | 66 => 166 | 70 => 170 | 76 => 176 | 77 => 177 | n => n, fun | n => n⟩
theorem Tryz.sort81 : Go.Proofs.SlLaysF0.n6 Tryz.prog Tryz.sort81_ren := {
  mixed := by kernel_rfl
  f6 := ⟨Tryz.f81.name, by decide, Tryz.func81.trans (congrArg some (by kernel_rfl))⟩
  f14 := ⟨Tryz.f90.name, by decide, Tryz.func90.trans (congrArg some (by kernel_rfl))⟩
  f15 := Tryz.func91.trans (congrArg some (by kernel_rfl))
  f20 := ⟨Tryz.f100.name, by decide, Tryz.func100.trans (congrArg some (by kernel_rfl))⟩
  f21 := ⟨Tryz.f101.name, by decide, Tryz.func101.trans (congrArg some (by kernel_rfl))⟩
  f22 := ⟨Tryz.f102.name, by decide, Tryz.func102.trans (congrArg some (by kernel_rfl))⟩
  f23 := ⟨Tryz.f103.name, by decide, Tryz.func103.trans (congrArg some (by kernel_rfl))⟩
  f24 := ⟨Tryz.f104.name, by decide, Tryz.func104.trans (congrArg some (by kernel_rfl))⟩
  f25 := ⟨Tryz.f105.name, by decide, Tryz.func105.trans (congrArg some (by kernel_rfl))⟩
  f26 := ⟨Tryz.f106.name, by decide, Tryz.func106.trans (congrArg some (by kernel_rfl))⟩
  f27 := ⟨Tryz.f107.name, by decide, Tryz.func107.trans (congrArg some (by kernel_rfl))⟩
  f28 := Tryz.func108.trans (congrArg some (by kernel_rfl))
  f29 := Tryz.func109.trans (congrArg some (by kernel_rfl))
  f46 := ⟨Tryz.f134.name, by decide, Tryz.func134.trans (congrArg some (by kernel_rfl))⟩
  f47 := Tryz.func135.trans (congrArg some (by kernel_rfl))
  f48 := Tryz.func136.trans (congrArg some (by kernel_rfl))
  f49 := ⟨Tryz.f137.name, by decide, Tryz.func137.trans (congrArg some (by kernel_rfl))⟩
  f50 := ⟨Tryz.f138.name, by decide, Tryz.func138.trans (congrArg some (by kernel_rfl))⟩
  f57 := ⟨Tryz.f146.name, by decide, Tryz.func146.trans (congrArg some (by kernel_rfl))⟩
  t0 := Tryz.underlying0
  a0 := Tryz.isAgg0
  z0 := Tryz.sizeOf0
  v0 := Tryz.zeroValue0
  t3 := Tryz.underlying3
  a3 := Tryz.isAgg3
  z3 := Tryz.sizeOf3
  v3 := Tryz.zeroValue3
  t4 := Tryz.underlying4
  a4 := Tryz.isAgg4
  z4 := Tryz.sizeOf4
  v4 := Tryz.zeroValue4
  t5 := Tryz.underlying5
  a5 := Tryz.isAgg5
  z5 := Tryz.sizeOf5
  v5 := Tryz.zeroValue5
  t9 := Tryz.underlying9
  a9 := Tryz.isAgg9
  z9 := Tryz.sizeOf9
  v9 := Tryz.zeroValue9
  t22 := Tryz.underlying34
  a22 := Tryz.isAgg34
  z22 := Tryz.sizeOf34
  v22 := Tryz.zeroValue34
  t25 := Tryz.underlying129
  a25 := Tryz.isAgg129
  z25 := Tryz.sizeOf129
  v25 := Tryz.zeroValue129
  t39 := Tryz.underlying135
  a39 := Tryz.isAgg135
  z39 := Tryz.sizeOf135
  v39 := Tryz.zeroValue135
  t45 := Tryz.underlying142
  a45 := Tryz.isAgg142
  z45 := Tryz.sizeOf142
  v45 := Tryz.zeroValue142
  t46 := Tryz.underlying143
  a46 := Tryz.isAgg143
  z46 := Tryz.sizeOf143
  v46 := Tryz.zeroValue143
  t50 := Tryz.underlying147
  a50 := Tryz.isAgg147
  z50 := Tryz.sizeOf147
  v50 := Tryz.zeroValue147
  t53 := Tryz.underlying150
  a53 := Tryz.isAgg150
  z53 := Tryz.sizeOf150
  v53 := Tryz.zeroValue150
  t55 := Tryz.underlying82
  a55 := Tryz.isAgg82
  z55 := Tryz.sizeOf82
  v55 := Tryz.zeroValue82
  t66 := Tryz.underlying166
  a66 := Tryz.isAgg166
  z66 := Tryz.sizeOf166
  v66 := Tryz.zeroValue166
  t70 := Tryz.underlying170
  a70 := Tryz.isAgg170
  z70 := Tryz.sizeOf170
  v70 := Tryz.zeroValue170
  t76 := Tryz.underlying176
  a76 := Tryz.isAgg176
  z76 := Tryz.sizeOf176
  v76 := Tryz.zeroValue176
  t77 := Tryz.underlying177
  a77 := Tryz.isAgg177
  z77 := Tryz.sizeOf177
  v77 := Tryz.zeroValue177 }
end Go.Proofs
/- cmp.Compare[string]. -/
namespace Go.Proofs.YtnfolemblnnejaaGreat
open Go.RowKit

set_option maxHeartbeats 400000 in
theorem nanStr_any (s : ByteArray) (w : World) :
    Calls Tryz.prog 115 #[.string s] w fun e w' => e = .returned (.bool false) ∧ w = w' := by
  go_enter Tryz.func115, Tryz.ntmps115
  go_wp2
  go_ret
  exact ⟨by simp, rfl⟩

set_option maxHeartbeats 400000 in
theorem cmpStr_any (s t : ByteArray) (w : World) :
    Calls Tryz.prog 95 #[.string s, .string t] w fun e w' => e = .returned (.int .i64 (cmpBytes s.toList t.toList)) ∧ w = w' := by
  have HL := Lib.hid (bytesLess_cmp s.toList t.toList)
  have HG := Lib.hid (bytesGtr_cmp s.toList t.toList)
  have hr := cmpBytes_good.range s.toList t.toList
  generalize cmpBytes s.toList t.toList = c at *
  go_enter Tryz.func95, Tryz.ntmps95
  go_wp2_with (go_at_call 115; refine (nanStr_any _ _).mono ?_; rintro e w' ⟨rfl, rfl⟩)
  · have h : Op.bytesLess s.toList t.toList = true := by assumption
    have hl := HL.out
    rw [h] at hl
    have : c = -1 := by have := of_decide_eq_true hl.symm; omega
    subst this
    go_ret
    exact ⟨rfl, rfl⟩
  · have h1 : Op.bytesLess s.toList t.toList = false := by assumption
    have h2 : (!s.toList == t.toList) = true := by assumption
    have hg := HG.out
    rw [h1, Bool.false_or, h2] at hg
    have : c = 1 := by have := of_decide_eq_true hg.symm; omega
    subst this
    go_ret
    exact ⟨rfl, rfl⟩
  · have h1 : Op.bytesLess s.toList t.toList = false := by assumption
    have h2 : (!s.toList == t.toList) = false := by assumption
    have hl := HL.out
    have hg := HG.out
    rw [h1] at hl
    rw [h1, Bool.false_or, h2] at hg
    have : c = 0 := by have := of_decide_eq_false hl.symm; have := of_decide_eq_false hg.symm; omega
    subst this
    go_ret
    exact ⟨rfl, rfl⟩

end Go.Proofs.YtnfolemblnnejaaGreat
/- Entries compared: the reference's CompareEntries, share.CompareEntries (printed by gen_vsort.py out of chapter 13's texts). -/
namespace Go.Proofs.YtnfolemblnnejaaGreat
open Go.RowKit Go.Maps Go.Sort

theorem cmpInt_zero {a b : Int} : cmpInt a b = 0 ↔ a = b := by
  unfold cmpInt
  by_cases h : a < b
  · simp [h]; omega
  · by_cases h2 : b < a
    · simp [h, h2]; omega
    · simp [h, h2]; omega

def entC : Ent → Ent → Int := lex (fun a b => cmpInt a.g b.g) (lex (fun a b => cmpBytes a.nm.toList b.nm.toList) (lex (fun a b => cmpBytes a.key.toList b.key.toList) (fun a b => cmpBytes a.val.toList b.val.toList)))
theorem lex_assoc {α : Type} (c1 c2 c3 : α → α → Int) (a b : α) : lex c1 (lex c2 c3) a b = lex (lex c1 c2) c3 a b := by
  unfold lex
  by_cases h1 : c1 a b = 0 <;> by_cases h2 : c2 a b = 0 <;> simp [h1, h2]
def placeC : Ent → Ent → Int := lex (fun a b => cmpInt a.g b.g) (lex (fun a b => cmpBytes a.nm.toList b.nm.toList) (fun a b => cmpBytes a.key.toList b.key.toList))
/-- What is left of the comparison behind k rounds. -/
def RestC (k : Nat) (v : Int) (x1 y1 x2 y2 x3 y3 : ByteArray) : Prop :=
  match k with
  | 0 => v = if cmpBytes x1.toList y1.toList ≠ 0 then cmpBytes x1.toList y1.toList else if cmpBytes x2.toList y2.toList ≠ 0 then cmpBytes x2.toList y2.toList else cmpBytes x3.toList y3.toList
  | 1 => v = if cmpBytes x2.toList y2.toList ≠ 0 then cmpBytes x2.toList y2.toList else cmpBytes x3.toList y3.toList
  | 2 => v = cmpBytes x3.toList y3.toList
  | _ => v = 0
section
variable {c : Int} {x1 y1 x2 y2 x3 y3 : ByteArray}
theorem RestC.next0 (h : RestC 0 c x1 y1 x2 y2 x3 y3) (e : cmpBytes x1.toList y1.toList = 0) : RestC 1 c x1 y1 x2 y2 x3 y3 := by
  have h : c = _ := h
  rw [if_neg (by simp [e])] at h
  exact h
theorem RestC.end0 (h : RestC 0 c x1 y1 x2 y2 x3 y3) (e : cmpBytes x1.toList y1.toList ≠ 0) : c = cmpBytes x1.toList y1.toList := by
  unfold RestC at h
  rw [h, if_pos e]
theorem RestC.next1 (h : RestC 1 c x1 y1 x2 y2 x3 y3) (e : cmpBytes x2.toList y2.toList = 0) : RestC 2 c x1 y1 x2 y2 x3 y3 := by
  have h : c = _ := h
  rw [if_neg (by simp [e])] at h
  exact h
theorem RestC.end1 (h : RestC 1 c x1 y1 x2 y2 x3 y3) (e : cmpBytes x2.toList y2.toList ≠ 0) : c = cmpBytes x2.toList y2.toList := by
  unfold RestC at h
  rw [h, if_pos e]
theorem RestC.next2 (h : RestC 2 c x1 y1 x2 y2 x3 y3) (e : cmpBytes x3.toList y3.toList = 0) : RestC 3 c x1 y1 x2 y2 x3 y3 := by
  have h : c = _ := h
  rw [e] at h
  exact h
theorem RestC.end2 (h : RestC 2 c x1 y1 x2 y2 x3 y3) (_ : cmpBytes x3.toList y3.toList ≠ 0) : c = cmpBytes x3.toList y3.toList := h
end
set_option maxRecDepth 100000 in
set_option maxHeartbeats 8000000 in
theorem refCmp_any (x y : Ent) (w : World) :
    Calls Tryz.prog 96 #[x.v, y.v] w fun e w' => e = .returned (.int .i64 (entC x y)) ∧ Below w.heap.size w w' := by
  obtain ⟨xg, x1, x2, x3⟩ := x
  obtain ⟨yg, y1, y2, y3⟩ := y
  have HV := Lib.hid (show entC ⟨xg, x1, x2, x3⟩ ⟨yg, y1, y2, y3⟩ = if cmpInt xg yg ≠ 0 then cmpInt xg yg else if cmpBytes x1.toList y1.toList ≠ 0 then cmpBytes x1.toList y1.toList else if cmpBytes x2.toList y2.toList ≠ 0 then cmpBytes x2.toList y2.toList else cmpBytes x3.toList y3.toList from rfl)
  generalize entC ⟨xg, x1, x2, x3⟩ ⟨yg, y1, y2, y3⟩ = v at *
  have HB := Lib.hid (fun o1 o2 => (show Below w.heap.size w ((w.alloc o1).alloc o2) from ((Below.refl _ _).alloc (Nat.le_refl _) _).alloc (by simp) _))
  by_cases hg : xg = yg
  case neg =>
    have hb : (xg == yg) = false := by simp [hg]
    by_cases hl : xg < yg
    · have HR := Lib.hid (show v = -1 by rw [HV.out]; have : cmpInt xg yg = -1 := by { unfold cmpInt; rw [if_pos hl] }; rw [this]; rfl)
      clear HV
      go_enter Tryz.func96, Tryz.ntmps96
      go_wp2
      go_ret
      exact ⟨by rw [HR.out] <;> rfl, HB.out _ _⟩
    · have HR := Lib.hid (show v = 1 by rw [HV.out]; have : cmpInt xg yg = 1 := by { unfold cmpInt; rw [if_neg hl, if_pos (by omega)] }; rw [this]; rfl)
      clear HV
      go_enter Tryz.func96, Tryz.ntmps96
      go_wp2
      go_ret
      exact ⟨by rw [HR.out] <;> rfl, HB.out _ _⟩
  subst hg
  have HV1 := Lib.hid (show v = if cmpBytes x1.toList y1.toList ≠ 0 then cmpBytes x1.toList y1.toList else if cmpBytes x2.toList y2.toList ≠ 0 then cmpBytes x2.toList y2.toList else cmpBytes x3.toList y3.toList by rw [HV.out, if_neg (by simp [cmpInt_zero.2 rfl])])
  have hb : (xg == xg) = true := by simp
  clear HV
  go_enter Tryz.func96, Tryz.ntmps96
  go_wp2_with fail
  generalize hW : ((w.alloc (.cells #[.int .i64 xg, .string x1, .string x2, .string x3] 92)).alloc (.cells #[.int .i64 xg, .string y1, .string y2, .string y3] 92)) = W
  have hB : Below w.heap.size w W := by rw [← hW]; exact HB.out _ _
  have hb0 : W.heap[w.heap.size]? = some (.cells #[.int .i64 xg, .string x1, .string x2, .string x3] 92 (0, 0)) := by rw [← hW]; exact (Below.heap_alloc _ _ _ (by simp)).trans (heap_alloc_new w _)
  have hb1 : W.heap[w.heap.size + 1]? = some (.cells #[.int .i64 xg, .string y1, .string y2, .string y3] 92 (0, 0)) := by
    rw [← hW]
    have := heap_alloc_new (w.alloc (.cells #[.int .i64 xg, .string x1, .string x2, .string x3] 92)) (.cells #[.int .i64 xg, .string y1, .string y2, .string y3] 92)
    rwa [World.size_alloc] at this
  clear hW HB
  have HK := Lib.hid (fun (w' : World) (h : Below W.heap.size W w') => (show w'.cell? ⟨w.heap.size, 1, none⟩ = some (.string x1) ∧ w'.cell? ⟨w.heap.size, 2, none⟩ = some (.string x2) ∧ w'.cell? ⟨w.heap.size, 3, none⟩ = some (.string x3) ∧ w'.cell? ⟨w.heap.size + 1, 1, none⟩ = some (.string y1) ∧ w'.cell? ⟨w.heap.size + 1, 2, none⟩ = some (.string y2) ∧ w'.cell? ⟨w.heap.size + 1, 3, none⟩ = some (.string y3) from
    ⟨below_mem h _ _ _ (mem_cells hb0 1), below_mem h _ _ _ (mem_cells hb0 2), below_mem h _ _ _ (mem_cells hb0 3), below_mem h _ _ _ (mem_cells hb1 1), below_mem h _ _ _ (mem_cells hb1 2), below_mem h _ _ _ (mem_cells hb1 3)⟩))
  clear hb0 hb1
  go_region_held3 (fun w' => w'.cell? ⟨w.heap.size, 1, none⟩ = some (.string x1) ∧ w'.cell? ⟨w.heap.size, 2, none⟩ = some (.string x2) ∧ w'.cell? ⟨w.heap.size, 3, none⟩ = some (.string x3) ∧ w'.cell? ⟨w.heap.size + 1, 1, none⟩ = some (.string y1) ∧ w'.cell? ⟨w.heap.size + 1, 2, none⟩ = some (.string y2) ∧ w'.cell? ⟨w.heap.size + 1, 3, none⟩ = some (.string y3))
    (exact HK.out _ (by repeat (first | exact Below.refl _ _ | refine Below.drew ?_ | refine Below.alloc ?_ (by simp) _ | refine Below.setCell ?_ (by simp) _))) (fail)
  -- the loop
  · generalize hW2 : ((W.alloc (.cells #[.string x1, .string x2, .string x3] 154)).alloc (.cells #[.string y1, .string y2, .string y3] 154)).drew = W2
    have hc0 : W2.heap[W.heap.size]? = some (.cells #[.string x1, .string x2, .string x3] 154 (0, 0)) := by rw [← hW2]; exact (Below.heap_alloc _ _ _ (by simp)).trans (heap_alloc_new W _)
    have hc1 : W2.heap[W.heap.size + 1]? = some (.cells #[.string y1, .string y2, .string y3] 154 (0, 0)) := by
      rw [← hW2]
      have := heap_alloc_new (W.alloc (.cells #[.string x1, .string x2, .string x3] 154)) (.cells #[.string y1, .string y2, .string y3] 154)
      rwa [World.size_alloc] at this
    have HB2 := Lib.hid (show Below w.heap.size w W2 by rw [← hW2]; exact ((hB.alloc hB.size _).alloc (Nat.le_trans hB.size (by simp)) _).drew)
    rename_i hHeld
    clear hHeld HK hW2 hB
    generalize W.heap.size = q at *
    have cx0 : W2.cell? ⟨q, 0, none⟩ = some (.string x1) := mem_cells hc0 0
    have cy0 : W2.cell? ⟨q + 1, 0, none⟩ = some (.string y1) := mem_cells hc1 0
    have cx1 : W2.cell? ⟨q, 1, none⟩ = some (.string x2) := mem_cells hc0 1
    have cy1 : W2.cell? ⟨q + 1, 1, none⟩ = some (.string y2) := mem_cells hc1 1
    have cx2 : W2.cell? ⟨q, 2, none⟩ = some (.string x3) := mem_cells hc0 2
    have cy2 : W2.cell? ⟨q + 1, 2, none⟩ = some (.string y3) := mem_cells hc1 2
    clear hc0 hc1
    simp only [Exit.then]
    go_at_K
    go_wp2
    go_loopw [7] (fun i wr => ∃ k : Nat, i = .int .i64 k ∧ Hid (RestC k v x1 y1 x2 y2 x3 y3) ∧ ∃ n, wr = W2.drewN n) (fun i _ => 3 - (intOf i).toNat)
    case atStart => exact ⟨0, rfl, Lib.hid HV1.out, 0, rfl⟩
    case round =>
      clear HV1
      obtain ⟨k, rfl, HC, n, rfl⟩ := hrel
      match k, HC with
      | 0, HC =>
        have HL := Lib.hid (bytesLess_cmp x1.toList y1.toList)
        have HG := Lib.hid (bytesGtr_cmp x1.toList y1.toList)
        have HRG := Lib.hid (cmpBytes_good.range x1.toList y1.toList)
        have HN := Lib.hid (fun h => RestC.next0 (c := v) (x1 := x1) (y1 := y1) (x2 := x2) (y2 := y2) (x3 := x3) (y3 := y3) HC.out h)
        have HE := Lib.hid (fun h => RestC.end0 (c := v) (x1 := x1) (y1 := y1) (x2 := x2) (y2 := y2) (x3 := x3) (y3 := y3) HC.out h)
        generalize hcc : cmpBytes x1.toList y1.toList = c at *
        clear hcc HC
        by_cases hl : c < 0
        · have hlb : Op.bytesLess x1.toList y1.toList = true := by rw [HL.out]; simp [hl]
          have HV := Lib.hid (show v = -1 from (HE.out (by omega)).trans (by have := HRG.out; omega))
          clear HL HG HRG HN HE
          go_wp2_with fail
          go_quiet (fail)
          all_goals
            go_wp2
            go_ret
            exact ⟨by rw [HV.out] <;> rfl, HB2.out.trans ⟨rfl, rfl, rfl, Nat.le_refl _, fun _ _ => rfl⟩⟩
        · have hlb : Op.bytesLess x1.toList y1.toList = false := by rw [HL.out]; simp [hl]
          by_cases hg : 0 < c
          · have heb : (x1.toList == y1.toList) = false := by have := HG.out; rw [hlb] at this; simpa [hg] using this
            have HV := Lib.hid (show v = 1 from (HE.out (by omega)).trans (by have := HRG.out; omega))
            clear HL HG HRG HN HE
            go_wp2_with fail
            go_quiet (fail)
            all_goals
              go_wp2_with fail
              go_quiet (fail)
              all_goals
                go_wp2
                go_ret
                exact ⟨by rw [HV.out] <;> rfl, HB2.out.trans ⟨rfl, rfl, rfl, Nat.le_refl _, fun _ _ => rfl⟩⟩
          · have heb : (x1.toList == y1.toList) = true := by have := HG.out; rw [hlb] at this; simpa [hg] using this
            have HN2 := Lib.hid (HN.out (by omega))
            clear HL HG HRG HN HE
            go_wp2_with fail
            go_quiet (fail)
            all_goals
              go_wp2_with fail
              go_quiet (fail)
              all_goals
                go_wp2
                exact ⟨⟨1, by go_num, HN2, _, rfl⟩, by simp [intOf]⟩
      | 1, HC =>
        have HL := Lib.hid (bytesLess_cmp x2.toList y2.toList)
        have HG := Lib.hid (bytesGtr_cmp x2.toList y2.toList)
        have HRG := Lib.hid (cmpBytes_good.range x2.toList y2.toList)
        have HN := Lib.hid (fun h => RestC.next1 (c := v) (x1 := x1) (y1 := y1) (x2 := x2) (y2 := y2) (x3 := x3) (y3 := y3) HC.out h)
        have HE := Lib.hid (fun h => RestC.end1 (c := v) (x1 := x1) (y1 := y1) (x2 := x2) (y2 := y2) (x3 := x3) (y3 := y3) HC.out h)
        generalize hcc : cmpBytes x2.toList y2.toList = c at *
        clear hcc HC
        by_cases hl : c < 0
        · have hlb : Op.bytesLess x2.toList y2.toList = true := by rw [HL.out]; simp [hl]
          have HV := Lib.hid (show v = -1 from (HE.out (by omega)).trans (by have := HRG.out; omega))
          clear HL HG HRG HN HE
          go_wp2_with fail
          go_quiet (fail)
          all_goals
            go_wp2
            go_ret
            exact ⟨by rw [HV.out] <;> rfl, HB2.out.trans ⟨rfl, rfl, rfl, Nat.le_refl _, fun _ _ => rfl⟩⟩
        · have hlb : Op.bytesLess x2.toList y2.toList = false := by rw [HL.out]; simp [hl]
          by_cases hg : 0 < c
          · have heb : (x2.toList == y2.toList) = false := by have := HG.out; rw [hlb] at this; simpa [hg] using this
            have HV := Lib.hid (show v = 1 from (HE.out (by omega)).trans (by have := HRG.out; omega))
            clear HL HG HRG HN HE
            go_wp2_with fail
            go_quiet (fail)
            all_goals
              go_wp2_with fail
              go_quiet (fail)
              all_goals
                go_wp2
                go_ret
                exact ⟨by rw [HV.out] <;> rfl, HB2.out.trans ⟨rfl, rfl, rfl, Nat.le_refl _, fun _ _ => rfl⟩⟩
          · have heb : (x2.toList == y2.toList) = true := by have := HG.out; rw [hlb] at this; simpa [hg] using this
            have HN2 := Lib.hid (HN.out (by omega))
            clear HL HG HRG HN HE
            go_wp2_with fail
            go_quiet (fail)
            all_goals
              go_wp2_with fail
              go_quiet (fail)
              all_goals
                go_wp2
                exact ⟨⟨2, by go_num, HN2, _, rfl⟩, by simp [intOf]⟩
      | 2, HC =>
        have HL := Lib.hid (bytesLess_cmp x3.toList y3.toList)
        have HG := Lib.hid (bytesGtr_cmp x3.toList y3.toList)
        have HRG := Lib.hid (cmpBytes_good.range x3.toList y3.toList)
        have HN := Lib.hid (fun h => RestC.next2 (c := v) (x1 := x1) (y1 := y1) (x2 := x2) (y2 := y2) (x3 := x3) (y3 := y3) HC.out h)
        have HE := Lib.hid (fun h => RestC.end2 (c := v) (x1 := x1) (y1 := y1) (x2 := x2) (y2 := y2) (x3 := x3) (y3 := y3) HC.out h)
        generalize hcc : cmpBytes x3.toList y3.toList = c at *
        clear hcc HC
        by_cases hl : c < 0
        · have hlb : Op.bytesLess x3.toList y3.toList = true := by rw [HL.out]; simp [hl]
          have HV := Lib.hid (show v = -1 from (HE.out (by omega)).trans (by have := HRG.out; omega))
          clear HL HG HRG HN HE
          go_wp2_with fail
          go_quiet (fail)
          all_goals
            go_wp2
            go_ret
            exact ⟨by rw [HV.out] <;> rfl, HB2.out.trans ⟨rfl, rfl, rfl, Nat.le_refl _, fun _ _ => rfl⟩⟩
        · have hlb : Op.bytesLess x3.toList y3.toList = false := by rw [HL.out]; simp [hl]
          by_cases hg : 0 < c
          · have heb : (x3.toList == y3.toList) = false := by have := HG.out; rw [hlb] at this; simpa [hg] using this
            have HV := Lib.hid (show v = 1 from (HE.out (by omega)).trans (by have := HRG.out; omega))
            clear HL HG HRG HN HE
            go_wp2_with fail
            go_quiet (fail)
            all_goals
              go_wp2_with fail
              go_quiet (fail)
              all_goals
                go_wp2
                go_ret
                exact ⟨by rw [HV.out] <;> rfl, HB2.out.trans ⟨rfl, rfl, rfl, Nat.le_refl _, fun _ _ => rfl⟩⟩
          · have heb : (x3.toList == y3.toList) = true := by have := HG.out; rw [hlb] at this; simpa [hg] using this
            have HN2 := Lib.hid (HN.out (by omega))
            clear HL HG HRG HN HE
            go_wp2_with fail
            go_quiet (fail)
            all_goals
              go_wp2_with fail
              go_quiet (fail)
              all_goals
                go_wp2
                exact ⟨⟨3, by go_num, HN2, _, rfl⟩, by simp [intOf]⟩
      | k + 3, HC =>
        have HV := Lib.hid (show v = 0 from HC.out)
        have hk : ¬ ((k + 3 : Nat) : Int) < 3 := by omega
        clear HC
        go_wp2
        go_ret
        exact ⟨by rw [HV.out] <;> rfl, HB2.out.trans ⟨rfl, rfl, rfl, Nat.le_refl _, fun _ _ => rfl⟩⟩
  · generalize hW2 : ((W.alloc (.cells #[.string y1, .string y2, .string y3] 154)).alloc (.cells #[.string x1, .string x2, .string x3] 154)).drew = W2
    have hc0 : W2.heap[W.heap.size]? = some (.cells #[.string y1, .string y2, .string y3] 154 (0, 0)) := by rw [← hW2]; exact (Below.heap_alloc _ _ _ (by simp)).trans (heap_alloc_new W _)
    have hc1 : W2.heap[W.heap.size + 1]? = some (.cells #[.string x1, .string x2, .string x3] 154 (0, 0)) := by
      rw [← hW2]
      have := heap_alloc_new (W.alloc (.cells #[.string y1, .string y2, .string y3] 154)) (.cells #[.string x1, .string x2, .string x3] 154)
      rwa [World.size_alloc] at this
    have HB2 := Lib.hid (show Below w.heap.size w W2 by rw [← hW2]; exact ((hB.alloc hB.size _).alloc (Nat.le_trans hB.size (by simp)) _).drew)
    rename_i hHeld
    clear hHeld HK hW2 hB
    generalize W.heap.size = q at *
    have cx0 : W2.cell? ⟨q + 1, 0, none⟩ = some (.string x1) := mem_cells hc1 0
    have cy0 : W2.cell? ⟨q, 0, none⟩ = some (.string y1) := mem_cells hc0 0
    have cx1 : W2.cell? ⟨q + 1, 1, none⟩ = some (.string x2) := mem_cells hc1 1
    have cy1 : W2.cell? ⟨q, 1, none⟩ = some (.string y2) := mem_cells hc0 1
    have cx2 : W2.cell? ⟨q + 1, 2, none⟩ = some (.string x3) := mem_cells hc1 2
    have cy2 : W2.cell? ⟨q, 2, none⟩ = some (.string y3) := mem_cells hc0 2
    clear hc0 hc1
    simp only [Exit.then]
    go_at_K
    go_wp2
    go_loopw [7] (fun i wr => ∃ k : Nat, i = .int .i64 k ∧ Hid (RestC k v x1 y1 x2 y2 x3 y3) ∧ ∃ n, wr = W2.drewN n) (fun i _ => 3 - (intOf i).toNat)
    case atStart => exact ⟨0, rfl, Lib.hid HV1.out, 0, rfl⟩
    case round =>
      clear HV1
      obtain ⟨k, rfl, HC, n, rfl⟩ := hrel
      match k, HC with
      | 0, HC =>
        have HL := Lib.hid (bytesLess_cmp x1.toList y1.toList)
        have HG := Lib.hid (bytesGtr_cmp x1.toList y1.toList)
        have HRG := Lib.hid (cmpBytes_good.range x1.toList y1.toList)
        have HN := Lib.hid (fun h => RestC.next0 (c := v) (x1 := x1) (y1 := y1) (x2 := x2) (y2 := y2) (x3 := x3) (y3 := y3) HC.out h)
        have HE := Lib.hid (fun h => RestC.end0 (c := v) (x1 := x1) (y1 := y1) (x2 := x2) (y2 := y2) (x3 := x3) (y3 := y3) HC.out h)
        generalize hcc : cmpBytes x1.toList y1.toList = c at *
        clear hcc HC
        by_cases hl : c < 0
        · have hlb : Op.bytesLess x1.toList y1.toList = true := by rw [HL.out]; simp [hl]
          have HV := Lib.hid (show v = -1 from (HE.out (by omega)).trans (by have := HRG.out; omega))
          clear HL HG HRG HN HE
          go_wp2_with fail
          go_quiet (fail)
          all_goals
            go_wp2
            go_ret
            exact ⟨by rw [HV.out] <;> rfl, HB2.out.trans ⟨rfl, rfl, rfl, Nat.le_refl _, fun _ _ => rfl⟩⟩
        · have hlb : Op.bytesLess x1.toList y1.toList = false := by rw [HL.out]; simp [hl]
          by_cases hg : 0 < c
          · have heb : (x1.toList == y1.toList) = false := by have := HG.out; rw [hlb] at this; simpa [hg] using this
            have HV := Lib.hid (show v = 1 from (HE.out (by omega)).trans (by have := HRG.out; omega))
            clear HL HG HRG HN HE
            go_wp2_with fail
            go_quiet (fail)
            all_goals
              go_wp2_with fail
              go_quiet (fail)
              all_goals
                go_wp2
                go_ret
                exact ⟨by rw [HV.out] <;> rfl, HB2.out.trans ⟨rfl, rfl, rfl, Nat.le_refl _, fun _ _ => rfl⟩⟩
          · have heb : (x1.toList == y1.toList) = true := by have := HG.out; rw [hlb] at this; simpa [hg] using this
            have HN2 := Lib.hid (HN.out (by omega))
            clear HL HG HRG HN HE
            go_wp2_with fail
            go_quiet (fail)
            all_goals
              go_wp2_with fail
              go_quiet (fail)
              all_goals
                go_wp2
                exact ⟨⟨1, by go_num, HN2, _, rfl⟩, by simp [intOf]⟩
      | 1, HC =>
        have HL := Lib.hid (bytesLess_cmp x2.toList y2.toList)
        have HG := Lib.hid (bytesGtr_cmp x2.toList y2.toList)
        have HRG := Lib.hid (cmpBytes_good.range x2.toList y2.toList)
        have HN := Lib.hid (fun h => RestC.next1 (c := v) (x1 := x1) (y1 := y1) (x2 := x2) (y2 := y2) (x3 := x3) (y3 := y3) HC.out h)
        have HE := Lib.hid (fun h => RestC.end1 (c := v) (x1 := x1) (y1 := y1) (x2 := x2) (y2 := y2) (x3 := x3) (y3 := y3) HC.out h)
        generalize hcc : cmpBytes x2.toList y2.toList = c at *
        clear hcc HC
        by_cases hl : c < 0
        · have hlb : Op.bytesLess x2.toList y2.toList = true := by rw [HL.out]; simp [hl]
          have HV := Lib.hid (show v = -1 from (HE.out (by omega)).trans (by have := HRG.out; omega))
          clear HL HG HRG HN HE
          go_wp2_with fail
          go_quiet (fail)
          all_goals
            go_wp2
            go_ret
            exact ⟨by rw [HV.out] <;> rfl, HB2.out.trans ⟨rfl, rfl, rfl, Nat.le_refl _, fun _ _ => rfl⟩⟩
        · have hlb : Op.bytesLess x2.toList y2.toList = false := by rw [HL.out]; simp [hl]
          by_cases hg : 0 < c
          · have heb : (x2.toList == y2.toList) = false := by have := HG.out; rw [hlb] at this; simpa [hg] using this
            have HV := Lib.hid (show v = 1 from (HE.out (by omega)).trans (by have := HRG.out; omega))
            clear HL HG HRG HN HE
            go_wp2_with fail
            go_quiet (fail)
            all_goals
              go_wp2_with fail
              go_quiet (fail)
              all_goals
                go_wp2
                go_ret
                exact ⟨by rw [HV.out] <;> rfl, HB2.out.trans ⟨rfl, rfl, rfl, Nat.le_refl _, fun _ _ => rfl⟩⟩
          · have heb : (x2.toList == y2.toList) = true := by have := HG.out; rw [hlb] at this; simpa [hg] using this
            have HN2 := Lib.hid (HN.out (by omega))
            clear HL HG HRG HN HE
            go_wp2_with fail
            go_quiet (fail)
            all_goals
              go_wp2_with fail
              go_quiet (fail)
              all_goals
                go_wp2
                exact ⟨⟨2, by go_num, HN2, _, rfl⟩, by simp [intOf]⟩
      | 2, HC =>
        have HL := Lib.hid (bytesLess_cmp x3.toList y3.toList)
        have HG := Lib.hid (bytesGtr_cmp x3.toList y3.toList)
        have HRG := Lib.hid (cmpBytes_good.range x3.toList y3.toList)
        have HN := Lib.hid (fun h => RestC.next2 (c := v) (x1 := x1) (y1 := y1) (x2 := x2) (y2 := y2) (x3 := x3) (y3 := y3) HC.out h)
        have HE := Lib.hid (fun h => RestC.end2 (c := v) (x1 := x1) (y1 := y1) (x2 := x2) (y2 := y2) (x3 := x3) (y3 := y3) HC.out h)
        generalize hcc : cmpBytes x3.toList y3.toList = c at *
        clear hcc HC
        by_cases hl : c < 0
        · have hlb : Op.bytesLess x3.toList y3.toList = true := by rw [HL.out]; simp [hl]
          have HV := Lib.hid (show v = -1 from (HE.out (by omega)).trans (by have := HRG.out; omega))
          clear HL HG HRG HN HE
          go_wp2_with fail
          go_quiet (fail)
          all_goals
            go_wp2
            go_ret
            exact ⟨by rw [HV.out] <;> rfl, HB2.out.trans ⟨rfl, rfl, rfl, Nat.le_refl _, fun _ _ => rfl⟩⟩
        · have hlb : Op.bytesLess x3.toList y3.toList = false := by rw [HL.out]; simp [hl]
          by_cases hg : 0 < c
          · have heb : (x3.toList == y3.toList) = false := by have := HG.out; rw [hlb] at this; simpa [hg] using this
            have HV := Lib.hid (show v = 1 from (HE.out (by omega)).trans (by have := HRG.out; omega))
            clear HL HG HRG HN HE
            go_wp2_with fail
            go_quiet (fail)
            all_goals
              go_wp2_with fail
              go_quiet (fail)
              all_goals
                go_wp2
                go_ret
                exact ⟨by rw [HV.out] <;> rfl, HB2.out.trans ⟨rfl, rfl, rfl, Nat.le_refl _, fun _ _ => rfl⟩⟩
          · have heb : (x3.toList == y3.toList) = true := by have := HG.out; rw [hlb] at this; simpa [hg] using this
            have HN2 := Lib.hid (HN.out (by omega))
            clear HL HG HRG HN HE
            go_wp2_with fail
            go_quiet (fail)
            all_goals
              go_wp2_with fail
              go_quiet (fail)
              all_goals
                go_wp2
                exact ⟨⟨3, by go_num, HN2, _, rfl⟩, by simp [intOf]⟩
      | k + 3, HC =>
        have HV := Lib.hid (show v = 0 from HC.out)
        have hk : ¬ ((k + 3 : Nat) : Int) < 3 := by omega
        clear HC
        go_wp2
        go_ret
        exact ⟨by rw [HV.out] <;> rfl, HB2.out.trans ⟨rfl, rfl, rfl, Nat.le_refl _, fun _ _ => rfl⟩⟩
theorem entC_split (a b : Ent) : entC a b = if placeC a b ≠ 0 then placeC a b else cmpBytes a.val.toList b.val.toList := by
  show (if cmpInt a.g b.g ≠ 0 then cmpInt a.g b.g else if cmpBytes a.nm.toList b.nm.toList ≠ 0 then cmpBytes a.nm.toList b.nm.toList else if cmpBytes a.key.toList b.key.toList ≠ 0 then cmpBytes a.key.toList b.key.toList else cmpBytes a.val.toList b.val.toList) =
    (if (if cmpInt a.g b.g ≠ 0 then cmpInt a.g b.g else if cmpBytes a.nm.toList b.nm.toList ≠ 0 then cmpBytes a.nm.toList b.nm.toList else cmpBytes a.key.toList b.key.toList) ≠ 0 then (if cmpInt a.g b.g ≠ 0 then cmpInt a.g b.g else if cmpBytes a.nm.toList b.nm.toList ≠ 0 then cmpBytes a.nm.toList b.nm.toList else cmpBytes a.key.toList b.key.toList) else cmpBytes a.val.toList b.val.toList)
  by_cases h1 : cmpInt a.g b.g = 0 <;> by_cases h2 : cmpBytes a.nm.toList b.nm.toList = 0 <;> by_cases h3 : cmpBytes a.key.toList b.key.toList = 0 <;> simp [h1, h2, h3]

def GD (w w' : World) : Prop := ∃ q os, w' = grow (w.drewN q) os
theorem grow_drewN (w : World) (os : Array Obj) (q : Nat) : (grow w os).drewN q = grow (w.drewN q) os := rfl
theorem GD.refl (w : World) : GD w w := ⟨0, #[], by rw [grow_empty]; rfl⟩
theorem GD.trans {w w1 w2 : World} (h : GD w w1) (k : GD w1 w2) : GD w w2 := by
  obtain ⟨q, os, rfl⟩ := h
  obtain ⟨q', os', rfl⟩ := k
  exact ⟨q + q', os ++ os', by rw [grow_drewN, grow_grow, World.drewN_drewN]⟩
theorem GD.alloc {w w' : World} (h : GD w w') (o : Obj) : GD w (w'.alloc o) := h.trans ⟨0, #[o], by rw [alloc_eq_grow]; rfl⟩
theorem GD.drew {w w' : World} (h : GD w w') : GD w w'.drew := h.trans ⟨1, #[], by rw [grow_empty]; rfl⟩
theorem GD.below {w w' : World} (h : GD w w') : Below w.heap.size w w' := by
  obtain ⟨q, os, rfl⟩ := h
  refine ⟨rfl, rfl, rfl, ?_, fun k hk => ?_⟩
  · show w.heap.size ≤ (w.heap ++ os).size
    simp
  · show (w.heap ++ os)[k]? = w.heap[k]?
    rw [Array.getElem?_append_left hk]
set_option maxHeartbeats 400000 in
theorem nanI_any (x : Int) (w : World) : Calls Tryz.prog 139 #[.int .i64 x] w fun e w' => e = .returned (.bool false) ∧ w = w' := by
  go_enter Tryz.func139, Tryz.ntmps139
  go_wp2
  go_ret
  exact ⟨by simp, rfl⟩
set_option maxHeartbeats 1000000 in
theorem cmpI_any (x y : Int) (w : World) :
    Calls Tryz.prog 112 #[.int .i64 x, .int .i64 y] w fun e w' => e = .returned (.int .i64 (cmpInt x y)) ∧ w = w' := by
  have HC := Lib.hid (show cmpInt x y = if x < y then -1 else if y < x then 1 else 0 from rfl)
  generalize cmpInt x y = c at *
  by_cases h1 : x < y
  · have HR := Lib.hid (show c = -1 by rw [HC.out, if_pos h1])
    go_enter Tryz.func112, Tryz.ntmps112
    go_wp2_with (go_at_call 139; refine (nanI_any _ _).mono ?_; rintro e w' ⟨rfl, rfl⟩)
    go_ret
    exact ⟨by rw [HR.out] <;> rfl, rfl⟩
  · by_cases h2 : y < x
    · have HR := Lib.hid (show c = 1 by rw [HC.out, if_neg h1, if_pos h2])
      go_enter Tryz.func112, Tryz.ntmps112
      go_wp2_with (go_at_call 139; refine (nanI_any _ _).mono ?_; rintro e w' ⟨rfl, rfl⟩)
      go_ret
      exact ⟨by rw [HR.out] <;> rfl, rfl⟩
    · have HR := Lib.hid (show c = 0 by rw [HC.out, if_neg h1, if_neg h2])
      go_enter Tryz.func112, Tryz.ntmps112
      go_wp2_with (go_at_call 139; refine (nanI_any _ _).mono ?_; rintro e w' ⟨rfl, rfl⟩)
      go_ret
      exact ⟨by rw [HR.out] <;> rfl, rfl⟩
set_option maxHeartbeats 1000000 in
theorem plc1_any (x y : Ent) (w : World) : Calls Tryz.prog 111 #[x.v, y.v] w fun e w' => e = .returned (.int .i64 (cmpInt x.g y.g)) ∧ GD w w' := by
  obtain ⟨xg, x1, x2, x3⟩ := x
  obtain ⟨yg, y1, y2, y3⟩ := y
  have HG := Lib.hid (fun o1 o2 => ((GD.refl w).alloc o1).alloc o2)
  go_enter Tryz.func111, Tryz.ntmps111
  go_wp2_with (go_at_call 112; refine (cmpI_any _ _ _).mono ?_; rintro e w' ⟨rfl, rfl⟩)
  go_ret
  exact ⟨rfl, HG.out _ _⟩
set_option maxHeartbeats 1000000 in
theorem plc2_any (x y : Ent) (w : World) : Calls Tryz.prog 113 #[x.v, y.v] w fun e w' => e = .returned (.int .i64 (cmpBytes x.nm.toList y.nm.toList)) ∧ GD w w' := by
  obtain ⟨xg, x1, x2, x3⟩ := x
  obtain ⟨yg, y1, y2, y3⟩ := y
  have HG := Lib.hid (fun o1 o2 => ((GD.refl w).alloc o1).alloc o2)
  go_enter Tryz.func113, Tryz.ntmps113
  go_wp2_with (go_at_call 95; refine (cmpStr_any _ _ _).mono ?_; rintro e w' ⟨rfl, rfl⟩)
  go_ret
  exact ⟨rfl, HG.out _ _⟩
set_option maxHeartbeats 1000000 in
theorem plc3_any (x y : Ent) (w : World) : Calls Tryz.prog 114 #[x.v, y.v] w fun e w' => e = .returned (.int .i64 (cmpBytes x.key.toList y.key.toList)) ∧ GD w w' := by
  obtain ⟨xg, x1, x2, x3⟩ := x
  obtain ⟨yg, y1, y2, y3⟩ := y
  have HG := Lib.hid (fun o1 o2 => ((GD.refl w).alloc o1).alloc o2)
  go_enter Tryz.func114, Tryz.ntmps114
  go_wp2_with (go_at_call 95; refine (cmpStr_any _ _ _).mono ?_; rintro e w' ⟨rfl, rfl⟩)
  go_ret
  exact ⟨rfl, HG.out _ _⟩
set_option maxHeartbeats 1000000 in
theorem cmp1_any (x y : Ent) (w : World) : Calls Tryz.prog 94 #[x.v, y.v] w fun e w' => e = .returned (.int .i64 (cmpBytes x.val.toList y.val.toList)) ∧ GD w w' := by
  obtain ⟨xg, x1, x2, x3⟩ := x
  obtain ⟨yg, y1, y2, y3⟩ := y
  have HG := Lib.hid (fun o1 o2 => ((GD.refl w).alloc o1).alloc o2)
  go_enter Tryz.func94, Tryz.ntmps94
  go_wp2_with (go_at_call 95; refine (cmpStr_any _ _ _).mono ?_; rintro e w' ⟨rfl, rfl⟩)
  go_ret
  exact ⟨rfl, HG.out _ _⟩
/-- The first that is not zero. -/
def firstC : List Int → Int
  | [] => 0
  | c :: cs => if c ≠ 0 then c else firstC cs
/-- Functions that compare x and y, each its way. -/
def CmpF (x y : Ent) (F : FuncId) (c : Int) : Prop := (∀ args w, Sem.run Tryz.prog (callFunc F args) w = .ok (.enter F args) w) ∧ ∀ w, Calls Tryz.prog F #[x.v, y.v] w fun e w' => e = .returned (.int .i64 c) ∧ GD w w'
set_option maxRecDepth 100000 in
set_option maxHeartbeats 4000000 in
theorem compared1_any (x y : Ent) (fs : List (FuncId × Int)) (bx fb : Nat) (w : World) (hl : fs.length ≤ 100) (hf : ∀ p ∈ fs, CmpF x y p.1 p.2) (hlt : bx < w.heap.size) (hlf : fb < w.heap.size)
    (hb : w.cell? ⟨bx, 0, none⟩ = some (.slice (some ⟨fb, 0, none⟩) fs.length fs.length)) (hc : ∀ k (h : k < fs.length), w.cell? ⟨fb, k, none⟩ = some (.func (.func fs[k].1) #[] #[])) :
    Calls Tryz.prog 110 #[x.v, y.v, .pointer (some ⟨bx, 0, none⟩)] w fun e w' => e = .returned (.int .i64 (firstC (fs.map Prod.snd))) ∧ GD w w' := by
  obtain ⟨xg, x1, x2, x3⟩ := x
  obtain ⟨yg, y1, y2, y3⟩ := y
  have HF := Lib.hid hf
  have HC := Lib.hid hc
  have HG := Lib.hid (fun o1 o2 => ((GD.refl w).alloc o1).alloc o2)
  have HFC := Lib.hid (fun (k : Nat) (h : k < fs.length) => (show firstC ((fs.map Prod.snd).drop k) = if fs[k].2 ≠ 0 then fs[k].2 else firstC ((fs.map Prod.snd).drop (k + 1)) by
    rw [List.drop_eq_getElem_cons (by simpa using h)]; simp [firstC]))
  have HEND := Lib.hid (show firstC ((fs.map Prod.snd).drop fs.length) = 0 by rw [List.drop_eq_nil_of_le (by simp)]; rfl)
  have H0 := Lib.hid (show firstC (fs.map Prod.snd) = firstC ((fs.map Prod.snd).drop 0) by simp)
  generalize firstC (fs.map Prod.snd) = R at *
  have hfl : (fs.length : Int) ≤ 9223372036854775807 := by omega
  clear hf hc
  have b0 : ∀ o1 o2, ((w.alloc o1).alloc o2).cell? ⟨bx, 0, none⟩ = some (.slice (some ⟨fb, 0, none⟩) fs.length fs.length) := fun o1 o2 => below_mem (HG.out o1 o2).below _ _ _ hb
  go_enter Tryz.func110, Tryz.ntmps110
  go_wp2_with fail
  have HX := Lib.hid (HG.out (.cells #[.int .i64 xg, .string x1, .string x2, .string x3] 92) (.cells #[.int .i64 yg, .string y1, .string y2, .string y3] 92))
  have HBX := Lib.hid (alloc_at0 w (.cells #[.int .i64 xg, .string x1, .string x2, .string x3] 92) (.cells #[.int .i64 yg, .string y1, .string y2, .string y3] 92))
  have HBY := Lib.hid (alloc_at1 w (.cells #[.int .i64 xg, .string x1, .string x2, .string x3] 92) (.cells #[.int .i64 yg, .string y1, .string y2, .string y3] 92))
  clear b0 HG
  generalize (w.alloc (.cells #[.int .i64 xg, .string x1, .string x2, .string x3] 92)).alloc (.cells #[.int .i64 yg, .string y1, .string y2, .string y3] 92) = X at *
  have HK := Lib.hid (fun (wr : World) (h : GD X wr) => (show GD w wr from HX.out.trans h))
  have HXX := Lib.hid (fun (wr : World) (h : GD X wr) => (show wr.heap[w.heap.size]? = some (.cells #[.int .i64 xg, .string x1, .string x2, .string x3] 92 (0, 0)) from (h.below.block _ (Array.getElem?_eq_some_iff.1 HBX.out).1).trans HBX.out))
  have HXY := Lib.hid (fun (wr : World) (h : GD X wr) => (show wr.heap[w.heap.size + 1]? = some (.cells #[.int .i64 yg, .string y1, .string y2, .string y3] 92 (0, 0)) from (h.below.block _ (Array.getElem?_eq_some_iff.1 HBY.out).1).trans HBY.out))
  have HCC := Lib.hid (fun (wr : World) (h : GD X wr) (k : Nat) (hk : k < fs.length) => (show wr.cell? ⟨fb, k, none⟩ = some (.func (.func fs[k].1) #[] #[]) from below_mem (HX.out.trans h).below _ _ _ (HC.out k hk)))
  clear HC HBX HBY
  go_loopw [11] (fun i wr => ∃ k : Nat, k ≤ fs.length ∧ i = .int .i64 k ∧ Hid (GD X wr) ∧ Hid (R = firstC ((fs.map Prod.snd).drop k))) (fun i _ => fs.length - (intOf i).toNat)
  case atStart => exact ⟨0, by omega, rfl, Lib.hid (GD.refl _), H0⟩
  case round =>
    clear H0
    obtain ⟨k, hk, rfl, HGR, HR⟩ := hrel
    by_cases hlt : k < fs.length
    · have c0 := HCC.out _ HGR.out k hlt
      have hbx := HXX.out _ HGR.out
      have hby := HXY.out _ HGR.out
      have x0 : wr.cell? ⟨w.heap.size, 0, none⟩ = some (.int .i64 xg) := mem_cells hbx 0
      have x1' : wr.cell? ⟨w.heap.size, 1, none⟩ = some (.string x1) := mem_cells hbx 1
      have x2' : wr.cell? ⟨w.heap.size, 2, none⟩ = some (.string x2) := mem_cells hbx 2
      have x3' : wr.cell? ⟨w.heap.size, 3, none⟩ = some (.string x3) := mem_cells hbx 3
      have y0 : wr.cell? ⟨w.heap.size + 1, 0, none⟩ = some (.int .i64 yg) := mem_cells hby 0
      have y1' : wr.cell? ⟨w.heap.size + 1, 1, none⟩ = some (.string y1) := mem_cells hby 1
      have y2' : wr.cell? ⟨w.heap.size + 1, 2, none⟩ = some (.string y2) := mem_cells hby 2
      have y3' : wr.cell? ⟨w.heap.size + 1, 3, none⟩ = some (.string y3) := mem_cells hby 3
      have HFK := Lib.hid (HFC.out k hlt)
      obtain ⟨hcf, hcl⟩ := HF.out fs[k] (List.getElem_mem hlt)
      have HCL := Lib.hid hcl
      clear hcl hbx hby
      generalize fs[k].1 = F at *
      generalize fs[k].2 = c at *
      go_wp2_with fail
      refine (HCL.out _).mono ?_
      rintro e w1 ⟨rfl, hg1⟩
      have HG1 := Lib.hid (HGR.out.trans hg1)
      clear hg1 c0 x0 x1' x2' x3' y0 y1' y2' y3'
      by_cases hz : c = 0
      · have hzb : (c == 0) = true := by simp [hz]
        have HR2 := Lib.hid (show R = firstC ((fs.map Prod.snd).drop (k + 1)) by rw [HR.out, HFK.out, if_neg (by simp [hz])])
        go_wp2
        go_roundw
        case rel => exact ⟨k + 1, by omega, by go_num, HG1, HR2⟩
        case measure => simp [intOf]; omega
      · have hzb : (c == 0) = false := by simp [hz]
        have HR2 := Lib.hid (show R = c by rw [HR.out, HFK.out, if_pos hz])
        have HGE := Lib.hid (HK.out _ HG1.out)
        go_wp2
        go_ret
        exact ⟨by rw [HR2.out] <;> rfl, HGE.out⟩
    · obtain rfl : k = fs.length := by omega
      have hR0 := HR.out.trans HEND.out
      have HGE := Lib.hid (HK.out _ HGR.out)
      subst hR0
      go_wp2
      go_ret
      exact ⟨rfl, HGE.out⟩
set_option maxHeartbeats 400000 in
theorem compd_any (a : Option Addr) (n c : Nat) (w : World) : Calls Tryz.prog 92 #[.slice a n c] w fun e w' => ∃ bx, e = .returned (.func (.func 110) #[] #[.pointer (some ⟨bx, 0, none⟩)]) ∧ GD w w' ∧ w'.cell? ⟨bx, 0, none⟩ = some (.slice a n c) ∧ bx < w'.heap.size := by
  have HG := Lib.hid (fun o => (GD.refl w).alloc o)
  have HN := Lib.hid (fun (cs : Array Value) (T : TypeId) => (show (w.alloc (.cells cs T)).cell? ⟨w.heap.size, 0, none⟩ = cs[0]? from mem_cells_new w cs T (0, 0) 0))
  have HL := Lib.hid (fun (o : Obj) => (show w.heap.size < (w.alloc o).heap.size by simp))
  go_enter Tryz.func92, Tryz.ntmps92
  go_wp2
  go_ret
  exact ⟨_, rfl, HG.out _, HN.out _ _, HL.out _⟩
theorem placeC_c (x y : Ent) : firstC [cmpInt x.g y.g, cmpBytes x.nm.toList y.nm.toList, cmpBytes x.key.toList y.key.toList] = placeC x y := by
  show _ = (if cmpInt x.g y.g ≠ 0 then cmpInt x.g y.g else if cmpBytes x.nm.toList y.nm.toList ≠ 0 then cmpBytes x.nm.toList y.nm.toList else cmpBytes x.key.toList y.key.toList)
  unfold firstC firstC firstC firstC
  by_cases h : cmpBytes x.key.toList y.key.toList = 0 <;> simp [h]
theorem place0_eq (x y : Ent) : firstC ([(111, cmpInt x.g y.g), (113, cmpBytes x.nm.toList y.nm.toList), (114, cmpBytes x.key.toList y.key.toList)].map Prod.snd) = placeC x y := placeC_c x y
set_option maxRecDepth 100000 in
set_option maxHeartbeats 4000000 in
theorem place0_any (x y : Ent) (w : World) : Calls Tryz.prog 93 #[x.v, y.v] w fun e w' => e = .returned (.int .i64 (placeC x y)) ∧ GD w w' := by
  have HF := Lib.hid (show ∀ p ∈ ([(111, cmpInt x.g y.g), (113, cmpBytes x.nm.toList y.nm.toList), (114, cmpBytes x.key.toList y.key.toList)] : List (FuncId × Int)), CmpF x y p.1 p.2 from fun p hp => by
    simp only [List.mem_cons, List.not_mem_nil, or_false] at hp
    rcases hp with rfl | rfl | rfl
    · exact ⟨fun _ _ => rfl, fun w => plc1_any x y w⟩
    · exact ⟨fun _ _ => rfl, fun w => plc2_any x y w⟩
    · exact ⟨fun _ _ => rfl, fun w => plc3_any x y w⟩)
  have HCV := Lib.hid (show firstC (([(111, cmpInt x.g y.g), (113, cmpBytes x.nm.toList y.nm.toList), (114, cmpBytes x.key.toList y.key.toList)] : List (FuncId × Int)).map Prod.snd) = placeC x y from place0_eq x y)
  have HCP := Lib.hid (fun (bx fb : Nat) (w' : World) (hlt : bx < w'.heap.size) (hlf : fb < w'.heap.size) (hb : w'.cell? ⟨bx, 0, none⟩ = some (.slice (some ⟨fb, 0, none⟩) 3 3)) (hc : ∀ k (h : k < 3), w'.cell? ⟨fb, k, none⟩ = some (.func (.func ([(111, cmpInt x.g y.g), (113, cmpBytes x.nm.toList y.nm.toList), (114, cmpBytes x.key.toList y.key.toList)][k]'h).1) #[] #[])) => compared1_any x y [(111, cmpInt x.g y.g), (113, cmpBytes x.nm.toList y.nm.toList), (114, cmpBytes x.key.toList y.key.toList)] bx fb w' (by simp) HF.out hlt hlf hb hc)
  rw [HCV.out] at HCP
  generalize placeC x y = c at *
  obtain ⟨xg, x1, x2, x3⟩ := x
  obtain ⟨yg, y1, y2, y3⟩ := y
  have HG := Lib.hid (((GD.refl w).alloc (.cells #[.int .i64 xg, .string x1, .string x2, .string x3] 92)).alloc (.cells #[.int .i64 yg, .string y1, .string y2, .string y3] 92))
  have HBX := Lib.hid (alloc_at0 w (.cells #[.int .i64 xg, .string x1, .string x2, .string x3] 92) (.cells #[.int .i64 yg, .string y1, .string y2, .string y3] 92))
  have HBY := Lib.hid (alloc_at1 w (.cells #[.int .i64 xg, .string x1, .string x2, .string x3] 92) (.cells #[.int .i64 yg, .string y1, .string y2, .string y3] 92))
  go_enter Tryz.func93, Tryz.ntmps93
  go_wp2_with fail
  generalize (w.alloc (.cells #[.int .i64 xg, .string x1, .string x2, .string x3] 92)).alloc (.cells #[.int .i64 yg, .string y1, .string y2, .string y3] 92) = X at *
  have HXS := Lib.hid (show w.heap.size < X.heap.size ∧ w.heap.size + 1 < X.heap.size from ⟨(Array.getElem?_eq_some_iff.1 HBX.out).1, (Array.getElem?_eq_some_iff.1 HBY.out).1⟩)
  have HS := Lib.hid (fun (w' : World) (h : GD X w') => (show w'.cell? ⟨w.heap.size, 0, none⟩ = some (.int .i64 xg) ∧ w'.cell? ⟨w.heap.size, 1, none⟩ = some (.string x1) ∧ w'.cell? ⟨w.heap.size, 2, none⟩ = some (.string x2) ∧ w'.cell? ⟨w.heap.size, 3, none⟩ = some (.string x3) ∧ w'.cell? ⟨w.heap.size + 1, 0, none⟩ = some (.int .i64 yg) ∧ w'.cell? ⟨w.heap.size + 1, 1, none⟩ = some (.string y1) ∧ w'.cell? ⟨w.heap.size + 1, 2, none⟩ = some (.string y2) ∧ w'.cell? ⟨w.heap.size + 1, 3, none⟩ = some (.string y3) from by
    have hx := (h.below.block _ HXS.out.1).trans HBX.out
    have hy := (h.below.block _ HXS.out.2).trans HBY.out
    exact ⟨mem_cells hx 0, mem_cells hx 1, mem_cells hx 2, mem_cells hx 3, mem_cells hy 0, mem_cells hy 1, mem_cells hy 2, mem_cells hy 3⟩))
  have hg0 : GD X X.drew := (GD.refl X).drew
  have hg1 : ∀ o, GD X (X.alloc o).drew := fun o => ((GD.refl X).alloc o).drew
  have HNW := Lib.hid (fun (cs : Array Value) (T : TypeId) (o : Nat) => (show (X.alloc (.cells cs T)).drew.cell? ⟨X.heap.size, o, none⟩ = cs[o]? from mem_cells_new X cs T (0, 0) o))
  have HNL := Lib.hid (fun (o : Obj) => (show X.heap.size < (X.alloc o).drew.heap.size from Nat.lt_of_lt_of_eq (Nat.lt_succ_self _) (by show _ = (X.alloc o).heap.size; simp)))
  go_region_held3 (fun w' => w'.cell? ⟨w.heap.size, 0, none⟩ = some (.int .i64 xg) ∧ w'.cell? ⟨w.heap.size, 1, none⟩ = some (.string x1) ∧ w'.cell? ⟨w.heap.size, 2, none⟩ = some (.string x2) ∧ w'.cell? ⟨w.heap.size, 3, none⟩ = some (.string x3) ∧ w'.cell? ⟨w.heap.size + 1, 0, none⟩ = some (.int .i64 yg) ∧ w'.cell? ⟨w.heap.size + 1, 1, none⟩ = some (.string y1) ∧ w'.cell? ⟨w.heap.size + 1, 2, none⟩ = some (.string y2) ∧ w'.cell? ⟨w.heap.size + 1, 3, none⟩ = some (.string y3))
    (first | with_reducible exact HS.out _ hg0 | with_reducible exact HS.out _ (hg1 _) | with_reducible exact HS.out _ hg2 | with_reducible exact HS.out _ hg3)
    ((first
      | (go_at_call 92; refine (compd_any _ _ _ _).mono ?_; rintro e w2 ⟨bx, rfl, hg, hbx, hlt⟩; have hg2 := (hg1 _).trans hg; have hC := HCP.out bx X.heap.size w2 hlt (Nat.lt_of_lt_of_le (HNL.out _) hg.below.size) hbx (fun k h => below_mem hg.below _ _ _ ((HNW.out _ _ k).trans (by match k, h with
        | 0, _ => rfl
        | 1, _ => rfl
        | 2, _ => rfl
        | k + 3, h => exact absurd h (by omega)))); clear hg hbx hlt)
      | (go_at_call 110; refine hC.mono ?_; rintro e w3 ⟨rfl, hg⟩; have hg3 := hg2.trans hg)))
  all_goals
    have HE := Lib.hid (HG.out.trans hg3)
    go_wp2
    go_ret
    exact ⟨rfl, HE.out⟩
theorem cmpE_eq (x y : Ent) : firstC ([(93, placeC x y), (94, cmpBytes x.val.toList y.val.toList)].map Prod.snd) = entC x y := by
  rw [entC_split]
  show firstC [placeC x y, cmpBytes x.val.toList y.val.toList] = _
  unfold firstC firstC firstC
  by_cases h : cmpBytes x.val.toList y.val.toList = 0 <;> simp [h]
set_option maxRecDepth 100000 in
set_option maxHeartbeats 4000000 in
theorem cmpE_any (x y : Ent) (w : World) : Calls Tryz.prog 82 #[x.v, y.v] w fun e w' => e = .returned (.int .i64 (entC x y)) ∧ GD w w' := by
  have HF := Lib.hid (show ∀ p ∈ ([(93, placeC x y), (94, cmpBytes x.val.toList y.val.toList)] : List (FuncId × Int)), CmpF x y p.1 p.2 from fun p hp => by
    simp only [List.mem_cons, List.not_mem_nil, or_false] at hp
    rcases hp with rfl | rfl
    · exact ⟨fun _ _ => rfl, fun w => place0_any x y w⟩
    · exact ⟨fun _ _ => rfl, fun w => cmp1_any x y w⟩)
  have HCV := Lib.hid (show firstC (([(93, placeC x y), (94, cmpBytes x.val.toList y.val.toList)] : List (FuncId × Int)).map Prod.snd) = entC x y from cmpE_eq x y)
  have HCP := Lib.hid (fun (bx fb : Nat) (w' : World) (hlt : bx < w'.heap.size) (hlf : fb < w'.heap.size) (hb : w'.cell? ⟨bx, 0, none⟩ = some (.slice (some ⟨fb, 0, none⟩) 2 2)) (hc : ∀ k (h : k < 2), w'.cell? ⟨fb, k, none⟩ = some (.func (.func ([(93, placeC x y), (94, cmpBytes x.val.toList y.val.toList)][k]'h).1) #[] #[])) => compared1_any x y [(93, placeC x y), (94, cmpBytes x.val.toList y.val.toList)] bx fb w' (by simp) HF.out hlt hlf hb hc)
  rw [HCV.out] at HCP
  generalize entC x y = c at *
  obtain ⟨xg, x1, x2, x3⟩ := x
  obtain ⟨yg, y1, y2, y3⟩ := y
  have HG := Lib.hid (((GD.refl w).alloc (.cells #[.int .i64 xg, .string x1, .string x2, .string x3] 92)).alloc (.cells #[.int .i64 yg, .string y1, .string y2, .string y3] 92))
  have HBX := Lib.hid (alloc_at0 w (.cells #[.int .i64 xg, .string x1, .string x2, .string x3] 92) (.cells #[.int .i64 yg, .string y1, .string y2, .string y3] 92))
  have HBY := Lib.hid (alloc_at1 w (.cells #[.int .i64 xg, .string x1, .string x2, .string x3] 92) (.cells #[.int .i64 yg, .string y1, .string y2, .string y3] 92))
  go_enter Tryz.func82, Tryz.ntmps82
  go_wp2_with fail
  generalize (w.alloc (.cells #[.int .i64 xg, .string x1, .string x2, .string x3] 92)).alloc (.cells #[.int .i64 yg, .string y1, .string y2, .string y3] 92) = X at *
  have HXS := Lib.hid (show w.heap.size < X.heap.size ∧ w.heap.size + 1 < X.heap.size from ⟨(Array.getElem?_eq_some_iff.1 HBX.out).1, (Array.getElem?_eq_some_iff.1 HBY.out).1⟩)
  have HS := Lib.hid (fun (w' : World) (h : GD X w') => (show w'.cell? ⟨w.heap.size, 0, none⟩ = some (.int .i64 xg) ∧ w'.cell? ⟨w.heap.size, 1, none⟩ = some (.string x1) ∧ w'.cell? ⟨w.heap.size, 2, none⟩ = some (.string x2) ∧ w'.cell? ⟨w.heap.size, 3, none⟩ = some (.string x3) ∧ w'.cell? ⟨w.heap.size + 1, 0, none⟩ = some (.int .i64 yg) ∧ w'.cell? ⟨w.heap.size + 1, 1, none⟩ = some (.string y1) ∧ w'.cell? ⟨w.heap.size + 1, 2, none⟩ = some (.string y2) ∧ w'.cell? ⟨w.heap.size + 1, 3, none⟩ = some (.string y3) from by
    have hx := (h.below.block _ HXS.out.1).trans HBX.out
    have hy := (h.below.block _ HXS.out.2).trans HBY.out
    exact ⟨mem_cells hx 0, mem_cells hx 1, mem_cells hx 2, mem_cells hx 3, mem_cells hy 0, mem_cells hy 1, mem_cells hy 2, mem_cells hy 3⟩))
  have hg0 : GD X X.drew := (GD.refl X).drew
  have hg1 : ∀ o, GD X (X.alloc o).drew := fun o => ((GD.refl X).alloc o).drew
  have HNW := Lib.hid (fun (cs : Array Value) (T : TypeId) (o : Nat) => (show (X.alloc (.cells cs T)).drew.cell? ⟨X.heap.size, o, none⟩ = cs[o]? from mem_cells_new X cs T (0, 0) o))
  have HNL := Lib.hid (fun (o : Obj) => (show X.heap.size < (X.alloc o).drew.heap.size from Nat.lt_of_lt_of_eq (Nat.lt_succ_self _) (by show _ = (X.alloc o).heap.size; simp)))
  go_region_held3 (fun w' => w'.cell? ⟨w.heap.size, 0, none⟩ = some (.int .i64 xg) ∧ w'.cell? ⟨w.heap.size, 1, none⟩ = some (.string x1) ∧ w'.cell? ⟨w.heap.size, 2, none⟩ = some (.string x2) ∧ w'.cell? ⟨w.heap.size, 3, none⟩ = some (.string x3) ∧ w'.cell? ⟨w.heap.size + 1, 0, none⟩ = some (.int .i64 yg) ∧ w'.cell? ⟨w.heap.size + 1, 1, none⟩ = some (.string y1) ∧ w'.cell? ⟨w.heap.size + 1, 2, none⟩ = some (.string y2) ∧ w'.cell? ⟨w.heap.size + 1, 3, none⟩ = some (.string y3))
    (first | with_reducible exact HS.out _ hg0 | with_reducible exact HS.out _ (hg1 _) | with_reducible exact HS.out _ hg2 | with_reducible exact HS.out _ hg3)
    ((first
      | (go_at_call 92; refine (compd_any _ _ _ _).mono ?_; rintro e w2 ⟨bx, rfl, hg, hbx, hlt⟩; have hg2 := (hg1 _).trans hg; have hC := HCP.out bx X.heap.size w2 hlt (Nat.lt_of_lt_of_le (HNL.out _) hg.below.size) hbx (fun k h => below_mem hg.below _ _ _ ((HNW.out _ _ k).trans (by match k, h with
        | 0, _ => rfl
        | 1, _ => rfl
        | k + 2, h => exact absurd h (by omega)))); clear hg hbx hlt)
      | (go_at_call 110; refine hC.mono ?_; rintro e w3 ⟨rfl, hg⟩; have hg3 := hg2.trans hg)))
  all_goals
    have HE := Lib.hid (HG.out.trans hg3)
    go_wp2
    go_ret
    exact ⟨rfl, HE.out⟩
end Go.Proofs.YtnfolemblnnejaaGreat
/- The reference's SortedEntries: plain (printed by gen_vsort.py). -/
namespace Go.Proofs.YtnfolemblnnejaaGreat
open Go.RowKit Go.Maps

theorem entC_good : Good entC := lex_good (cmpInt_good.pull (fun a : Ent => a.g)) (lex_good (cmpBytes_good.pull (fun a : Ent => a.nm.toList)) (lex_good (cmpBytes_good.pull (fun a : Ent => a.key.toList)) (cmpBytes_good.pull (fun a : Ent => a.val.toList))))
def swapE (ys : List Ent) (j : Nat) : List Ent := (ys.set j (ys.getD (j + 1) default)).set (j + 1) (ys.getD j default)
theorem swapE_len (ys : List Ent) (j : Nat) : (swapE ys j).length = ys.length := by simp [swapE]
theorem swapE_perm {ys : List Ent} {j : Nat} (h : j + 1 < ys.length) : (swapE ys j).Perm ys := by
  have := List.set_set_perm (i := j) (j := j + 1) (show j < ys.length by omega) h
  unfold swapE
  rw [show ys.getD (j + 1) default = ys[j + 1] by simp [List.getD, h], show ys.getD j default = ys[j] by simp [List.getD, show j < ys.length by omega]]
  exact this
theorem swapE_get {ys : List Ent} {j : Nat} (h : j + 1 < ys.length) (k : Nat) : (swapE ys j).getD k default = if k = j then ys.getD (j + 1) default else if k = j + 1 then ys.getD j default else ys.getD k default := by
  unfold swapE
  simp only [List.getD_eq_getElem?_getD, List.getElem?_set]
  by_cases h1 : k = j + 1
  · subst h1; simp [h]
  · by_cases h2 : k = j
    · subst h2; simp [show ¬ k + 1 = k by omega]; simp [show k < ys.length by omega]
    · simp [Ne.symm h1, Ne.symm h2, h1, h2]
/-- In order up to i, but for the place j. -/
def ButE (ys : List Ent) (i j : Nat) : Prop := ∀ a b, a < b → b ≤ i → b ≠ j → entC (ys.getD a default) (ys.getD b default) ≤ 0
def ToE (ys : List Ent) (k : Nat) : Prop := ∀ a b, a < b → b < k → entC (ys.getD a default) (ys.getD b default) ≤ 0
theorem ToE.but {ys : List Ent} {k : Nat} (h : ToE ys k) : ButE ys k k := fun a b h1 h2 h3 => h a b h1 (by omega)
theorem ButE.swap {ys : List Ent} {i j : Nat} (h : ButE ys i (j + 1)) (hj : j + 1 ≤ i) (hi : i < ys.length) (hlt : 0 < entC (ys.getD j default) (ys.getD (j + 1) default)) : ButE (swapE ys j) i j := fun a b h1 h2 h3 => by
  rw [swapE_get (by omega), swapE_get (by omega), if_neg h3]
  by_cases hb : b = j + 1
  · rw [if_pos hb]
    by_cases ha : a = j
    · rw [if_pos ha]; have := entC_good.anti (ys.getD j default) (ys.getD (j + 1) default); omega
    · rw [if_neg ha, if_neg (by omega)]
      exact h a j (by omega) (by omega) (by omega)
  · rw [if_neg hb]
    by_cases ha : a = j
    · rw [if_pos ha]; exact h (j + 1) b (by omega) h2 hb
    · rw [if_neg ha]
      by_cases ha2 : a = j + 1
      · rw [if_pos ha2]; exact h j b (by omega) h2 hb
      · rw [if_neg ha2]; exact h a b h1 h2 hb
theorem ButE.done {ys : List Ent} {i j : Nat} (h : ButE ys i (j + 1)) (hj : j + 1 ≤ i) (hle : entC (ys.getD j default) (ys.getD (j + 1) default) ≤ 0) : ToE ys (i + 1) := fun a b h1 h2 => by
  by_cases hb : b = j + 1
  · subst hb
    by_cases ha : a = j
    · subst ha; exact hle
    · exact (entC_good.trans _ _ _ (h a j (by omega) (by omega) (by omega)) hle).1
  · exact h a b h1 (by omega) hb
theorem ButE.zero {ys : List Ent} {i : Nat} (h : ButE ys i 0) : ToE ys (i + 1) := fun a b h1 h2 => h a b h1 (by omega) (by omega)
theorem ToE.pairwise {ys : List Ent} {k : Nat} (h : ToE ys k) (hk : ys.length ≤ k) : ys.Pairwise (fun a b => entC a b ≤ 0) := by
  refine List.pairwise_iff_getElem.2 fun a b ha hb hab => ?_
  have := h a b hab (by omega)
  simpa [List.getD, ha, hb] using this
/-- A block's entries. -/
structure EntsC (W : World) (g o : Nat) (ys : List Ent) : Prop where
  cell : ∀ k (h : k < ys.length), W.cell? ⟨g, o + k * 4, none⟩ = some (.int .i64 ys[k].g) ∧ W.cell? ⟨g, o + k * 4 + 1, none⟩ = some (.string ys[k].nm) ∧ W.cell? ⟨g, o + k * 4 + 2, none⟩ = some (.string ys[k].key) ∧ W.cell? ⟨g, o + k * 4 + 3, none⟩ = some (.string ys[k].val)
  free : ∀ j, W.frozen? ⟨g, j, none⟩ = false
  ok : ∀ y ∈ ys, y.okE
def set4 (W : World) (g o : Nat) (x : Ent) : World := (((W.setCell ⟨g, o, none⟩ (.int .i64 x.g)).setCell ⟨g, o + 1, none⟩ (.string x.nm)).setCell ⟨g, o + 2, none⟩ (.string x.key)).setCell ⟨g, o + 3, none⟩ (.string x.val)
theorem set4_other {W : World} {g o : Nat} {x : Ent} {j : Nat} (h : j < o ∨ o + 4 ≤ j) : (set4 W g o x).cell? ⟨g, j, none⟩ = W.cell? ⟨g, j, none⟩ := by
  unfold set4
  rw [World.cell?_setCell_other _ _ _ _ (by intro e; injection e with e1 e2 e3; omega), World.cell?_setCell_other _ _ _ _ (by intro e; injection e with e1 e2 e3; omega), World.cell?_setCell_other _ _ _ _ (by intro e; injection e with e1 e2 e3; omega), World.cell?_setCell_other _ _ _ _ (by intro e; injection e with e1 e2 e3; omega)]
theorem set4_same {W : World} {g o : Nat} {x : Ent} {u0 u1 u2 u3 : Value} (h0 : W.cell? ⟨g, o, none⟩ = some u0) (h1 : W.cell? ⟨g, o + 1, none⟩ = some u1) (h2 : W.cell? ⟨g, o + 2, none⟩ = some u2) (h3 : W.cell? ⟨g, o + 3, none⟩ = some u3) :
    (set4 W g o x).cell? ⟨g, o, none⟩ = some (.int .i64 x.g) ∧ (set4 W g o x).cell? ⟨g, o + 1, none⟩ = some (.string x.nm) ∧ (set4 W g o x).cell? ⟨g, o + 2, none⟩ = some (.string x.key) ∧ (set4 W g o x).cell? ⟨g, o + 3, none⟩ = some (.string x.val) := by
  have n01 : ∀ (w : World) (i j : Nat) (v : Value), i ≠ j → (w.setCell ⟨g, o + i, none⟩ v).cell? ⟨g, o + j, none⟩ = w.cell? ⟨g, o + j, none⟩ := fun w i j v hij => World.cell?_setCell_other _ _ _ _ (by intro e; injection e with e1 e2 e3; omega)
  unfold set4
  refine ⟨?_, ?_, ?_, ?_⟩
  · have a3 := fun w v => n01 w 3 0 v (by decide)
    have a2 := fun w v => n01 w 2 0 v (by decide)
    have a1 := fun w v => n01 w 1 0 v (by decide)
    simp only [Nat.add_zero] at a1 a2 a3
    rw [a3, a2, a1, World.cell?_setCell_same _ _ _ h0]
  · rw [n01 _ 3 1 _ (by decide), n01 _ 2 1 _ (by decide)]
    refine World.cell?_setCell_same _ _ _ (u := u1) ?_
    have a0 := n01 W 0 1 (.int .i64 x.g) (by decide)
    simp only [Nat.add_zero] at a0
    rw [a0]; exact h1
  · rw [n01 _ 3 2 _ (by decide)]
    refine World.cell?_setCell_same _ _ _ (u := u2) ?_
    have a0 := n01 W 0 2 (.int .i64 x.g) (by decide)
    simp only [Nat.add_zero] at a0
    rw [n01 _ 1 2 _ (by decide), a0]; exact h2
  · refine World.cell?_setCell_same _ _ _ (u := u3) ?_
    have a0 := n01 W 0 3 (.int .i64 x.g) (by decide)
    simp only [Nat.add_zero] at a0
    rw [n01 _ 2 3 _ (by decide), n01 _ 1 3 _ (by decide), a0]; exact h3
theorem EntsC.set {W : World} {g o : Nat} {ys : List Ent} (h : EntsC W g o ys) {k : Nat} (hk : k < ys.length) {x : Ent} (hx : x.okE) : EntsC (set4 W g (o + k * 4) x) g o (ys.set k x) := by
  refine ⟨fun j hj0 => ?_, fun j => ?_, fun z hz => ?_⟩
  · have hj : j < ys.length := by simpa using hj0
    by_cases e : j = k
    · subst e
      obtain ⟨h0, h1, h2, h3⟩ := h.cell j hj
      rw [List.getElem_set_self]
      exact set4_same h0 h1 h2 h3
    · obtain ⟨h0, h1, h2, h3⟩ := h.cell j hj
      have hne : j * 4 + 4 ≤ k * 4 ∨ k * 4 + 4 ≤ j * 4 := by omega
      rw [List.getElem_set_ne (Ne.symm e)]
      rw [set4_other (by omega), set4_other (by omega), set4_other (by omega), set4_other (by omega)]
      exact ⟨h0, h1, h2, h3⟩
  · unfold set4
    rw [World.frozen?_setCell, World.frozen?_setCell, World.frozen?_setCell, World.frozen?_setCell]
    exact h.free j
  · rcases List.mem_or_eq_of_mem_set hz with e | e
    · exact h.ok z e
    · rw [e]; exact hx
theorem EntsC.below {W W' : World} {g o : Nat} {ys : List Ent} (h : EntsC W g o ys) (hg : g < W.heap.size) (hb : Below W.heap.size W W') : EntsC W' g o ys := by
  have hc : ∀ j, W'.cell? ⟨g, j, none⟩ = W.cell? ⟨g, j, none⟩ := fun j => mem_of_block (hb.block g hg) j
  refine ⟨fun k hk => ?_, fun j => ?_, h.ok⟩
  · rw [hc, hc, hc, hc]; exact h.cell k hk
  · have := h.free j
    unfold World.frozen? at this ⊢
    rw [hb.block g hg]; exact this
theorem set4_keeps (W : World) (g o : Nat) (x : Ent) : Keeps (· = g) W (set4 W g o x) := by
  unfold set4
  exact ((((Keeps.refl (· = g) W).setCell (p := ⟨g, o, none⟩) (fun _ => rfl) _).setCell (p := ⟨g, o + 1, none⟩) (fun _ => rfl) _).setCell (p := ⟨g, o + 2, none⟩) (fun _ => rfl) _).setCell (p := ⟨g, o + 3, none⟩) (fun _ => rfl) _
end Go.Proofs.YtnfolemblnnejaaGreat
/- slices.SortFunc at entries (printed by gen_vsort.py). -/
namespace Go.Proofs.YtnfolemblnnejaaGreat
open Go.RowKit Go.Shelf Go.Maps Go.Sort
theorem Good.lt_trans {α : Type} {c : α → α → Int} (g : Good c) {a b d : α} (h1 : c a b < 0) (h2 : c b d < 0) : c a d < 0 := by
  have := g.trans a b d (by omega) (by omega)
  by_cases h : c a d = 0
  · have := this.2 h; omega
  · omega
theorem ents_all {m : Mem} {l : List Ent} {v : Value} (h : tEnts.rv m [v] l) : ∀ x ∈ l, x.okE := fun x hx => by
  obtain ⟨k, hk, rfl⟩ := List.getElem_of_mem hx
  obtain ⟨a, cap, rfl, _, _, h⟩ := slice_form h
  obtain ⟨b, o, _, _, hok⟩ := ents_at h hk
  exact hok

theorem swoE : SWO (ltOf entC) := by
  have g := entC_good
  refine ⟨fun x => ?_, fun x y z h1 h2 => ?_, fun x y z h1 h2 => ?_⟩ <;> unfold ltOf at *
  · rw [g.refl]; rfl
  · simp only [decide_eq_true_eq] at *
    exact g.lt_trans h1 h2
  · simp only [decide_eq_false_iff_not, Int.not_lt] at *
    have a1 := g.anti x y
    have a2 := g.anti y z
    have a3 := g.anti x z
    have := (g.trans z y x (by omega) (by omega)).1
    omega
def encE (x : Ent) : List Value := [.int .i64 x.g, .string x.nm, .string x.key, .string x.val]
theorem aggE (w : World) : (isAgg (Tryz.sort81_ren.t 24)).run Tryz.prog w = .ok true w := Tryz.isAgg92 w
theorem sizeE (w : World) : (Go.sizeOf (Tryz.sort81_ren.t 24)).run Tryz.prog w = .ok 4 w := Tryz.sizeOf92 w
theorem cmpLaysE (blk off size : Nat) (w : World) : CmpLays Tryz.prog 82 #[] encE 4 entC blk off size w :=
  fun _ _ _ _ x y => cmpE_any x y _
theorem sortWorld_keepsE (w : World) (blk off m : Nat) (d : Array Ent) (os : Array Obj) : Keeps (fun k => k = blk) w (sortWorldK encE 4 w blk off m d os) := by
  refine ⟨rfl, rfl, rfl, ?_, fun k hk hne => ?_⟩
  · show w.heap.size ≤ ((w.heap.modify blk _) ++ os).size
    simp
  · show ((w.heap.modify blk _) ++ os)[k]? = w.heap[k]?
    rw [Array.getElem?_append_left (by simpa using hk), Array.getElem?_modify, if_neg (fun e => hne e.symm)]
theorem holds_rvE {w : World} {blk off : Nat} {d : Array Ent} {cap : Nat} (h : HoldsK encE 4 w blk off d) (hc : d.size ≤ cap) (hm : cap ≤ maxLen) {S : Nat → Prop} (hS : S blk) (hok : ∀ y ∈ d.toList, y.okE) : tEnts.rv ((mem w).on S) [.slice (some ⟨blk, off, none⟩) d.size cap] d.toList := by
  refine ⟨some ⟨blk, off, none⟩, cap, by simp, by simpa using hc, hm, fun _ => ⟨blk, off, rfl, fun k hk => ⟨encE d.toList[k], fun j u hj => ?_, rfl, hok _ (List.getElem_mem hk)⟩⟩⟩
  have hk' : k < d.size := by simpa using hk
  have hj2 : j < 4 := by
    have := (List.getElem?_eq_some_iff.1 hj).1
    simpa [encE] using this
  have := (h.cell hk' hj2).1
  refine Mem.on_some ?_ hS
  show w.cell? ⟨blk, off + k * 4 + j, none⟩ = some u
  rw [this]
  congr 1
  rw [getElem!_pos d k hk']
  rw [show d.toList[k] = d[k] by simp] at hj
  rw [List.getElem!_eq_getElem?_getD, hj]
  rfl
theorem owns_holdsE {w : World} {B blk cap : Nat} {o : Nat} {ss : List Ent} (h : Owns tEnt w B 92 (.slice (some ⟨blk, o, none⟩) ss.length cap) ss) : o = 0 ∧ B ≤ blk ∧ blk < w.heap.size ∧ HoldsK encE 4 w blk 0 ss.toArray := by
  have hrv := h.rv'
  obtain ⟨css, g1, ⟨g2, g3⟩, g4, g5⟩ := h
  rcases g3 with ⟨g3, _⟩ | ⟨g, cap', cur, e, hB, hg, _⟩
  · cases g3
  · injection e with e1 e2 e3
    injection e1 with e1
    injection e1 with e1 e4 e5
    subst e1; subst e4
    refine ⟨rfl, hB, (Array.getElem?_eq_some_iff.1 hg).1, fun t ht => ?_⟩
    have ht' : t < ss.length * 4 := by simpa using ht
    have hk : t / 4 < ss.length := by omega
    obtain ⟨b', o', e', cs, hat, hcs⟩ := slice_at hrv hk
    injection e' with e1
    injection e1 with e1 e4 e5
    subst e1; subst e4
    have hc := hat (t % 4) ((encE ss[t / 4])[t % 4]!) (by
      have h2 : t % 4 < 4 := Nat.mod_lt _ (by omega)
      rw [show cs = encE ss[t / 4] from hcs.1, List.getElem!_eq_getElem?_getD, List.getElem?_eq_getElem (show t % 4 < (encE ss[t / 4]).length from h2)]
      rfl)
    have he : 0 + t / 4 * tEnt.sz + t % 4 = 0 + t := by show 0 + t / 4 * 4 + t % 4 = _; omega
    rw [he] at hc
    refine ⟨?_, frozen_cells hg _⟩
    rw [get_flatK _ _ _ _ (by simpa using ht')]
    have hx : (ss.toArray)[t / 4]! = ss[t / 4] := by rw [getElem!_pos ss.toArray (t / 4) (by simpa using hk)]; simp
    rw [hx]
    exact hc
set_option maxRecDepth 100000 in
set_option maxHeartbeats 2000000 in
theorem sortE_any (base : Nat) (v : Value) (ss : List Ent) (w : World) (h : Owns tEnt w base 92 v ss) (hn : ss.length ≤ 1000000000) :
    Calls Tryz.prog 81 #[v, .func (.func 82) #[] #[]] w fun e w' => e = .returned (.tuple #[]) ∧
      ∃ tt, tt.Perm ss ∧ tt.Pairwise (fun a b => entC a b ≤ 0) ∧ tEnts.rv ((mem w').on (base ≤ ·)) [v] tt ∧ Keeps (fun k => v.ownBlock = some k) w w' ∧ ∀ k, v.ownBlock = some k → ∃ cur, w'.heap[k]? = some (.cells cur 92 (0, 0)) := by
  have hALL := ents_all h.rv'
  obtain ⟨au, cu, rfl, hlc, hmc, _⟩ := slice_form h.rv'
  cases au with
  | none =>
    have h0 : ss = [] := by
      obtain ⟨css, h1, ⟨h2, h3⟩, h4, h5⟩ := h
      rcases h3 with ⟨e, h3⟩ | ⟨g, cap, cur, e, _⟩
      · injection e with _ e _
        exact List.eq_nil_of_length_eq_zero e
      · injection e with e; cases e
    subst h0
    refine (AnyF.slices_SortFunc_none (P := Tryz.prog) (ρ := Tryz.sort81_ren) { Tryz.sort81 with } none cu _ w).mono ?_
    rintro e w' ⟨rfl, rfl⟩
    obtain ⟨css, h1, ⟨h2, h3⟩, h4, h5⟩ := h
    rcases h3 with ⟨e, h3⟩ | ⟨g, cap, cur, e, _⟩
    · injection e with _ _ e
      subst e
      exact ⟨rfl, [], List.Perm.refl _, List.Pairwise.nil, slice_nil _ _, Keeps.refl _ _, fun k e => (by cases e)⟩
    · injection e with e; cases e
  | some a =>
    obtain ⟨blk, o, sp⟩ := a
    have hsp : sp = none := by
      obtain ⟨css, h1, ⟨h2, h3⟩, h4, h5⟩ := h
      rcases h3 with ⟨e, h3⟩ | ⟨g, cap, cur, e, _⟩
      · injection e with e; cases e
      · injection e with e; injection e with e; injection e
    subst hsp
    obtain ⟨rfl, hB, hlt, hH⟩ := owns_holdsE h
    refine (AnyQ.slices_SortFunc (P := Tryz.prog) (ρ := Tryz.sort81_ren) Tryz.sort81 4 aggE sizeE encE (fun _ => rfl) (fun x v hv => by simp [encE] at hv; rcases hv with rfl | rfl | rfl | rfl <;> rfl) entC swoE
      82 #[] blk 0 cu ss.toArray w (fun _ _ => rfl) (cmpLaysE _ _ _ _) hH hlt (by simp; omega)).mono ?_
    rintro e w' ⟨rfl, d, n, os, ⟨hsz, _, hp⟩, hsrt, rfl⟩
    have hszl : d.size = ss.length := by simpa using hsz
    have hperm : d.toList.Perm ss := by
      have e1 : d.extract 0 ss.toArray.size = d := by rw [List.size_toArray, ← hszl]; simp
      rw [e1] at hp
      simpa using hp
    refine ⟨rfl, d.toList, hperm, ?_, ?_, (sortWorld_keepsE _ _ _ _ _ _).wide (fun k _ e => by subst e; rfl), fun k e => ?_⟩
    · rw [List.pairwise_iff_getElem]
      intro i j hi hj hij
      have hj' : j < d.size := by simpa using hj
      have hi' : i < d.size := by omega
      have := hsrt i j (Nat.zero_le _) hij (by simp; omega)
      rw [getElem!_pos d j hj', getElem!_pos d i hi'] at this
      unfold ltOf at this
      simp only [decide_eq_false_iff_not, Int.not_lt] at this
      have ha := entC_good.anti d[i] d[j]
      simp only [Array.getElem_toList]
      omega
    · have hh : HoldsK encE 4 (sortWorldK encE 4 w blk 0 n d os) blk 0 d := holdsK_grow _ _ _ os blk 0 d (by show blk < (w.heap.modify blk _).size; simpa using hlt) (holdsK_putRowK _ _ _ _ _ _ d (holdsK_ahead _ _ _ n _ _ _ hH) hsz)
      have := holds_rvE (cap := cu) hh (by omega) hmc (S := (base ≤ ·)) hB (fun y hy => hALL y (hperm.mem_iff.1 hy))
      rw [hszl] at this
      exact this
    · obtain rfl : blk = k := by injection e
      obtain ⟨css, _, ⟨_, h3⟩, _⟩ := h
      rcases h3 with ⟨e, _⟩ | ⟨g, cap, cur, e, _, hg, _⟩
      · injection e with e; cases e
      · injection e with e1
        injection e1 with e1
        injection e1 with e1
        subst e1
        refine ⟨putCells id 0 (flatK encE 4 d) cur, ?_⟩
        show ((w.heap.modify blk _) ++ os)[blk]? = _
        rw [Array.getElem?_append_left (by simpa using hlt), Array.getElem?_modify, if_pos rfl, hg]
        rfl
end Go.Proofs.YtnfolemblnnejaaGreat
/- package vault: Entries. -/
namespace Go.Proofs.YtnfolemblnnejaaGreat
open Go.RowKit Go.Maps

def Sn.ents (t : Sn) : List Ent := t.rents.flatten
/-- What Entries answers. -/
def entsCode (o : Option Sn) : Int := match o with | none => 8 | some t => if t.done = true then 0 else 10
def EntsSay (o : Option Sn) (es : List Ent) : Prop := match o with | none => es = [] | some t => if t.done = true then es.Perm t.ents ∧ es.Pairwise (fun a b => entC a b ≤ 0) else es = []
def EntsOut (w : World) (o : Option Sn) (e : Ending) (w' : World) : Prop := ∃ es a cap, e = .returned (.tuple #[.slice a es.length cap, .int .i64 (entsCode o)]) ∧ EntsSay o es ∧ tEnts.rv ((mem w').on (w.heap.size ≤ ·)) [.slice a es.length cap] es ∧ Below w.heap.size w w'
theorem ents_take {t : Sn} {j : Nat} (hj : j < t.told.length) {x : Part} (hx : t.told[j] = some x) : (t.rents.take (j + 1)).flatten = (t.rents.take j).flatten ++ x.2 := by
  have hl : j < t.rents.length := by unfold Sn.rents; simpa using hj
  have e : t.rents[j] = x.2 := by simp [Sn.rents, hx]
  rw [List.take_succ_eq_append_getElem hl, List.flatten_append, e]
  simp
theorem ents_sub {t : Sn} {j : Nat} : (t.rents.take j).flatten.length ≤ t.ents.length := by
  unfold Sn.ents
  conv => rhs; rw [← List.take_append_drop j t.rents, List.flatten_append, List.length_append]
  omega
set_option maxRecDepth 100000 in
set_option maxHeartbeats 8000000 in
theorem vEntries_any {base p : Nat} {r : HV} (k : Int) (w : World) (hI : VInv w base p r) (hk : inI64 k) (hle : ∀ t, r.vs.find k = some t → t.ents.length ≤ 100000) :
    Calls Tryz.prog 56 #[ptrTo p, .int .i64 k] w (EntsOut w (r.vs.find k)) := by
  have HW := Lib.hid (whole_any k w hI hk)
  cases hf : r.vs.find k with
  | none =>
    rw [hf] at HW
    simp only [whA] at HW
    clear hI hf hle
    go_enter Tryz.func56, Tryz.ntmps56
    go_wp2_with fail
    refine HW.out.mono ?_
    rintro e w1 ⟨rfl, hb⟩
    go_wp2
    go_ret2
    exact ⟨[], none, 0, rfl, rfl, slice_nil _ _, hb⟩
  | some t =>
    rw [hf] at HW
    simp only [whA] at HW
    have hm := find_mem hf
    by_cases hd : t.done = true
    case neg =>
      rw [if_neg hd] at HW
      have HC := Lib.hid (show entsCode (some t) = 10 from if_neg hd)
      have HS := Lib.hid (show EntsSay (some t) [] from by unfold EntsSay; simp [hd])
      clear hI hf hle
      go_enter Tryz.func56, Tryz.ntmps56
      go_wp2_with fail
      refine HW.out.mono ?_
      rintro e w1 ⟨rfl, hb⟩
      go_wp2
      go_ret2
      exact ⟨[], none, 0, by rw [HC.out]; rfl, HS.out, slice_nil _ _, hb⟩
    rw [if_pos hd] at HW
    have HC := Lib.hid (show entsCode (some t) = 0 from if_pos hd)
    have HS := Lib.hid (fun es (h : es.Perm t.ents ∧ es.Pairwise (fun a b => entC a b ≤ 0)) => (show EntsSay (some t) es from by unfold EntsSay; simp only; rw [if_pos hd]; exact h))
    have hta := (hI.ok.tk _ hm).2.1
    simp only at hta
    have HLT := Lib.hid (hle t hf)
    have HSB := Lib.hid (fun (w' : World) (hb : Below w.heap.size w w') => (hI.pure hb).sb _ hm)
    simp only at HSB
    have HLE := Lib.hid (fun (w' : World) => (Mem.on_le _ _ : (safeV w' p r).le (mem w')))
    have hlen : t.rents.length = t.told.length := by unfold Sn.rents; simp
    have HTX := Lib.hid (fun (j : Nat) (hj : j < t.told.length) => (show ∃ x, t.told[j] = some x ∧ (t.rents.take (j + 1)).flatten = (t.rents.take j).flatten ++ x.2 from by
      obtain ⟨x, hx⟩ := done_at hd hj
      exact ⟨x, hx, ents_take hj hx⟩))
    clear hI hf hd hle
    go_enter Tryz.func56, Tryz.ntmps56
    go_wp2_with fail
    refine HW.out.mono ?_
    rintro e w1 ⟨rfl, hb⟩
    have HB1 := Lib.hid hb
    have d8 : w1.cell? ⟨r.ad k, 8, none⟩ = some (.slice (some ⟨r.pb k, 0, none⟩) t.told.length t.told.length) := by
      have := (HSB.out w1 hb).1
      unfold snCells at this
      exact mem_cells this 8
    clear hb HW
    go_wp2_with fail
    go_loopw [8, 25] (fun ov iv wr => ∃ j : Nat, j ≤ t.told.length ∧ iv = .int .i64 j ∧ Hid (Owns tEnt wr w1.heap.size 92 ov (t.rents.take j).flatten) ∧ Hid (Below w1.heap.size w1 wr)) (fun _ iv _ => t.told.length - (intOf iv).toNat)
    case atStart => exact ⟨0, by omega, rfl, Lib.hid (Owns.nil _ _ _ _), Lib.hid (Below.refl _ _)⟩
    case round =>
      obtain ⟨j, hj, rfl, HO, HBR⟩ := hrel
      have HWR := Lib.hid (pure_trans HB1.out HBR.out)
      by_cases hlt : j < t.told.length
      · obtain ⟨x, hx, htk⟩ := HTX.out j hlt
        obtain ⟨-, arr, h2, h3, h4⟩ := HSB.out wr HWR.out
        obtain ⟨v, e1, hp⟩ := h4 j hlt
        rw [hx] at hp
        obtain ⟨a, ev, rfl, -, g1, g2, -⟩ := hp
        have d0 : wr.cell? ⟨r.pb k, j, none⟩ = some (ptrTo a) := (mem_cells h2 j).trans e1
        obtain ⟨ax, cx, rfl, -, hcx, g2⟩ := slice_form g2
        have d1 : wr.cell? ⟨a, 1, none⟩ = some (.slice ax x.2.length cx) := HLE.out wr _ _ _ g1
        have HXS := Lib.hid (tEnts.mono _ _ _ _ (HLE.out wr) g2)
        have HSZ := Lib.hid HBR.out.size
        have HLL := Lib.hid (show (t.rents.take j).flatten.length + x.2.length ≤ 100000 from by
          have h1 := ents_sub (t := t) (j := j + 1)
          rw [htk, List.length_append] at h1
          exact Nat.le_trans h1 HLT.out)
        have HTK := Lib.hid htk
        clear h2 h3 h4 e1 g1 g2 hx htk hcx
        generalize (t.rents.take j).flatten = l at *
        obtain ⟨xt, xe⟩ := x
        simp only at d1 HTK HXS HLL
        obtain ⟨al, cl, hvl, _⟩ := HO.out.len
        subst hvl
        go_wp2_with (at_builtin; refine wpList_append_flat rfl _ _ 34 rfl tEnt_flat tEnt_one Tryz.underlying34 infoEnt rfl (by decide) w1.heap.size _ l xe rfl HO.out _ _ _ rfl rfl HXS.out ?c1 ?c2 ?c3 ?_)
        case c1 => have := HLL.out; unfold maxLen; omega
        case c2 => have := HLL.out; omega
        case c3 => exact HSZ.out
        intro v' w6 own6 hgrow
        have HB6 := Lib.hid (show Below w1.heap.size w1 w6 from HBR.out.grown hgrow HSZ.out (fun k hk => ((HO.out).lt k hk).1))
        obtain ⟨a6, cap6, rfl, _⟩ := own6.len
        have HO6 := Lib.hid (show Owns tEnt w6 w1.heap.size 92 (.slice a6 (l ++ xe).length cap6) (t.rents.take (j + 1)).flatten by
          rw [HTK.out]
          exact own6)
        clear own6 hgrow HO
        go_wp2
        go_roundw
        case rel => exact ⟨j + 1, by omega, by go_num, HO6, HB6⟩
        case measure => simp [intOf]; omega
      · obtain rfl : j = t.told.length := by omega
        rw [← hlen, List.take_length] at HO
        have HEN := Lib.hid (show t.ents = t.rents.flatten from rfl)
        have HLT2 := Lib.hid (show t.rents.flatten.length ≤ 1000000000 from by rw [← HEN.out]; exact Nat.le_trans HLT.out (by decide))
        generalize t.rents.flatten = fl at *
        obtain ⟨a7, c7, hv7, _⟩ := HO.out.len
        subst hv7
        have HSO := Lib.hid (sortE_any w1.heap.size _ _ wr HO.out HLT2.out)
        have HOB := Lib.hid (fun (b : Nat) (h : (Value.slice a7 fl.length c7).ownBlock = some b) => (show w1.heap.size ≤ b from (HO.out.lt b h).1))
        clear HO
        go_wp2_with fail
        refine HSO.out.mono ?_
        rintro e w8 ⟨rfl, tt, hperm, hpw, hrv, hkeep, -⟩
        have hl8 : tt.length = fl.length := hperm.length_eq
        have HB8 := Lib.hid (show Below w.heap.size w w8 from HWR.out.trans (hkeep.below HWR.out.size (fun b e => Nat.le_trans HB1.out.size (HOB.out b e))))
        have HSY := Lib.hid (HS.out tt ⟨by rw [HEN.out]; exact hperm, hpw⟩)
        have HR8 := Lib.hid (show tEnts.rv ((mem w8).on (w.heap.size ≤ ·)) [.slice a7 tt.length c7] tt from by
          rw [hl8]
          exact tEnts.mono _ _ _ _ (fun b o v e => by obtain ⟨h1, h2⟩ := Mem.of_on e; exact Mem.on_some h2 (Nat.le_trans HB1.out.size h1)) hrv)
        rw [← hl8]
        clear hperm hpw hrv hkeep hl8 HSO HOB
        go_wp2
        go_ret2
        exact ⟨tt, a7, c7, by rw [HC.out] <;> rfl, HSY.out, HR8.out, HB8.out⟩
end Go.Proofs.YtnfolemblnnejaaGreat
/- The reference of a vault: complete, Texts, Named. -/
namespace Go.Proofs.YtnfolemblnnejaaGreat
open Go.RowKit Go.Maps

/-- What complete answers: the place, the error. -/
def CompSays (s : VS) (k i c : Int) : Prop := c = entsCode (s.find k) ∧ (c ≠ 0 ∨ ∃ (j : Nat) (t : Sn), s.all[j]? = some (k, t) ∧ s.find k = some t ∧ t.done = true ∧ i = j)
set_option maxRecDepth 100000 in
set_option maxHeartbeats 4000000 in
theorem refComp_any (s : VS) (a : Value) (W : World) (h : RV (mem W) s a) (k : Int) :
    Calls Tryz.prog 62 #[rvV s a, .int .i64 k] W fun e w' => ∃ i c, e = .returned (.tuple #[.int .i64 i, .int .i64 c]) ∧ CompSays s k i c ∧ Below W.heap.size W w' := by
  obtain ⟨aa, ca, rfl, hla, hma, hra⟩ := slice_form h.ha
  have hca : ca ≤ 9223372036854775807 := by unfold maxLen at hma; exact hma
  obtain ⟨HB, HC⟩ := box5 W s (.slice aa s.all.length ca)
  have HAL := Lib.hid (show s.all.length ≤ 1000000 from by have := all_len h.ok; have := h.ok.l; omega)
  have HRW := Lib.hid (fun w' (hb : Below W.heap.size W w') => (h.mono (below_mem hb) : RV (mem w') s (.slice aa s.all.length ca)))
  have HOK := Lib.hid h.ok
  clear hma hra h
  go_enter Tryz.func62, Tryz.ntmps62
  obtain ⟨c0, c1, c2, c3, c4⟩ := HC.out _ (Below.refl _ _)
  go_wp2_with fail
  generalize W.alloc (rvB s (.slice aa s.all.length ca)) = X at *
  refine (refPlace_any s _ X (HRW.out _ HB.out) k).mono ?_
  rintro e w1 ⟨i, rfl, hf, hb1⟩
  have HB1 := Lib.hid (HB.out.trans (hb1.mono HB.out.size))
  clear c0 c1 c2 c3 c4
  obtain ⟨c0, c1, c2, c3, c4⟩ := HC.out _ hb1
  clear hb1
  rcases hf with ⟨i, t, hj, rfl⟩ | ⟨hn, rfl⟩
  case inr =>
    have HA := Lib.hid (show CompSays s k 0 8 from ⟨by rw [find_none.2 hn]; rfl, .inl (by decide)⟩)
    clear hn
    go_wp2
    go_ret2
    exact ⟨0, 8, rfl, HA.out, HB1.out⟩
  have hfs : s.find k = some t := HOK.out.find (List.mem_of_getElem? hj)
  have HJ := Lib.hid hj
  have HFS := Lib.hid hfs
  obtain ⟨hil, hie⟩ := List.getElem?_eq_some_iff.1 hj
  obtain ⟨b, o, s1, s2, s3, e, ⟨-, -, q2, -⟩, -⟩ := rsn_at (HRW.out _ HB1.out).ha hil
  subst e
  have e2 : w1.cell? ⟨b, o + i * 6 + 2, none⟩ = some (.bool t.done) := by rw [hie] at q2; exact q2
  clear q2 hj hfs hie
  cases hd : t.done with
  | true =>
    rw [hd] at e2
    have HA := Lib.hid (show CompSays s k i 0 from ⟨by rw [HFS.out]; exact (if_pos hd).symm, .inr ⟨i, t, HJ.out, HFS.out, hd, rfl⟩⟩)
    go_wp2
    go_ret2
    exact ⟨i, 0, rfl, HA.out, HB1.out⟩
  | false =>
    rw [hd] at e2
    have HA := Lib.hid (show CompSays s k 0 10 from ⟨by rw [HFS.out]; exact (if_neg (by rw [hd]; simp)).symm, .inl (by decide)⟩)
    go_wp2
    go_ret2
    exact ⟨0, 10, rfl, HA.out, HB1.out⟩
theorem textsAns_code {s : VS} {k : Int} (h : entsCode (s.find k) ≠ 0) : textsAns (s.find k) = ([], entsCode (s.find k)) := by
  cases hf : s.find k with
  | none => rfl
  | some t =>
    rw [hf] at h
    unfold entsCode at h ⊢
    unfold textsAns
    simp only at h ⊢
    by_cases hd : t.done = true
    · rw [if_pos hd] at h; exact absurd rfl h
    · rw [if_neg hd, if_neg hd]
set_option maxRecDepth 100000 in
set_option maxHeartbeats 4000000 in
theorem refTextsV_any (s : VS) (a : Value) (W : World) (h : RV (mem W) s a) (k : Int) :
    Calls Tryz.prog 33 #[rvV s a, .int .i64 k] W fun e w' => ∃ v, e = .returned (.tuple #[v, .int .i64 (textsAns (s.find k)).2]) ∧ tStrs.rv (mem w') [v] (textsAns (s.find k)).1 ∧ Below W.heap.size W w' := by
  obtain ⟨aa, ca, rfl, hla, hma, hra⟩ := slice_form h.ha
  have hca : ca ≤ 9223372036854775807 := by unfold maxLen at hma; exact hma
  obtain ⟨HB, HC⟩ := box5 W s (.slice aa s.all.length ca)
  have HAL := Lib.hid (show s.all.length ≤ 1000000 from by have := all_len h.ok; have := h.ok.l; omega)
  have HRW := Lib.hid (fun w' (hb : Below W.heap.size W w') => (h.mono (below_mem hb) : RV (mem w') s (.slice aa s.all.length ca)))
  clear hma hra h
  go_enter Tryz.func33, Tryz.ntmps33
  obtain ⟨c0, c1, c2, c3, c4⟩ := HC.out _ (Below.refl _ _)
  go_wp2_with fail
  generalize W.alloc (rvB s (.slice aa s.all.length ca)) = X at *
  refine (refComp_any s _ X (HRW.out _ HB.out) k).mono ?_
  rintro e w1 ⟨i, c, rfl, ⟨hc, hf⟩, hb1⟩
  have HB1 := Lib.hid (HB.out.trans (hb1.mono HB.out.size))
  clear c0 c1 c2 c3 c4
  obtain ⟨c0, c1, c2, c3, c4⟩ := HC.out _ hb1
  clear hb1
  by_cases h0 : c = 0
  case neg =>
    have HA := Lib.hid (show textsAns (s.find k) = ([], c) from by rw [textsAns_code (by rw [← hc]; exact h0), ← hc])
    have hcb : (c == 0) = false := by rw [beq_eq_false_iff_ne]; exact h0
    clear hc hf
    go_wp2
    go_ret2
    exact ⟨_, by rw [HA.out] <;> rfl, by rw [HA.out]; exact slice_nil _ _, HB1.out⟩
  subst h0
  obtain ⟨i, t, hj, hfs, hd, rfl⟩ := hf.resolve_left (by simp)
  have HA := Lib.hid (show textsAns (s.find k) = (t.texts, 0) from by rw [hfs]; exact if_pos hd)
  obtain ⟨hil, hie⟩ := List.getElem?_eq_some_iff.1 hj
  obtain ⟨b, o, s1, s2, s3, e, ⟨-, -, -, -, q4, -⟩, -, -, -, r2, -⟩ := rsn_at (HRW.out _ HB1.out).ha hil
  subst e
  rw [hie] at r2
  have e4 : w1.cell? ⟨b, o + i * 6 + 4, none⟩ = some s2 := q4
  have HR := Lib.hid r2
  clear q4 r2 hie hj hfs hf hc
  go_wp2
  go_ret2
  exact ⟨s2, by rw [HA.out] <;> rfl, by rw [HA.out]; exact HR.out, HB1.out⟩
set_option maxRecDepth 100000 in
set_option maxHeartbeats 4000000 in
theorem refNamedV_any (s : VS) (a : Value) (W : World) (h : RV (mem W) s a) (nm : ByteArray) (hnm : nm.size ≤ maxLen) :
    Calls Tryz.prog 31 #[rvV s a, .string nm] W fun e w' => e = .returned (.tuple #[.int .i64 (namedAns s nm).1, .int .i64 (namedAns s nm).2]) ∧ Below W.heap.size W w' := by
  obtain ⟨aa, ca, rfl, hla, hma, hra⟩ := slice_form h.ha
  have hca : ca ≤ 9223372036854775807 := by unfold maxLen at hma; exact hma
  obtain ⟨HB, HC⟩ := box5 W s (.slice aa s.all.length ca)
  have HAL := Lib.hid (show s.all.length ≤ 1000000 from by have := all_len h.ok; have := h.ok.l; omega)
  have HRW := Lib.hid (fun w' (hb : Below W.heap.size W w') => (h.mono (below_mem hb) : RV (mem w') s (.slice aa s.all.length ca)))
  have HNM := Lib.hid (fun w => refName_any nm w hnm)
  have HNI := Lib.hid (fun w' (hb : Below W.heap.size W w') => refNamedI_any s _ w' (h.mono (below_mem hb)) nm)
  have HNA := Lib.hid (fun (hin : isName nm = false) => (show namedAns s nm = (0, 1) from by unfold namedAns; rw [if_pos hin]))
  have HNS := Lib.hid (fun (hin : isName nm = true) i (h : NamedSays s nm i) => named_says hin h)
  clear hma hra h
  generalize isName nm = bn at *
  go_enter Tryz.func31, Tryz.ntmps31
  obtain ⟨c0, c1, c2, c3, c4⟩ := HC.out _ (Below.refl _ _)
  go_wp2_with fail
  refine (HNM.out _).mono ?_
  rintro e w0 ⟨rfl, rfl⟩
  generalize W.alloc (rvB s (.slice aa s.all.length ca)) = X at *
  cases bn with
  | false =>
    have HA := Lib.hid (HNA.out rfl)
    go_wp2
    go_ret2
    exact ⟨by rw [HA.out] <;> rfl, HB.out⟩
  | true =>
    go_wp2_with fail
    refine (HNI.out _ HB.out).mono ?_
    rintro e w1 ⟨i, rfl, hs, hb1⟩
    have HB1 := Lib.hid (HB.out.trans (hb1.mono HB.out.size))
    clear c0 c1 c2 c3 c4
    obtain ⟨c0, c1, c2, c3, c4⟩ := HC.out _ hb1
    clear hb1
    rcases HNS.out (by first | rfl | trivial) i hs with ⟨rfl, hna⟩ | ⟨j, k, t, hj, rfl, hna⟩
    · have HA := Lib.hid hna
      clear hna hs
      go_wp2
      go_ret2
      exact ⟨by rw [HA.out] <;> rfl, HB1.out⟩
    · have HA := Lib.hid hna
      obtain ⟨hil, hie⟩ := List.getElem?_eq_some_iff.1 hj
      obtain ⟨b, o, s1, s2, s3, e, ⟨q0, -⟩, -⟩ := rsn_at (HRW.out _ HB1.out).ha hil
      subst e
      rw [hie] at q0
      have e0 : w1.cell? ⟨b, o + j * 6, none⟩ = some (.int .i64 k) := q0
      clear hna hs q0 hie hj
      go_wp2
      go_ret2
      exact ⟨by rw [HA.out] <;> rfl, HB1.out⟩
end Go.Proofs.YtnfolemblnnejaaGreat
/- package vault: Size. -/
namespace Go.Proofs.YtnfolemblnnejaaGreat
open Go.RowKit Go.Maps

/-- How many bytes entries have. -/
def bytesOf (es : List Ent) : Nat := (es.map (fun x => x.nm.size + x.key.size + x.val.size)).sum
theorem bytesOf_take {es : List Ent} {j : Nat} (hj : j < es.length) : bytesOf (es.take (j + 1)) = bytesOf (es.take j) + (es[j].nm.size + es[j].key.size + es[j].val.size) := by
  unfold bytesOf
  rw [List.take_succ_eq_append_getElem hj, List.map_append, List.sum_append]
  simp
theorem bytesOf_le {es : List Ent} {j : Nat} : bytesOf (es.take j) ≤ bytesOf es := by
  unfold bytesOf
  conv => rhs; rw [← List.take_append_drop j es, List.map_append, List.sum_append]
  omega
theorem bytesOf_bound {es : List Ent} {B : Nat} (h : ∀ x ∈ es, x.nm.size + x.key.size + x.val.size ≤ B) : bytesOf es ≤ es.length * B := by
  unfold bytesOf
  induction es with
  | nil => simp
  | cons x l ih =>
    have h1 := h x (by simp)
    have h2 := ih (fun y hy => h y (by simp [hy]))
    rw [List.map_cons, List.sum_cons, List.length_cons, Nat.add_mul, Nat.one_mul]
    omega
def SizeOut (w : World) (o : Option Sn) (e : Ending) (w' : World) : Prop := ∃ es, EntsSay o es ∧ e = .returned (.tuple #[.int .i64 (bytesOf es : Nat), .int .i64 (entsCode o)]) ∧ Below w.heap.size w w'
set_option maxRecDepth 100000 in
set_option maxHeartbeats 8000000 in
theorem vSize_any {base p : Nat} {r : HV} (k : Int) (w : World) (hI : VInv w base p r) (hk : inI64 k) (hle : ∀ t, r.vs.find k = some t → t.ents.length ≤ 100000 ∧ ∀ x ∈ t.ents, x.nm.size + x.key.size + x.val.size ≤ 200000) :
    Calls Tryz.prog 67 #[ptrTo p, .int .i64 k] w (SizeOut w (r.vs.find k)) := by
  have HE := Lib.hid (vEntries_any k w hI hk (fun t h => (hle t h).1))
  have HBD := Lib.hid (fun es (h : EntsSay (r.vs.find k) es) => (show bytesOf es ≤ 20000000000 ∧ es.length ≤ 100000 from by
    cases hf : r.vs.find k with
    | none =>
      rw [hf] at h
      have h' : es = [] := h
      subst h'
      exact ⟨by decide, by simp⟩
    | some t =>
      rw [hf] at h
      unfold EntsSay at h
      simp only at h
      by_cases hd : t.done = true
      · rw [if_pos hd] at h
        have h1 := bytesOf_bound (es := es) (fun x hx => (hle t hf).2 x (h.1.mem_iff.1 hx))
        have h2 : es.length ≤ 100000 := by rw [h.1.length_eq]; exact (hle t hf).1
        have h3 := Nat.mul_le_mul_right 200000 h2
        exact ⟨by omega, h2⟩
      · rw [if_neg hd] at h
        subst h
        exact ⟨by decide, by simp⟩))
  generalize r.vs.find k = o at *
  clear hI hle
  go_enter Tryz.func67, Tryz.ntmps67
  go_wp2_with fail
  refine HE.out.mono ?_
  rintro e w1 ⟨es, a, cap, rfl, hsay, hrv, hb⟩
  have HSAY := Lib.hid hsay
  have HB1 := Lib.hid hb
  have HR := Lib.hid (tEnts.mono _ _ _ _ (Mem.on_le _ _) hrv)
  obtain ⟨hb1, hl1⟩ := HBD.out es hsay
  clear hsay hb hrv HE HBD
  obtain ⟨ec, hec⟩ : ∃ ec, ec = entsCode o := ⟨_, rfl⟩
  rw [← hec]
  have HEC := Lib.hid hec
  clear hec
  go_wp2_with fail
  go_loopw [8, 19] (fun nv iv wr => ∃ j : Nat, j ≤ es.length ∧ iv = .int .i64 j ∧ nv = .int .i64 (bytesOf (es.take j) : Nat) ∧ Hid (Below w1.heap.size w1 wr)) (fun _ iv _ => es.length - (intOf iv).toNat)
  case atStart => exact ⟨0, by omega, rfl, rfl, Lib.hid (Below.refl _ _)⟩
  case round =>
    obtain ⟨j, hj, rfl, rfl, HB⟩ := hrel
    by_cases hlt : j < es.length
    · obtain ⟨b, o2, e, hat, hok⟩ := ents_at (tEnts.mono _ _ _ _ (below_mem HB.out) HR.out) hlt
      subst e
      have c0 : wr.cell? ⟨b, o2 + j * 4, none⟩ = some (.int .i64 es[j].g) := hat 0 _ rfl
      have c1 : wr.cell? ⟨b, o2 + j * 4 + 1, none⟩ = some (.string es[j].nm) := hat 1 _ rfl
      have c2 : wr.cell? ⟨b, o2 + j * 4 + 2, none⟩ = some (.string es[j].key) := hat 2 _ rfl
      have c3 : wr.cell? ⟨b, o2 + j * 4 + 3, none⟩ = some (.string es[j].val) := hat 3 _ rfl
      have HTK := Lib.hid (bytesOf_take hlt)
      have hle2 := Nat.le_trans (bytesOf_le (es := es) (j := j + 1)) hb1
      rw [bytesOf_take hlt] at hle2
      have HBX := Lib.hid (fun o => (HB.out.alloc HB.out.size o : Below w1.heap.size w1 (wr.alloc o)))
      clear hat hok
      generalize bytesOf (es.take j) = n at *
      generalize es[j] = y at *
      obtain ⟨y0, y1, y2, y3⟩ := y
      simp only at c0 c1 c2 c3 hle2 HTK
      go_wp2
      go_roundw
      case rel => exact ⟨j + 1, by omega, by go_num, by rw [HTK.out]; congr 1, HBX.out _ |> Lib.hid⟩
      case measure => simp [intOf]; omega
    · obtain rfl : j = es.length := by omega
      rw [List.take_length]
      have HE := Lib.hid (HB1.out.trans (HB.out.mono HB1.out.size))
      go_wp2
      go_ret2
      exact ⟨es, HSAY.out, by rw [← HEC.out] <;> rfl, HE.out⟩
end Go.Proofs.YtnfolemblnnejaaGreat
/- The reference's SortedEntries: the walk (printed by gen_vsort.py). -/
namespace Go.Proofs.YtnfolemblnnejaaGreat
open Go.RowKit Go.Maps

theorem Owns.entsC {w : World} {B : Nat} {v : Value} {xs : List Ent} (h : Owns tEnt w B 92 v xs) : (xs = [] ∧ v = .slice none 0 0) ∨ ∃ g o c, v = .slice (some ⟨g, o, none⟩) xs.length c ∧ xs.length ≤ c ∧ c ≤ maxLen ∧ B ≤ g ∧ g < w.heap.size ∧ EntsC w g o xs := by
  have hrv := h.rv'
  obtain ⟨css, _, ⟨_, h3⟩, _, _⟩ := h
  rcases h3 with ⟨rfl, h6⟩ | ⟨g, cap, cur, rfl, hg, hh, hn, hm, hc, ht⟩
  · exact .inl ⟨List.eq_nil_of_length_eq_zero h6, rfl⟩
  · have hat : ∀ k (hk : k < xs.length), (∀ j v, xs[k].cs[j]? = some v → mem w g (0 + k * 4 + j) = some v) ∧ xs[k].okE := fun k hk => by
      obtain ⟨b, o, e, hat, hok⟩ := ents_at hrv hk
      simp only [Option.some.injEq, Addr.mk.injEq] at e
      obtain ⟨rfl, rfl, _⟩ := e
      exact ⟨hat, hok⟩
    refine .inr ⟨g, 0, cap, rfl, hn, hm, hg, (Array.getElem?_eq_some_iff.1 hh).1, ⟨fun k hk => ⟨(hat k hk).1 0 _ rfl, (hat k hk).1 1 _ rfl, (hat k hk).1 2 _ rfl, (hat k hk).1 3 _ rfl⟩, fun j => frozen_cells hh _, fun y hy => ?_⟩⟩
    obtain ⟨k, hk, rfl⟩ := List.mem_iff_getElem.1 hy
    exact (hat k hk).2
theorem EntsC.rv {w : World} {g o c B : Nat} {ys : List Ent} (h : EntsC w g o ys) (h1 : ys.length ≤ c) (h2 : c ≤ maxLen) (hg : B ≤ g) : tEnts.rv ((mem w).on (B ≤ ·)) [.slice (some ⟨g, o, none⟩) ys.length c] ys :=
  ⟨some ⟨g, o, none⟩, c, rfl, h1, h2, fun _ => ⟨g, o, rfl, fun k hk => ⟨ys[k].cs, fun j u hu => by
    obtain ⟨h0, h1, h2, h3⟩ := h.cell k hk
    refine Mem.on_some ?_ hg
    show mem w g (o + k * 4 + j) = some u
    match j, hu with
    | 0, hu => simp at hu; subst hu; exact h0
    | 1, hu => simp at hu; subst hu; exact h1
    | 2, hu => simp at hu; subst hu; exact h2
    | 3, hu => simp at hu; subst hu; exact h3, rfl, h.ok _ (List.getElem_mem hk)⟩⟩⟩
theorem srt_keeps (w5 : World) (g o p : Nat) (x y : Ent) : Keeps (· = g) w5 (set4 (set4 w5 g o y) g p x) := (set4_keeps w5 g o y).trans (set4_keeps _ g p x)
theorem srt_swap0 {w w5 w7 : World} {g o : Nat} {zs : List Ent} (kk : Keeps (· = g) w5 w7) (hg5 : g < w5.heap.size) (HB : Below w.heap.size w w5) (hg : w.heap.size ≤ g) (HS : EntsC w7 g o zs) :
    EntsC w7.drew g o zs ∧ Below w.heap.size w w7.drew ∧ w5.heap.size ≤ w7.drew.heap.size := by
  have hz := kk.size
  refine ⟨HS.below (Nat.lt_of_lt_of_le hg5 hz) (Below.refl _ _).drew, (Keeps.belowStep HB kk (fun k hk => ?_) HB.size).drew, hz⟩
  exact Nat.le_trans hg (Nat.le_of_eq hk.symm)
theorem srt_swap {w w5 w8 : World} {g o : Nat} {zs : List Ent} {x y : Ent} {j : Nat} (e8 : (set4 (set4 w5 g (o + j * 4) y) g (o + (j + 1) * 4) x).drew = w8) (hg5 : g < w5.heap.size) (HB : Below w.heap.size w w5) (hg : w.heap.size ≤ g)
    (HS : EntsC (set4 (set4 w5 g (o + j * 4) y) g (o + (j + 1) * 4) x) g o (swapE zs j)) :
    EntsC w8 g o (swapE zs j) ∧ Below w.heap.size w w8 ∧ w5.heap.size ≤ w8.heap.size := by
  have kk := srt_keeps w5 g (o + j * 4) (o + (j + 1) * 4) x y
  generalize set4 (set4 w5 g (o + j * 4) y) g (o + (j + 1) * 4) x = w7 at kk HS e8
  rw [← e8]
  exact srt_swap0 kk hg5 HB hg HS
set_option maxRecDepth 100000 in
set_option maxHeartbeats 8000000 in
theorem sortEnts_any (xs : List Ent) (v : Value) (w : World) (hv : tEnts.rv (mem w) [v] xs) (h8 : xs.length ≤ 100000) :
    Calls Tryz.prog 84 #[v] w fun e w' => ∃ x S, e = .returned x ∧ tEnts.rv ((mem w').on (w.heap.size ≤ ·)) [x] S ∧ S.Perm xs ∧ S.Pairwise (fun a b => entC a b ≤ 0) ∧ Below w.heap.size w w' := by
  have hb0 : ∀ o, Below w.heap.size w (w.alloc o) := fun o => (Below.refl _ _).alloc (Nat.le_refl _) o
  have hown : ∀ T, T = 92 → Owns tEnt (w.alloc (.cells #[] T)) w.heap.size 92 (.slice (some ⟨w.heap.size, 0, none⟩) 0 0) [] := fun T hT => by
    subst hT
    exact ⟨[], rfl, World.ownsRow_lit w #[] 0 (Nat.le_refl _) (Nat.zero_le _) (by simp), fun c h => absurd h (by simp), fun k h => absurd h (by simp)⟩
  obtain ⟨a1, cap1, rfl, hl1, hm1, hv⟩ := slice_form hv
  have HV := Lib.hid (fun o => (tEnts.mono _ _ _ _ (below_mem (hb0 o)) hv : tEnts.rv (mem (w.alloc o)) _ xs))
  clear hm1 hv
  go_enter Tryz.func84, Tryz.ntmps84
  go_wp2_with (at_builtin; refine wpList_append_flat rfl _ _ 34 rfl tEnt_flat tEnt_one Tryz.underlying34 infoEnt rfl (by decide) w.heap.size _ [] xs rfl (hown _ rfl) _ _ _ rfl rfl (HV.out _) ?c1 ?c2 ?c3 ?_)
  case c1 => simp; unfold maxLen; omega
  case c2 => simp; omega
  case c3 => simp
  intro v' w2 hown' hgrow
  have HB := Lib.hid (show Below w.heap.size w w2 from (hb0 _).grown hgrow (by simp) (fun k hk => by simp [Value.ownBlock] at hk; omega))
  clear hown hgrow HV
  rcases hown'.entsC with ⟨rfl, rfl⟩ | ⟨g, o, c, rfl, hlc, hcm, hg, hgw, hints⟩
  · clear hown'
    go_wp2
    go_loopw [4] (fun i wr => i = .int .i64 1 ∧ wr = w2) (fun _ _ => 0)
    case atStart => exact ⟨rfl, rfl⟩
    case round =>
      obtain ⟨rfl, rfl⟩ := hrel
      go_wp2
      go_ret
      exact ⟨_, [], rfl, slice_nil _ _, List.Perm.refl _, List.Pairwise.nil, HB.out⟩
  · clear hown'
    have hcm2 : c ≤ 9223372036854775807 := by unfold maxLen at hcm; exact hcm
    have HM := Lib.hid hcm
    have HI0 := Lib.hid hints
    clear hcm hints
    go_wp2
    go_loopw [4] (fun i wr => ∃ k : Nat, 1 ≤ k ∧ (k ≤ xs.length ∨ k = 1) ∧ i = .int .i64 k ∧ ∃ ys, Hid (EntsC wr g o ys) ∧ ys.length = xs.length ∧ Hid (ys.Perm xs) ∧ Hid (ToE ys k) ∧ Hid (Below w.heap.size w wr) ∧ w2.heap.size ≤ wr.heap.size) (fun i _ => xs.length - (intOf i).toNat)
    case atStart => exact ⟨1, by omega, .inr rfl, rfl, xs, HI0, rfl, Lib.hid (List.Perm.refl _), Lib.hid (fun a b h1 h2 => by omega), HB, Nat.le_refl _⟩
    case round =>
      clear HI0 HB
      obtain ⟨k, hk1, hk, rfl, ys, HI, hly, HP, HS, HB, hsz⟩ := hrel
      by_cases hlt : k < xs.length
      · go_wp2
        go_loopw [5] (fun i wx => ∃ j : Nat, j ≤ k ∧ i = .int .i64 j ∧ ∃ zs, Hid (EntsC wx g o zs) ∧ zs.length = xs.length ∧ Hid (zs.Perm xs) ∧ Hid (ButE zs k j) ∧ Hid (Below w.heap.size w wx) ∧ w2.heap.size ≤ wx.heap.size) (fun i _ => (intOf i).toNat)
        case atStart => exact ⟨k, by omega, rfl, ys, HI, hly, HP, Lib.hid HS.out.but, HB, hsz⟩
        case round =>
          clear HI HP HS HB hly hsz
          obtain ⟨j, hj, rfl, zs, HI, hlz, HP, HS, HB, hsz⟩ := hrel
          have hgr : g < wr.heap.size := by omega
          cases j with
          | zero =>
            go_wp2_with fail
            go_quiet (fail)
            all_goals
              have hbq : ∀ n, Below wr.heap.size wr (wr.drewN n) := fun n => ⟨rfl, rfl, rfl, Nat.le_refl _, fun _ _ => rfl⟩
              go_wp2
              go_roundw
              case rel => exact ⟨k + 1, by omega, .inl (by omega), by go_num, zs, Lib.hid (HI.out.below hgr (hbq _)), hlz, HP, Lib.hid HS.out.zero, Lib.hid (HB.out.trans ((hbq _).mono HB.out.size)), hsz⟩
              case measure => simp [intOf]; omega
          | succ j =>
            have hjl : j < zs.length := by omega
            have hjl2 : j + 1 < zs.length := by omega
            have HC1 := Lib.hid (fun (w' : World) (h : EntsC w' g o zs) => h.cell j hjl)
            have HC2 := Lib.hid (fun (w' : World) (h : EntsC w' g o zs) => h.cell (j + 1) hjl2)
            have HE1 := Lib.hid (show zs.getD j default = zs[j] by simp [List.getD, hjl])
            have HE2 := Lib.hid (show zs.getD (j + 1) default = zs[j + 1] by simp [List.getD, hjl2])
            have HO1 := Lib.hid (HI.out.ok _ (List.getElem_mem hjl))
            have HO2 := Lib.hid (HI.out.ok _ (List.getElem_mem hjl2))
            have HSET := Lib.hid (fun (w' : World) (h : EntsC w' g o zs) => (show EntsC (set4 (set4 w' g (o + j * 4) zs[j + 1]) g (o + (j + 1) * 4) zs[j]) g o (swapE zs j) from by
              unfold swapE
              rw [HE1.out, HE2.out]
              exact (h.set hjl HO2.out).set (by rw [List.length_set]; exact hjl2) HO1.out))
            have HSW := Lib.hid (fun (h : 0 < entC zs[j] zs[j + 1]) => (show ButE (swapE zs j) k j from HS.out.swap (by omega) (by omega) (by rw [HE1.out, HE2.out]; exact h)))
            have HDN := Lib.hid (fun (h : entC zs[j] zs[j + 1] ≤ 0) => (show ToE zs (k + 1) from HS.out.done (by omega) (by rw [HE1.out, HE2.out]; exact h)))
            have HCM := Lib.hid (fun w' => refCmp_any zs[j] zs[j + 1] w')
            have hrng := entC_good.range zs[j] zs[j + 1]
            clear HE1 HE2
            generalize hcc : entC zs[j] zs[j + 1] = cc at *
            clear hcc
            generalize zs[j + 1] = y at *
            generalize zs[j] = x at *
            obtain ⟨xg, x1, x2, x3⟩ := x
            obtain ⟨yg, y1, y2, y3⟩ := y
            have HSS := Lib.hid (fun (w' : World) (h : EntsC w' g o zs) => (show w'.cell? ⟨g, o + j * 4, none⟩ = some (.int .i64 xg) ∧ w'.cell? ⟨g, o + j * 4 + 1, none⟩ = some (.string x1) ∧ w'.cell? ⟨g, o + j * 4 + 2, none⟩ = some (.string x2) ∧ w'.cell? ⟨g, o + j * 4 + 3, none⟩ = some (.string x3) ∧ w'.cell? ⟨g, o + (j + 1) * 4, none⟩ = some (.int .i64 yg) ∧ w'.cell? ⟨g, o + (j + 1) * 4 + 1, none⟩ = some (.string y1) ∧ w'.cell? ⟨g, o + (j + 1) * 4 + 2, none⟩ = some (.string y2) ∧ w'.cell? ⟨g, o + (j + 1) * 4 + 3, none⟩ = some (.string y3) from
              ⟨(HC1.out w' h).1, (HC1.out w' h).2.1, (HC1.out w' h).2.2.1, (HC1.out w' h).2.2.2, (HC2.out w' h).1, (HC2.out w' h).2.1, (HC2.out w' h).2.2.1, (HC2.out w' h).2.2.2⟩))
            have hI0 := HI.out.below hgr (Below.refl wr.heap.size wr).drew
            have hsub : ((j + 1 : Nat) : Int) - 1 = (j : Int) := by omega
            have hwr : IntKind.i64.wrap (((j + 1 : Nat) : Int) - 1) = (j : Int) := by rw [hsub]; exact IntWalk.i64_in _ (by omega)
            have hj0 : (0 : Int) ≤ (j : Int) := by omega
            have hj1 : (j : Int) < (xs.length : Int) := by omega
            have hj2 : (0 : Int) ≤ (j : Int) + 1 := by omega
            have hj3 : (j : Int) + 1 < (xs.length : Int) := by omega
            have hs2 : (j : Int) + 1 - 1 = (j : Int) := by omega
            have hw2' : IntKind.i64.wrap ((j : Int) + 1 - 1) = (j : Int) := by rw [hs2]; exact IntWalk.i64_in _ (by omega)
            have hw3 : IntKind.i64.wrap (j : Int) = (j : Int) := IntWalk.i64_in _ (by omega)
            clear HC1 HC2
            go_wp2_with fail
            go_region_held3 (fun w' => w'.cell? ⟨g, o + j * 4, none⟩ = some (.int .i64 xg) ∧ w'.cell? ⟨g, o + j * 4 + 1, none⟩ = some (.string x1) ∧ w'.cell? ⟨g, o + j * 4 + 2, none⟩ = some (.string x2) ∧ w'.cell? ⟨g, o + j * 4 + 3, none⟩ = some (.string x3) ∧ w'.cell? ⟨g, o + (j + 1) * 4, none⟩ = some (.int .i64 yg) ∧ w'.cell? ⟨g, o + (j + 1) * 4 + 1, none⟩ = some (.string y1) ∧ w'.cell? ⟨g, o + (j + 1) * 4 + 2, none⟩ = some (.string y2) ∧ w'.cell? ⟨g, o + (j + 1) * 4 + 3, none⟩ = some (.string y3))
              (first | with_reducible exact HSS.out _ hI0 | with_reducible exact HSS.out _ hI5)
              ((first
                | (go_at_call 96; refine (HCM.out _).mono ?_; rintro e w5 ⟨rfl, hb5⟩; have hb55 := pure_trans (Below.refl wr.heap.size wr).drew hb5; have hI5 := HI.out.below hgr hb55; have HI5 := Lib.hid hI5; have HB5 := Lib.hid (HB.out.trans (hb55.mono HB.out.size)); have hz5 := hb55.size; clear hb5 hb55)))
            all_goals
              obtain ⟨c0, c1, c2, c3, c4, c5, c6, c7⟩ := HSS.out _ HI5.out
              have f0 : w5.frozen? ⟨g, o + j * 4, none⟩ = false := HI5.out.free _
              have f1 : w5.frozen? ⟨g, o + j * 4 + 1, none⟩ = false := HI5.out.free _
              have f2 : w5.frozen? ⟨g, o + j * 4 + 2, none⟩ = false := HI5.out.free _
              have f3 : w5.frozen? ⟨g, o + j * 4 + 3, none⟩ = false := HI5.out.free _
              have f4 : w5.frozen? ⟨g, o + (j + 1) * 4, none⟩ = false := HI5.out.free _
              have f5 : w5.frozen? ⟨g, o + (j + 1) * 4 + 1, none⟩ = false := HI5.out.free _
              have f6 : w5.frozen? ⟨g, o + (j + 1) * 4 + 2, none⟩ = false := HI5.out.free _
              have f7 : w5.frozen? ⟨g, o + (j + 1) * 4 + 3, none⟩ = false := HI5.out.free _
              have HZ := Lib.hid (show w2.heap.size ≤ w5.heap.size by omega)
              have hgw5 : g < w5.heap.size := by omega
              by_cases hc : 0 < cc
              · have HCC := Lib.hid hc
                clear hrng hsub hwr HDN
                go_upto_region 8 with fail
                go_region
                all_goals
                  generalize hW8 : ((((((((w5.setCell ⟨g, o + j * 4, none⟩ (.int .i64 yg)).setCell ⟨g, o + j * 4 + 1, none⟩ (.string y1)).setCell ⟨g, o + j * 4 + 2, none⟩ (.string y2)).setCell ⟨g, o + j * 4 + 3, none⟩ (.string y3)).setCell ⟨g, o + (j + 1) * 4, none⟩ (.int .i64 xg)).setCell ⟨g, o + (j + 1) * 4 + 1, none⟩ (.string x1)).setCell ⟨g, o + (j + 1) * 4 + 2, none⟩ (.string x2)).setCell ⟨g, o + (j + 1) * 4 + 3, none⟩ (.string x3)).drew = w8
                  have e8 : (set4 (set4 w5 g (o + j * 4) ⟨yg, y1, y2, y3⟩) g (o + (j + 1) * 4) ⟨xg, x1, x2, x3⟩).drew = w8 := hW8
                  have hF : EntsC w8 g o (swapE zs j) ∧ Below w.heap.size w w8 ∧ w2.heap.size ≤ w8.heap.size := by
                    have hq := srt_swap (x := ⟨xg, x1, x2, x3⟩) (y := ⟨yg, y1, y2, y3⟩) e8 hgw5 HB5.out hg (HSET.out w5 HI5.out)
                    exact ⟨hq.1, hq.2.1, Nat.le_trans HZ.out hq.2.2⟩
                  have HF := Lib.hid hF
                  have HBU := Lib.hid (HSW.out HCC.out)
                  have HPE := Lib.hid ((swapE_perm (ys := zs) (j := j) (by omega)).trans HP.out)
                  clear hF e8 hW8 HSET HSW c0 c1 c2 c3 c4 c5 c6 c7 f0 f1 f2 f3 f4 f5 f6 f7 hI5 hI0 HSS
                  go_wp2
                  go_roundw
                  case rel => exact ⟨j, by omega, by go_num, swapE zs j, Lib.hid HF.out.1, by rw [swapE_len]; exact hlz, HPE, HBU, Lib.hid HF.out.2.1, HF.out.2.2⟩
                  case measure => simp [intOf]
              · have HTE := Lib.hid (HDN.out (by omega))
                clear HSET HSW HDN
                go_wp2
                go_roundw
                case rel => exact ⟨k + 1, by omega, .inl (by omega), by go_num, zs, HI5, hlz, HP, HTE, HB5, HZ.out⟩
                case measure => simp [intOf]; omega
      · have hR := (HI.out.rv (c := c) (B := w.heap.size) (by omega) HM.out hg)
        rw [hly] at hR
        have HR := Lib.hid hR
        clear hR
        go_wp2
        go_ret
        exact ⟨_, ys, rfl, HR.out, HP.out, HS.out.pairwise (by omega), HB.out⟩
end Go.Proofs.YtnfolemblnnejaaGreat
