/- Part 7 of the texts that the law's proof stands on, merged. -/
import Derived.Deep.RegionHeld3
import Derived.BigQuiet
import Derived.Test.YtnfolemblnnejaaVd06
set_option linter.unusedVariables false
set_option linter.unusedSimpArgs false
/- The reference's SortedEntries: the walk (printed by gen_vsort.py). -/
namespace Go.Proofs.Ytnfolemblnnejaa
open Go.RowKit Go.Maps

theorem Owns.entsC {w : World} {B : Nat} {v : Value} {xs : List Ent} (h : Owns tEnt w B 53 v xs) : (xs = [] ∧ v = .slice none 0 0) ∨ ∃ g o c, v = .slice (some ⟨g, o, none⟩) xs.length c ∧ xs.length ≤ c ∧ c ≤ maxLen ∧ B ≤ g ∧ g < w.heap.size ∧ EntsC w g o xs := by
  have hrv := h.rv'
  obtain ⟨css, _, ⟨_, h3⟩, _, _⟩ := h
  rcases h3 with ⟨rfl, h6⟩ | ⟨g, cap, cur, rfl, hg, hh, hn, hm, hc, ht⟩
  · exact .inl ⟨List.eq_nil_of_length_eq_zero h6, rfl⟩
  · have hat : ∀ k (hk : k < xs.length), (∀ j v, xs[k].cs[j]? = some v → mem w g (0 + k * 4 + j) = some v) ∧ xs[k].okE := fun k hk => by
      obtain ⟨b, o, e, hat, hok⟩ := ents_at hrv hk
      simp only [Option.some.injEq, Addr.mk.injEq] at e
      obtain ⟨rfl, rfl, _⟩ := e
      exact ⟨hat, hok⟩
    refine .inr ⟨g, 0, cap, rfl, hn, hm, hg, (Array.getElem?_eq_some_iff.1 hh).1, ⟨fun k hk => ⟨(hat k hk).1 0 _ rfl, (hat k hk).1 1 _ rfl, (hat k hk).1 2 _ rfl, (hat k hk).1 3 _ rfl⟩, fun j => frozen_cells hh _, fun y hy => ?_⟩⟩
    obtain ⟨k, hk, rfl⟩ := List.mem_iff_getElem.1 hy
    exact (hat k hk).2
theorem EntsC.rv {w : World} {g o c B : Nat} {ys : List Ent} (h : EntsC w g o ys) (h1 : ys.length ≤ c) (h2 : c ≤ maxLen) (hg : B ≤ g) : tEnts.rv ((mem w).on (B ≤ ·)) [.slice (some ⟨g, o, none⟩) ys.length c] ys :=
  ⟨some ⟨g, o, none⟩, c, rfl, h1, h2, fun _ => ⟨g, o, rfl, fun k hk => ⟨ys[k].cs, fun j u hu => by
    obtain ⟨h0, h1, h2, h3⟩ := h.cell k hk
    refine Mem.on_some ?_ hg
    show mem w g (o + k * 4 + j) = some u
    match j, hu with
    | 0, hu => simp at hu; subst hu; exact h0
    | 1, hu => simp at hu; subst hu; exact h1
    | 2, hu => simp at hu; subst hu; exact h2
    | 3, hu => simp at hu; subst hu; exact h3, rfl, h.ok _ (List.getElem_mem hk)⟩⟩⟩
theorem srt_keeps (w5 : World) (g o p : Nat) (x y : Ent) : Keeps (· = g) w5 (set4 (set4 w5 g o y) g p x) := (set4_keeps w5 g o y).trans (set4_keeps _ g p x)
theorem srt_swap0 {w w5 w7 : World} {g o : Nat} {zs : List Ent} (kk : Keeps (· = g) w5 w7) (hg5 : g < w5.heap.size) (HB : Below w.heap.size w w5) (hg : w.heap.size ≤ g) (HS : EntsC w7 g o zs) :
    EntsC w7.drew g o zs ∧ Below w.heap.size w w7.drew ∧ w5.heap.size ≤ w7.drew.heap.size := by
  have hz := kk.size
  refine ⟨HS.below (Nat.lt_of_lt_of_le hg5 hz) (Below.refl _ _).drew, (Keeps.belowStep HB kk (fun k hk => ?_) HB.size).drew, hz⟩
  exact Nat.le_trans hg (Nat.le_of_eq hk.symm)
theorem srt_swap {w w5 w8 : World} {g o : Nat} {zs : List Ent} {x y : Ent} {j : Nat} (e8 : (set4 (set4 w5 g (o + j * 4) y) g (o + (j + 1) * 4) x).drew = w8) (hg5 : g < w5.heap.size) (HB : Below w.heap.size w w5) (hg : w.heap.size ≤ g)
    (HS : EntsC (set4 (set4 w5 g (o + j * 4) y) g (o + (j + 1) * 4) x) g o (swapE zs j)) :
    EntsC w8 g o (swapE zs j) ∧ Below w.heap.size w w8 ∧ w5.heap.size ≤ w8.heap.size := by
  have kk := srt_keeps w5 g (o + j * 4) (o + (j + 1) * 4) x y
  generalize set4 (set4 w5 g (o + j * 4) y) g (o + (j + 1) * 4) x = w7 at kk HS e8
  rw [← e8]
  exact srt_swap0 kk hg5 HB hg HS
set_option maxRecDepth 100000 in
set_option maxHeartbeats 8000000 in
theorem sortEnts_any (xs : List Ent) (v : Value) (w : World) (hv : tEnts.rv (mem w) [v] xs) (h8 : xs.length ≤ 100000) :
    Calls Try.prog 22 #[v] w fun e w' => ∃ x S, e = .returned x ∧ tEnts.rv ((mem w').on (w.heap.size ≤ ·)) [x] S ∧ S.Perm xs ∧ S.Pairwise (fun a b => entC a b ≤ 0) ∧ Below w.heap.size w w' := by
  have hb0 : ∀ o, Below w.heap.size w (w.alloc o) := fun o => (Below.refl _ _).alloc (Nat.le_refl _) o
  have hown : ∀ T, T = 53 → Owns tEnt (w.alloc (.cells #[] T)) w.heap.size 53 (.slice (some ⟨w.heap.size, 0, none⟩) 0 0) [] := fun T hT => by
    subst hT
    exact ⟨[], rfl, World.ownsRow_lit w #[] 0 (Nat.le_refl _) (Nat.zero_le _) (by simp), fun c h => absurd h (by simp), fun k h => absurd h (by simp)⟩
  obtain ⟨a1, cap1, rfl, hl1, hm1, hv⟩ := slice_form hv
  have HV := Lib.hid (fun o => (tEnts.mono _ _ _ _ (below_mem (hb0 o)) hv : tEnts.rv (mem (w.alloc o)) _ xs))
  clear hm1 hv
  go_enter Try.func22, Try.ntmps22
  go_wp2_with (at_builtin; refine wpList_append_flat rfl _ _ 35 rfl tEnt_flat tEnt_one Try.underlying35 infoEnt rfl (by decide) w.heap.size _ [] xs rfl (hown _ rfl) _ _ _ rfl rfl (HV.out _) ?c1 ?c2 ?c3 ?_)
  case c1 => simp; unfold maxLen; omega
  case c2 => simp; omega
  case c3 => simp
  intro v' w2 hown' hgrow
  have HB := Lib.hid (show Below w.heap.size w w2 from (hb0 _).grown hgrow (by simp) (fun k hk => by simp [Value.ownBlock] at hk; omega))
  clear hown hgrow HV
  rcases hown'.entsC with ⟨rfl, rfl⟩ | ⟨g, o, c, rfl, hlc, hcm, hg, hgw, hints⟩
  · clear hown'
    go_wp2
    go_loopw [4] (fun i wr => i = .int .i64 1 ∧ wr = w2) (fun _ _ => 0)
    case atStart => exact ⟨rfl, rfl⟩
    case round =>
      obtain ⟨rfl, rfl⟩ := hrel
      go_wp2
      go_ret
      exact ⟨_, [], rfl, slice_nil _ _, List.Perm.refl _, List.Pairwise.nil, HB.out⟩
  · clear hown'
    have hcm2 : c ≤ 9223372036854775807 := by unfold maxLen at hcm; exact hcm
    have HM := Lib.hid hcm
    have HI0 := Lib.hid hints
    clear hcm hints
    go_wp2
    go_loopw [4] (fun i wr => ∃ k : Nat, 1 ≤ k ∧ (k ≤ xs.length ∨ k = 1) ∧ i = .int .i64 k ∧ ∃ ys, Hid (EntsC wr g o ys) ∧ ys.length = xs.length ∧ Hid (ys.Perm xs) ∧ Hid (ToE ys k) ∧ Hid (Below w.heap.size w wr) ∧ w2.heap.size ≤ wr.heap.size) (fun i _ => xs.length - (intOf i).toNat)
    case atStart => exact ⟨1, by omega, .inr rfl, rfl, xs, HI0, rfl, Lib.hid (List.Perm.refl _), Lib.hid (fun a b h1 h2 => by omega), HB, Nat.le_refl _⟩
    case round =>
      clear HI0 HB
      obtain ⟨k, hk1, hk, rfl, ys, HI, hly, HP, HS, HB, hsz⟩ := hrel
      by_cases hlt : k < xs.length
      · go_wp2
        go_loopw [5] (fun i wx => ∃ j : Nat, j ≤ k ∧ i = .int .i64 j ∧ ∃ zs, Hid (EntsC wx g o zs) ∧ zs.length = xs.length ∧ Hid (zs.Perm xs) ∧ Hid (ButE zs k j) ∧ Hid (Below w.heap.size w wx) ∧ w2.heap.size ≤ wx.heap.size) (fun i _ => (intOf i).toNat)
        case atStart => exact ⟨k, by omega, rfl, ys, HI, hly, HP, Lib.hid HS.out.but, HB, hsz⟩
        case round =>
          clear HI HP HS HB hly hsz
          obtain ⟨j, hj, rfl, zs, HI, hlz, HP, HS, HB, hsz⟩ := hrel
          have hgr : g < wr.heap.size := by omega
          cases j with
          | zero =>
            go_wp2_with fail
            go_quiet (fail)
            all_goals
              have hbq : ∀ n, Below wr.heap.size wr (wr.drewN n) := fun n => ⟨rfl, rfl, rfl, Nat.le_refl _, fun _ _ => rfl⟩
              go_wp2
              go_roundw
              case rel => exact ⟨k + 1, by omega, .inl (by omega), by go_num, zs, Lib.hid (HI.out.below hgr (hbq _)), hlz, HP, Lib.hid HS.out.zero, Lib.hid (HB.out.trans ((hbq _).mono HB.out.size)), hsz⟩
              case measure => simp [intOf]; omega
          | succ j =>
            have hjl : j < zs.length := by omega
            have hjl2 : j + 1 < zs.length := by omega
            have HC1 := Lib.hid (fun (w' : World) (h : EntsC w' g o zs) => h.cell j hjl)
            have HC2 := Lib.hid (fun (w' : World) (h : EntsC w' g o zs) => h.cell (j + 1) hjl2)
            have HE1 := Lib.hid (show zs.getD j default = zs[j] by simp [List.getD, hjl])
            have HE2 := Lib.hid (show zs.getD (j + 1) default = zs[j + 1] by simp [List.getD, hjl2])
            have HO1 := Lib.hid (HI.out.ok _ (List.getElem_mem hjl))
            have HO2 := Lib.hid (HI.out.ok _ (List.getElem_mem hjl2))
            have HSET := Lib.hid (fun (w' : World) (h : EntsC w' g o zs) => (show EntsC (set4 (set4 w' g (o + j * 4) zs[j + 1]) g (o + (j + 1) * 4) zs[j]) g o (swapE zs j) from by
              unfold swapE
              rw [HE1.out, HE2.out]
              exact (h.set hjl HO2.out).set (by rw [List.length_set]; exact hjl2) HO1.out))
            have HSW := Lib.hid (fun (h : 0 < entC zs[j] zs[j + 1]) => (show ButE (swapE zs j) k j from HS.out.swap (by omega) (by omega) (by rw [HE1.out, HE2.out]; exact h)))
            have HDN := Lib.hid (fun (h : entC zs[j] zs[j + 1] ≤ 0) => (show ToE zs (k + 1) from HS.out.done (by omega) (by rw [HE1.out, HE2.out]; exact h)))
            have HCM := Lib.hid (fun w' => refCmp_any zs[j] zs[j + 1] w')
            have hrng := entC_good.range zs[j] zs[j + 1]
            clear HE1 HE2
            generalize hcc : entC zs[j] zs[j + 1] = cc at *
            clear hcc
            generalize zs[j + 1] = y at *
            generalize zs[j] = x at *
            obtain ⟨xg, x1, x2, x3⟩ := x
            obtain ⟨yg, y1, y2, y3⟩ := y
            have HSS := Lib.hid (fun (w' : World) (h : EntsC w' g o zs) => (show w'.cell? ⟨g, o + j * 4, none⟩ = some (.int .i64 xg) ∧ w'.cell? ⟨g, o + j * 4 + 1, none⟩ = some (.string x1) ∧ w'.cell? ⟨g, o + j * 4 + 2, none⟩ = some (.string x2) ∧ w'.cell? ⟨g, o + j * 4 + 3, none⟩ = some (.string x3) ∧ w'.cell? ⟨g, o + (j + 1) * 4, none⟩ = some (.int .i64 yg) ∧ w'.cell? ⟨g, o + (j + 1) * 4 + 1, none⟩ = some (.string y1) ∧ w'.cell? ⟨g, o + (j + 1) * 4 + 2, none⟩ = some (.string y2) ∧ w'.cell? ⟨g, o + (j + 1) * 4 + 3, none⟩ = some (.string y3) from
              ⟨(HC1.out w' h).1, (HC1.out w' h).2.1, (HC1.out w' h).2.2.1, (HC1.out w' h).2.2.2, (HC2.out w' h).1, (HC2.out w' h).2.1, (HC2.out w' h).2.2.1, (HC2.out w' h).2.2.2⟩))
            have hI0 := HI.out.below hgr (Below.refl wr.heap.size wr).drew
            have hsub : ((j + 1 : Nat) : Int) - 1 = (j : Int) := by omega
            have hwr : IntKind.i64.wrap (((j + 1 : Nat) : Int) - 1) = (j : Int) := by rw [hsub]; exact IntWalk.i64_in _ (by omega)
            have hj0 : (0 : Int) ≤ (j : Int) := by omega
            have hj1 : (j : Int) < (xs.length : Int) := by omega
            have hj2 : (0 : Int) ≤ (j : Int) + 1 := by omega
            have hj3 : (j : Int) + 1 < (xs.length : Int) := by omega
            have hs2 : (j : Int) + 1 - 1 = (j : Int) := by omega
            have hw2' : IntKind.i64.wrap ((j : Int) + 1 - 1) = (j : Int) := by rw [hs2]; exact IntWalk.i64_in _ (by omega)
            have hw3 : IntKind.i64.wrap (j : Int) = (j : Int) := IntWalk.i64_in _ (by omega)
            clear HC1 HC2
            go_wp2_with fail
            go_region_held3 (fun w' => w'.cell? ⟨g, o + j * 4, none⟩ = some (.int .i64 xg) ∧ w'.cell? ⟨g, o + j * 4 + 1, none⟩ = some (.string x1) ∧ w'.cell? ⟨g, o + j * 4 + 2, none⟩ = some (.string x2) ∧ w'.cell? ⟨g, o + j * 4 + 3, none⟩ = some (.string x3) ∧ w'.cell? ⟨g, o + (j + 1) * 4, none⟩ = some (.int .i64 yg) ∧ w'.cell? ⟨g, o + (j + 1) * 4 + 1, none⟩ = some (.string y1) ∧ w'.cell? ⟨g, o + (j + 1) * 4 + 2, none⟩ = some (.string y2) ∧ w'.cell? ⟨g, o + (j + 1) * 4 + 3, none⟩ = some (.string y3))
              (first | with_reducible exact HSS.out _ hI0 | with_reducible exact HSS.out _ hI5)
              ((first
                | (go_at_call 53; refine (HCM.out _).mono ?_; rintro e w5 ⟨rfl, hb5⟩; have hb55 := pure_trans (Below.refl wr.heap.size wr).drew hb5; have hI5 := HI.out.below hgr hb55; have HI5 := Lib.hid hI5; have HB5 := Lib.hid (HB.out.trans (hb55.mono HB.out.size)); have hz5 := hb55.size; clear hb5 hb55)))
            all_goals
              obtain ⟨c0, c1, c2, c3, c4, c5, c6, c7⟩ := HSS.out _ HI5.out
              have f0 : w5.frozen? ⟨g, o + j * 4, none⟩ = false := HI5.out.free _
              have f1 : w5.frozen? ⟨g, o + j * 4 + 1, none⟩ = false := HI5.out.free _
              have f2 : w5.frozen? ⟨g, o + j * 4 + 2, none⟩ = false := HI5.out.free _
              have f3 : w5.frozen? ⟨g, o + j * 4 + 3, none⟩ = false := HI5.out.free _
              have f4 : w5.frozen? ⟨g, o + (j + 1) * 4, none⟩ = false := HI5.out.free _
              have f5 : w5.frozen? ⟨g, o + (j + 1) * 4 + 1, none⟩ = false := HI5.out.free _
              have f6 : w5.frozen? ⟨g, o + (j + 1) * 4 + 2, none⟩ = false := HI5.out.free _
              have f7 : w5.frozen? ⟨g, o + (j + 1) * 4 + 3, none⟩ = false := HI5.out.free _
              have HZ := Lib.hid (show w2.heap.size ≤ w5.heap.size by omega)
              have hgw5 : g < w5.heap.size := by omega
              by_cases hc : 0 < cc
              · have HCC := Lib.hid hc
                clear hrng hsub hwr HDN
                go_upto_region 8 with fail
                go_region
                all_goals
                  generalize hW8 : ((((((((w5.setCell ⟨g, o + j * 4, none⟩ (.int .i64 yg)).setCell ⟨g, o + j * 4 + 1, none⟩ (.string y1)).setCell ⟨g, o + j * 4 + 2, none⟩ (.string y2)).setCell ⟨g, o + j * 4 + 3, none⟩ (.string y3)).setCell ⟨g, o + (j + 1) * 4, none⟩ (.int .i64 xg)).setCell ⟨g, o + (j + 1) * 4 + 1, none⟩ (.string x1)).setCell ⟨g, o + (j + 1) * 4 + 2, none⟩ (.string x2)).setCell ⟨g, o + (j + 1) * 4 + 3, none⟩ (.string x3)).drew = w8
                  have e8 : (set4 (set4 w5 g (o + j * 4) ⟨yg, y1, y2, y3⟩) g (o + (j + 1) * 4) ⟨xg, x1, x2, x3⟩).drew = w8 := hW8
                  have hF : EntsC w8 g o (swapE zs j) ∧ Below w.heap.size w w8 ∧ w2.heap.size ≤ w8.heap.size := by
                    have hq := srt_swap (x := ⟨xg, x1, x2, x3⟩) (y := ⟨yg, y1, y2, y3⟩) e8 hgw5 HB5.out hg (HSET.out w5 HI5.out)
                    exact ⟨hq.1, hq.2.1, Nat.le_trans HZ.out hq.2.2⟩
                  have HF := Lib.hid hF
                  have HBU := Lib.hid (HSW.out HCC.out)
                  have HPE := Lib.hid ((swapE_perm (ys := zs) (j := j) (by omega)).trans HP.out)
                  clear hF e8 hW8 HSET HSW c0 c1 c2 c3 c4 c5 c6 c7 f0 f1 f2 f3 f4 f5 f6 f7 hI5 hI0 HSS
                  go_wp2
                  go_roundw
                  case rel => exact ⟨j, by omega, by go_num, swapE zs j, Lib.hid HF.out.1, by rw [swapE_len]; exact hlz, HPE, HBU, Lib.hid HF.out.2.1, HF.out.2.2⟩
                  case measure => simp [intOf]
              · have HTE := Lib.hid (HDN.out (by omega))
                clear HSET HSW HDN
                go_wp2
                go_roundw
                case rel => exact ⟨k + 1, by omega, .inl (by omega), by go_num, zs, HI5, hlz, HP, HTE, HB5, HZ.out⟩
                case measure => simp [intOf]; omega
      · have hR := (HI.out.rv (c := c) (B := w.heap.size) (by omega) HM.out hg)
        rw [hly] at hR
        have HR := Lib.hid hR
        clear hR
        go_wp2
        go_ret
        exact ⟨_, ys, rfl, HR.out, HP.out, HS.out.pairwise (by omega), HB.out⟩
end Go.Proofs.Ytnfolemblnnejaa
/- The reference's SameEntries at equal lists (printed by gen_vsame.py). -/
namespace Go.Proofs.Ytnfolemblnnejaa
open Go.RowKit Go.Maps
set_option maxRecDepth 100000 in
set_option maxHeartbeats 4000000 in
theorem sameEnts_any (l : List Ent) (v v' : Value) (w : World) (hv : tEnts.rv (mem w) [v] l) (hv' : tEnts.rv (mem w) [v'] l) :
    Calls Try.prog 21 #[v, v'] w fun e w' => e = .returned (.bool true) ∧ Below w.heap.size w w' := by
  obtain ⟨a, cap, rfl, hlc, hm, hv⟩ := slice_form hv
  have hcap : cap ≤ 9223372036854775807 := by unfold maxLen at hm; exact hm
  obtain ⟨a', cap', rfl, hlc', hm', hv'⟩ := slice_form hv'
  have hcap' : cap' ≤ 9223372036854775807 := by unfold maxLen at hm'; exact hm'
  have hll : ((l.length : Int) == (l.length : Int)) = true := by simp
  clear hm hm'
  go_enter Try.func21, Try.ntmps21
  go_wp2
  go_loopw [5] (fun i wr => ∃ k : Nat, k ≤ l.length ∧ i = .int .i64 k ∧ Hid (Below w.heap.size w wr)) (fun i _ => l.length - (intOf i).toNat)
  case atStart => exact ⟨0, by omega, rfl, Lib.hid (Below.refl _ _)⟩
  case round =>
    obtain ⟨k, hk, rfl, HB⟩ := hrel
    by_cases hlt : k < l.length
    · obtain ⟨b, o, rfl, hat, hok⟩ := ents_at (tEnts.mono _ _ _ _ (below_mem HB.out) hv) hlt
      obtain ⟨b', o', rfl, hat', -⟩ := ents_at (tEnts.mono _ _ _ _ (below_mem HB.out) hv') hlt
      have c0 : wr.cell? ⟨b, o + k * 4, none⟩ = some (.int .i64 l[k].g) := hat 0 _ rfl
      have c1 : wr.cell? ⟨b, o + k * 4 + 1, none⟩ = some (.string l[k].nm) := hat 1 _ rfl
      have c2 : wr.cell? ⟨b, o + k * 4 + 2, none⟩ = some (.string l[k].key) := hat 2 _ rfl
      have c3 : wr.cell? ⟨b, o + k * 4 + 3, none⟩ = some (.string l[k].val) := hat 3 _ rfl
      have d0 : wr.cell? ⟨b', o' + k * 4, none⟩ = some (.int .i64 l[k].g) := hat' 0 _ rfl
      have d1 : wr.cell? ⟨b', o' + k * 4 + 1, none⟩ = some (.string l[k].nm) := hat' 1 _ rfl
      have d2 : wr.cell? ⟨b', o' + k * 4 + 2, none⟩ = some (.string l[k].key) := hat' 2 _ rfl
      have d3 : wr.cell? ⟨b', o' + k * 4 + 3, none⟩ = some (.string l[k].val) := hat' 3 _ rfl
      clear hat hat' hok
      generalize l[k] = y at *
      obtain ⟨yg, y1, y2, y3⟩ := y
      have e0 : (yg == yg) = true := by simp
      have e1 : (y1.toList == y1.toList) = true := by simp
      have e2 : (y2.toList == y2.toList) = true := by simp
      have e3 : (y3.toList == y3.toList) = true := by simp
      go_wp2_with fail
      go_quiet (fail)
      all_goals
        go_wp2
        exact ⟨⟨k + 1, by omega, by go_num, Lib.hid (HB.out.trans ⟨rfl, rfl, rfl, Nat.le_refl _, fun _ _ => rfl⟩)⟩, by simp [intOf]; omega⟩
    · obtain rfl : k = l.length := by omega
      go_wp2
      go_ret
      exact ⟨rfl, HB.out⟩
end Go.Proofs.Ytnfolemblnnejaa
/- The reference of a vault: rows written by single stores (for Tell). -/
namespace Go.Proofs.Ytnfolemblnnejaa
open Go.RowKit Go.Maps

theorem place_find {s : VS} (h : VOk s) {k i : Int} (hp : PlaceSays s k i) : (s.find k = none ∧ i = -1) ∨ ∃ (j : Nat) (t : Sn), s.all[j]? = some (k, t) ∧ i = j ∧ s.find k = some t := by
  rcases hp with ⟨j, t, h1, rfl⟩ | ⟨h1, rfl⟩
  · exact .inr ⟨j, t, h1, rfl, h.find (List.mem_of_getElem? h1)⟩
  · exact .inl ⟨find_none.2 h1, rfl⟩
theorem ent_cells {m : Mem} {xs : List Ent} {a : Option Addr} {n cap : Nat} (h : tEnts.rv m [.slice a n cap] xs) {k : Nat} (hk : k < xs.length) :
    ∃ b o, a = some ⟨b, o, none⟩ ∧ m b (o + k * 4) = some (.int .i64 xs[k].g) ∧ m b (o + k * 4 + 1) = some (.string xs[k].nm) ∧ m b (o + k * 4 + 2) = some (.string xs[k].key) ∧ m b (o + k * 4 + 3) = some (.string xs[k].val) ∧ xs[k].okE := by
  obtain ⟨b, o, rfl, cs, hat, rfl, hok⟩ := slice_at h hk
  exact ⟨b, o, rfl, hat 0 _ rfl, hat 1 _ rfl, hat 2 _ rfl, hat 3 _ rfl, hok⟩
theorem tStr_one : ∀ m cs x, tStr.rv m cs x → ∀ u ∈ cs, u.oneCell' = true := fun m cs x h u hu => by
  have h : cs = [.string x] := h.1
  subst h
  simp at hu; subst hu; rfl
theorem tEnts_one (M : Mem) : ∀ m cs x, (tIn M tEnts).rv m cs x → ∀ u ∈ cs, u.oneCell' = true := fun m cs x h u hu => by
  obtain ⟨a, c, rfl, -⟩ := h
  simp at hu; subst hu; rfl
theorem tBool_one : ∀ m cs x, tBool.rv m cs x → ∀ u ∈ cs, u.oneCell' = true := fun m cs x h u hu => by
  have h : cs = [.bool x] := h
  subst h
  simp at hu; subst hu; rfl
/-- A row of plain cells: only its block matters. -/
theorem row_block {α : Type} {t : Ty α} (hf : t.flat) {w w' : World} {g o n c : Nat} {xs : List α} (h : (tSlice t).rv (mem w) [.slice (some ⟨g, o, none⟩) n c] xs) (hb : w'.heap[g]? = w.heap[g]?) : (tSlice t).rv (mem w') [.slice (some ⟨g, o, none⟩) n c] xs := by
  obtain ⟨a, cap, e, h1, h2, h3⟩ := h
  refine ⟨a, cap, e, h1, h2, fun hp => ?_⟩
  obtain ⟨b', o', ha, hk⟩ := h3 hp
  simp only [List.cons.injEq, Value.slice.injEq, and_true] at e
  obtain ⟨rfl, -, -⟩ := e
  simp only [Option.some.injEq, Addr.mk.injEq, and_true] at ha
  obtain ⟨rfl, rfl⟩ := ha
  refine ⟨_, _, rfl, fun k hk' => ?_⟩
  obtain ⟨cs, hc, hr⟩ := hk k hk'
  exact ⟨cs, fun j v hj => (mem_of_block hb _).trans (hc j v hj), hf _ _ _ _ hr⟩
/-- An element of such a row is written. -/
theorem row_put {α : Type} {t : Ty α} (hf : t.flat) {m m' : Mem} {g o n c i : Nat} {xs : List α} {x : α} (h : (tSlice t).rv m [.slice (some ⟨g, o, none⟩) n c] xs) (hi : i < xs.length)
    (hoth : ∀ j v, (j < o + i * t.sz ∨ o + i * t.sz + t.sz ≤ j) → m g j = some v → m' g j = some v) {cs : List Value} (hat : ∀ j v, cs[j]? = some v → m' g (o + i * t.sz + j) = some v) (hrv : t.rv m' cs x) :
    (tSlice t).rv m' [.slice (some ⟨g, o, none⟩) n c] (xs.set i x) := by
  obtain ⟨a, cap, e, h1, h2, h3⟩ := h
  simp only [List.cons.injEq, Value.slice.injEq, and_true] at e
  obtain ⟨rfl, rfl, rfl⟩ := e
  refine ⟨_, c, by rw [List.length_set], by rw [List.length_set]; exact h1, h2, fun _ => ?_⟩
  obtain ⟨b', o', e, hk⟩ := h3 (by omega)
  simp only [Option.some.injEq, Addr.mk.injEq, and_true] at e
  obtain ⟨rfl, rfl⟩ := e
  refine ⟨g, o, rfl, fun k hk' => ?_⟩
  have hkx : k < xs.length := by simpa using hk'
  by_cases e : i = k
  · subst e
    rw [List.getElem_set_self]
    exact ⟨cs, hat, hrv⟩
  · rw [List.getElem_set_ne e]
    obtain ⟨cs', hc, hr⟩ := hk k hkx
    refine ⟨cs', fun j v hj => hoth _ _ ?_ (hc j v hj), hf _ _ _ _ hr⟩
    have hl : j < t.sz := by
      have hl := t.len _ _ _ hr
      rw [← hl]
      exact (List.getElem?_eq_some_iff.1 hj).1
    rcases Nat.lt_or_gt_of_ne e with h | h
    · right
      have := Nat.mul_le_mul_right t.sz (show i + 1 ≤ k from h)
      rw [Nat.add_mul, Nat.one_mul] at this
      omega
    · left
      have := Nat.mul_le_mul_right t.sz (show k + 1 ≤ i from h)
      rw [Nat.add_mul, Nat.one_mul] at this
      omega
/-- One cell of a row of cells is written. -/
theorem row_put1 {α : Type} {t : Ty α} (hf : t.flat) (hsz : t.sz = 1) {w : World} {g n c i : Nat} {xs : List α} {x : α} {v : Value} {cur : Array Value} {T : TypeId} (h : (tSlice t).rv (mem w) [.slice (some ⟨g, 0, none⟩) n c] xs) (hi : i < xs.length)
    (hg : w.heap[g]? = some (.cells cur T (0, 0))) (hrv : ∀ m, t.rv m [v] x) : (tSlice t).rv (mem (w.setCell ⟨g, i, none⟩ v)) [.slice (some ⟨g, 0, none⟩) n c] (xs.set i x) := by
  have hb := set_block (o := i) (v := v) hg
  obtain ⟨b', o', e, cs, hc, hr⟩ := slice_at h hi
  simp only [Option.some.injEq, Addr.mk.injEq, and_true] at e
  obtain ⟨rfl, rfl⟩ := e
  have hlen := t.len _ _ _ hr
  rw [hsz] at hlen
  have hlt : i < cur.size := by
    have h0 := hc 0 (cs[0]'(by omega)) (by simp)
    rw [hsz, Nat.mul_one, Nat.zero_add, Nat.add_zero, mem_cells hg] at h0
    exact (Array.getElem?_eq_some_iff.1 h0).1
  refine row_put hf h hi (fun j u hj e => ?_) (cs := [v]) (fun j u hj => ?_) (hrv _)
  · rw [hsz] at hj
    rw [mem_cells hg] at e
    rw [mem_cells hb, Array.getElem?_setIfInBounds_ne (by omega)]
    exact e
  · cases j with
    | zero =>
      simp at hj; subst hj
      rw [hsz, Nat.mul_one, Nat.zero_add, Nat.add_zero, mem_cells hb, Array.getElem?_setIfInBounds_self_of_lt hlt]
    | succ j => simp at hj
/-- Such a row, read in another memory. -/
theorem row_mem {α : Type} {t : Ty α} (hf : t.flat) {m m' : Mem} {g o n c : Nat} {xs : List α} (h : (tSlice t).rv m [.slice (some ⟨g, o, none⟩) n c] xs) (hb : ∀ j v, m g j = some v → m' g j = some v) : (tSlice t).rv m' [.slice (some ⟨g, o, none⟩) n c] xs := by
  obtain ⟨a, cap, e, h1, h2, h3⟩ := h
  refine ⟨a, cap, e, h1, h2, fun hp => ?_⟩
  obtain ⟨b', o', ha, hk⟩ := h3 hp
  simp only [List.cons.injEq, Value.slice.injEq, and_true] at e
  obtain ⟨rfl, -, -⟩ := e
  simp only [Option.some.injEq, Addr.mk.injEq, and_true] at ha
  obtain ⟨rfl, rfl⟩ := ha
  refine ⟨_, _, rfl, fun k hk' => ?_⟩
  obtain ⟨cs, hc, hr⟩ := hk k hk'
  exact ⟨cs, fun j v hj => hb _ _ (hc j v hj), hf _ _ _ _ hr⟩
def store6 (w : World) (b o : Nat) (v0 v1 v2 v3 v4 v5 : Value) : World := (((((w.setCell ⟨b, o, none⟩ v0).setCell ⟨b, o + 1, none⟩ v1).setCell ⟨b, o + 2, none⟩ v2).setCell ⟨b, o + 3, none⟩ v3).setCell ⟨b, o + 4, none⟩ v4).setCell ⟨b, o + 5, none⟩ v5
theorem set_other (cur : Array Value) {o j : Nat} (v : Value) (h : j ≠ o) : (cur.setIfInBounds o v)[j]? = cur[j]? := Array.getElem?_setIfInBounds_ne (Ne.symm h)
theorem set_self (cur : Array Value) {o : Nat} (v : Value) (h : o < cur.size) : (cur.setIfInBounds o v)[o]? = some v := Array.getElem?_setIfInBounds_self_of_lt h
theorem store6_at {w : World} {b o : Nat} {cur : Array Value} {T : TypeId} (h : w.heap[b]? = some (.cells cur T (0, 0))) (ho : o + 6 ≤ cur.size) (v0 v1 v2 v3 v4 v5 : Value) :
    ∃ cur', (store6 w b o v0 v1 v2 v3 v4 v5).heap[b]? = some (.cells cur' T (0, 0)) ∧ (∀ j v, [v0, v1, v2, v3, v4, v5][j]? = some v → cur'[o + j]? = some v) ∧ ∀ j, (j < o ∨ o + 6 ≤ j) → cur'[j]? = cur[j]? := by
  have h0 := set_block (o := o) (v := v0) h
  have h1 := set_block (o := o + 1) (v := v1) h0
  have h2 := set_block (o := o + 2) (v := v2) h1
  have h3 := set_block (o := o + 3) (v := v3) h2
  have h4 := set_block (o := o + 4) (v := v4) h3
  have h5 := set_block (o := o + 5) (v := v5) h4
  refine ⟨_, h5, fun j v hj => ?_, fun j hj => ?_⟩
  · rcases j with _ | _ | _ | _ | _ | _ | j
    · cases hj
      show _[o]? = _
      rw [set_other _ _ (by omega), set_other _ _ (by omega), set_other _ _ (by omega), set_other _ _ (by omega), set_other _ _ (by omega), set_self _ _ (by omega)]
    · cases hj
      rw [set_other _ _ (by omega), set_other _ _ (by omega), set_other _ _ (by omega), set_other _ _ (by omega), set_self _ _ (by simp; omega)]
    · cases hj
      rw [set_other _ _ (by omega), set_other _ _ (by omega), set_other _ _ (by omega), set_self _ _ (by simp; omega)]
    · cases hj
      rw [set_other _ _ (by omega), set_other _ _ (by omega), set_self _ _ (by simp; omega)]
    · cases hj
      rw [set_other _ _ (by omega), set_self _ _ (by simp; omega)]
    · cases hj
      rw [set_self _ _ (by simp; omega)]
    · cases hj
  · rw [set_other _ _ (by omega), set_other _ _ (by omega), set_other _ _ (by omega), set_other _ _ (by omega), set_other _ _ (by omega), set_other _ _ (by omega)]
theorem store6_other {w : World} {b o k : Nat} (hk : k ≠ b) (v0 v1 v2 v3 v4 v5 : Value) : (store6 w b o v0 v1 v2 v3 v4 v5).heap[k]? = w.heap[k]? := by
  unfold store6
  rw [set_block_other hk, set_block_other hk, set_block_other hk, set_block_other hk, set_block_other hk, set_block_other hk]
theorem store6_size {w : World} {b o : Nat} (v0 v1 v2 v3 v4 v5 : Value) : (store6 w b o v0 v1 v2 v3 v4 v5).heap.size = w.heap.size := by
  unfold store6
  simp [World.setCell]
theorem Fr.st6 {W w : World} {v0 v1 v2 v3 v4 : Value} (h : Fr W w v0 v1 v2 v3 v4) {g o : Nat} (hg : W.heap.size + 2 ≤ g) (u0 u1 u2 u3 u4 u5 : Value) : Fr W (store6 w g o u0 u1 u2 u3 u4 u5) v0 v1 v2 v3 v4 := by
  unfold store6
  exact (((((h.other hg u0).other hg u1).other hg u2).other hg u3).other hg u4).other hg u5
theorem tell_bits' (t : Sn) (i : Nat) (x : Part) : (t.tell i x).bits = t.bits.set i true := by
  unfold Sn.tell Sn.bits
  simp only
  rw [List.map_set]; rfl
theorem tell_texts (t : Sn) (i : Nat) (x : Part) : (t.tell i x).texts = t.texts.set i x.1 := by
  unfold Sn.tell Sn.texts
  simp only
  rw [List.map_set]; rfl
theorem tell_rents (t : Sn) (i : Nat) (x : Part) : (t.tell i x).rents = t.rents.set i x.2 := by
  unfold Sn.tell Sn.rents
  simp only
  rw [List.map_set]; rfl
theorem miss_done (t : Sn) (u : Nat) (x : Part) : (((missOf (t.bits.set u true)).length : Int) == 0) = (t.tell u x).done := by
  have hn := miss_nil (t.bits.set u true)
  rw [← tell_bits' t u x] at hn ⊢
  rw [Sn.done_bits]
  cases h : (t.tell u x).bits.all id with
  | true => rw [hn.2 h]; rfl
  | false =>
    have h0 : missOf (t.tell u x).bits ≠ [] := fun e => by rw [hn.1 e] at h; cases h
    have := List.length_pos_iff.2 h0
    rw [beq_eq_false_iff_ne]; omega
/-- Behind Tell: the snapshot's row is written anew. -/
theorem rows_tell {M : Mem} {W w w' : World} {g n c i u : Nat} {s : VS} {k : Int} {t : Sn} {x : Part} {s1 s2 s3 : Value} (hok : VOk s) (hj : s.all[i]? = some (k, t)) (hM : M.le (mem W)) (h : (tSlice (tIn M tRSn)).rv (mem w) [.slice (some ⟨g, 0, none⟩) n c] s.all)
    (hg : W.heap.size + 2 ≤ g) (hoth : ∀ j v, (j < i * 6 ∨ i * 6 + 6 ≤ j) → mem w g j = some v → mem w' g j = some v)
    (hat : ∀ j v, [(.int .i64 k : Value), .string t.name, .bool (t.tell u x).done, s1, s2, s3][j]? = some v → mem w' g (i * 6 + j) = some v)
    (r1 : tBools.rv (jn M W w') [s1] (t.bits.set u true)) (r2 : tStrs.rv (jn M W w') [s2] (t.texts.set u x.1)) (r3 : tEntss.rv (jn M W w') [s3] (t.rents.set u x.2)) :
    RV (jn M W w') (s.upd k (fun t => t.tell u x)) (.slice (some ⟨g, 0, none⟩) n c) := by
  obtain ⟨hil, hie⟩ := List.getElem?_eq_some_iff.1 hj
  have hmem : (k, t) ∈ s.all := hie ▸ List.getElem_mem hil
  have hk : VOk (s.upd k (fun t => t.tell u x)) := hok.upd hmem (by simp [Sn.tell]) (hok.tk _ hmem).2.2
  have hjn : ∀ j, jn M W w' g j = mem w' g j := fun j => by unfold jn; rw [if_pos hg]
  have hMJ : M.le (jn M W w') := jn_of hM
  have hi := hok.i64 (mem_nums hmem)
  have hr := rows_put (M' := jn M W w') (m' := jn M W w') (x := (k, t.tell u x)) (cs := [.int .i64 k, .string t.name, .bool (t.tell u x).done, s1, s2, s3]) h hil hMJ
    (fun j v hj e => by rw [hjn]; rw [Nat.zero_add] at hj; exact hoth j v hj e) (fun j v e => by rw [hjn, Nat.zero_add]; exact hat j v e)
    ⟨s1, s2, s3, rfl, ⟨hi, (hok.tk _ hmem).2.2⟩, by rw [tell_bits']; exact r1, by rw [tell_texts]; exact r2, by rw [tell_rents]; exact r3⟩
  refine ⟨?_, hk⟩
  rw [upd_set hok hj]
  exact slice_in hr (fun b o v e => e)
theorem run_index1 {P : Program} {T e : TypeId} (hT : P.underlying T = some (.slice e)) (hs : (P.info? e).map (·.size) = some 1) (g n c u : Nat) (hu : u < n) (w : World) :
    (Instr.indexAt T (.slice (some ⟨g, 0, none⟩) n c) (.int .i64 u)).run P w = .ok (.pointer (some ⟨g, u, none⟩)) w := by
  have he : P.elem T = e := by simp [Program.elem, hT]
  have h := run_indexAt_slice (P := P) (w := w) T ⟨g, 0, none⟩ n c .i64 (u : Int) (by rw [he]; exact hT)
  rw [if_pos (by omega), he, size_run hs] at h
  rw [h]
  simp [Addr.add]
  intro h
  exact h.symm
/-- The region that stores what a task told, in whatever order: what its operations yield. -/
def V23 (q g3 n3 c3 g4 n4 c4 g5 n5 c5 u : Nat) (text : ByteArray) (ve : Value) : Nat → Value
  | 0 => .pointer (some ⟨q, 3, none⟩)
  | 1 => .slice (some ⟨g3, 0, none⟩) n3 c3
  | 2 => .int .i64 u
  | 3 => .pointer (some ⟨q, 4, none⟩)
  | 4 => .slice (some ⟨g4, 0, none⟩) n4 c4
  | 5 => .int .i64 u
  | 6 => .pointer (some ⟨q, 5, none⟩)
  | 7 => .slice (some ⟨g5, 0, none⟩) n5 c5
  | 8 => .int .i64 u
  | 9 => .string text
  | 10 => ve
  | 11 => .pointer (some ⟨g3, u, none⟩)
  | 13 => .pointer (some ⟨g4, u, none⟩)
  | 15 => .pointer (some ⟨g5, u, none⟩)
  | _ => undef
structure J23 (M : Mem) (q g3 n3 c3 g4 n4 c4 g5 n5 c5 u : Nat) (text : ByteArray) (ve : Value) (w0 : World) (bs : List Bool) (ts : List ByteArray) (xs : List (List Ent)) (es : List Ent) (L : Nat → Bool) (f : Nat → Value) (w : World) : Prop where
  kp : Keeps (fun b => b = g3 ∨ b = g4 ∨ b = g5) w0 w
  r3 : (tSlice tBool).rv (mem w) [.slice (some ⟨g3, 0, none⟩) n3 c3] (if L 12 = true then bs.set u true else bs)
  r4 : (tSlice tStr).rv (mem w) [.slice (some ⟨g4, 0, none⟩) n4 c4] (if L 14 = true then ts.set u text else ts)
  r5 : (tSlice (tIn M tEnts)).rv (mem w) [.slice (some ⟨g5, 0, none⟩) n5 c5] (if L 16 = true then xs.set u es else xs)
  h3 : ∃ cur, w.heap[g3]? = some (.cells cur 4 (0, 0))
  h4 : ∃ cur, w.heap[g4]? = some (.cells cur 9 (0, 0))
  h5 : ∃ cur, w.heap[g5]? = some (.cells cur 35 (0, 0))
  vs : ∀ i, L i = true → f i = V23 q g3 n3 c3 g4 n4 c4 g5 n5 c5 u text ve i
section
variable {M : Mem} {q g3 n3 c3 g4 n4 c4 g5 n5 c5 u : Nat} {text : ByteArray} {ve : Value} {w0 : World} {bs : List Bool} {ts : List ByteArray} {xs : List (List Ent)} {es : List Ent} {L : Nat → Bool} {f : Nat → Value} {w : World}
theorem J23.add (h : J23 M q g3 n3 c3 g4 n4 c4 g5 n5 c5 u text ve w0 bs ts xs es L f w) {i : Nat} (h1 : i ≠ 12) (h2 : i ≠ 14) (h3 : i ≠ 16) {v : Value} (hv : v = V23 q g3 n3 c3 g4 n4 c4 g5 n5 c5 u text ve i) : J23 M q g3 n3 c3 g4 n4 c4 g5 n5 c5 u text ve w0 bs ts xs es (setL L i) (setV f i v) w := by
  refine ⟨h.kp, ?_, ?_, ?_, h.h3, h.h4, h.h5, fun k hk => ?_⟩
  · simp only [setL, if_neg (Ne.symm h1)]; exact h.r3
  · simp only [setL, if_neg (Ne.symm h2)]; exact h.r4
  · simp only [setL, if_neg (Ne.symm h3)]; exact h.r5
  · by_cases e : k = i
    · subst e; simp only [setV, if_pos]; exact hv
    · simp only [setL, setV, if_neg e] at hk ⊢
      exact h.vs k hk
theorem J23.add12 (h : J23 M q g3 n3 c3 g4 n4 c4 g5 n5 c5 u text ve w0 bs ts xs es L f w) (hL : L 12 = false) (h34 : g3 ≠ g4) (h35 : g3 ≠ g5) (hu : u < bs.length) : J23 M q g3 n3 c3 g4 n4 c4 g5 n5 c5 u text ve w0 bs ts xs es (setL L 12) (setV f 12 undef) (w.setCell ⟨g3, u, none⟩ (.bool true)) := by
  obtain ⟨cur, hc⟩ := h.h3
  have r3 := h.r3
  rw [if_neg (by rw [hL]; simp)] at r3
  refine ⟨h.kp.setCell (p := ⟨g3, u, none⟩) (fun _ => .inl rfl) _, ?_, ?_, ?_, ⟨_, set_block hc⟩, h.h4.imp fun c e => (set_block_other (Ne.symm h34)).trans e, h.h5.imp fun c e => (set_block_other (Ne.symm h35)).trans e, fun k hk => ?_⟩
  · simp only [setL, if_pos]
    exact row_put1 (t := tBool) tBool_flat rfl r3 hu hc (fun m => rfl)
  · simp only [setL, if_neg (show (14 : Nat) ≠ 12 by decide)]; exact row_block tStr_flat h.r4 (set_block_other (Ne.symm h34))
  · simp only [setL, if_neg (show (16 : Nat) ≠ 12 by decide)]; exact row_block (tIn_flat M tEnts) h.r5 (set_block_other (Ne.symm h35))
  · by_cases e : k = 12
    · subst e; simp only [setV, if_pos]; rfl
    · simp only [setL, setV, if_neg e] at hk ⊢
      exact h.vs k hk
theorem J23.add14 (h : J23 M q g3 n3 c3 g4 n4 c4 g5 n5 c5 u text ve w0 bs ts xs es L f w) (hL : L 14 = false) (h34 : g3 ≠ g4) (h45 : g4 ≠ g5) (hu : u < ts.length) (htx : text.size ≤ maxLen) : J23 M q g3 n3 c3 g4 n4 c4 g5 n5 c5 u text ve w0 bs ts xs es (setL L 14) (setV f 14 undef) (w.setCell ⟨g4, u, none⟩ (.string text)) := by
  obtain ⟨cur, hc⟩ := h.h4
  have r4 := h.r4
  rw [if_neg (by rw [hL]; simp)] at r4
  refine ⟨h.kp.setCell (p := ⟨g4, u, none⟩) (fun _ => .inr (.inl rfl)) _, ?_, ?_, ?_, h.h3.imp fun c e => (set_block_other h34).trans e, ⟨_, set_block hc⟩, h.h5.imp fun c e => (set_block_other (Ne.symm h45)).trans e, fun k hk => ?_⟩
  · simp only [setL, if_neg (show (12 : Nat) ≠ 14 by decide)]; exact row_block tBool_flat h.r3 (set_block_other h34)
  · simp only [setL, if_pos]
    exact row_put1 (t := tStr) tStr_flat rfl r4 hu hc (fun m => ⟨rfl, htx⟩)
  · simp only [setL, if_neg (show (16 : Nat) ≠ 14 by decide)]; exact row_block (tIn_flat M tEnts) h.r5 (set_block_other (Ne.symm h45))
  · by_cases e : k = 14
    · subst e; simp only [setV, if_pos]; rfl
    · simp only [setL, setV, if_neg e] at hk ⊢
      exact h.vs k hk
theorem J23.add16 (h : J23 M q g3 n3 c3 g4 n4 c4 g5 n5 c5 u text ve w0 bs ts xs es L f w) (hL : L 16 = false) (h35 : g3 ≠ g5) (h45 : g4 ≠ g5) (hu : u < xs.length) (hve : tEnts.rv M [ve] es) : J23 M q g3 n3 c3 g4 n4 c4 g5 n5 c5 u text ve w0 bs ts xs es (setL L 16) (setV f 16 undef) (w.setCell ⟨g5, u, none⟩ ve) := by
  obtain ⟨cur, hc⟩ := h.h5
  have r5 := h.r5
  rw [if_neg (by rw [hL]; simp)] at r5
  refine ⟨h.kp.setCell (p := ⟨g5, u, none⟩) (fun _ => .inr (.inr rfl)) _, ?_, ?_, ?_, h.h3.imp fun c e => (set_block_other h35).trans e, h.h4.imp fun c e => (set_block_other h45).trans e, ⟨_, set_block hc⟩, fun k hk => ?_⟩
  · simp only [setL, if_neg (show (12 : Nat) ≠ 16 by decide)]; exact row_block tBool_flat h.r3 (set_block_other h35)
  · simp only [setL, if_neg (show (14 : Nat) ≠ 16 by decide)]; exact row_block tStr_flat h.r4 (set_block_other h45)
  · simp only [setL, if_pos]
    exact row_put1 (t := tIn M tEnts) (tIn_flat M tEnts) rfl r5 hu hc (fun m => hve)
  · by_cases e : k = 16
    · subst e; simp only [setV, if_pos]; rfl
    · simp only [setL, setV, if_neg e] at hk ⊢
      exact h.vs k hk
/-- A cell of a row of cells is there. -/
theorem row_cell {α : Type} {t : Ty α} (hsz : t.sz = 1) {w : World} {g n c u : Nat} {ys : List α} (h : (tSlice t).rv (mem w) [.slice (some ⟨g, 0, none⟩) n c] ys) (hu : u < ys.length) : ∃ v, w.cell? ⟨g, u, none⟩ = some v := by
  obtain ⟨b', o', e, cs, hc, hr⟩ := slice_at h hu
  simp only [Option.some.injEq, Addr.mk.injEq, and_true] at e
  obtain ⟨rfl, rfl⟩ := e
  have hlen := t.len _ _ _ hr
  rw [hsz] at hlen
  have h0 := hc 0 (cs[0]'(by omega)) (by simp)
  rw [hsz, Nat.mul_one, Nat.zero_add, Nat.add_zero] at h0
  exact ⟨_, h0⟩
theorem J23.kq (h : J23 M q g3 n3 c3 g4 n4 c4 g5 n5 c5 u text ve w0 bs ts xs es L f w) (hq3 : q ≠ g3) (hq4 : q ≠ g4) (hq5 : q ≠ g5) (hq : q < w0.heap.size) : w.heap[q]? = w0.heap[q]? := h.kp.block q hq (fun e => by rcases e with e | e | e <;> contradiction)
theorem J23.kc3 (h : J23 M q g3 n3 c3 g4 n4 c4 g5 n5 c5 u text ve w0 bs ts xs es L f w) (hu : u < bs.length) : (∃ v, w.cell? ⟨g3, u, none⟩ = some v) ∧ w.frozen? ⟨g3, u, none⟩ = false := by
  obtain ⟨cur, hc⟩ := h.h3
  exact ⟨row_cell rfl h.r3 (by split <;> simpa using hu), frozen_cells hc u⟩
theorem J23.kc4 (h : J23 M q g3 n3 c3 g4 n4 c4 g5 n5 c5 u text ve w0 bs ts xs es L f w) (hu : u < ts.length) : (∃ v, w.cell? ⟨g4, u, none⟩ = some v) ∧ w.frozen? ⟨g4, u, none⟩ = false := by
  obtain ⟨cur, hc⟩ := h.h4
  exact ⟨row_cell rfl h.r4 (by split <;> simpa using hu), frozen_cells hc u⟩
theorem J23.kc5 (h : J23 M q g3 n3 c3 g4 n4 c4 g5 n5 c5 u text ve w0 bs ts xs es L f w) (hu : u < xs.length) : (∃ v, w.cell? ⟨g5, u, none⟩ = some v) ∧ w.frozen? ⟨g5, u, none⟩ = false := by
  obtain ⟨cur, hc⟩ := h.h5
  exact ⟨row_cell rfl h.r5 (by split <;> simpa using hu), frozen_cells hc u⟩
end
end Go.Proofs.Ytnfolemblnnejaa
/- Acts of chapter 24's laws; many. -/
namespace Go.Proofs.Ytnfolemblnnejaa
open Go.RowKit Go.Maps

structure VAct where
  k : Int
  n : Int
  t : Int
  nm : ByteArray
  tx : ByteArray
  es : List Ent
deriving Inhabited
def VAct.okA (x : VAct) : Prop := (0 ≤ x.k ∧ x.k ≤ 255) ∧ inI64 x.n ∧ inI64 x.t ∧ x.nm.size ≤ maxLen ∧ x.tx.size ≤ maxLen
def tVAct : Ty VAct := ⟨6, fun m cs x => ∃ v, cs = [.int .u8 x.k, .int .i64 x.n, .int .i64 x.t, .string x.nm, .string x.tx, v] ∧ x.okA ∧ tEnts.rv m [v] x.es,
  fun _ _ _ h => by obtain ⟨v, rfl, _⟩ := h; rfl,
  fun m m' cs x hm h => by obtain ⟨v, e, i, r⟩ := h; exact ⟨v, e, i, tEnts.mono _ _ _ _ hm r⟩⟩
abbrev tVActs : Ty (List VAct) := tSlice tVAct
/-- An act that is looked at. -/
def VAct.small (x : VAct) : Prop := x.nm.size ≤ 100 ∧ x.tx.size ≤ 300 ∧ x.es.length ≤ 20
theorem vacts_at {m : Mem} {xs : List VAct} {a : Option Addr} {n cap : Nat} (h : tVActs.rv m [.slice a n cap] xs) {k : Nat} (hk : k < xs.length) :
    ∃ b o v, a = some ⟨b, o, none⟩ ∧ (m b (o + k * 6) = some (.int .u8 xs[k].k) ∧ m b (o + k * 6 + 1) = some (.int .i64 xs[k].n) ∧ m b (o + k * 6 + 2) = some (.int .i64 xs[k].t) ∧ m b (o + k * 6 + 3) = some (.string xs[k].nm) ∧ m b (o + k * 6 + 4) = some (.string xs[k].tx) ∧ m b (o + k * 6 + 5) = some v) ∧ xs[k].okA ∧ tEnts.rv m [v] xs[k].es := by
  obtain ⟨b, o, rfl, cs, hat, v, rfl, hok, hr⟩ := slice_at h hk
  exact ⟨b, o, v, rfl, ⟨hat 0 _ rfl, hat 1 _ rfl, hat 2 _ rfl, hat 3 _ rfl, hat 4 _ rfl, hat 5 _ rfl⟩, hok, hr⟩
def ManyOut (w : World) (l : List VAct) (e : Ending) (w' : World) : Prop := ∃ b, e = .returned (.bool b) ∧ Below w.heap.size w w' ∧ (b = false → l.length ≤ 80 ∧ ∀ x ∈ l, x.small)
set_option maxRecDepth 100000 in
set_option maxHeartbeats 4000000 in
theorem many_any (l : List VAct) (v : Value) (w : World) (hv : tVActs.rv (mem w) [v] l) :
    Calls Try.prog 6 #[v] w (ManyOut w l) := by
  obtain ⟨a, cap, rfl, hlc, hm, hv⟩ := slice_form hv
  have hcap : cap ≤ 9223372036854775807 := by unfold maxLen at hm; exact hm
  have HV := Lib.hid (fun wr (hb : Below w.heap.size w wr) => tVActs.mono _ _ _ _ (below_mem hb) hv)
  clear hm hv
  go_enter Try.func6, Try.ntmps6
  go_wp2
  go_loopw [3] (fun i wr => ∃ k : Nat, k ≤ l.length ∧ i = .int .i64 k ∧ Hid (Below w.heap.size w wr) ∧ Hid (∀ x ∈ l.take k, x.small)) (fun i _ => l.length - (intOf i).toNat)
  case atStart => exact ⟨0, by omega, rfl, Lib.hid (Below.refl _ _), Lib.hid (by simp)⟩
  case round =>
    obtain ⟨k, hk, rfl, HB, HT⟩ := hrel
    by_cases hlt : k < l.length
    · obtain ⟨b, o, v, rfl, ⟨-, -, -, q3, q4, q5⟩, ⟨-, -, -, s3, s4⟩, hve⟩ := vacts_at (HV.out _ HB.out) hlt
      have c3 : wr.cell? ⟨b, o + k * 6 + 3, none⟩ = some (.string l[k].nm) := q3
      have c4 : wr.cell? ⟨b, o + k * 6 + 4, none⟩ = some (.string l[k].tx) := q4
      have c5 : wr.cell? ⟨b, o + k * 6 + 5, none⟩ = some v := q5
      have HN := Lib.hid (fun (h : l[k].small) => (show ∀ x ∈ l.take (k + 1), x.small from fun x hx => by
        rw [List.take_succ_eq_append_getElem hlt] at hx
        rcases List.mem_append.1 hx with hx | hx
        · exact HT.out x hx
        · simp at hx; subst hx; exact h))
      have HH := Lib.hid (heavy_any l[k].es v wr hve)
      unfold maxLen at s3 s4
      obtain ⟨av, cv, rfl, -⟩ := slice_form hve
      clear q3 q4 q5 HT hve
      generalize l[k] = x at *
      by_cases h1 : (100 : Int) < x.nm.size
      · clear HN HH
        go_wp2
        go_ret
        exact ⟨true, rfl, HB.out, fun h => by cases h⟩
      · by_cases h2 : (300 : Int) < x.tx.size
        · clear HN HH
          go_wp2
          go_ret
          exact ⟨true, rfl, HB.out, fun h => by cases h⟩
        · go_wp2_with fail
          refine HH.out.mono ?_
          rintro e w1 ⟨bb, rfl, hb, h20⟩
          have HB1 := Lib.hid (pure_trans HB.out hb)
          have H20 := Lib.hid h20
          clear hb h20 HH HB c3 c4 c5
          cases bb with
          | true =>
            go_wp2
            go_ret
            exact ⟨true, rfl, HB1.out, fun h => by cases h⟩
          | false =>
            have HM := Lib.hid (HN.out ⟨by omega, by omega, H20.out rfl⟩)
            clear HN H20
            go_wp2
            go_roundw
            case rel => exact ⟨k + 1, by omega, by go_num, HB1, HM⟩
            case measure => simp [intOf]; omega
    · obtain rfl : k = l.length := by omega
      rw [List.take_length] at HT
      by_cases h6 : (80 : Int) < l.length
      · go_wp2
        go_ret
        exact ⟨true, by simp [h6], HB.out, fun h => by cases h⟩
      · go_wp2
        go_ret
        exact ⟨false, by simp [h6], HB.out, fun _ => ⟨by omega, HT.out⟩⟩
def tU8 : Ty Int := ⟨1, fun _ cs x => cs = [.int .u8 x] ∧ 0 ≤ x ∧ x ≤ 255, fun _ _ _ h => by rw [h.1]; rfl, fun _ _ _ _ _ h => h⟩
theorem reads_u8 {P : Program} {T : TypeId} (ht : P.underlying T = some (.int .u8)) : Reads P T tU8 := fun _ _ _ _ _ _ h => by
  obtain ⟨n, h1, _, h3⟩ := DataW.trod_int ht h
  refine ⟨n, h1, ?_⟩
  have : 0 ≤ n ∧ n ≤ 255 := by simpa [Lit.wf, IntKind.min, IntKind.max, IntKind.signed, IntKind.bits] using h3
  exact this
set_option maxRecDepth 100000 in
theorem reads_vact : Reads Try.prog 37 tVAct := fun H enc w n cs d h => by
  obtain ⟨xs, n', _, _, hl, hx, hg⟩ := DataW.trod_struct Try.underlying37 h
  rw [show Try.prog.cellsOf 37 = 6 from by kernel_rfl] at hl
  have g0 := hg 0 _ rfl
  obtain ⟨x0, r0⟩ := field_read (reads_u8 Try.underlying5) 0 1 rfl rfl (by kernel_rfl) g0 (by rw [hx]; decide)
  have g1 := hg 1 _ rfl
  obtain ⟨x1, r1⟩ := field_read (reads_int Try.underlying3) 1 1 rfl rfl (by kernel_rfl) g1 (by rw [hx]; decide)
  have g2 := hg 2 _ rfl
  obtain ⟨x2, r2⟩ := field_read (reads_int Try.underlying3) 2 1 rfl rfl (by kernel_rfl) g2 (by rw [hx]; decide)
  have g3 := hg 3 _ rfl
  obtain ⟨x3, r3⟩ := field_read (reads_str Try.underlying9) 3 1 rfl rfl (by kernel_rfl) g3 (by rw [hx]; decide)
  have g4 := hg 4 _ rfl
  obtain ⟨x4, r4⟩ := field_read (reads_str Try.underlying9) 4 1 rfl rfl (by kernel_rfl) g4 (by rw [hx]; decide)
  have g5 := hg 5 _ rfl
  obtain ⟨x5, r5⟩ := field_read reads_ents 5 1 rfl rfl (by kernel_rfl) g5 (by rw [hx]; decide)
  match cs, hl with
  | [c0, c1, c2, c3, c4, c5], _ =>
    obtain ⟨e0, i0⟩ := r0
    obtain ⟨e1, i1⟩ := r1
    obtain ⟨e2, i2⟩ := r2
    obtain ⟨e3, i3⟩ := r3
    obtain ⟨e4, i4⟩ := r4
    simp at e0 e1 e2 e3 e4
    exact ⟨⟨x0, x1, x2, x3, x4, x5⟩, c5, by rw [e0, e1, e2, e3, e4], ⟨i0, i1, i2, i3, i4⟩, r5⟩
theorem reads_vacts : Reads Try.prog 22 tVActs := reads_slice Try.underlying22 (by kernel_rfl) (by decide) reads_vact
end Go.Proofs.Ytnfolemblnnejaa
/- A row of the caller's own beside the vault: it stands aside of what the vault reads. -/
namespace Go.Proofs.Ytnfolemblnnejaa
open Go.RowKit Go.Maps

/-- The row is grown: in its own block, or in a new one. -/
theorem VInv.offGrow {base p : Nat} {r : HV} {W W' : World} {row row' : Option Nat} (h : VInv W base p r) (hg : W.grownBy W' row) (hrow : ∀ b, row = some b → r.off b) (hnew : row' = row ∨ ∀ b, row' = some b → W.heap.size ≤ b) (hlt : ∀ b, row' = some b → b < W'.heap.size) :
    VInv W' base p { r with off := fun b => r.off b ∨ row' = some b } := by
  have hk := h.kind
  have hsz := hg.size
  have hat : ∀ b, b < W.heap.size → ¬ r.off b → W'.heap[b]? = W.heap[b]? := fun b hb hn => hg.block b hb (fun e => hn (hrow b e.symm))
  have hmut : ∀ b, mutV p r b → W'.heap[b]? = W.heap[b]? := fun b hm => hat b (hk b hm) (fun ho => (h.ofs b ho).2 hm)
  have hmm : ∀ b, mutV p { r with off := fun b => r.off b ∨ row' = some b } b → mutV p r b := fun b hb => hb
  have hsafe : (safeV W p r).le (safeV W' p { r with off := fun b => r.off b ∨ row' = some b }) := fun b o v e => by
    obtain ⟨⟨hm, ho⟩, e⟩ := Mem.of_on e
    have hl := mem_lt e
    refine Mem.on_some ((mem_of_block (hat b hl ho) o).trans e) ⟨hm, fun ho' => ?_⟩
    rcases ho' with ho' | ho'
    · exact ho ho'
    · rcases hnew with rfl | hn
      · exact ho (hrow b ho')
      · have := hn b ho'; omega
  refine ⟨(hmut p (.inl rfl)).trans h.hb, h.mp.at (hmut _ (.inr (.inl rfl))), fun x hx => (h.sb x hx).keep (hmut _ (.inr (.inr ⟨_, mem_nums hx, .inl rfl⟩))) (hmut _ (.inr (.inr ⟨_, mem_nums hx, .inr rfl⟩))) hsafe, h.inj, h.inp, h.ok, h.ge, Nat.le_trans h.bw hsz, fun b hb => ?_⟩
  rcases hb with hb | hb
  · exact ⟨Nat.lt_of_lt_of_le (h.ofs b hb).1 hsz, (h.ofs b hb).2⟩
  · refine ⟨hlt b hb, fun hm => ?_⟩
    rcases hnew with rfl | hn
    · exact (h.ofs b (hrow b hb)).2 hm
    · have h1 := hn b hb
      have h2 := hk b hm
      omega
theorem wpList_append_os {P : Program} {α : Type} {ops : Array Oper} {rest : List Oper} {o : Oper} {a : Act} {Q : Exit → Act → World → Prop} {w : World} (hgd : o.guard = none) (s x : Operand) (T : TypeId)
    (ho : o.op = .call { callee := .builtin .append, args := #[s, x], argTypes := #[T, T] }) (t : Ty α) (hf : t.flat) (hone : ∀ m cs x, t.rv m cs x → ∀ u ∈ cs, u.oneCell' = true) {e : TypeId} {z : Value} {bytes : Nat} (hT : P.underlying T = some (.slice e))
    (hinf : (P.info? e).map (fun i => (i.zero, i.size, i.bytes)) = some (some z, t.sz, bytes)) (hzs : z.cells.size = t.sz) (hsz : 0 < t.sz) (v : Value) (xs ys : List α) (hs : a.eval s = v) (hown : OwnsO t w e v xs)
    (ad : Option Addr) (n c : Nat) (hx : a.eval x = .slice ad n c) (hn : n = ys.length) (hy : (tSlice t).rv (mem w) [.slice ad n c] ys) (h63 : xs.length + ys.length ≤ maxLen) (hbytes : (xs.length + ys.length) * bytes ≤ 140737488355328)
    (h : ∀ v' w', OwnsO t w' e v' (xs ++ ys) → AppAt w w' v xs.length ys.length v' → wpList P ops Q rest (a.put o.dst v') w') : wpList P ops Q (o :: rest) a w := by
  subst hn
  refine wpList_plain hgd fun K hK => ?_
  obtain ⟨v', w', hr, h2, h3⟩ := run_append_os (P := P) hf hone w T o.type hT hinf hzs hsz v xs ys hown ad c hy h63 hbytes
  unfold Oper.wp execOp
  simp only [ho, resolve, invoke, builtin, Sem.run_bind, Sem.run_pure, Result.andThen_ok, List.map_toArray, List.map_cons, List.map_nil, hs, hx, hr]
  exact hK _ _ (h v' w' h2 h3)
end Go.Proofs.Ytnfolemblnnejaa
