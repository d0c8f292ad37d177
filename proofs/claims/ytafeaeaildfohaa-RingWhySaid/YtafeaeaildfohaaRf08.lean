/- Part 8 of the texts that the law's proof stands on, merged. -/
import Derived.Lib.SliceRun
import Derived.Outline
import Derived.Test.YtafeaeaildfohaaRf07
set_option linter.unusedVariables false
set_option linter.unusedSimpArgs false
/- The recursive function of ring's matches: a step (a stopped round keeps its blocks). -/
namespace Go.Proofs.Ytafeaeaildfohaa
open Go.RowKit Go.Maps

set_option maxRecDepth 100000 in
set_option maxHeartbeats 8000000 in
theorem down_step2 (We : World) (N : Nat) (S R : Nat → Prop) (l bb bY ba bx bD mb ib n : Nat) (bv : Value) (bd L : List Fct) (f : ByteArray → Option Value) (he : DEnv We N S R l bb bY ba bx bD mb ib n bv bd L f) (hL : L.length ≤ 400)
    (J : List (Bnd × List Fct) → World → Prop) (Stop : List (Bnd × List Fct) → (Bnd × List Fct) → World → Prop) (xs : List (Bnd × List Fct)) (hJ : ∀ s A B, J s A → Below N A B → J s B) (hSt : ∀ s x A B, Stop s x A → StopK N A B → Stop s x B)
    (x : Fct) (rest : List Fct) (ih : DownSpec We N S R bb bY ba bx bD mb bd L J Stop xs rest) : DownSpec We N S R bb bY ba bx bD mb bd L J Stop xs (x :: rest) := by
  intro dn av ls lv pre post W hbd hls hxs hJ0 hW hl hav
  obtain ⟨r1, r2, r3, r4, r5, r6⟩ := he.rr
  have c1 := hW.cell r1 he.cb
  have c4 := hW.cell r2 he.cx
  have hNW : N ≤ W.heap.size := Nat.le_trans he.ge hW.size
  obtain ⟨al, cl, rfl, hl1, hl2, -⟩ := slice_form hl
  obtain ⟨ab, cb, rfl, hb1, hb2, -⟩ := slice_form he.hb
  have hbl : bd.length = dn.length + (rest.length + 1) := by rw [hbd]; simp
  have hlt : dn.length < bd.length := by omega
  obtain ⟨qb, qo, rfl, ⟨q0, q1, q2⟩, hokx⟩ := fcts_at (hW.rv he.hb) hlt
  have hbx : bd[dn.length] = x := by simp only [hbd]; rw [List.getElem_append_right (Nat.le_refl _)]; simp
  rw [hbx] at q0 q1 q2 hokx
  rw [← hls] at q0 q1 q2
  have d0 : W.cell? ⟨qb, qo + ls.length * 3, none⟩ = some (.string x.n) := q0
  have d1 : W.cell? ⟨qb, qo + ls.length * 3 + 1, none⟩ = some (.string x.a) := q1
  have d2 : W.cell? ⟨qb, qo + ls.length * 3 + 2, none⟩ = some (.string x.b) := q2
  obtain ⟨ar, cr, hrow, hr1, hr2, -⟩ := slice_form (he.row x.n)
  have hA1 : Below W.heap.size W (W.alloc (.cells #[.string x.n, .string x.a, .string x.b] 28)) := (Below.refl _ _).alloc (Nat.le_refl _) _
  have c5 : (W.alloc (.cells #[.string x.n, .string x.a, .string x.b] 28)).cell? ⟨bx, 0, none⟩ = some (.map (some ib)) := below_mem hA1 _ _ _ c4
  have lk1 : (Instr.lookup 69 (.map (some ib)) (.string x.n) false).run Try.prog (W.alloc (.cells #[.string x.n, .string x.a, .string x.b] 28)) = .ok (.slice ar (byName L x.n).length cr) (W.alloc (.cells #[.string x.n, .string x.a, .string x.b] 28)) := by
    rw [← hrow]
    refine (he.im.at (W' := W.alloc (.cells #[.string x.n, .string x.a, .string x.b] 28)) ?_).look hokx.1
    have hib : ib < W.heap.size := he.rlt hW.size ib r3
    exact (hA1.block ib hib).trans (hW.same ib r3)
  have HVA := Lib.hid (show (W.alloc (.cells #[.string x.n, .string x.a, .string x.b] 28)).heap[W.heap.size]? = some (.cells #[.string x.n, .string x.a, .string x.b] 28 (0, 0)) from heap_alloc_new W _)
  have HROW := Lib.hid (show ∀ wr av', DSt We R mb av' wr → tFcts.rv (mem wr) [.slice ar (byName L x.n).length cr] (byName L x.n) from fun wr av' h => by rw [← hrow]; exact h.rv (he.row x.n))
  have HWAYS := Lib.hid (ways_cons x rest L av ls)
  have HE := Lib.hid he
  have HIH := Lib.hid ih
  have HJS := Lib.hid hJ
  have HSS := Lib.hid hSt
  have HXS := Lib.hid hxs
  have HBD := Lib.hid hbd
  have HLV := Lib.hid hl
  have HW := Lib.hid hW
  have HOKX := Lib.hid hokx
  have HAV := Lib.hid hav
  have HLSD := Lib.hid hls
  have HJ0 := Lib.hid (show J (pre ++ ((byName L x.n).take 0).flatMap (wayStep x rest L av ls)) (W.alloc (.cells #[.string x.n, .string x.a, .string x.b] 28)) from by
    rw [List.take_zero, List.flatMap_nil, List.append_nil]; exact hJ _ _ _ hJ0 (hA1.mono hNW))
  have HW0 := Lib.hid (show DSt We R mb av (W.alloc (.cells #[.string x.n, .string x.a, .string x.b] 28)) from hW.keep he (he.rlt hW.size) (((Keeps.refl _ W).alloc _)) (hW.at'.at (hA1.block mb (MapOf.lt hW.at'.1))))
  have HK0 := Lib.hid (show Keeps (chgD N S mb W) W (W.alloc (.cells #[.string x.n, .string x.a, .string x.b] 28)) from (Keeps.refl _ W).alloc _)
  have hrl : (byName L x.n).length ≤ 400 := Nat.le_trans (byName_len _ _) hL
  have hne : ((ls.length : Int) == (bd.length : Int)) = false := by rw [beq_eq_false_iff_ne]; omega
  have hlsb : ls.length < bd.length := by omega
  clear hbd hls hxs hJ0 hW hl hav ih hJ hSt he q0 q1 q2 r1 r2 r3 r4 r5 r6 hA1 hrow hokx hbx hlt hbl hL
  generalize hrows : byName L x.n = rows at *
  generalize hg : wayStep x rest L av ls = g at *
  have HG := Lib.hid hg
  clear hg
  go_enter Try.func68, Try.ntmps68
  go_wp2
  generalize hva : W.heap.size = va at HVA
  go_loopw [39] (fun i wr => ∃ k : Nat, k ≤ rows.length ∧ i = .int .i64 k ∧ Hid (J (pre ++ (rows.take k).flatMap g) wr) ∧ Hid (DSt We R mb av wr) ∧ Hid (Keeps (chgD N S mb W) W wr) ∧ Hid (wr.heap[va]? = some (.cells #[.string x.n, .string x.a, .string x.b] 28 (0, 0)))) (fun i _ => rows.length - (intOf i).toNat)
  case atStart => exact ⟨0, by omega, rfl, HJ0, HW0, HK0, HVA⟩
  case round =>
    clear HJ0 HW0 HK0 HVA lk1 d0 d1 d2 c1 c4 c5
    obtain ⟨k, hk, rfl, HJk, HWk, HKk, HVk⟩ := hrel
    by_cases hlt : k < rows.length
    · obtain ⟨b, o, rfl, ⟨q0, q1, q2⟩, hoky⟩ := fcts_at (HROW.out wr av HWk.out) hlt
      have e0 : wr.cell? ⟨b, o + k * 3, none⟩ = some (.string rows[k].n) := q0
      have e1 : wr.cell? ⟨b, o + k * 3 + 1, none⟩ = some (.string rows[k].a) := q1
      have e2 : wr.cell? ⟨b, o + k * 3 + 2, none⟩ = some (.string rows[k].b) := q2
      have HT := Lib.hid (show (rows.take (k + 1)).flatMap g = (rows.take k).flatMap g ++ g rows[k] from by rw [List.take_succ_eq_append_getElem hlt, List.flatMap_append]; simp)
      have HD := Lib.hid (show rows.flatMap g = (rows.take k).flatMap g ++ (g rows[k] ++ (rows.drop (k + 1)).flatMap g) from by
        conv => lhs; rw [← List.take_append_drop k rows, List.flatMap_append, List.drop_eq_getElem_cons hlt, List.flatMap_cons])
      have HOKY := Lib.hid hoky
      clear q0 q1 q2 hoky
      have HGY := Lib.hid (show g rows[k] = wayStep x rest L av ls rows[k] from by rw [HG.out])
      generalize rows[k] = y at *
      have hvs : va < wr.heap.size := (Array.getElem?_eq_some_iff.1 HVk.out).1
      have a1 : (wr.alloc (.cells #[.string y.n, .string y.a, .string y.b] 33)).cell? ⟨va, 1, none⟩ = some (.string x.a) := below_mem ((Below.refl _ wr).alloc (Nat.le_refl _) _) _ _ _ (mem_cells HVk.out 1)
      have a2 : (wr.alloc (.cells #[.string y.n, .string y.a, .string y.b] 33)).cell? ⟨va, 2, none⟩ = some (.string x.b) := below_mem ((Below.refl _ wr).alloc (Nat.le_refl _) _) _ _ _ (mem_cells HVk.out 2)
      clear HROW HG
      go_wp2
      generalize hX2 : (wr.alloc (.cells #[.string y.n, .string y.a, .string y.b] 33)).alloc (.cells #[.string x.a, .string y.a, .string x.b, .string y.b] 95) = X2
      have hvl : X2.heap[wr.heap.size + 1]? = some (.cells #[.string x.a, .string y.a, .string x.b, .string y.b] 95 (0, 0)) := by
        rw [← hX2]
        have := heap_alloc_new (wr.alloc (.cells #[.string y.n, .string y.a, .string y.b] 33)) (.cells #[.string x.a, .string y.a, .string x.b, .string y.b] 95)
        rwa [World.size_alloc] at this
      have hvf : X2.heap[wr.heap.size]? = some (.cells #[.string y.n, .string y.a, .string y.b] 33 (0, 0)) := by
        rw [← hX2]; exact (Below.heap_alloc _ _ _ (by simp)).trans (heap_alloc_new wr _)
      have hB2 : Below wr.heap.size wr X2 := by rw [← hX2]; exact ((Below.refl _ wr).alloc (Nat.le_refl _) _).alloc (by simp) _
      clear hX2 a1 a2 e0 e1 e2
      have hmbw : mb < wr.heap.size := MapOf.lt HWk.out.at'.1
      have HRL := Lib.hid (show ∀ q, R q → q < wr.heap.size ∧ q ≠ mb from fun q hq => ⟨HE.out.rlt HWk.out.size q hq, fun e => HE.out.free (W := wr) HWk.out.size hq (.inr (.inl e))⟩)
      have hs2 : wr.heap.size + 2 ≤ X2.heap.size := by have := (Array.getElem?_eq_some_iff.1 hvl).1; omega
      have HX2 := Lib.hid (show BMB X2 mb (bstN av x y 0).2 from HWk.out.at'.at (hB2.block mb hmbw))
      have HVL := Lib.hid (show ∀ wq, Keeps (fun q => q = mb ∨ X2.heap.size ≤ q) X2 wq → wq.heap[wr.heap.size + 1]? = some (.cells #[.string x.a, .string y.a, .string x.b, .string y.b] 95 (0, 0)) from fun wq hk => (hk.block _ (by omega) (by omega)).trans hvl)
      have HVF := Lib.hid (show ∀ wq, Keeps (fun q => q = mb ∨ X2.heap.size ≤ q) X2 wq → wq.heap[wr.heap.size]? = some (.cells #[.string y.n, .string y.a, .string y.b] 33 (0, 0)) from fun wq hk => (hk.block _ (by omega) (by omega)).trans hvf)
      have HRQ := Lib.hid (show ∀ wq, Keeps (fun q => q = mb ∨ X2.heap.size ≤ q) X2 wq → DSt We R mb av wr → ∀ q, R q → wq.heap[q]? = We.heap[q]? from fun wq hk hd q hq => by
        have := HRL.out q hq
        exact ((hk.block q (by omega) (by omega)).trans (hB2.block q (by omega))).trans (hd.same q hq))
      have HB2 := Lib.hid hB2
      obtain ⟨w0, hw0⟩ : ∃ w0, w0 = wr := ⟨_, rfl⟩
      subst hw0
      have hNv : N ≤ va := by omega
      have hls' : ls.length ≤ 3 := by have := HE.out.len; omega
      clear hvl hvf hB2 hlsb hrows hr1 hr2 hb1 hb2 hva hvs
      go_loopw [11, 12, 55] (fun bnd fits i wq => ∃ j : Nat, j ≤ 2 ∧ i = .int .i64 j ∧ fits = .bool (bstN av x y j).1 ∧ Hid (BMB wq mb (bstN av x y j).2) ∧ Hid (Owns tStr wq X2.heap.size 9 bnd (newB av (bstN av x y j).2)) ∧ Hid (Keeps (fun q => q = mb ∨ X2.heap.size ≤ q) X2 wq)) (fun _ _ i _ => 2 - (intOf i).toNat)
      case atStart => exact ⟨0, by omega, rfl, rfl, HX2, Lib.hid (by show Owns tStr X2 X2.heap.size _ _ ((av.drop av.length).map Prod.fst); rw [List.drop_length]; exact Owns.nil _ _ _ _), Lib.hid (Keeps.refl _ _)⟩
      case round =>
        clear HX2
        obtain ⟨j, hj, rfl, rfl, HM, HO, HQ⟩ := hrel
        by_cases hjl : j < 2
        · obtain ⟨p1, p2, hp⟩ : ∃ p1 p2, prN x y j = (p1, p2) := ⟨_, _, rfl⟩
          have hpc : wr.cell? ⟨w0.heap.size + 1, j * 2, none⟩ = some (.string p1) ∧ wr.cell? ⟨w0.heap.size + 1, j * 2 + 1, none⟩ = some (.string p2) := by
            have h0 := mem_cells (HVL.out wr HQ.out)
            match j, hjl, hp with
            | 0, _, hp => injection hp with e1 e2; subst e1; subst e2; exact ⟨h0 0, h0 1⟩
            | 1, _, hp => injection hp with e1 e2; subst e1; subst e2; exact ⟨h0 2, h0 3⟩
          obtain ⟨b0, b1⟩ := hpc
          have hps : p1.size ≤ maxLen ∧ p2.size ≤ maxLen := by
            unfold prN at hp
            split at hp
            · injection hp with e1 e2; subst e1; subst e2; exact ⟨HOKX.out.2.1, HOKY.out.2.1⟩
            · injection hp with e1 e2; subst e1; subst e2; exact ⟨HOKX.out.2.2, HOKY.out.2.2⟩
          have HSN := Lib.hid (show bstN av x y (j + 1) = bst1 (bstN av x y j) (p1, p2) from by rw [← hp]; rfl)
          have hlen2 : (bstN av x y j).2.length < 1000 := by
            obtain ⟨e, g1, g2, -⟩ := bstN_ext av x y j
            rw [g1, List.length_append]
            have := HAV.out
            have := HE.out.len
            have := HBD.out
            have : dn.length ≤ bd.length := by rw [this]; simp
            omega
          have HEX := Lib.hid (bstN_ext av x y j)
          have HB3 := Lib.hid (fun o => (show Keeps (fun q => q = mb ∨ X2.heap.size ≤ q) X2 (wr.alloc o) from HQ.out.alloc o))
          have cA : ∀ o, (wr.alloc o).cell? ⟨ba, 0, none⟩ = some (.map (some mb)) := fun o => by
            have h1 := HRQ.out _ (HB3.out o) HWk.out ba HE.out.rr.2.2.2.2.1
            exact (mem_of_block h1 0).trans HE.out.ca
          have HM3 := Lib.hid (fun o => (show BMB (wr.alloc o) mb (bstN av x y j).2 from HM.out.at (Below.heap_alloc _ _ _ (MapOf.lt HM.out.1))))
          have cA' := cA (.cells #[.string p1, .string p2] 95)
          have lk := (HM3.out (.cells #[.string p1, .string p2] 95)).lookOk hps.1
          have HPS := Lib.hid hps
          have HO3 := Lib.hid (fun o => HO.out.alloc o)
          obtain ⟨aU, cU, hU, hUl⟩ := HO.out.len
          subst hU
          clear cA hp hps HVL
          generalize hst : bstN av x y j = st at *
          obtain ⟨ft, cur⟩ := st
          have HST := Lib.hid hst
          clear hst
          simp only at lk hlen2 HM HM3 HO HO3 hUl HEX
          cases hlk : lkB cur p1 with
          | some wv =>
            rw [hlk] at lk
            simp only [strD, Option.isSome] at lk
            have HLK := Lib.hid hlk
            clear hlk
            have HMF := Lib.hid (HM3.out (.cells #[.string p1, .string p2] 95))
            have HOF := Lib.hid (HO3.out (.cells #[.string p1, .string p2] 95))
            have HKF := Lib.hid (HB3.out (.cells #[.string p1, .string p2] 95))
            have HN1 := Lib.hid (show bstN av x y (j + 1) = (ft && decide (wv = p2), cur) from by rw [HSN.out]; unfold bst1; simp only [HLK.out])
            clear HSN HM HM3 HO HO3 HB3 HEX HLK
            cases ft with
            | false =>
              go_wp2
              go_roundw
              case rel => exact ⟨j + 1, by omega, by go_num, by rw [HN1.out]; rfl, by rw [HN1.out]; exact HMF, by rw [HN1.out]; exact HOF, HKF⟩
              case measure => simp [intOf]; omega
            | true =>
              go_wp2
              go_roundw
              case rel => exact ⟨j + 1, by omega, by go_num, by rw [HN1.out, Bool.true_and, strEq_dec], by rw [HN1.out]; exact HMF, by rw [HN1.out]; exact HOF, HKF⟩
              case measure => simp [intOf]; omega
          | none =>
            rw [hlk] at lk
            simp only [strD, Option.isSome] at lk
            have HN1 := Lib.hid (show bstN av x y (j + 1) = (ft, cur ++ [(p1, p2)]) from by rw [HSN.out]; unfold bst1; simp only [hlk])
            obtain ⟨w4, hr4, hm4, hg4⟩ := (HM3.out (.cells #[.string p1, .string p2] 95)).put hlen2 HPS.out.1 HPS.out.2 hlk
            have hnm : ∀ {u : World} {z : Value} {q : List ByteArray}, Owns tStr u X2.heap.size 9 z q → BMB u mb cur → z.ownBlock ≠ some mb := fun {u z q} ho hm e => by
              obtain ⟨D, ⟨es, clock, hh, _⟩, _⟩ := hm.1
              have := own_cells ho mb _ e hh
              cases this
            have hnm2 : ∀ {u : World} {z : Value} {q : List ByteArray} {c2 : Bnd}, Owns tStr u X2.heap.size 9 z q → BMB u mb c2 → z.ownBlock ≠ some mb := fun {u z q c2} ho hm e => by
              obtain ⟨D, ⟨es, clock, hh, _⟩, _⟩ := hm.1
              have := own_cells ho mb _ e hh
              cases this
            have ho4 : Owns tStr w4 X2.heap.size 9 (.slice aU (newB av cur).length cU) (newB av cur) := by
              refine (HO3.out (.cells #[.string p1, .string p2] 95)).keepsFlat tStr_flat (grown_keeps hg4) (fun q hq e => ?_)
              injection e with e
              subst e
              exact hnm (HO3.out (.cells #[.string p1, .string p2] 95)) (HM3.out _) hq
            have hmbw2 : mb < wr.heap.size := MapOf.lt HM.out.1
            have hvb4 : w4.heap[wr.heap.size]? = some (.cells #[.string p1, .string p2] 95 (0, 0)) := (hg4.block _ (by simp) (fun e => by injection e with e; omega)).trans (heap_alloc_new wr _)
            have n0 : w4.cell? ⟨wr.heap.size, 0, none⟩ = some (.string p1) := mem_cells hvb4 0
            have HK4 := Lib.hid (show Keeps (fun q => q = mb ∨ X2.heap.size ≤ q) X2 w4 from (HB3.out _).trans ((grown_keeps hg4).wide (fun q _ e => by injection e with e; exact .inl e)))
            have HM4 := Lib.hid hm4
            have HO4 := Lib.hid ho4
            have hcl : (newB av cur).length ≤ 1000 := by unfold newB; rw [List.length_map, List.length_drop]; omega
            have hsz4 : X2.heap.size ≤ w4.heap.size := HK4.out.size
            have HNB := Lib.hid (show newB av (cur ++ [(p1, p2)]) = newB av cur ++ [p1] from by
              obtain ⟨e, g1, -⟩ := HEX.out
              unfold newB
              rw [g1, List.append_assoc, List.drop_left, List.drop_left, List.map_append]; rfl)
            clear hlk HSN HM HM3 HO HO3 HB3 HEX hm4 ho4 hg4 hvb4 hnm
            go_wp2_with (at_builtin; refine wpList_append_one rfl _ _ 48 rfl tStr Try.underlying48 infoStrF rfl (by decide) X2.heap.size _ (newB av cur) rfl (HO4.out.alloc _) _ _ p1 rfl [.string p1] ?a2 ⟨rfl, HPS.out.1⟩ ?b2 ?c2 ?d2 ?e2 ?_)
            case a2 => exact fun j u hj => by match j, hj with | 0, hj => simp at hj; subst hj; simp [mem]
            case b2 => intro x hx; simp at hx; subst hx; rfl
            case c2 => unfold maxLen; omega
            case d2 => omega
            case e2 => simp; omega
            intro v' w6 own6 hgrow _
            have HK6 := Lib.hid (show Keeps (fun q => q = mb ∨ X2.heap.size ≤ q) X2 w6 from (HK4.out.alloc _).trans ((grown_keeps hgrow).wide (fun q _ e => .inr (HO4.out.lt q e.symm).1)))
            have HM6 := Lib.hid (show BMB w6 mb (cur ++ [(p1, p2)]) from HM4.out.at ((hgrow.block mb (by have := HK4.out.size; have := MapOf.lt HM4.out.1; simp; omega) (fun e => hnm2 HO4.out HM4.out e.symm)).trans (Below.heap_alloc _ _ _ (MapOf.lt HM4.out.1))))
            obtain ⟨a6, cap6, hv6, _⟩ := own6.len
            rw [List.length_append, List.length_singleton] at hv6
            subst hv6
            have HO6 := Lib.hid (show Owns tStr w6 X2.heap.size 9 (.slice a6 ((newB av cur).length + 1) cap6) (newB av (cur ++ [(p1, p2)])) from by rw [HNB.out]; exact own6)
            generalize (newB av cur).length + 1 = nl at HO6 ⊢
            clear own6 hgrow hr4 n0 hnm2 HO4 HM4 lk cA' b0 b1
            go_wp2
            go_roundw
            case rel => exact ⟨j + 1, by omega, by go_num, by rw [HN1.out], by rw [HN1.out]; exact HM6, by rw [HN1.out]; exact HO6, HK6⟩
            case measure => simp [intOf]; omega
        · obtain rfl : j = 2 := by omega
          have HGW := Lib.hid (show g y = if (bstN av x y 2).1 = true then ways rest L (bstN av x y 2).2 (ls ++ [y]) else [] from by
            rw [HGY.out]
            unfold wayStep
            rw [bst_bind]
            show (match (if (bstN av x y 2).1 = true then some (bstN av x y 2).2 else none) with | none => [] | some bs => ways rest L bs (ls ++ [y])) = _
            split
            · next h => split at h <;> simp_all
            · next h => split at h <;> simp_all)
          have HEX := Lib.hid (bstN_ext av x y 2)
          obtain ⟨aU, cU, hU, hUl⟩ := HO.out.len
          subst hU
          have HDS := Lib.hid (show DSt We R mb (bstN av x y 2).2 wr from ⟨Nat.le_trans HWk.out.size (Nat.le_trans (by omega) HQ.out.size), HRQ.out wr HQ.out HWk.out, HM.out⟩)
          have hz2 : X2.heap.size ≤ wr.heap.size := HQ.out.size
          have HKW := Lib.hid (show Keeps (chgD N S mb w0) w0 wr from (keepsQ HB2.out HQ.out).wide (fun q _ h => .inr h))
          have HYV := HVF.out wr HQ.out
          have y0 : wr.cell? ⟨w0.heap.size, 0, none⟩ = some (.string y.n) := mem_cells HYV 0
          have y1 : wr.cell? ⟨w0.heap.size, 1, none⟩ = some (.string y.a) := mem_cells HYV 1
          have y2 : wr.cell? ⟨w0.heap.size, 2, none⟩ = some (.string y.b) := mem_cells HYV 2
          have cD : wr.cell? ⟨bD, 0, none⟩ = some (.func (.func 68) #[] #[ptr0 bb, ptr0 bY, ptr0 ba, ptr0 bx, ptr0 bD]) := HDS.out.cell HE.out.rr.2.2.2.2.2 HE.out.cd
          clear HYV HVL HVF HRQ HM
          generalize hst : bstN av x y 2 = st at *
          obtain ⟨ft, cur⟩ := st
          have HST := Lib.hid hst
          clear hst
          simp only at HGW HEX HDS HO hUl
          have hcl : (newB av cur).length ≤ 2 := by
            obtain ⟨e, g1, g2, -⟩ := HEX.out
            unfold newB
            rw [g1, List.drop_left, List.length_map]; exact g2
          have HREST := Lib.hid (show ∀ wz : World, Keeps (chgD N S mb wr) wr wz → BMB wz mb cur → DSt We R mb cur wz ∧ Keeps (chgD N S mb W) W wz ∧ Keeps (chgD N S mb w0) w0 wz ∧ wz.heap[va]? = some (.cells #[.string x.n, .string x.a, .string x.b] 28 (0, 0)) ∧ tStrs.rv (mem wz) [.slice aU (newB av cur).length cU] (newB av cur) from fun wz hk hm => by
            have hk0 : Keeps (chgD N S mb w0) w0 wz := HKW.out.trans (chgD_wide HKW.out.size hk)
            have hvl : va < w0.heap.size := (Array.getElem?_eq_some_iff.1 HVk.out).1
            refine ⟨HDS.out.keep HE.out (HE.out.rlt HDS.out.size) hk hm, HKk.out.trans (chgD_wide HKk.out.size hk0), hk0, (hk0.block va hvl ?_).trans HVk.out, ?_⟩
            · rintro (⟨e, _⟩ | e | e)
              · omega
              · subst e
                obtain ⟨D, ⟨es, c, hh, _⟩, _⟩ := HWk.out.at'.1
                rw [HVk.out] at hh; cases hh
              · omega
            · refine tStrs.mono _ _ _ _ (fun i o u e => ?_) (HO.out.rv (S := (X2.heap.size ≤ ·)) (fun _ h => h) (fun q cs _ h => tStr_flat _ _ _ _ h))
              obtain ⟨e1, e2⟩ := Mem.of_on e
              refine (mem_of_block (hk.block i (mem_lt e2) ?_) o).trans e2
              rintro (⟨e3, _⟩ | e3 | e3)
              · have := HWk.out.size; have := HE.out.ge; omega
              · subst e3
                obtain ⟨D, hown, _⟩ := HDS.out.at'.1
                rw [mapBlock_mem hown o] at e2; cases e2
              · have := mem_lt e2; omega)
          have HKQ := Lib.hid (keepsQ HB2.out HQ.out)
          have hN0 : N ≤ w0.heap.size := by have := HE.out.ge; have := HWk.out.size; omega
          have HJW := Lib.hid (show J (pre ++ (rows.take k).flatMap g) wr from HJS.out _ _ _ HJk.out (HKQ.out.below hN0 (fun q h => by rcases h with h | h; rw [h]; exact HE.out.gm; omega)))
          cases ft with
          | false =>
            have HPZ := Lib.hid (show J (pre ++ (rows.take (k + 1)).flatMap g) wr.drew from by
              rw [HT.out, HGW.out, if_neg (by simp), List.append_nil]
              exact HJS.out _ _ _ HJW.out (Below.refl _ _).drew)
            have HKZ := Lib.hid (show Keeps (chgD N S mb wr) wr wr.drew from (Keeps.refl _ wr).drew)
            have HMZ := Lib.hid (show BMB wr.drew mb cur from HDS.out.at'.at rfl)
            clear y0 y1 y2 cD
            go_upto_region 18 with fail
            first | (go_region_with (fail)) | fail
            all_goals
              generalize wr.drew = wz at *
              have HZ := Lib.hid (HREST.out wz HKZ.out HMZ.out)
              obtain ⟨ad, hcur, -, -⟩ := HEX.out
              have hnbl : newB av cur = ad.map Prod.fst := by unfold newB; rw [hcur, List.drop_left]
              generalize newB av cur = nbl at HZ hcl hnbl ⊢
              have HAD := Lib.hid hcur
              have HNBL := Lib.hid hnbl
              clear hcur hnbl HREST HO
              go_wp2
              go_loopw [98] (fun i wd => ∃ m : Nat, m ≤ nbl.length ∧ i = .int .i64 m ∧ Hid (BMB wd mb (av ++ ad.drop m)) ∧ Hid (Keeps (fun q => q = mb) wz wd)) (fun i _ => nbl.length - (intOf i).toNat)
              case atStart => exact ⟨0, Nat.zero_le _, rfl, Lib.hid (by rw [List.drop_zero, ← HAD.out]; exact HMZ.out), Lib.hid (Keeps.refl _ _)⟩
              case round =>
                obtain ⟨m, hm, rfl, HMd, HKd⟩ := hrel
                have HDd := Lib.hid (show DSt We R mb (av ++ ad.drop m) wr from HZ.out.1.keep HE.out (HE.out.rlt HZ.out.1.size) (HKd.out.wide (fun q _ h => .inr (.inl h))) HMd.out)
                by_cases hml : m < nbl.length
                · obtain ⟨bU, oU, rfl, s0, ssz⟩ := str_cell (tStrs.mono _ _ _ _ (HMZ.out.memLe HKd.out) HZ.out.2.2.2.2) hml
                  have t0 : wr.cell? ⟨bU, oU + m, none⟩ = some (.string nbl[m]) := s0
                  have cA : wr.cell? ⟨ba, 0, none⟩ = some (.map (some mb)) := HDd.out.cell HE.out.rr.2.2.2.2.1 HE.out.ca
                  have hma : m < ad.length := by have := HNBL.out; rw [this, List.length_map] at hml; exact hml
                  have hsp : ad.drop m = (nbl[m], ad[m].2) :: ad.drop (m + 1) := by
                    rw [List.drop_eq_getElem_cons hma]
                    congr 1
                    have : nbl[m] = (ad[m]).1 := by simp only [HNBL.out, List.getElem_map]
                    rw [this]
                  have hmd := HMd.out
                  rw [hsp] at hmd
                  obtain ⟨w9, hd9, hm9, hg9⟩ := BMB.dropMid hmd ssz 0
                  have HM9 := Lib.hid hm9
                  have HK9 := Lib.hid (show Keeps (fun q => q = mb) wz w9 from HKd.out.trans ((grown_keeps hg9).wide (fun q _ e => by injection e)))
                  clear s0 hsp hmd hm9 hg9
                  generalize nbl[m] = nm at *
                  go_wp2
                  go_roundw
                  case rel => exact ⟨m + 1, by omega, by go_num, HM9, HK9⟩
                  case measure => simp [intOf]; omega
                · obtain rfl : m = nbl.length := by omega
                  have hda : ad.drop nbl.length = [] := by rw [HNBL.out, List.length_map, List.drop_length]
                  have HMF := Lib.hid (show BMB wr mb av from by have := HMd.out; rwa [hda, List.append_nil] at this)
                  have HDF := Lib.hid (show DSt We R mb av wr from by have := HDd.out; rwa [hda, List.append_nil] at this)
                  have HKF := Lib.hid (show Keeps (chgD N S mb W) W wr from HZ.out.2.1.trans (HKd.out.wide (fun q _ h => .inr (.inl h))))
                  have hBN : Below N wz wr := HKd.out.below (by have := HZ.out.1.size; have := HE.out.ge; omega) (fun q e => by have := HE.out.gm; omega)
                  have HBN := Lib.hid hBN
                  have HSK := Lib.hid (show StopK N wz wr from ⟨by have := HZ.out.1.size; have := HE.out.ge; omega, HKd.out.wide (fun q _ e => by
                    subst e
                    obtain ⟨D, ⟨es, c, hh, _⟩, _⟩ := HMZ.out.1
                    exact ⟨HE.out.gm, es, c, hh⟩)⟩)
                  have HVF := Lib.hid (show wr.heap[va]? = some (.cells #[.string x.n, .string x.a, .string x.b] 28 (0, 0)) from by
                    refine (HKd.out.block va (Array.getElem?_eq_some_iff.1 HZ.out.2.2.2.1).1 (fun e => ?_)).trans HZ.out.2.2.2.1
                    subst e
                    obtain ⟨D, ⟨es, c, hh, _⟩, _⟩ := HMZ.out.1
                    rw [HZ.out.2.2.2.1] at hh; cases hh)
                  clear hBN hda HMd HDd
                  have HJF := Lib.hid (show J (pre ++ (rows.take (k + 1)).flatMap g) wr from HJS.out _ _ _ HPZ.out HBN.out)
                  go_wp2
                  go_roundw
                  case rel => exact ⟨k + 1, by omega, by go_num, HJF, HDF, HKF, HVF⟩
                  case measure => simp [intOf]; omega
          | true =>
            have hcB : ∀ o, (Below wr.heap.size wr (wr.alloc o).drew) := fun o => ((Below.refl _ _).alloc (Nat.le_refl _) o).drew
            have hlvr : tFcts.rv ((mem wr).on (fun q => N ≤ q ∧ q ≠ mb)) [.slice al ls.length cl] ls := tFcts.mono _ _ _ _ (fun i o u e => by
              obtain ⟨⟨e1, e2⟩, e3⟩ := Mem.of_on e
              have hlt3 := mem_lt e3
              have h0 := mem_of_block (HKk.out.block i hlt3 (fun h => by rcases h with ⟨h, _⟩ | h | h <;> omega)) o
              have h1 := mem_of_block (HKQ.out.block i (Nat.lt_of_lt_of_le hlt3 HKk.out.size) (fun h => by have := HKk.out.size; rcases h with h | h <;> omega)) o
              exact Mem.on_some ((h1.trans h0).trans e3) ⟨e1, e2⟩) HLV.out
            have hal : al = none → ls.length = 0 := fun e => by subst e; exact slice_noaddr hlvr
            have hd2 : dn.length ≤ 2 := by have := HE.out.len; have h2 := HBD.out; rw [h2] at this; simp at this; omega
            obtain ⟨v5, w5, hap, hown5, hg5⟩ := run_append_full (P := Try.prog) tFct_flat (wr.alloc (.cells #[.string y.n, .string y.a, .string y.b] 33)).drew 23 23 Try.underlying23 infoFct rfl (by decide) al ls
              (slice_clip (tFcts.mono _ _ _ _ (Mem.le_trans (Mem.on_le _ _) (below_mem (hcB _))) hlvr)) wr.heap.size 1 y [.string y.n, .string y.a, .string y.b] (fun j u hj => by
                have := mem_cells (heap_alloc_new wr (.cells #[.string y.n, .string y.a, .string y.b] 33)) (0 + j)
                refine (show mem (wr.alloc (.cells #[.string y.n, .string y.a, .string y.b] 33)).drew wr.heap.size (0 + j) = mem (wr.alloc (.cells #[.string y.n, .string y.a, .string y.b] 33)) wr.heap.size (0 + j) from rfl).trans (this.trans ?_)
                rw [Nat.zero_add]; simpa using hj) (fun m => ⟨rfl, HOKY.out⟩) (fun u hu => by simp at hu; rcases hu with rfl | rfl | rfl <;> rfl) (by have := HAV.out; have := hls'; unfold maxLen; omega) (by have := hls'; omega)
            have hY5 : Below wr.heap.size wr w5 := (hcB _).trans (Keeps.below (grown_keeps hg5) (by show wr.heap.size ≤ (wr.alloc _).heap.size; simp) (fun q e => by cases e))
            have HD5 := Lib.hid (show DSt We R mb cur w5 from HDS.out.keep HE.out (HE.out.rlt HDS.out.size) ((below_keeps hY5).wide (fun q _ h => .inr (.inr h))) (HDS.out.at'.at (hY5.block mb (MapOf.lt HDS.out.at'.1))))
            have cD5 : w5.cell? ⟨bD, 0, none⟩ = some (.func (.func 68) #[] #[ptr0 bb, ptr0 bY, ptr0 ba, ptr0 bx, ptr0 bD]) := HD5.out.cell HE.out.rr.2.2.2.2.2 HE.out.cd
            have cDY : ∀ o, (wr.alloc o).drew.cell? ⟨bD, 0, none⟩ = some (.func (.func 68) #[] #[ptr0 bb, ptr0 bY, ptr0 ba, ptr0 bx, ptr0 bD]) := fun o => below_mem (hcB o) _ _ _ cD
            obtain ⟨a5, c5, hv5, _⟩ := hown5.len
            have hYs : N ≤ (wr.alloc (.cells #[.string y.n, .string y.a, .string y.b] 33)).drew.heap.size := by
              show N ≤ (wr.alloc (.cells #[.string y.n, .string y.a, .string y.b] 33)).heap.size
              have := HE.out.ge; have := HDS.out.size; simp; omega
            have hrv5 : tFcts.rv ((mem w5).on (fun q => N ≤ q ∧ q ≠ mb)) [v5] (ls ++ [y]) := mem_onN HD5.out.at' (hown5.rv (S := (N ≤ ·)) (fun b hb => Nat.le_trans hYs hb) (fun q cs _ h => tFct_flat _ _ _ _ h))
            have HCALL := Lib.hid (HIH.out (dn ++ [x]) cur (ls ++ [y]) v5 (pre ++ (rows.take k).flatMap g) ((rows.drop (k + 1)).flatMap g ++ post) w5 (by rw [HBD.out]; simp) (by have := HLSD.out; simp; omega)
              (by rw [HXS.out, HWAYS.out, HD.out, HGW.out, if_pos rfl]; simp) (HJS.out _ _ _ HJW.out (hY5.mono (by have := HE.out.ge; have := HDS.out.size; omega))) HD5.out hrv5 (by
                obtain ⟨e, g1, g2, -⟩ := HEX.out
                have := HAV.out
                rw [show cur = av ++ e from g1]; simp; omega))
            have HY5 := Lib.hid hY5
            rw [List.length_append, List.length_singleton] at hv5
            subst hv5
            clear hown5 hg5 hrv5 hY5 hlvr
            have SD : wr.drew.cell? ⟨bD, 0, none⟩ = some (.func (.func 68) #[] #[ptr0 bb, ptr0 bY, ptr0 ba, ptr0 bx, ptr0 bD]) ∧ wr.drew.cell? ⟨w0.heap.size, 0, none⟩ = some (.string y.n) ∧ wr.drew.cell? ⟨w0.heap.size, 1, none⟩ = some (.string y.a) ∧ wr.drew.cell? ⟨w0.heap.size, 2, none⟩ = some (.string y.b) := ⟨cD, y0, y1, y2⟩
            have HSY := Lib.hid (show ∀ o, (wr.alloc o).drew.cell? ⟨bD, 0, none⟩ = some (.func (.func 68) #[] #[ptr0 bb, ptr0 bY, ptr0 ba, ptr0 bx, ptr0 bD]) ∧ (wr.alloc o).drew.cell? ⟨w0.heap.size, 0, none⟩ = some (.string y.n) ∧ (wr.alloc o).drew.cell? ⟨w0.heap.size, 1, none⟩ = some (.string y.a) ∧ (wr.alloc o).drew.cell? ⟨w0.heap.size, 2, none⟩ = some (.string y.b) from fun o => ⟨cDY o, below_mem (hcB o) _ _ _ y0, below_mem (hcB o) _ _ _ y1, below_mem (hcB o) _ _ _ y2⟩)
            have HS5 := Lib.hid (show w5.cell? ⟨bD, 0, none⟩ = some (.func (.func 68) #[] #[ptr0 bb, ptr0 bY, ptr0 ba, ptr0 bx, ptr0 bD]) ∧ w5.cell? ⟨w0.heap.size, 0, none⟩ = some (.string y.n) ∧ w5.cell? ⟨w0.heap.size, 1, none⟩ = some (.string y.a) ∧ w5.cell? ⟨w0.heap.size, 2, none⟩ = some (.string y.b) from ⟨cD5, below_mem HY5.out _ _ _ y0, below_mem HY5.out _ _ _ y1, below_mem HY5.out _ _ _ y2⟩)
            have hvfn : ∀ w6 : World, Keeps (chgD N S mb w5) w5 w6 → w6.heap[w0.heap.size]? = w5.heap[w0.heap.size]? := fun w6 hk => hk.block _ (by have := HY5.out.size; have := HQ.out.size; omega) (fun h => by have := HY5.out.size; have := HQ.out.size; rcases h with ⟨h, _⟩ | h | h <;> omega)
            have HS6 := Lib.hid (show ∀ w6 : World, Keeps (chgD N S mb w5) w5 w6 → w6.cell? ⟨bD, 0, none⟩ = some (.func (.func 68) #[] #[ptr0 bb, ptr0 bY, ptr0 ba, ptr0 bx, ptr0 bD]) ∧ w6.cell? ⟨w0.heap.size, 0, none⟩ = some (.string y.n) ∧ w6.cell? ⟨w0.heap.size, 1, none⟩ = some (.string y.a) ∧ w6.cell? ⟨w0.heap.size, 2, none⟩ = some (.string y.b) from fun w6 hk => ⟨(mem_of_block (hk.block bD (HE.out.rlt HD5.out.size bD HE.out.rr.2.2.2.2.2) (HE.out.free HD5.out.size HE.out.rr.2.2.2.2.2)) 0).trans cD5, (mem_of_block (hvfn w6 hk) 0).trans HS5.out.2.1, (mem_of_block (hvfn w6 hk) 1).trans HS5.out.2.2.1, (mem_of_block (hvfn w6 hk) 2).trans HS5.out.2.2.2⟩)
            have HCALL2 := Lib.hid (HCALL.out.mono (R' := fun e w6 => ∃ okv : Bool, e = .returned (.bool okv) ∧ Keeps (chgD N S mb wr) wr w6 ∧ BMB w6 mb cur ∧
                ((okv = true ∧ J (pre ++ (rows.take (k + 1)).flatMap g) w6) ∨ (okv = false ∧ ∃ p z q, ways (x :: rest) L av ls = p ++ z :: q ∧ Stop (pre ++ p) z w6)) ∧ (w6.cell? ⟨bD, 0, none⟩ = some (.func (.func 68) #[] #[ptr0 bb, ptr0 bY, ptr0 ba, ptr0 bx, ptr0 bD]) ∧ w6.cell? ⟨w0.heap.size, 0, none⟩ = some (.string y.n) ∧ w6.cell? ⟨w0.heap.size, 1, none⟩ = some (.string y.a) ∧ w6.cell? ⟨w0.heap.size, 2, none⟩ = some (.string y.b))) (fun e w6 h => by
              obtain ⟨hk, hm, h⟩ := h
              have hkk : Keeps (chgD N S mb wr) wr w6 := ((below_keeps HY5.out).wide (fun q _ h => .inr (.inr h))).trans (chgD_wide HY5.out.size hk)
              rcases h with ⟨rfl, h⟩ | ⟨rfl, p, z, q, h1, h2⟩
              · refine ⟨true, rfl, hkk, hm, .inl ⟨rfl, ?_⟩, HS6.out w6 hk⟩
                rw [HT.out, HGW.out, if_pos rfl, ← List.append_assoc]; exact h
              · refine ⟨false, rfl, hkk, hm, .inr ⟨rfl, (rows.take k).flatMap g ++ p, z, q ++ (rows.drop (k + 1)).flatMap g, ?_, ?_⟩, HS6.out w6 hk⟩
                · rw [HWAYS.out, HD.out, HGW.out, if_pos rfl, h1]; simp
                · rw [← List.append_assoc]; exact h2))
            clear hcB hvfn cD y0 y1 y2 cD5 cDY HCALL
            go_upto_region 18 with fail
            go_region_held3 (fun u => u.cell? ⟨bD, 0, none⟩ = some (.func (.func 68) #[] #[ptr0 bb, ptr0 bY, ptr0 ba, ptr0 bx, ptr0 bD]) ∧ u.cell? ⟨w0.heap.size, 0, none⟩ = some (.string y.n) ∧ u.cell? ⟨w0.heap.size, 1, none⟩ = some (.string y.a) ∧ u.cell? ⟨w0.heap.size, 2, none⟩ = some (.string y.b))
              (first | exact SD | exact HSY.out _ | exact HS5.out | exact H6.out.2.2.2)
              ((first
                | (refine step_append_run rfl (.tmp 90) (.tmp 92) 23 rfl (.slice al ls.length ls.length) (.slice (some ⟨wr.heap.size, 0, none⟩) 1 1) _ rfl rfl hap ?_)
                | (go_at_call 69; refine (clip_any al ls.length cl _ hl1 hl2 hal).mono ?_; rintro e w6 ⟨rfl, rfl⟩)
                | (go_at_call 68; refine HCALL2.out.mono ?_; rintro e wz ⟨okv, rfl, h6⟩; have H6 := Lib.hid h6; clear h6)))
            all_goals
              have HKZ := Lib.hid H6.out.1
              have HMZ := Lib.hid H6.out.2.1
              have HPZ := Lib.hid H6.out.2.2.1
              clear H6 HS5 HS6 HSY SD hap HCALL2
              have HZ := Lib.hid (HREST.out wz HKZ.out HMZ.out)
              obtain ⟨ad, hcur, -, -⟩ := HEX.out
              have hnbl : newB av cur = ad.map Prod.fst := by unfold newB; rw [hcur, List.drop_left]
              generalize newB av cur = nbl at HZ hcl hnbl ⊢
              have HAD := Lib.hid hcur
              have HNBL := Lib.hid hnbl
              clear hcur hnbl HREST HO
              go_wp2
              go_loopw [98] (fun i wd => ∃ m : Nat, m ≤ nbl.length ∧ i = .int .i64 m ∧ Hid (BMB wd mb (av ++ ad.drop m)) ∧ Hid (Keeps (fun q => q = mb) wz wd)) (fun i _ => nbl.length - (intOf i).toNat)
              case atStart => exact ⟨0, Nat.zero_le _, rfl, Lib.hid (by rw [List.drop_zero, ← HAD.out]; exact HMZ.out), Lib.hid (Keeps.refl _ _)⟩
              case round =>
                obtain ⟨m, hm, rfl, HMd, HKd⟩ := hrel
                have HDd := Lib.hid (show DSt We R mb (av ++ ad.drop m) wr from HZ.out.1.keep HE.out (HE.out.rlt HZ.out.1.size) (HKd.out.wide (fun q _ h => .inr (.inl h))) HMd.out)
                by_cases hml : m < nbl.length
                · obtain ⟨bU, oU, rfl, s0, ssz⟩ := str_cell (tStrs.mono _ _ _ _ (HMZ.out.memLe HKd.out) HZ.out.2.2.2.2) hml
                  have t0 : wr.cell? ⟨bU, oU + m, none⟩ = some (.string nbl[m]) := s0
                  have cA : wr.cell? ⟨ba, 0, none⟩ = some (.map (some mb)) := HDd.out.cell HE.out.rr.2.2.2.2.1 HE.out.ca
                  have hma : m < ad.length := by have := HNBL.out; rw [this, List.length_map] at hml; exact hml
                  have hsp : ad.drop m = (nbl[m], ad[m].2) :: ad.drop (m + 1) := by
                    rw [List.drop_eq_getElem_cons hma]
                    congr 1
                    have : nbl[m] = (ad[m]).1 := by simp only [HNBL.out, List.getElem_map]
                    rw [this]
                  have hmd := HMd.out
                  rw [hsp] at hmd
                  obtain ⟨w9, hd9, hm9, hg9⟩ := BMB.dropMid hmd ssz 0
                  have HM9 := Lib.hid hm9
                  have HK9 := Lib.hid (show Keeps (fun q => q = mb) wz w9 from HKd.out.trans ((grown_keeps hg9).wide (fun q _ e => by injection e)))
                  clear s0 hsp hmd hm9 hg9
                  generalize nbl[m] = nm at *
                  go_wp2
                  go_roundw
                  case rel => exact ⟨m + 1, by omega, by go_num, HM9, HK9⟩
                  case measure => simp [intOf]; omega
                · obtain rfl : m = nbl.length := by omega
                  have hda : ad.drop nbl.length = [] := by rw [HNBL.out, List.length_map, List.drop_length]
                  have HMF := Lib.hid (show BMB wr mb av from by have := HMd.out; rwa [hda, List.append_nil] at this)
                  have HDF := Lib.hid (show DSt We R mb av wr from by have := HDd.out; rwa [hda, List.append_nil] at this)
                  have HKF := Lib.hid (show Keeps (chgD N S mb W) W wr from HZ.out.2.1.trans (HKd.out.wide (fun q _ h => .inr (.inl h))))
                  have hBN : Below N wz wr := HKd.out.below (by have := HZ.out.1.size; have := HE.out.ge; omega) (fun q e => by have := HE.out.gm; omega)
                  have HBN := Lib.hid hBN
                  have HSK := Lib.hid (show StopK N wz wr from ⟨by have := HZ.out.1.size; have := HE.out.ge; omega, HKd.out.wide (fun q _ e => by
                    subst e
                    obtain ⟨D, ⟨es, c, hh, _⟩, _⟩ := HMZ.out.1
                    exact ⟨HE.out.gm, es, c, hh⟩)⟩)
                  have HVF := Lib.hid (show wr.heap[va]? = some (.cells #[.string x.n, .string x.a, .string x.b] 28 (0, 0)) from by
                    refine (HKd.out.block va (Array.getElem?_eq_some_iff.1 HZ.out.2.2.2.1).1 (fun e => ?_)).trans HZ.out.2.2.2.1
                    subst e
                    obtain ⟨D, ⟨es, c, hh, _⟩, _⟩ := HMZ.out.1
                    rw [HZ.out.2.2.2.1] at hh; cases hh)
                  clear hBN hda HMd HDd
                  cases okv with
                  | true =>
                    have HJF := Lib.hid (show J (pre ++ (rows.take (k + 1)).flatMap g) wr from by
                      rcases HPZ.out with ⟨_, h⟩ | ⟨h, _⟩
                      · exact HJS.out _ _ _ h HBN.out
                      · cases h)
                    go_wp2
                    go_roundw
                    case rel => exact ⟨k + 1, by omega, by go_num, HJF, HDF, HKF, HVF⟩
                    case measure => simp [intOf]; omega
                  | false =>
                    have HOF := Lib.hid (show DOut N S mb av J Stop pre (ways (x :: rest) L av ls) W (.returned (.bool false)) wr from ⟨HKF.out, HMF.out, .inr ⟨rfl, by
                      rcases HPZ.out with ⟨h, _⟩ | ⟨_, p, z, q, h1, h2⟩
                      · cases h
                      · exact ⟨p, z, q, h1, HSS.out _ _ _ _ h2 HSK.out⟩⟩⟩)
                    go_wp2
                    go_ret
                    exact HOF.out
    · obtain rfl : k = rows.length := by omega
      have HD := Lib.hid (show DOut N S mb av J Stop pre (ways (x :: rest) L av ls) W (.returned (.bool true)) wr from ⟨HKk.out, HWk.out.at', .inl ⟨rfl, by rw [HWAYS.out]; have := HJk.out; rwa [List.take_length] at this⟩⟩)
      go_wp2
      go_ret
      exact HD.out
end Go.Proofs.Ytafeaeaildfohaa
/- ring's matches: its iterator's contract (a stopped round keeps its blocks). -/
namespace Go.Proofs.Ytafeaeaildfohaa
open Go.RowKit Go.Maps

theorem down_all2 (We : World) (N : Nat) (S R : Nat → Prop) (l bb bY ba bx bD mb ib n : Nat) (bv : Value) (bd L : List Fct) (f : ByteArray → Option Value) (he : DEnv We N S R l bb bY ba bx bD mb ib n bv bd L f) (hL : L.length ≤ 400)
    (J : List (Bnd × List Fct) → World → Prop) (Stop : List (Bnd × List Fct) → (Bnd × List Fct) → World → Prop) (xs : List (Bnd × List Fct)) (hJ : ∀ s A B, J s A → Below N A B → J s B) (hSt : ∀ s x A B, Stop s x A → StopK N A B → Stop s x B)
    (hY : ∀ pre x post W1 vs, xs = pre ++ x :: post → J pre W1 → N ≤ W1.heap.size → EncWay x vs N W1 →
      YieldAt Fence.wide 0 Try.prog l vs W1 fun e W' => Keeps (roundF N S W1) W1 W' ∧ ((e = .returned (.bool true) ∧ J (pre ++ [x]) W') ∨ (e = .returned (.bool false) ∧ Stop pre x W'))) :
    ∀ rest, DownSpec We N S R bb bY ba bx bD mb bd L J Stop xs rest
  | [] => fun dn av ls lv pre post W hbd hls hxs hJ0 hW hl hav =>
    down_last We N S R l bb bY ba bx bD mb ib n bv bd L f he J Stop xs pre post hY av ls lv W (by rw [hls, hbd]; simp) (by rw [hxs]; simp [ways]) hJ0 hW (tFcts.mono _ _ _ _ (Mem.on_mono _ (fun _ h => h.1)) hl)
  | x :: rest => down_step2 We N S R l bb bY ba bx bD mb ib n bv bd L f he hL J Stop xs hJ hSt x rest (down_all2 We N S R l bb bY ba bx bD mb ib n bv bd L f he hL J Stop xs hJ hSt hY rest)
set_option maxRecDepth 100000 in
set_option maxHeartbeats 8000000 in
theorem matches_gives2 (S : Nat → Prop) (bb bx ib n : Nat) (bv : Value) (bd L : List Fct) (f : ByteArray → Option Value) (w : World) (hE : MEnv w S bb bx ib n bv bd L f) (hL : L.length ≤ 400) :
    GivesM2 Try.prog 67 #[ptr0 bb, ptr0 bx] EncWay S (ways bd L [] []) w := by
  intro l J Stop W hW hJ hSt hY h0
  have hE := hE.below hW
  have hsn : ∀ k, S k → k < W.heap.size := hE.lt
  generalize hx : (((W.alloc (.cells #[.func (.yield l) #[] #[]] 94)).alloc (.map #[] 0)).alloc (.cells #[.map (some (W.heap.size + 1))] 72)).alloc
      (.cells #[.func (.func 68) #[] #[ptr0 bb, ptr0 W.heap.size, ptr0 (W.heap.size + 2), ptr0 bx, ptr0 (W.heap.size + 3)]] 55) = We
  have hs : We.heap.size = W.heap.size + 4 := by rw [← hx]; simp
  have hB : Below W.heap.size W We := by rw [← hx]; exact ((((Below.refl _ _).alloc (Nat.le_refl _) _).alloc (by simp) _).alloc (by simp <;> omega) _).alloc (by simp <;> omega) _
  have q0 : We.heap[W.heap.size]? = some (.cells #[.func (.yield l) #[] #[]] 94 (0, 0)) := by
    rw [← hx]
    exact (Below.heap_alloc _ _ _ (by simp <;> omega)).trans ((Below.heap_alloc _ _ _ (by simp <;> omega)).trans ((Below.heap_alloc _ _ _ (by simp <;> omega)).trans (heap_alloc_new W _)))
  have q1 : We.heap[W.heap.size + 1]? = some (.map #[] 0) := by
    rw [← hx]
    refine (Below.heap_alloc _ _ _ (by simp <;> omega)).trans ((Below.heap_alloc _ _ _ (by simp <;> omega)).trans ?_)
    have := heap_alloc_new (W.alloc (.cells #[.func (.yield l) #[] #[]] 94)) (.map #[] 0)
    rwa [World.size_alloc] at this
  have q2 : We.heap[W.heap.size + 2]? = some (.cells #[.map (some (W.heap.size + 1))] 72 (0, 0)) := by
    rw [← hx]
    refine (Below.heap_alloc _ _ _ (by simp <;> omega)).trans ?_
    have := heap_alloc_new ((W.alloc (.cells #[.func (.yield l) #[] #[]] 94)).alloc (.map #[] 0)) (.cells #[.map (some (W.heap.size + 1))] 72)
    rwa [World.size_alloc, World.size_alloc] at this
  have q3 : We.heap[W.heap.size + 3]? = some (.cells #[.func (.func 68) #[] #[ptr0 bb, ptr0 W.heap.size, ptr0 (W.heap.size + 2), ptr0 bx, ptr0 (W.heap.size + 3)]] 55 (0, 0)) := by
    rw [← hx]
    have := heap_alloc_new (((W.alloc (.cells #[.func (.yield l) #[] #[]] 94)).alloc (.map #[] 0)).alloc (.cells #[.map (some (W.heap.size + 1))] 72)) (.cells #[.func (.func 68) #[] #[ptr0 bb, ptr0 W.heap.size, ptr0 (W.heap.size + 2), ptr0 bx, ptr0 (W.heap.size + 3)]] 55)
    rwa [World.size_alloc, World.size_alloc, World.size_alloc] at this
  have hE2 := hE.below hB
  have hm : ∀ {α : Type} {t : Ty α} {v : Value} {xs : List α}, (tSlice t).rv ((mem We).on S) [v] xs → (tSlice t).rv ((mem We).on (fun k => S k ∨ k = W.heap.size ∨ k = W.heap.size + 2 ∨ k = W.heap.size + 3)) [v] xs := fun {α t v xs} hv => (tSlice t).mono _ _ _ _ (Mem.on_mono _ (fun _ h => .inl h)) hv
  have hd : DEnv We W.heap.size S (fun k => S k ∨ k = W.heap.size ∨ k = W.heap.size + 2 ∨ k = W.heap.size + 3) l bb W.heap.size (W.heap.size + 2) bx (W.heap.size + 3) (W.heap.size + 1) ib n bv bd L f :=
    ⟨hE2.cb, hm hE2.hb, hE2.cx, hE2.im, fun k => hm (hE2.row k), mem_cells q0 0, mem_cells q2 0, mem_cells q3 0, ⟨.inl hE.ss.1, .inl hE.ss.2.1, .inl hE.ss.2.2, .inr (.inl rfl), .inr (.inr (.inl rfl)), .inr (.inr (.inr rfl))⟩,
      fun k hk => by rcases hk with h | h | h | h; exact .inl ⟨h, hsn k h⟩; exact .inr ⟨by omega, by omega, by omega⟩; exact .inr ⟨by omega, by omega, by omega⟩; exact .inr ⟨by omega, by omega, by omega⟩, by omega, by omega, hE.len⟩
  have hst : DSt We (fun k => S k ∨ k = W.heap.size ∨ k = W.heap.size + 2 ∨ k = W.heap.size + 3) (W.heap.size + 1) [] We := by
    refine ⟨Nat.le_refl _, fun _ _ => rfl, ?_, List.nodup_nil⟩
    have h1 := MapOf.made (P := Try.prog) (k := 9) (lk := strKey) (vr := vStr) (W.alloc (.cells #[.func (.yield l) #[] #[]] 94))
    rw [World.size_alloc] at h1
    have h2 : BM ((W.alloc (.cells #[.func (.yield l) #[] #[]] 94)).alloc (.map #[] 0)) (W.heap.size + 1) 0 (fun _ => none) := h1
    exact h2.at (q1.trans (by have := heap_alloc_new (W.alloc (.cells #[.func (.yield l) #[] #[]] 94)) (.map #[] 0); rw [World.size_alloc] at this; exact this.symm))
  have HC := Lib.hid (down_all2 We W.heap.size S _ l bb W.heap.size (W.heap.size + 2) bx (W.heap.size + 3) (W.heap.size + 1) ib n bv bd L f hd hL J Stop (ways bd L [] []) hJ hSt hY bd [] [] [] (.slice none 0 0) [] [] We rfl rfl (by simp) (hJ _ _ _ h0 hB) hst (slice_nil _ _) (by simp))
  have HX := Lib.hid hx
  clear hd hst hE2 hm q0 q1 q2 q3 hB hs hx hE hY h0 hJ hSt hW hsn
  refine (callsIn_wide (n := 0)).2 ?_
  have hmm := @run_makeMap Try.prog
  show Calls Try.prog 67 #[.func (.yield l) #[] #[], ptr0 bb, ptr0 bx] W _
  go_enter Try.func67, Try.ntmps67
  go_wp2_with fail
  have HC2 := HC.out
  rw [← HX.out] at HC2
  refine Calls.mono HC2 ?_
  rintro e w6 ⟨-, -, h⟩
  have HF := Lib.hid (show J (ways bd L [] []) w6 ∨ ∃ pre x post, ways bd L [] [] = pre ++ x :: post ∧ Stop pre x w6 from by
    rcases h with ⟨_, h⟩ | ⟨_, p, x, q, h1, h2⟩
    · exact .inl h
    · exact .inr ⟨p, x, q, h1, h2⟩)
  have hv : ∃ b, e = .returned (.bool b) := by
    rcases h with ⟨h, _⟩ | ⟨h, _⟩
    · exact ⟨_, h⟩
    · exact ⟨_, h⟩
  obtain ⟨b, rfl⟩ := hv
  clear h HC HC2 HX
  go_wp2
  go_end0
  exact ⟨⟨_, rfl⟩, HF.out⟩
end Go.Proofs.Ytafeaeaildfohaa
/- slices.Clone and slices.DeleteFunc at facts. -/
namespace Go.Proofs.Ytafeaeaildfohaa
open Go.RowKit Go.Maps

section
variable {P : Program}
theorem zero_mem {z : Value} {sz n : Nat} (hz : z.cells.size = sz) (hsz : 0 < sz) {v : Value} (h : v ∈ (Builtin.zeroCells z.cells n).toList) : v ∈ z.cells.toList := by
  simp [Builtin.zeroCells] at h
  obtain ⟨a, _, rfl⟩ := h
  have hlt : a % z.cells.size < z.cells.size := Nat.mod_lt _ (by omega)
  rw [getElem!_pos z.cells _ hlt]
  simp
/-- clear of a slice whose elements are of whatever size. -/
theorem run_clear_k (w : World) (t e : TypeId) (z : Value) (sz : Nat) (ht : P.underlying t = some (.slice e)) (hv : ∀ w, (zeroValue e).run P w = .ok z w) (hz : z.cells.size = sz) (h1 : ∀ u ∈ z.cells.toList, u.oneCell' = true) (hsz : 0 < sz) (b o n c : Nat) (hn : 0 < n)
    (hc : ∀ j, j < n * sz → (w.cell? ⟨b, o + j, none⟩).isSome = true) (hf : ∀ j, w.frozen? ⟨b, j, none⟩ = false) :
    ∃ vs : List Value, ∀ ty, (Builtin.clear_ #[t] ty #[.slice (some ⟨b, o, none⟩) n c]).run P w = .ok (.tuple #[]) (w.setCells b o vs) := by
  have hl : (Builtin.zeroCells z.cells n).toList.length = n * sz := by simp [Builtin.zeroCells, hz]
  have hst := run_storeCells_cells (P := P) b o (Builtin.zeroCells z.cells n).toList 0 w (by rw [hl]; simpa using hc) (fun j _ => hf _) (by
    intro v hv'
    exact h1 v (zero_mem hz hsz hv'))
  simp only [Nat.add_zero] at hst
  obtain ⟨m, rfl⟩ : ∃ m, n = m + 1 := ⟨n - 1, by omega⟩
  exact ⟨(Builtin.zeroCells z.cells (m + 1)).toList, fun ty => by simp [Builtin.clear_, run_underlying ht, hv, hst]⟩
theorem cut_lo_at {T e : TypeId} {sz : Nat} (hT : P.underlying T = some (.slice e)) (hs : (P.info? e).map (·.size) = some sz) {g len cap n : Nat} (hn : n ≤ len) (hlc : len ≤ cap) (hm : cap ≤ maxLen) (h0 : 0 < cap) :
    ∀ w2, (Instr.slice T (.slice (some ⟨g, 0, none⟩) len cap) none (some (.int .i64 n)) none).run P w2 = .ok (.slice (some ⟨g, 0, none⟩) n cap) w2 := fun w2 => by
  have he : P.elem T = e := by simp [Program.elem, hT]
  unfold maxLen at hm
  rw [run_slice_h w2 T _ len cap (by rw [he]; exact hT) .i64 n (by omega) (by omega), he, size_run hs]
  simp only [Result.andThen_ok, sliced, Int.toNat_natCast, Nat.sub_zero]
  have hc : cap ≠ 0 := by omega
  simp [hc, Addr.add]
theorem cut_hi_at {T e : TypeId} {sz : Nat} (hT : P.underlying T = some (.slice e)) (hs : (P.info? e).map (·.size) = some sz) {g len cap n : Nat} (hn : n < len) (hlc : len ≤ cap) (hm : cap ≤ maxLen) :
    ∀ w2, (Instr.slice T (.slice (some ⟨g, 0, none⟩) len cap) (some (.int .i64 n)) none none).run P w2 = .ok (.slice (some ⟨g, n * sz, none⟩) (len - n) (cap - n)) w2 := fun w2 => by
  have he : P.elem T = e := by simp [Program.elem, hT]
  unfold maxLen at hm
  rw [run_slice_l w2 T _ len cap (by rw [he]; exact hT) .i64 n (by omega) (by omega), he, size_run hs]
  simp only [Result.andThen_ok, sliced, Int.toNat_natCast]
  have hc : cap ≠ n := by omega
  simp [hc, Addr.add]
  omega
end
theorem keeps_setCells (b : Nat) : ∀ (vs : List Value) (o : Nat) (w : World), Keeps (fun k => k = b) w (w.setCells b o vs)
  | [], _, w => Keeps.refl _ w
  | v :: r, o, w => ((Keeps.refl (fun k => k = b) w).setCell (p := ⟨b, o, none⟩) (fun _ => rfl) v).trans (keeps_setCells b r (o + 1) _)
/-- A row of facts from a block's first cell on. -/
def RowF (w : World) (g : Nat) (ys : List Fct) : Prop := ∀ k, (h : k < ys.length) → w.cell? ⟨g, k * 3, none⟩ = some (.string ys[k].n) ∧ w.cell? ⟨g, k * 3 + 1, none⟩ = some (.string ys[k].a) ∧ w.cell? ⟨g, k * 3 + 2, none⟩ = some (.string ys[k].b)
theorem RowF.there {w : World} {g : Nat} {ys : List Fct} (h : RowF w g ys) {j : Nat} (hj : j < ys.length * 3) : (w.cell? ⟨g, j, none⟩).isSome = true := by
  have hk : j / 3 < ys.length := by omega
  obtain ⟨h0, h1, h2⟩ := h (j / 3) hk
  have e : j = j / 3 * 3 + j % 3 := by omega
  have h3 : j % 3 = 0 ∨ j % 3 = 1 ∨ j % 3 = 2 := by omega
  rcases h3 with h3 | h3 | h3
  · rw [e, h3, Nat.add_zero, h0]; rfl
  · rw [e, h3, h1]; rfl
  · rw [e, h3, h2]; rfl
theorem RowF.set {w : World} {g : Nat} {ys : List Fct} (h : RowF w g ys) {i : Nat} (hi : i < ys.length) (x : Fct) : RowF (w.setCells g (i * 3) [.string x.n, .string x.a, .string x.b]) g (ys.set i x) := by
  intro k hk
  rw [List.length_set] at hk
  have hex : ∀ j, j < [Value.string x.n, .string x.a, .string x.b].length → (w.cell? ⟨g, i * 3 + j, none⟩).isSome = true := fun j hj => h.there (by simp at hj; omega)
  by_cases e : k = i
  · subst e
    have e0 := World.cell?_setCells_in g [.string x.n, .string x.a, .string x.b] (k * 3) w hex 0 (by simp)
    have e1 := World.cell?_setCells_in g [.string x.n, .string x.a, .string x.b] (k * 3) w hex 1 (by simp)
    have e2 := World.cell?_setCells_in g [.string x.n, .string x.a, .string x.b] (k * 3) w hex 2 (by simp)
    simp only [List.getElem_set_self]
    exact ⟨e0, e1, e2⟩
  · obtain ⟨h0, h1, h2⟩ := h k hk
    rw [List.getElem_set_ne (Ne.symm e)]
    have ho : ∀ j, j < 3 → (w.setCells g (i * 3) [.string x.n, .string x.a, .string x.b]).cell? ⟨g, k * 3 + j, none⟩ = w.cell? ⟨g, k * 3 + j, none⟩ := fun j hj =>
      World.cell?_setCells_out g _ _ w _ (fun _ _ => by show k * 3 + j < i * 3 ∨ i * 3 + 3 ≤ k * 3 + j; omega)
    exact ⟨(ho 0 (by omega)).trans h0, (ho 1 (by omega)).trans h1, (ho 2 (by omega)).trans h2⟩
theorem RowF.clear {w : World} {g : Nat} {ys : List Fct} (h : RowF w g ys) {i : Nat} (hi : i ≤ ys.length) (vs : List Value) : RowF (w.setCells g (i * 3) vs) g (ys.take i) := by
  intro k hk
  rw [List.length_take, Nat.min_eq_left hi] at hk
  obtain ⟨h0, h1, h2⟩ := h k (by omega)
  rw [List.getElem_take]
  have ho : ∀ j, j < 3 → (w.setCells g (i * 3) vs).cell? ⟨g, k * 3 + j, none⟩ = w.cell? ⟨g, k * 3 + j, none⟩ := fun j hj =>
    World.cell?_setCells_out g _ _ w _ (fun _ _ => .inl (by show k * 3 + j < i * 3; omega))
  exact ⟨(ho 0 (by omega)).trans h0, (ho 1 (by omega)).trans h1, (ho 2 (by omega)).trans h2⟩
theorem RowF.rv {w : World} {g c : Nat} {ys : List Fct} (h : RowF w g ys) (hok : ∀ x ∈ ys, okF x) (hc : ys.length ≤ c) (hm : c ≤ maxLen) {S : Nat → Prop} (hS : S g) : tFcts.rv ((mem w).on S) [.slice (some ⟨g, 0, none⟩) ys.length c] ys :=
  ⟨some ⟨g, 0, none⟩, c, rfl, hc, hm, fun _ => ⟨g, 0, rfl, fun k hk => ⟨[.string ys[k].n, .string ys[k].a, .string ys[k].b], fun j u hj => Mem.on_some (by
    obtain ⟨h0, h1, h2⟩ := h k hk
    rw [Nat.zero_add]
    match j, hj with
    | 0, hj => simp at hj; subst hj; exact h0
    | 1, hj => simp at hj; subst hj; exact h1
    | 2, hj => simp at hj; subst hj; exact h2) hS, rfl, hok _ (List.getElem_mem hk)⟩⟩⟩
structure DelSt (w : World) (g : Nat) (p : Fct → Bool) (xs : List Fct) (i j : Nat) (wr : World) : Prop where
  ex : ∃ ys : List Fct, ys.length = xs.length ∧ RowF wr g ys ∧ ys.take i = (xs.take j).filter (fun x => !p x) ∧ ys.drop j = xs.drop j
  kp : Keeps (fun k => k = g ∨ w.heap.size ≤ k) w wr
  fz : ∀ o, wr.frozen? ⟨g, o, none⟩ = false
  il : i = ((xs.take j).filter (fun x => !p x)).length
  lt : i < j
  gl : g < w.heap.size
section
variable {w wr w' : World} {g : Nat} {p : Fct → Bool} {xs : List Fct} {i j : Nat}
theorem DelSt.keeps (h : DelSt w g p xs i j wr) (hb : Below wr.heap.size wr w') : DelSt w g p xs i j w' := by
  obtain ⟨ys, h1, h2, h3, h4⟩ := h.ex
  have hgl : g < wr.heap.size := Nat.lt_of_lt_of_le h.gl h.kp.size
  refine ⟨⟨ys, h1, fun k hk => ?_, h3, h4⟩, h.kp.trans ((below_keeps hb).wide (fun k _ e => .inr (Nat.le_trans h.kp.size e))), fun o => ?_, h.il, h.lt, h.gl⟩
  · obtain ⟨a, b, c⟩ := h2 k hk
    exact ⟨below_mem hb _ _ _ a, below_mem hb _ _ _ b, below_mem hb _ _ _ c⟩
  · have := h.fz o
    simp only [World.frozen?, hb.block g hgl] at this ⊢
    exact this
theorem DelSt.at (h : DelSt w g p xs i j wr) (hj : j < xs.length) : wr.cell? ⟨g, j * 3, none⟩ = some (.string xs[j].n) ∧ wr.cell? ⟨g, j * 3 + 1, none⟩ = some (.string xs[j].a) ∧ wr.cell? ⟨g, j * 3 + 2, none⟩ = some (.string xs[j].b) := by
  obtain ⟨ys, h1, h2, h3, h4⟩ := h.ex
  have e : ys[j]'(by omega) = xs[j] := by
    have h5 : (ys.drop j)[0]'(by simp; omega) = (xs.drop j)[0]'(by simp; omega) := by simp only [h4]
    simpa using h5
  have := h2 j (by omega)
  rwa [e] at this
theorem DelSt.drop (h : DelSt w g p xs i j wr) (hj : j < xs.length) (hp : p xs[j] = true) : DelSt w g p xs i (j + 1) wr := by
  obtain ⟨ys, h1, h2, h3, h4⟩ := h.ex
  have e : (xs.take (j + 1)).filter (fun x => !p x) = (xs.take j).filter (fun x => !p x) := filt_take_no hj (by rw [hp]; rfl)
  refine ⟨⟨ys, h1, h2, by rw [e]; exact h3, ?_⟩, h.kp, h.fz, by rw [e]; exact h.il, Nat.lt_succ_of_lt h.lt, h.gl⟩
  have := congrArg (List.drop 1) h4
  simpa [List.drop_drop, Nat.add_comm] using this
theorem DelSt.keep (h : DelSt w g p xs i j wr) (hj : j < xs.length) (hp : p xs[j] = false) : DelSt w g p xs (i + 1) (j + 1) (wr.setCells g (i * 3) [.string xs[j].n, .string xs[j].a, .string xs[j].b]) := by
  obtain ⟨ys, h1, h2, h3, h4⟩ := h.ex
  have hl := h.lt
  have e : (xs.take (j + 1)).filter (fun x => !p x) = (xs.take j).filter (fun x => !p x) ++ [xs[j]] := filt_take_yes hj (by rw [hp]; rfl)
  refine ⟨⟨ys.set i xs[j], by rw [List.length_set]; exact h1, h2.set (by omega) _, ?_, ?_⟩, h.kp.trans ((keeps_setCells g _ _ _).wide (fun k _ e => .inl e)), fun o => by rw [World.frozen?_setCells]; exact h.fz o, ?_, by omega, h.gl⟩
  · rw [e, ← h3, List.take_succ_eq_append_getElem (by rw [List.length_set]; omega), List.getElem_set_self, List.take_set_of_le (Nat.le_refl _)]
  · rw [List.drop_set_of_lt (by omega)]
    have := congrArg (List.drop 1) h4
    simpa [List.drop_drop, Nat.add_comm] using this
  · rw [e, List.length_append, ← h.il]; rfl
theorem DelSt.start (hr : RowF w g xs) (hfz : ∀ o, w.frozen? ⟨g, o, none⟩ = false) (hgl : g < w.heap.size) (hk : Keeps (fun k => k = g ∨ w.heap.size ≤ k) w w') (hb : Below w.heap.size w w') {k : Nat} (h : k < xs.length) (hp : p xs[k] = true) (hn : ∀ x ∈ xs.take k, p x = false) : DelSt w g p xs k (k + 1) w' := by
  have e : (xs.take k).filter (fun x => !p x) = xs.take k := List.filter_eq_self.2 (fun x hx => by rw [hn x hx]; rfl)
  have e2 : (xs.take (k + 1)).filter (fun x => !p x) = xs.take k := by rw [filt_take_no h (by rw [hp]; rfl), e]
  refine ⟨⟨xs, rfl, fun j hj => ?_, by rw [e2], rfl⟩, hk, fun o => ?_, by rw [e2, List.length_take]; omega, Nat.lt_succ_self _, hgl⟩
  · obtain ⟨a, b, c⟩ := hr j hj
    exact ⟨below_mem hb _ _ _ a, below_mem hb _ _ _ b, below_mem hb _ _ _ c⟩
  · have := hfz o
    simp only [World.frozen?, hb.block g hgl] at this ⊢
    exact this
end
theorem zeroFct (w : World) : (zeroValue 33).run Try.prog w = .ok (.agg #[.string .empty, .string .empty, .string .empty]) w := Try.zeroValue33 w
theorem DelSt.cellsAt {w wr : World} {g : Nat} {p : Fct → Bool} {xs : List Fct} {i j : Nat} (h : DelSt w g p xs i j wr) (hi : i < xs.length) :
    ∃ y0 y1 y2, wr.cell? ⟨g, i * 3, none⟩ = some y0 ∧ wr.cell? ⟨g, i * 3 + 1, none⟩ = some y1 ∧ wr.cell? ⟨g, i * 3 + 2, none⟩ = some y2 ∧ wr.frozen? ⟨g, i * 3, none⟩ = false ∧ wr.frozen? ⟨g, i * 3 + 1, none⟩ = false ∧ wr.frozen? ⟨g, i * 3 + 2, none⟩ = false := by
  obtain ⟨ys, h1, h2, h3, h4⟩ := h.ex
  obtain ⟨a, b, c⟩ := h2 i (by omega)
  exact ⟨_, _, _, a, b, c, h.fz _, h.fz _, h.fz _⟩
theorem DelSt.clr {w wr : World} {g : Nat} {p : Fct → Bool} {xs : List Fct} {i : Nat} (h : DelSt w g p xs i xs.length wr) {c : Nat} :
    ∃ vs : List Value, ∀ ty, (Builtin.clear_ #[23] ty #[.slice (some ⟨g, i * 3, none⟩) (xs.length - i) c]).run Try.prog wr = .ok (.tuple #[]) (wr.setCells g (i * 3) vs) := by
  obtain ⟨ys, h1, h2, h3, h4⟩ := h.ex
  have hl := h.lt
  exact run_clear_k wr 23 33 (.agg #[.string .empty, .string .empty, .string .empty]) 3 Try.underlying23 zeroFct rfl (fun u hu => by simp [Value.cells] at hu; subst hu; rfl) (by omega) g (i * 3) (xs.length - i) c (by omega) (fun j hj => h2.there (by omega)) h.fz
theorem DelSt.res {w wr : World} {g B cap : Nat} {p : Fct → Bool} {xs : List Fct} {i : Nat} (h : DelSt w g p xs i xs.length wr) (hok : ∀ x ∈ xs, okF x) (hgB : B ≤ g) (hlc : xs.length ≤ cap) (hm : cap ≤ maxLen) (vs : List Value) :
    tFcts.rv ((mem (wr.setCells g (i * 3) vs)).on (B ≤ ·)) [.slice (some ⟨g, 0, none⟩) i cap] (xs.filter fun x => !p x) := by
  obtain ⟨ys, h1, h2, h3, h4⟩ := h.ex
  have hl := h.lt
  rw [List.take_length] at h3
  have hr := h2.clear (i := i) (by omega) vs
  rw [h3] at hr
  have hi : i = (xs.filter fun x => !p x).length := by have := h.il; rwa [List.take_length] at this
  have := hr.rv (c := cap) (S := (B ≤ ·)) (fun x hx => hok x (List.mem_filter.1 hx).1) (by omega) hm hgB
  rwa [← hi] at this
theorem filter_all {p : Fct → Bool} {xs : List Fct} (h : ∀ x ∈ xs, p x = false) : xs.filter (fun x => !p x) = xs := List.filter_eq_self.2 (fun x hx => by rw [h x hx]; rfl)
theorem idxOf_neg {p : Fct → Bool} {xs : List Fct} (h : ∀ x ∈ xs, p x = false) : idxOf p xs = -1 := idxOf_none h
theorem any_split (p : Fct → Bool) (xs : List Fct) : (∀ x ∈ xs, p x = false) ∨ ∃ k, ∃ h : k < xs.length, p xs[k] = true ∧ ∀ x ∈ xs.take k, p x = false := by
  induction xs with
  | nil => exact .inl (by simp)
  | cons x xs ih =>
    cases hx : p x with
    | true => exact .inr ⟨0, by simp, hx, by simp⟩
    | false =>
      rcases ih with ih | ⟨k, hk, h1, h2⟩
      · exact .inl (by simpa [hx] using ih)
      · exact .inr ⟨k + 1, by simpa using hk, by simpa using h1, by simpa [hx] using h2⟩
set_option maxRecDepth 100000 in
set_option maxHeartbeats 1000000 in
theorem cloneFcts_any (xs : List Fct) (v : Value) (w : World) (hv : tFcts.rv (mem w) [v] xs) (h8 : xs.length ≤ 1000000) :
    Calls Try.prog 49 #[v] w fun e w' => ∃ x, e = .returned x ∧ Owns tFct w' w.heap.size 33 x xs ∧ Below w.heap.size w w' := by
  have hb0 : ∀ o, Below w.heap.size w (w.alloc o) := fun o => (Below.refl _ _).alloc (Nat.le_refl _) o
  have hown : ∀ T, T = 33 → Owns tFct (w.alloc (.cells #[] T)) w.heap.size 33 (.slice (some ⟨w.heap.size, 0, none⟩) 0 0) [] := fun T hT => by
    subst hT
    exact ⟨[], rfl, World.ownsRow_lit w #[] 0 (Nat.le_refl _) (Nat.zero_le _) (by simp), fun c h => absurd h (by simp), fun k h => absurd h (by simp)⟩
  obtain ⟨a1, cap1, rfl, hl1, hm1, hv⟩ := slice_form hv
  have HV := Lib.hid (fun o => (tFcts.mono _ _ _ _ (below_mem (hb0 o)) hv : tFcts.rv (mem (w.alloc o)) _ xs))
  cases a1 with
  | none =>
    have h0 : xs = [] := by
      cases xs with
      | nil => rfl
      | cons x l => obtain ⟨b, o, e, _⟩ := slice_at hv (k := 0) (by simp); cases e
    subst h0
    clear hm1 hv HV
    have hq := fun w => Lib.run_eql_slice_nil (P := Try.prog) w 23 _ none 0 cap1 0 0 Try.underlying23
    go_enter Try.func49, Try.ntmps49
    go_wp2
    go_ret
    exact ⟨_, rfl, Owns.nil _ _ _ _, Below.refl _ _⟩
  | some ad =>
    clear hm1 hv
    have hq := fun w => Lib.run_eql_slice_nil (P := Try.prog) w 23 _ (some ad) xs.length cap1 0 0 Try.underlying23
    go_enter Try.func49, Try.ntmps49
    go_wp2_with (at_builtin; refine wpList_append_flat rfl _ _ 23 rfl tFct_flat tFct_oneW Try.underlying23 infoFct rfl (by decide) w.heap.size _ [] xs rfl (hown _ rfl) _ _ _ rfl rfl (HV.out _) ?c1 ?c2 ?c3 ?_)
    case c1 => simp; unfold maxLen; omega
    case c2 => simp; omega
    case c3 => simp
    intro v' w2 hown' hgrow
    have hB : Below w.heap.size w w2 := (hb0 _).grown hgrow (by simp) (fun k hk => by simp [Value.ownBlock] at hk; omega)
    obtain ⟨a', cap', rfl, _⟩ := hown'.len
    clear hown hgrow HV
    go_wp2
    go_ret
    exact ⟨_, rfl, hown', hB⟩

theorem owns_row {w : World} {B : Nat} {v : Value} {xs : List Fct} (h : Owns tFct w B 33 v xs) (h0 : 0 < xs.length) : ∃ g cap, v = .slice (some ⟨g, 0, none⟩) xs.length cap ∧ xs.length ≤ cap ∧ cap ≤ maxLen ∧ B ≤ g ∧ g < w.heap.size ∧ RowF w g xs ∧ (∀ o, w.frozen? ⟨g, o, none⟩ = false) := by
  have hrv := h.rv'
  have hok := fcts_okAll hrv
  obtain ⟨css, h1, ⟨h2, h3⟩, h4, h5⟩ := h
  rcases h3 with ⟨rfl, h6⟩ | ⟨g, cap, cur, rfl, hg, hh, hn, hm, hc, ht⟩
  · rw [h6] at h0; cases h0
  · refine ⟨g, cap, rfl, hn, hm, hg, (Array.getElem?_eq_some_iff.1 hh).1, fun k hk => ?_, fun o => frozen_cells hh o⟩
    obtain ⟨b, o, e, ⟨q0, q1, q2⟩, -⟩ := fcts_at hrv hk
    injection e with e
    injection e with e1 e2
    subst e1; subst e2
    simp only [Nat.zero_add] at q0 q1 q2
    exact ⟨q0, q1, q2⟩
set_option maxRecDepth 100000 in
set_option maxHeartbeats 8000000 in
/-- slices.DeleteFunc at facts, of a row of the call's own. -/
theorem deleteFct_any (Fn : FuncId) (capt : Array Value) (p : Fct → Bool) (xs : List Fct) (v : Value) (B : Nat) (w : World) (hv : Owns tFct w B 33 v xs) (hB : B ≤ w.heap.size) (hlen : xs.length ≤ 1000000000)
    (hcf : ∀ args w, Sem.run Try.prog (callFunc Fn args) w = .ok (.enter Fn args) w)
    (hf : ∀ x : Fct, okF x → ∀ wr, Keeps (fun k => v.ownBlock = some k ∨ w.heap.size ≤ k) w wr → Calls Try.prog Fn (#[x.v] ++ capt) wr fun e w' => e = .returned (.bool (p x)) ∧ Below wr.heap.size wr w') :
    Calls Try.prog 48 #[v, .func (.func Fn) #[] capt] w fun e w' => ∃ v', e = .returned v' ∧ tFcts.rv ((mem w').on (B ≤ ·)) [v'] (xs.filter fun x => !p x) ∧ Below B w w' := by
  have HI := Lib.hid (indexFuncFct Fn capt p xs v w hv.rv' hcf (fun x hx wr hb => hf x hx wr ((below_keeps hb).wide (fun k _ e => .inr e))))
  have HOKA := Lib.hid (fcts_okAll hv.rv')
  rcases any_split p xs with hno | ⟨k0, hk0, hp0, hn0⟩
  · rw [idxOf_neg hno] at HI
    have HR := Lib.hid (fun (w' : World) (hb : Below w.heap.size w w') => (show tFcts.rv ((mem w').on (B ≤ ·)) [v] (xs.filter fun x => !p x) from by rw [filter_all hno]; exact (hv.keeps hb).rv (fun b h => h) (fun _ cs _ h => tFct_flat _ _ _ _ h)))
    obtain ⟨a, c, rfl, -⟩ := hv.len
    clear hno hf hcf hv HOKA
    go_enter Try.func48, Try.ntmps48
    go_wp2_with fail
    refine HI.out.mono ?_
    rintro e w1 ⟨rfl, hb1⟩
    have HE := Lib.hid (HR.out w1 hb1)
    have HB1 := Lib.hid (hb1.mono hB)
    clear hb1 HR HI
    go_wp2
    go_ret
    exact ⟨_, rfl, HE.out, HB1.out⟩
  · obtain ⟨g, cap, rfl, hlc, hm, hgB, hgl, hrow, hfz⟩ := owns_row hv (by omega)
    rw [idxOf_at hk0 hp0 hn0] at HI
    have HST := Lib.hid (fun w' (hb : Below w.heap.size w w') => DelSt.start (p := p) hrow hfz hgl ((below_keeps hb).wide (fun k _ e => .inr e)) hb hk0 hp0 hn0)
    have HF := Lib.hid (fun x hx wr (hk : Keeps (fun k => k = g ∨ w.heap.size ≤ k) w wr) => hf x hx wr (hk.wide (fun k _ e => by rcases e with e | e; exact .inl (by rw [e]; rfl); exact .inr e)))
    have HM := Lib.hid hm
    have hcap : cap ≤ 9223372036854775807 := by unfold maxLen at hm; exact hm
    clear hf hv hrow hfz hp0 hn0 hm
    go_enter Try.func48, Try.ntmps48
    go_wp2_with fail
    refine HI.out.mono ?_
    rintro e w1 ⟨rfl, hb1⟩
    have HST1 := Lib.hid (HST.out w1 hb1)
    clear HST HI hb1
    have hk1 : ((k0 : Int) == -1) = false := by rw [beq_eq_false_iff_ne]; omega
    go_wp2_with fail
    go_loopw [5, 6] (fun iv jv wr => ∃ i j : Nat, j ≤ xs.length ∧ iv = .int .i64 i ∧ jv = .int .i64 j ∧ Hid (DelSt w g p xs i j wr)) (fun _ jv _ => xs.length - (intOf jv).toNat)
    case atStart => exact ⟨k0, k0 + 1, by omega, rfl, by go_num, HST1⟩
    case round =>
      clear HST1
      obtain ⟨i, j, hj, rfl, rfl, HS⟩ := hrel
      have hij : i < j := HS.out.lt
      by_cases hlt : j < xs.length
      · obtain ⟨q0, q1, q2⟩ := HS.out.at hlt
        have c0 : wr.cell? ⟨g, j * 3, none⟩ = some (.string xs[j].n) := q0
        have c1 : wr.cell? ⟨g, j * 3 + 1, none⟩ = some (.string xs[j].a) := q1
        have c2 : wr.cell? ⟨g, j * 3 + 2, none⟩ = some (.string xs[j].b) := q2
        have HBB := Lib.hid (boxW wr)
        have HCALL := Lib.hid (fun o => HF.out xs[j] (HOKA.out _ (List.getElem_mem hlt)) (wr.alloc o) ((HS.out.kp).alloc o))
        have HKEEP := Lib.hid (fun (w' : World) (hb : Below wr.heap.size wr w') (e : p xs[j] = false) => (HS.out.keeps hb).keep hlt e)
        have HDROP := Lib.hid (fun (w' : World) (hb : Below wr.heap.size wr w') (e : p xs[j] = true) => (HS.out.keeps hb).drop hlt e)
        have HNEW := Lib.hid (fun o => heap_alloc_new wr o)
        have HII := Lib.hid (fun (w' : World) (hb : Below wr.heap.size wr w') => (HS.out.keeps hb))
        have HIJ := Lib.hid (fun (w' : World) (hb : Below wr.heap.size wr w') => (HII.out w' hb).cellsAt (show i < xs.length by omega))
        clear q0 q1 q2 HS
        generalize xs[j] = x at *
        generalize hpx : p x = t at *
        clear hpx
        obtain ⟨x1, x2, x3⟩ := x
        simp only at c0 c1 c2 HKEEP
        go_wp2_with fail
        refine (HCALL.out _).mono ?_
        rintro e w2 ⟨rfl, hb2⟩
        have hbx := (hb2.block wr.heap.size (by simp)).trans (HNEW.out _)
        have HB2 := Lib.hid (pure_trans (HBB.out _) hb2)
        have d0 : w2.cell? ⟨wr.heap.size, 0, none⟩ = some (.string x1) := mem_cells hbx 0
        have d1 : w2.cell? ⟨wr.heap.size, 1, none⟩ = some (.string x2) := mem_cells hbx 1
        have d2 : w2.cell? ⟨wr.heap.size, 2, none⟩ = some (.string x3) := mem_cells hbx 2
        have hlt2 : wr.heap.size < w2.heap.size := (Array.getElem?_eq_some_iff.1 hbx).1
        clear hb2 hbx HCALL HNEW HBB c0 c1 c2
        cases t with
        | true =>
          have HD := Lib.hid (HDROP.out w2 HB2.out rfl)
          clear HKEEP HDROP HIJ HII d0 d1 d2
          go_wp2
          go_roundw
          case rel => exact ⟨i, j + 1, by omega, rfl, by go_num, HD⟩
          case measure => simp [intOf]; omega
        | false =>
          have HD := Lib.hid (HKEEP.out w2 HB2.out rfl)
          obtain ⟨y0, y1, y2, e0, e1, e2, z0, z1, z2⟩ := HIJ.out w2 HB2.out
          have hi0 : (0 : Int) ≤ (i : Int) := by omega
          have hi1 : (i : Int) < (xs.length : Int) := by omega
          have hi2 : i < xs.length := by omega
          clear HKEEP HDROP HIJ HII
          go_wp2_with fail
          go_roundw
          case rel => exact ⟨i + 1, j + 1, by omega, by go_num, by go_num, HD⟩
          case measure => simp [intOf]; omega
      · obtain rfl : j = xs.length := by omega
        have hi2 : i < xs.length := hij
        obtain ⟨vs, hcl⟩ := HS.out.clr (c := cap - i)
        have hs1 : ∀ w2, (Instr.slice 23 (.slice (some ⟨g, 0, none⟩) xs.length cap) (some (.int .i64 i)) none none).run Try.prog w2 = .ok (.slice (some ⟨g, i * 3, none⟩) (xs.length - i) (cap - i)) w2 := cut_hi_at (P := Try.prog) (T := 23) Try.underlying23 fctSize (g := g) (cap := cap) hij hlc HM.out
        have hs2 := cut_lo_at (P := Try.prog) (T := 23) Try.underlying23 fctSize (g := g) (cap := cap) (Nat.le_of_lt hij) hlc HM.out (by omega)
        have HEE := Lib.hid (show tFcts.rv ((mem (wr.setCells g (i * 3) vs)).on (B ≤ ·)) [.slice (some ⟨g, 0, none⟩) i cap] (xs.filter fun x => !p x) from HS.out.res HOKA.out hgB hlc HM.out vs)
        have HBE := Lib.hid (show Below B w (wr.setCells g (i * 3) vs) from (HS.out.kp.trans ((keeps_setCells g vs (i * 3) wr).wide (fun k _ e => .inl e))).below hB (fun k e => by rcases e with e | e; omega; omega))
        clear HS
        go_wp2_with fail
        go_ret
        exact ⟨_, rfl, HEE.out, HBE.out⟩
end Go.Proofs.Ytafeaeaildfohaa
/- Without which given facts a fact does not follow: plain; the set as it grows; the closure. -/
namespace Go.Proofs.Ytafeaeaildfohaa
open Go.RowKit Go.Maps

/-- The other facts. -/
def others (l : List Fct) (g : Fct) : List Fct := l.filter fun x => !decide (x = g)
theorem others_mem {l : List Fct} {g x : Fct} (h : x ∈ others l g) : x ∈ l := (List.mem_filter.1 h).1
theorem others_less (l : List Fct) (g : Fct) : lessF l [g] = others l g := by
  unfold lessF others
  congr 1
  funext x
  simp
/-- Whether a fact does not follow of the other facts. -/
def needB (rules : List Rul) (l : List Fct) (f g : Fct) : Bool := match followR rules (others l g) with
  | none => true
  | some M => !decide (f ∈ keysR M)
def codeN (rules : List Rul) (l : List Fct) (f : Fct) : Int := if (validP rules && (validG l && validF f)) = false then 1 else match followR rules l with
  | none => 4
  | some M => if f ∈ keysR M then 0 else 8
def factsN (rules : List Rul) (l : List Fct) (f : Fct) : List Fct := if (validP rules && (validG l && validF f)) = false then [] else match followR rules l with
  | none => []
  | some M => if f ∈ keysR M then srt (l.filter (needB rules l f)) else []
def NeedU (rules : List Rul) (l : List Fct) (f : Fct) (w : World) (e : Ending) (w' : World) : Prop := ∃ v, e = .returned (.tuple #[v, .int .i64 (codeN rules l f)]) ∧ tFcts.rv (mem w') [v] (factsN rules l f) ∧ Below w.heap.size w w'
theorem NeedU.bad {rules : List Rul} {l : List Fct} {f : Fct} {w w' : World} (h : (validP rules && (validG l && validF f)) = false) (hb : Below w.heap.size w w') : NeedU rules l f w (.returned (.tuple #[.slice none 0 0, .int .i64 1])) w' :=
  ⟨_, by unfold codeN; rw [if_pos h], by unfold factsN; rw [if_pos h]; exact slice_nil _ _, hb⟩
theorem NeedU.big {rules : List Rul} {l : List Fct} {f : Fct} {w w' : World} (h : (validP rules && (validG l && validF f)) = true) (hf : followR rules l = none) (hb : Below w.heap.size w w') : NeedU rules l f w (.returned (.tuple #[.slice none 0 0, .int .i64 4])) w' :=
  ⟨_, by unfold codeN; rw [if_neg (by rw [h]; simp), hf], by unfold factsN; rw [if_neg (by rw [h]; simp), hf]; exact slice_nil _ _, hb⟩
theorem NeedU.no {rules : List Rul} {l : List Fct} {f : Fct} {w w' : World} {M : Rnds} (h : (validP rules && (validG l && validF f)) = true) (hf : followR rules l = some M) (hm : f ∉ keysR M) (hb : Below w.heap.size w w') : NeedU rules l f w (.returned (.tuple #[.slice none 0 0, .int .i64 8])) w' :=
  ⟨.slice none 0 0, by unfold codeN; rw [if_neg (by rw [h]; simp), hf]; simp only [if_neg hm], by unfold factsN; rw [if_neg (by rw [h]; simp), hf]; simp only [if_neg hm]; exact slice_nil _ _, hb⟩
theorem NeedU.yes {rules : List Rul} {l : List Fct} {f : Fct} {w w' : World} {M : Rnds} {v : Value} (h : (validP rules && (validG l && validF f)) = true) (hf : followR rules l = some M) (hm : f ∈ keysR M) (hv : tFcts.rv (mem w') [v] (srt (l.filter (needB rules l f)))) (hb : Below w.heap.size w w') : NeedU rules l f w (.returned (.tuple #[v, .int .i64 0])) w' :=
  ⟨v, by unfold codeN; rw [if_neg (by rw [h]; simp), hf]; simp only [if_pos hm], by unfold factsN; rw [if_neg (by rw [h]; simp), hf]; simp only [if_pos hm]; exact hv, hb⟩
theorem start_snoc (l : List Fct) (x : Fct) : startR (l ++ [x]) = addR 0 (startR l) x := by unfold startR; rw [addsR_append]; rfl
theorem filtB_yes {P : Fct → Bool} {l : List Fct} {k : Nat} (h : k < l.length) (e : P l[k] = true) : (l.take (k + 1)).filter P = (l.take k).filter P ++ [l[k]] := filt_take_yes h e
theorem filtB_no {P : Fct → Bool} {l : List Fct} {k : Nat} (h : k < l.length) (e : P l[k] = false) : (l.take (k + 1)).filter P = (l.take k).filter P := filt_take_no h e
/-- The set of the needed facts, as it grows. -/
structure NS (w : World) (fcs : Array Value) (mb : Nat) (nl : List Fct) (wr : World) : Prop where
  bl : Below w.heap.size w wr
  mm : FM wr mb (startR nl).length (lkR (startR nl))
  ok : ∀ x ∈ keysR (startR nl), okF x
  bx : wr.heap[w.heap.size]? = some (.cells fcs 33 (0, 0))
  gm : w.heap.size < mb
theorem NS.lt {w wr : World} {cs : Array Value} {mb : Nat} {nl : List Fct} (h : NS w cs mb nl wr) : mb < wr.heap.size := MapOf.lt h.mm
theorem NS.keeps {w wr w' : World} {cs : Array Value} {mb : Nat} {nl : List Fct} (h : NS w cs mb nl wr) (hk : Below wr.heap.size wr w') : NS w cs mb nl w' := by
  have := h.lt
  have := h.gm
  exact ⟨h.bl.trans (hk.mono (by omega)), h.mm.at (hk.block _ h.lt), h.ok, (hk.block _ (by omega)).trans h.bx, h.gm⟩
theorem NS.put {w wr : World} {cs : Array Value} {mb : Nat} {nl : List Fct} (h : NS w cs mb nl wr) (hl : nl.length ≤ 1000) {x : Fct} (hx : okF x) :
    ∃ W', (Instr.mapUpdate 56 (.map (some mb)) x.v (.int .i64 0)).run Try.prog wr = .ok () W' ∧ NS w cs mb (nl ++ [x]) W' := by
  obtain ⟨w6, hput, hfm, hgr⟩ := FM.put0 h.mm (start_nodup _) h.ok (by have := start_len nl; omega) hx (start_zero _)
  rw [← start_snoc nl x] at hfm
  have hlt := h.lt
  have hgm := h.gm
  refine ⟨w6, hput, Below.grown h.bl hgr (by omega) (fun j hj => by cases hj; omega), hfm, fun y hy => ?_, (hgr.block _ (by omega) (fun e => by injection e with e; omega)).trans h.bx, h.gm⟩
  rw [start_snoc] at hy
  rcases (keys_addR _ _ _ _).1 hy with e | e
  · exact h.ok y e
  · rw [e]; exact hx
set_option maxRecDepth 100000 in
set_option maxHeartbeats 2000000 in
theorem need1_any (x y : Fct) (bk : Nat) (w : World) (h0 : w.cell? ⟨bk, 0, none⟩ = some (.string y.n)) (h1 : w.cell? ⟨bk, 1, none⟩ = some (.string y.a)) (h2 : w.cell? ⟨bk, 2, none⟩ = some (.string y.b)) :
    Calls Try.prog 50 #[x.v, ptr0 bk] w fun e w' => e = .returned (.bool (decide (x = y))) ∧ Below w.heap.size w w' := by
  have HB0 := Lib.hid (boxW w)
  have HE := Lib.hid (fct_eqB x y)
  obtain ⟨x1, x2, x3⟩ := x
  obtain ⟨y1, y2, y3⟩ := y
  have n0 : ∀ o, (w.alloc o).cell? ⟨bk, 0, none⟩ = some (.string y1) := fun o => below_mem (HB0.out o) _ _ _ h0
  have n1 : ∀ o, (w.alloc o).cell? ⟨bk, 1, none⟩ = some (.string y2) := fun o => below_mem (HB0.out o) _ _ _ h1
  have n2 : ∀ o, (w.alloc o).cell? ⟨bk, 2, none⟩ = some (.string y3) := fun o => below_mem (HB0.out o) _ _ _ h2
  clear h0 h1 h2
  cases g1 : (x1.toList == y1.toList) <;> cases g2 : (x2.toList == y2.toList) <;> cases g3 : (x3.toList == y3.toList)
  all_goals
    have HQ := Lib.hid (HE.out.trans (by rw [g1, g2, g3]))
    clear HE
    go_enter Try.func50, Try.ntmps50
    go_wp2
    go_ret
    exact ⟨by rw [HQ.out]; rfl, HB0.out _⟩
end Go.Proofs.Ytafeaeaildfohaa
/- ring.Needed. -/
namespace Go.Proofs.Ytafeaeaildfohaa
open Go.RowKit Go.Maps

set_option maxRecDepth 100000 in
set_option maxHeartbeats 8000000 in
theorem ringNeeded_any (rules : List Rul) (l : List Fct) (f : Fct) (rv fv : Value) (w : World) (hr : tRuls.rv (mem w) [rv] rules) (hf : tFcts.rv (mem w) [fv] l) (hok : okF f) :
    Calls Try.prog 21 #[rv, fv, f.v] w (NeedU rules l f w) := by
  have HP := Lib.hid (fun w' (hb : Below w.heap.size w w') => ringProgram_any rules rv w' (tRuls.mono _ _ _ _ (below_mem hb) hr))
  have HG := Lib.hid (fun w' (hb : Below w.heap.size w w') => ringGiven_any l fv w' (tFcts.mono _ _ _ _ (below_mem hb) hf))
  have HV := Lib.hid (fun w' => ringFact_any f w' hok)
  have HF := Lib.hid (fun w' (hb : Below w.heap.size w w') (h1 : validP rules = true) (h2 : validG l = true) => follow_any rules l rv fv w' (tRuls.mono _ _ _ _ (below_mem hb) hr) (tFcts.mono _ _ _ _ (below_mem hb) hf) (by have := validG_len h2; omega) (validP_body h1))
  have HFO := Lib.hid (fun (rest : List Fct) (sv : Value) w' (hb : Below w.heap.size w w') (h1 : validP rules = true) (h2 : rest.length ≤ 60) (hs : tFcts.rv (mem w') [sv] rest) => follow_any rules rest rv sv w' (tRuls.mono _ _ _ _ (below_mem hb) hr) hs (by omega) (validP_body h1))
  have HCL := Lib.hid (fun w' (hb : Below w.heap.size w w') (h : l.length ≤ 60) => cloneFcts_any l fv w' (tFcts.mono _ _ _ _ (below_mem hb) hf) (by omega))
  obtain ⟨ar, cr, rfl, -⟩ := slice_form hr
  obtain ⟨af, cf, rfl, hlf, hmf, -⟩ := slice_form hf
  have hcf : cf ≤ 9223372036854775807 := by unfold maxLen at hmf; exact hmf
  have HL := Lib.hid (fun wr (hb : Below w.heap.size w wr) => tFcts.mono _ _ _ _ (below_mem hb) hf)
  have HOK := Lib.hid hok
  obtain ⟨fcs, hfcs⟩ : ∃ fcs : Array Value, fcs = #[.string f.n, .string f.a, .string f.b] := ⟨_, rfl⟩
  have HFC := Lib.hid hfcs
  obtain ⟨X, hX⟩ : ∃ X, X = w.alloc (.cells fcs 33) := ⟨_, rfl⟩
  have HX := Lib.hid hX
  have HBX := Lib.hid (show Below w.heap.size w X from by rw [hX]; exact boxW w _)
  have HCX := Lib.hid (show X.heap[w.heap.size]? = some (.cells fcs 33 (0, 0)) from by rw [hX]; exact heap_alloc_new w _)
  have HCB := Lib.hid (fun (w' : World) (hb : Below X.heap.size X w') => (show w'.cell? ⟨w.heap.size, 0, none⟩ = some (.string f.n) ∧ w'.cell? ⟨w.heap.size, 1, none⟩ = some (.string f.a) ∧ w'.cell? ⟨w.heap.size, 2, none⟩ = some (.string f.b) from by
    have hb2 := (hb.block _ (Array.getElem?_eq_some_iff.1 HCX.out).1).trans HCX.out
    rw [HFC.out] at hb2
    exact ⟨mem_cells hb2 0, mem_cells hb2 1, mem_cells hb2 2⟩))
  rw [hfcs] at hX
  have HX2 := Lib.hid hX
  have hXs : w.heap.size < X.heap.size := (Array.getElem?_eq_some_iff.1 HCX.out).1
  clear hr hf hok hmf hfcs hX
  go_enter Try.func21, Try.ntmps21
  go_wp2_with fail
  rw [← HX2.out]
  refine (HP.out X HBX.out).mono ?_
  rintro e w1 ⟨rfl, hb1⟩
  cases hp : validP rules with
  | false =>
    have HE := Lib.hid (NeedU.bad (rules := rules) (l := l) (f := f) (by rw [hp]; rfl) (pure_trans HBX.out hb1))
    clear HP HG HF HV HFO HCL hp
    go_wp2
    go_ret2
    exact HE.out
  | true =>
  go_wp2_with fail
  refine (HG.out w1 (pure_trans HBX.out hb1)).mono ?_
  rintro e w2 ⟨rfl, hb2⟩
  have hb2 := pure_trans hb1 hb2
  cases hg : validG l with
  | false =>
    have HE := Lib.hid (NeedU.bad (rules := rules) (l := l) (f := f) (by rw [hp, hg]; rfl) (pure_trans HBX.out hb2))
    clear HP HG HF HV HFO HCL hp
    go_wp2
    go_ret2
    exact HE.out
  | true =>
  obtain ⟨c0, c1, c2⟩ := HCB.out w2 hb2
  go_wp2_with fail
  refine (HV.out w2).mono ?_
  rintro e w3 ⟨rfl, hb3⟩
  have hb3 := pure_trans hb2 hb3
  cases hv : validF f with
  | false =>
    have HE := Lib.hid (NeedU.bad (rules := rules) (l := l) (f := f) (by rw [hp, hg, hv]; rfl) (pure_trans HBX.out hb3))
    clear HP HG HF HV HFO HCL hp c0 c1 c2
    go_wp2
    go_ret2
    exact HE.out
  | true =>
  clear c0 c1 c2
  go_wp2_with fail
  refine (HF.out w3 (pure_trans HBX.out hb3) hp hg).mono ?_
  rintro e w4 ⟨hb4, h⟩
  have HB4 := Lib.hid (pure_trans hb3 hb4)
  have HVV := Lib.hid (show (validP rules && (validG l && validF f)) = true by rw [hp, hg, hv]; rfl)
  have HPP := Lib.hid hp
  have HLL := Lib.hid (validG_len hg)
  clear hb1 hb2 hb3 hb4 HP HG HF HV hp hg hv
  rcases h with ⟨h0, rfl⟩ | ⟨M, mb, h0, rfl, h1, h2, h3, h4⟩
  · have HE := Lib.hid (NeedU.big HVV.out h0 (pure_trans HBX.out HB4.out))
    clear h0 HFO HCL
    go_wp2
    go_ret2
    exact HE.out
  · have HM := Lib.hid h0
    obtain ⟨c0, c1, c2⟩ := HCB.out w4 HB4.out
    have hlk : (Instr.lookup 56 (.map (some mb)) (.agg #[.string f.n, .string f.a, .string f.b]) true).run Try.prog w4 = .ok (.tuple #[.int .i64 (intOr (lkR M f)), .bool (lkR M f).isSome]) w4 := h2.lookOk HOK.out
    have HIS := Lib.hid (lkR_some (M := M) (f := f))
    clear h0 h1 h2 h3 h4
    generalize intOr (lkR M f) = q at *
    cases hs : (lkR M f).isSome with
    | false =>
      rw [hs] at hlk
      have HE := Lib.hid (NeedU.no HVV.out HM.out (fun h => by have := HIS.out.2 h; rw [hs] at this; cases this) (pure_trans HBX.out HB4.out))
      clear HFO HCL hs
      go_wp2
      go_ret2
      exact HE.out
    | true =>
      rw [hs] at hlk
      have HKM := Lib.hid (HIS.out.1 hs)
      have HS0 := Lib.hid (show NS w fcs w4.heap.size [] (w4.alloc (.map #[] 0)) from
        ⟨(pure_trans HBX.out HB4.out).alloc (pure_trans HBX.out HB4.out).size _, MapOf.made w4, by simp [startR, addsR, keysR], (Below.heap_alloc _ _ _ (by have := HB4.out.size; omega)).trans ((HB4.out.block _ hXs).trans HCX.out), by have := HB4.out.size; omega⟩)
      have hmm := @run_makeMap Try.prog
      clear hs HIS HCB
      go_wp2_with fail
      generalize w4.heap.size = sb at *
      clear HB4 hlk c0 c1 c2 HBX HX HX2 HCX hmm
      go_loopw [53] (fun i wr => ∃ k : Nat, k ≤ l.length ∧ i = .int .i64 k ∧ Hid (NS w fcs sb ((l.take k).filter (needB rules l f)) wr)) (fun i _ => l.length - (intOf i).toNat)
      case atStart => exact ⟨0, by omega, rfl, HS0⟩
      case round =>
        clear HS0
        obtain ⟨k, hk, rfl, HI⟩ := hrel
        by_cases hlt : k < l.length
        · obtain ⟨b, o, rfl, ⟨q0, q1, q2⟩, hoky⟩ := fcts_at (HL.out _ HI.out.bl) hlt
          have c0 : wr.cell? ⟨b, o + k * 3, none⟩ = some (.string l[k].n) := q0
          have c1 : wr.cell? ⟨b, o + k * 3 + 1, none⟩ = some (.string l[k].a) := q1
          have c2 : wr.cell? ⟨b, o + k * 3 + 2, none⟩ = some (.string l[k].b) := q2
          have HYES := Lib.hid (fun (e : needB rules l f l[k] = true) => filtB_yes (P := needB rules l f) hlt e)
          have HNO := Lib.hid (fun (e : needB rules l f l[k] = false) => filtB_no (P := needB rules l f) hlt e)
          have HOKY := Lib.hid hoky
          have HNL := Lib.hid (show ((l.take k).filter (needB rules l f)).length ≤ 60 from by
            refine Nat.le_trans (List.length_filter_le _ _) ?_
            rw [List.length_take]
            have := HLL.out
            omega)
          clear q0 q1 q2 hoky
          generalize l[k] = y at *
          generalize (l.take k).filter (needB rules l f) = nl at *
          obtain ⟨y1, y2, y3⟩ := y
          simp only at c0 c1 c2
          obtain ⟨Y, hY⟩ : ∃ Y, Y = wr.alloc (.cells #[.string y1, .string y2, .string y3] 33) := ⟨_, rfl⟩
          have hbY : Below wr.heap.size wr Y := by rw [hY]; exact boxW wr _
          have hcY : Y.heap[wr.heap.size]? = some (.cells #[.string y1, .string y2, .string y3] 33 (0, 0)) := by rw [hY]; exact heap_alloc_new wr _
          have HY := Lib.hid hY
          have HBY := Lib.hid hbY
          have HCY := Lib.hid hcY
          have HIY := Lib.hid (HI.out.keeps hbY)
          have HCC := Lib.hid (HCL.out Y HIY.out.bl HLL.out)
          clear hY hbY hcY
          go_wp2_with fail
          rw [← HY.out]
          refine HCC.out.mono ?_
          rintro e w5 ⟨v5, rfl, hown5, hb5⟩
          have HB5 := Lib.hid hb5
          have HDEL := Lib.hid (deleteFct_any 50 #[ptr0 wr.heap.size] (fun x => decide (x = ⟨y1, y2, y3⟩)) l v5 Y.heap.size w5 hown5 hb5.size (by have := HLL.out; omega) (fun _ _ => rfl) (fun x _ W hk => by
            have hlt5 := hown5.lt
            have hyl : wr.heap.size < Y.heap.size := (Array.getElem?_eq_some_iff.1 HCY.out).1
            have hcw : W.heap[wr.heap.size]? = some (.cells #[.string y1, .string y2, .string y3] 33 (0, 0)) := (hk.block wr.heap.size (Nat.lt_of_lt_of_le hyl hb5.size) (by
              rintro (h | h)
              · have := (hlt5 _ h).1; omega
              · have := hb5.size; omega)).trans ((hb5.block _ hyl).trans HCY.out)
            exact need1_any x ⟨y1, y2, y3⟩ wr.heap.size W (mem_cells hcw 0) (mem_cells hcw 1) (mem_cells hcw 2)))
          obtain ⟨a5, c5, rfl, -⟩ := hown5.len
          clear hown5 hb5 HCC c0 c1 c2
          go_wp2_with fail
          refine HDEL.out.mono ?_
          rintro e w6 ⟨v6, rfl, hv6, hb6⟩
          have HOT := Lib.hid (show l.filter (fun x => !(fun x => decide (x = (⟨y1, y2, y3⟩ : Fct))) x) = others l ⟨y1, y2, y3⟩ from rfl)
          rw [HOT.out] at hv6
          have HB6 := Lib.hid (HB5.out.trans hb6)
          have HI6 := Lib.hid (HIY.out.keeps HB6.out)
          have hol : (others l ⟨y1, y2, y3⟩).length ≤ 60 := Nat.le_trans (List.length_filter_le _ _) HLL.out
          have HFF := Lib.hid (HFO.out (others l ⟨y1, y2, y3⟩) v6 w6 HI6.out.bl HPP.out hol (tFcts.mono _ _ _ _ (Mem.on_le _ _) hv6))
          obtain ⟨M2, hM2, -⟩ := follow_sub HM.out (m := others l ⟨y1, y2, y3⟩) (fun x hx => others_mem hx)
          have HM2 := Lib.hid hM2
          obtain ⟨a6, c6, rfl, -⟩ := slice_form hv6
          clear hv6 hb6 hol HDEL HB5 HIY hM2 HOT
          go_wp2_with fail
          refine HFF.out.mono ?_
          rintro e w7 ⟨hb7, h⟩
          rcases h with ⟨h0, -⟩ | ⟨M3, mb3, h0, rfl, h1, h2, h3, h4⟩
          · rw [HM2.out] at h0; cases h0
          · obtain rfl : M2 = M3 := by rw [HM2.out] at h0; cases h0; rfl
            have HI7 := Lib.hid (HI6.out.keeps hb7)
            have hyl : wr.heap.size < Y.heap.size := (Array.getElem?_eq_some_iff.1 HCY.out).1
            have hcy7 : w7.heap[wr.heap.size]? = some (.cells #[.string y1, .string y2, .string y3] 33 (0, 0)) := (hb7.block _ (Nat.lt_of_lt_of_le hyl HB6.out.size)).trans ((HB6.out.block _ hyl).trans HCY.out)
            have d0 : w7.cell? ⟨wr.heap.size, 0, none⟩ = some (.string y1) := mem_cells hcy7 0
            have d1 : w7.cell? ⟨wr.heap.size, 1, none⟩ = some (.string y2) := mem_cells hcy7 1
            have d2 : w7.cell? ⟨wr.heap.size, 2, none⟩ = some (.string y3) := mem_cells hcy7 2
            have hbf := HI7.out.bx
            rw [HFC.out] at hbf
            have f0 : w7.cell? ⟨w.heap.size, 0, none⟩ = some (.string f.n) := mem_cells hbf 0
            have f1 : w7.cell? ⟨w.heap.size, 1, none⟩ = some (.string f.a) := mem_cells hbf 1
            have f2 : w7.cell? ⟨w.heap.size, 2, none⟩ = some (.string f.b) := mem_cells hbf 2
            have hlk : (Instr.lookup 56 (.map (some mb3)) (.agg #[.string f.n, .string f.a, .string f.b]) true).run Try.prog w7 = .ok (.tuple #[.int .i64 (intOr (lkR M2 f)), .bool (lkR M2 f).isSome]) w7 := h2.lookOk HOK.out
            have HND := Lib.hid (show needB rules l f ⟨y1, y2, y3⟩ = !(lkR M2 f).isSome from by
              unfold needB
              rw [HM2.out]
              show (!decide (f ∈ keysR M2)) = _
              congr 1
              rw [← Bool.coe_iff_coe, decide_eq_true_iff]
              exact (lkR_some).symm)
            clear h0 h1 h2 h3 h4 hb7 hyl hcy7 hbf HFF HB6 HI6
            generalize intOr (lkR M2 f) = q2 at *
            generalize (lkR M2 f).isSome = t at *
            cases t with
            | true =>
              have HX3 := Lib.hid (HNO.out (by rw [HND.out]; rfl))
              clear HYES HNO HND
              go_wp2_with fail
              go_roundw
              case rel => exact ⟨k + 1, by omega, by go_num, by rw [HX3.out]; exact HI7⟩
              case measure => simp [intOf]; omega
            | false =>
              have HX3 := Lib.hid (HYES.out (by rw [HND.out]; rfl))
              obtain ⟨w8, hput, hns⟩ := HI7.out.put (by have := HNL.out; omega) HOKY.out
              have HN8 := Lib.hid hns
              clear HYES HNO HND hns HI7
              go_wp2_with fail
              go_roundw
              case rel => exact ⟨k + 1, by omega, by go_num, by rw [HX3.out]; exact HN8⟩
              case measure => simp [intOf]; omega
        · obtain rfl : k = l.length := by omega
          have HI2 := Lib.hid (show NS w fcs sb (l.filter (needB rules l f)) wr by have := HI.out; rwa [List.take_length] at this)
          have HS := Lib.hid (ringSorted_any sb (startR (l.filter (needB rules l f))).length (lkR (startR (l.filter (needB rules l f)))) wr HI2.out.mm (by have := start_len (l.filter (needB rules l f)); have := List.length_filter_le (needB rules l f) l; have := HLL.out; omega))
          clear HI
          go_wp2_with fail
          refine HS.out.mono ?_
          rintro e w5 ⟨v5, ss, rfl, k1, -, -, k4, hb5⟩
          obtain rfl : srt (l.filter (needB rules l f)) = ss := (srt_start _).symm.trans (srt_eq k1.up (fun x => (k1.mem x).trans lkR_some))
          have HE := Lib.hid (NeedU.yes HVV.out HM.out HKM.out (tFcts.mono _ _ _ _ (Mem.on_le _ _) k4) (pure_trans HI2.out.bl hb5))
          obtain ⟨a5, c5, rfl, -⟩ := slice_form k4
          clear k1 k4 hb5 HS HI2
          go_wp2
          go_ret2
          exact HE.out
end Go.Proofs.Ytafeaeaildfohaa
/- The reference's Needed, Gives. -/
namespace Go.Proofs.Ytafeaeaildfohaa
open Go.RowKit Go.Maps

theorem cut_one {P : Program} {T e : TypeId} {sz : Nat} (hT : P.underlying T = some (.slice e)) (hs : (P.info? e).map (·.size) = some sz) {b o len cap k : Nat} (hk : k < len) (hlc : len ≤ cap) (hm : cap ≤ maxLen) :
    ∀ w2, (Instr.slice T (.slice (some ⟨b, o, none⟩) len cap) (some (.int .i64 k)) (some (.int .i64 (k + 1))) none).run P w2 = .ok (.slice (some ⟨b, o + k * sz, none⟩) 1 (cap - k)) w2 := fun w2 => by
  have he : P.elem T = e := by simp [Program.elem, hT]
  unfold maxLen at hm
  rw [run_slice_lh w2 T _ len cap (by rw [he]; exact hT) .i64 .i64 k (k + 1) (by omega) (by omega) (by omega), he, size_run hs]
  simp only [Result.andThen_ok, sliced, Int.toNat_natCast]
  have hc : cap ≠ k := by omega
  have h1 : ((k : Int) + 1).toNat - k = 1 := by omega
  simp [hc, Addr.add, h1]
theorem one_rv {m : Mem} {b o len cap : Nat} {xs : List Fct} {k : Nat} (h : tFcts.rv m [.slice (some ⟨b, o, none⟩) len cap] xs) (hk : k < xs.length) (hlc : len ≤ cap) (hm : cap ≤ maxLen) (hl : len = xs.length) : tFcts.rv m [.slice (some ⟨b, o + k * 3, none⟩) 1 (cap - k)] [xs[k]] := by
  obtain ⟨b', o', e, ⟨q0, q1, q2⟩, hok⟩ := fcts_at h hk
  injection e with e
  injection e with e1 e2
  subst e1; subst e2
  refine ⟨some ⟨b, o + k * 3, none⟩, cap - k, rfl, by show 1 ≤ _; omega, by unfold maxLen at *; omega, fun _ => ⟨b, o + k * 3, rfl, fun j hj => ?_⟩⟩
  have : j = 0 := by simp at hj; omega
  subst this
  refine ⟨[.string xs[k].n, .string xs[k].a, .string xs[k].b], fun i u hi => ?_, rfl, hok⟩
  match i, hi with
  | 0, hi => simp at hi; subst hi; simpa using q0
  | 1, hi => simp at hi; subst hi; simpa using q1
  | 2, hi => simp at hi; subst hi; simpa using q2
set_option maxRecDepth 100000 in
set_option maxHeartbeats 8000000 in
theorem refNeeded_any (rules : List Rul) (l : List Fct) (f : Fct) (rv fv : Value) (w : World) (hr : tRuls.rv (mem w) [rv] rules) (hf : tFcts.rv (mem w) [fv] l) (hok : okF f) :
    Calls Try.prog 22 #[rv, fv, f.v] w (NeedU rules l f w) := by
  have HP := Lib.hid (fun w' (hb : Below w.heap.size w w') => refProgram_any rules rv w' (tRuls.mono _ _ _ _ (below_mem hb) hr))
  have HG := Lib.hid (fun w' (hb : Below w.heap.size w w') => refFacts_any l fv w' (tFcts.mono _ _ _ _ (below_mem hb) hf))
  have HV := Lib.hid (fun w' => refFact_any f w' hok)
  have HF := Lib.hid (fun (rest : List Fct) (sv : Value) w' (hb : Below w.heap.size w w') (h1 : validP rules = true) (h2 : rest.length ≤ 60) (hs : tFcts.rv (mem w') [sv] rest) => refAll_any rules rest rv sv w' (tRuls.mono _ _ _ _ (below_mem hb) hr) hs (validP_bd h1) (validP_len h1) (by omega))
  obtain ⟨ar, cr, rfl, -⟩ := slice_form hr
  obtain ⟨af, cf, rfl, hlf, hmf, hf⟩ := slice_form hf
  have hcf : cf ≤ 9223372036854775807 := by unfold maxLen at hmf; exact hmf
  have HL := Lib.hid (fun wr (hb : Below w.heap.size w wr) => tFcts.mono _ _ _ _ (below_mem hb) hf)
  have HOK := Lib.hid hok
  have HMF := Lib.hid hmf
  obtain ⟨fcs, hfcs⟩ : ∃ fcs : Array Value, fcs = #[.string f.n, .string f.a, .string f.b] := ⟨_, rfl⟩
  have HFC := Lib.hid hfcs
  obtain ⟨X, hX⟩ : ∃ X, X = w.alloc (.cells fcs 33) := ⟨_, rfl⟩
  have HBX := Lib.hid (show Below w.heap.size w X from by rw [hX]; exact boxW w _)
  have HCX := Lib.hid (show X.heap[w.heap.size]? = some (.cells fcs 33 (0, 0)) from by rw [hX]; exact heap_alloc_new w _)
  have HCB := Lib.hid (fun (w' : World) (hb : Below X.heap.size X w') => (show w'.cell? ⟨w.heap.size, 0, none⟩ = some (.string f.n) ∧ w'.cell? ⟨w.heap.size, 1, none⟩ = some (.string f.a) ∧ w'.cell? ⟨w.heap.size, 2, none⟩ = some (.string f.b) from by
    have hb2 := (hb.block _ (Array.getElem?_eq_some_iff.1 HCX.out).1).trans HCX.out
    rw [HFC.out] at hb2
    exact ⟨mem_cells hb2 0, mem_cells hb2 1, mem_cells hb2 2⟩))
  rw [hfcs] at hX
  have HX2 := Lib.hid hX
  have HIN := Lib.hid (fun (ms : List Fct) (mv : Value) w' (hm : tFcts.rv (mem w') [mv] ms) => (show Calls Try.prog 18 #[mv, .agg #[.string f.n, .string f.a, .string f.b]] w' fun e w2 => e = .returned (.bool (decide (f ∈ ms))) ∧ Below w'.heap.size w' w2 from refIn_any ms f mv w' hm))
  clear hr hf hok hmf hfcs hX
  go_enter Try.func22, Try.ntmps22
  go_wp2_with fail
  rw [← HX2.out]
  refine (HP.out X HBX.out).mono ?_
  rintro e w1 ⟨rfl, hb1⟩
  cases hp : validP rules with
  | false =>
    have HE := Lib.hid (NeedU.bad (rules := rules) (l := l) (f := f) (by rw [hp]; rfl) (pure_trans HBX.out hb1))
    clear HP HG HF HV HIN hp
    go_wp2
    go_ret2
    exact HE.out
  | true =>
  go_wp2_with fail
  refine (HG.out w1 (pure_trans HBX.out hb1)).mono ?_
  rintro e w2 ⟨rfl, hb2⟩
  have hb2 := pure_trans hb1 hb2
  cases hg : validG l with
  | false =>
    have HE := Lib.hid (NeedU.bad (rules := rules) (l := l) (f := f) (by rw [hp, hg]; rfl) (pure_trans HBX.out hb2))
    clear HP HG HF HV HIN hp
    go_wp2
    go_ret2
    exact HE.out
  | true =>
  obtain ⟨c0, c1, c2⟩ := HCB.out w2 hb2
  go_wp2_with fail
  refine (HV.out w2).mono ?_
  rintro e w3 ⟨rfl, hb3⟩
  have hb3 := pure_trans hb2 hb3
  cases hv : validF f with
  | false =>
    have HE := Lib.hid (NeedU.bad (rules := rules) (l := l) (f := f) (by rw [hp, hg, hv]; rfl) (pure_trans HBX.out hb3))
    clear HP HG HF HV HIN hp c0 c1 c2
    go_wp2
    go_ret2
    exact HE.out
  | true =>
  clear c0 c1 c2
  have HLL := Lib.hid (validG_len hg)
  go_wp2_with fail
  refine (HF.out l _ w3 (pure_trans HBX.out hb3) hp HLL.out (HL.out w3 (pure_trans HBX.out hb3))).mono ?_
  rintro e w4 ⟨M, v4, hM, rfl, hv4, hb4⟩
  have HB4 := Lib.hid (pure_trans hb3 hb4)
  have HVV := Lib.hid (show (validP rules && (validG l && validF f)) = true by rw [hp, hg, hv]; rfl)
  have HPP := Lib.hid hp
  have HM0 := Lib.hid hM
  have HIK := Lib.hid (HIN.out (srt (keysR M)) v4 w4 hv4)
  obtain ⟨a4, c4, rfl, -⟩ := slice_form hv4
  clear hb1 hb2 hb3 hb4 HP HG HV hp hg hv hM hv4
  by_cases h400 : M.length ≤ 400
  · have HM := Lib.hid (HM0.out.trans (if_pos h400))
    rw [decide_eq_true (show (M.length : Int) ≤ 400 by omega)]
    obtain ⟨c0, c1, c2⟩ := HCB.out w4 HB4.out
    have HMM := Lib.hid (show decide (f ∈ srt (keysR M)) = decide (f ∈ keysR M) from decide_eq_decide.2 (srt_mem _ _))
    clear h400 HM0
    go_wp2_with fail
    refine HIK.out.mono ?_
    rintro e w5 ⟨rfl, hb5⟩
    rw [HMM.out]
    have HB5 := Lib.hid (pure_trans HB4.out hb5)
    clear hb5 HIK HB4 c0 c1 c2
    by_cases hin : f ∈ keysR M
    · rw [decide_eq_true hin]
      have HKM := Lib.hid hin
      have HBS := Lib.hid (pure_trans HBX.out HB5.out)
      clear hin
      go_wp2_with fail
      go_loopw [10, 11] (fun ov i wr => ∃ k : Nat, k ≤ l.length ∧ i = .int .i64 k ∧ Hid (tFcts.rv ((mem wr).on (w.heap.size ≤ ·)) [ov] (srt ((l.take k).filter (needB rules l f)))) ∧ Hid (Below X.heap.size X wr)) (fun _ i _ => l.length - (intOf i).toNat)
      case atStart => exact ⟨0, by omega, rfl, Lib.hid (slice_nil _ _), HB5⟩
      case round =>
        obtain ⟨k, hk, rfl, HO, HB⟩ := hrel
        by_cases hlt : k < l.length
        · have HBW := Lib.hid (pure_trans HBX.out HB.out)
          have hlv := HL.out wr HBW.out
          obtain ⟨b, o, rfl, ⟨q0, q1, q2⟩, hoky⟩ := fcts_at hlv hlt
          have c0 : wr.cell? ⟨b, o + k * 3, none⟩ = some (.string l[k].n) := q0
          have c1 : wr.cell? ⟨b, o + k * 3 + 1, none⟩ = some (.string l[k].a) := q1
          have c2 : wr.cell? ⟨b, o + k * 3 + 2, none⟩ = some (.string l[k].b) := q2
          have HYES := Lib.hid (fun (e : needB rules l f l[k] = true) => filtB_yes (P := needB rules l f) hlt e)
          have HNO := Lib.hid (fun (e : needB rules l f l[k] = false) => filtB_no (P := needB rules l f) hlt e)
          have HOKY := Lib.hid hoky
          have hcut := cut_one (P := Try.prog) (T := 23) Try.underlying23 fctSize (b := b) (o := o) hlt hlf HMF.out
          have hcut2 : ∀ w2, (Instr.slice 23 (.slice (some ⟨b, o, none⟩) l.length cf) (some (.int .i64 k)) (some (.int .i64 (k + 1))) none).run Try.prog w2 = .ok (.slice (some ⟨b, o + k * 3, none⟩) 1 (cf - k)) w2 := hcut
          have HLS := Lib.hid (refLess_any l [l[k]] _ _ wr hlv (one_rv hlv hlt hlf HMF.out rfl) (by have := HLL.out; omega))
          have HNL := Lib.hid (show (srt ((l.take k).filter (needB rules l f))).length ≤ 60 from by
            refine Nat.le_trans (srt_len_le _) ?_
            refine Nat.le_trans (List.length_filter_le _ _) ?_
            rw [List.length_take]
            have := HLL.out
            omega)
          clear q0 q1 q2 hoky hcut hlv
          generalize l[k] = y at *
          have HSN := Lib.hid (srt_snoc ((l.take k).filter (needB rules l f)) y)
          have HSA := Lib.hid (srt_asc ((l.take k).filter (needB rules l f)))
          generalize (l.take k).filter (needB rules l f) = nl at *
          obtain ⟨y1, y2, y3⟩ := y
          simp only at c0 c1 c2
          go_wp2_with fail
          refine HLS.out.mono ?_
          rintro e w6 ⟨v6, rfl, hv6, hb6⟩
          rw [others_less] at hv6
          have HB6 := Lib.hid (pure_trans HB.out hb6)
          have hol : (others l ⟨y1, y2, y3⟩).length ≤ 60 := Nat.le_trans (List.length_filter_le _ _) HLL.out
          have HFF := Lib.hid (HF.out (others l ⟨y1, y2, y3⟩) v6 w6 (pure_trans HBX.out HB6.out) HPP.out hol hv6.rv')
          obtain ⟨M2, hM2, -⟩ := follow_sub HM.out (m := others l ⟨y1, y2, y3⟩) (fun x hx => others_mem hx)
          have HM2 := Lib.hid hM2
          obtain ⟨a6, c6, rfl, -⟩ := hv6.len
          have HO6 := Lib.hid (tFcts.mono _ _ _ _ (below_onSS hb6 _) HO.out)
          replace c0 := below_mem hb6 _ _ _ c0
          replace c1 := below_mem hb6 _ _ _ c1
          replace c2 := below_mem hb6 _ _ _ c2
          clear hv6 hb6 hol HLS hM2 HO HB hcut2
          go_wp2_with fail
          refine HFF.out.mono ?_
          rintro e w7 ⟨M3, v7, hM3, rfl, hv7, hb7⟩
          have hle3 : M3.length ≤ 400 := by
            by_cases h : M3.length ≤ 400
            · exact h
            · rw [if_neg h, HM2.out] at hM3; cases hM3
          obtain rfl : M2 = M3 := by rw [if_pos hle3, HM2.out] at hM3; cases hM3; rfl
          have HIK := Lib.hid (HIN.out (srt (keysR M2)) v7 w7 hv7)
          have HB7 := Lib.hid (pure_trans HB6.out hb7)
          have HO7 := Lib.hid (tFcts.mono _ _ _ _ (below_onSS hb7 _) HO6.out)
          obtain ⟨a7, c7, rfl, -⟩ := slice_form hv7
          obtain ⟨f0, f1, f2⟩ := HCB.out w7 HB7.out
          have HND := Lib.hid (show needB rules l f ⟨y1, y2, y3⟩ = !decide (f ∈ srt (keysR M2)) from by
            unfold needB
            rw [HM2.out]
            show (!decide (f ∈ keysR M2)) = _
            congr 1
            exact decide_eq_decide.2 (srt_mem _ _).symm)
          replace c0 := below_mem hb7 _ _ _ c0
          replace c1 := below_mem hb7 _ _ _ c1
          replace c2 := below_mem hb7 _ _ _ c2
          clear hM3 hv7 hb7 HFF HB6 HO6
          generalize decide (M2.length ≤ 400) = dd at *
          generalize decide ((M2.length : Int) ≤ 400) = dd2 at *
          clear hle3
          go_wp2_with fail
          refine HIK.out.mono ?_
          rintro e w8 ⟨rfl, hb8⟩
          have HB8 := Lib.hid (pure_trans HB7.out hb8)
          have HO8 := Lib.hid (tFcts.mono _ _ _ _ (below_onSS hb8 _) HO7.out)
          have d0 : w8.cell? ⟨b, o + k * 3, none⟩ = some (.string y1) := below_mem hb8 _ _ _ c0
          have d1 : w8.cell? ⟨b, o + k * 3 + 1, none⟩ = some (.string y2) := below_mem hb8 _ _ _ c1
          have d2 : w8.cell? ⟨b, o + k * 3 + 2, none⟩ = some (.string y3) := below_mem hb8 _ _ _ c2
          clear hb8 HIK HB7 HO7 f0 f1 f2 c0 c1 c2
          generalize decide (f ∈ srt (keysR M2)) = t at *
          cases t with
          | true =>
            have HX3 := Lib.hid (HNO.out (by rw [HND.out]; rfl))
            clear HYES HNO HND
            go_wp2_with fail
            go_roundw
            case rel => exact ⟨k + 1, by omega, by go_num, by rw [HX3.out]; exact HO8, HB8⟩
            case measure => simp [intOf]; omega
          | false =>
            have HX3 := Lib.hid (HYES.out (by rw [HND.out]; rfl))
            have HTT := Lib.hid (show srt (nl ++ [(⟨y1, y2, y3⟩ : Fct)]) = putS (srt nl) ⟨y1, y2, y3⟩ from HSN.out)
            clear HSN
            generalize srt nl = s at *
            obtain ⟨a8, c8, rfl, -⟩ := slice_form HO8.out
            have HPUT := Lib.hid (refPut_any (w.heap.size ≤ ·) s ⟨y1, y2, y3⟩ _ w8 HO8.out HOKY.out HSA.out (by have := HNL.out; omega))
            clear HYES HNO HND
            go_wp2_with fail
            refine HPUT.out.mono ?_
            rintro e w9 ⟨v9, rfl, hv9, hb9⟩
            have HV9 := Lib.hid (tFcts.mono _ _ _ _ (Mem.on_mono _ (fun q (h : w.heap.size ≤ q ∨ w8.heap.size ≤ q) => by
              have h1 := (pure_trans HBX.out HB8.out).size
              rcases h with h | h
              · exact h
              · show w.heap.size ≤ q
                omega)) hv9)
            have HB9 := Lib.hid (pure_trans HB8.out hb9)
            obtain ⟨a9, c9, rfl, -⟩ := slice_form hv9
            clear hv9 hb9 HPUT HO8 HB8
            go_wp2
            go_roundw
            case rel => exact ⟨k + 1, by omega, by go_num, by rw [HX3.out, HTT.out]; exact HV9, HB9⟩
            case measure => simp [intOf]; omega
        · obtain rfl : k = l.length := by omega
          rw [List.take_length] at HO
          have HE := Lib.hid (NeedU.yes (v := u10) HVV.out HM.out HKM.out (tFcts.mono _ _ _ _ (Mem.on_le _ _) HO.out) (pure_trans HBX.out HB.out))
          obtain ⟨a9, c9, rfl, -⟩ := slice_form HO.out
          clear HO HB HIN HF HL
          go_wp2
          go_ret2
          exact HE.out
    · rw [decide_eq_false hin]
      have HE := Lib.hid (NeedU.no HVV.out HM.out hin (pure_trans HBX.out HB5.out))
      clear hin HF HIN
      go_wp2
      go_ret2
      exact HE.out
  · have HM := Lib.hid (HM0.out.trans (if_neg h400))
    rw [decide_eq_false (show ¬ ((M.length : Int) ≤ 400) by omega)]
    have HE := Lib.hid (NeedU.big HVV.out HM.out (pure_trans HBX.out HB4.out))
    clear h400 HM0 HIK HF HIN
    go_wp2
    go_ret2
    exact HE.out
end Go.Proofs.Ytafeaeaildfohaa
