/- package heap: Restore. -/
import Derived.Test.YtbmpoecmjmmngaaHPlaced
import Derived.Test.YtbmpoecmjmmngaaHNew
import Derived.Test.YtbmpoecmjmmngaaHPut
namespace Go.Proofs.Ytbmpoecmjmmngaa
open Go.RowKit Go.Maps

theorem HeapInv.rebase {W : World} {base base' p : Nat} {r : HS} (h : HeapInv W base p r) (hb : base' ≤ base) : HeapInv W base' p r :=
  ⟨h.hb, h.cu, h.sn, h.sr, h.gb, h.inj, h.smb, h.sh, h.nd, fun k hk => Nat.le_trans hb (h.ge k hk), Nat.le_trans hb h.bw⟩
open Classical in
noncomputable def restAns (n : Int) (l : List Ent) : Int :=
  if l.all validE = false then 1 else if n < 1 ∨ 128 < n then 7 else if l.any (fun x => decide (n ≤ x.g)) = true then 7 else if (l.map Ent.pl).Nodup then 0 else 6
noncomputable def restPS (N : Nat) (l : List Ent) : PS := ⟨(List.range N).map fun (i : Nat) => fun s => placesF l ((i : Int), s.1, s.2), l.length, 0, fun _ => none⟩
def RestPost (w : World) (n : Int) (l : List Ent) (e : Ending) (w' : World) : Prop :=
  Below w.heap.size w w' ∧ ((restAns n l ≠ 0 ∧ e = .returned (.tuple #[.pointer none, .int .i64 (restAns n l)])) ∨
    (restAns n l = 0 ∧ ∃ p r, e = .returned (.tuple #[ptrTo p, .int .i64 0]) ∧ HeapInv w' w.heap.size p r ∧ r.view = restPS n.toNat l ∧ r.nn ≤ l.length))
theorem view_len {r : HS} {s : PS} (h : r.view = s) : r.cur.length = s.grps.length := by
  rw [← h]; unfold HS.view; simp
theorem restPS_len (N : Nat) (l : List Ent) : (restPS N l).grps.length = N := by unfold restPS; simp
theorem grpF_view {r : HS} {N : Nat} {l : List Ent} (h : r.view = restPS N l) {i : Nat} (hi : i < N) : grpF r i = fun s => placesF l ((i : Int), s.1, s.2) := by
  have hl : r.cur.length = N := (view_len h).trans (restPS_len N l)
  have h1 := grps_at r (i := i) (by omega)
  rw [h] at h1
  unfold restPS at h1
  simp [hi] at h1
  exact h1.symm
theorem restPS_put {r : HS} {N : Nat} {l : List Ent} (h : r.view = restPS N l) {x : Ent} (hv : validE x = true) (hx : x.g < N) (hn : x.pl ∉ l.map Ent.pl) (hl : l.length < 4000) :
    r.view.put N (grpF r x.g) x.g x.nm x.key x.val = restPS N (l ++ [x]) := by
  obtain ⟨g, nm, key, val⟩ := x
  unfold validE at hv
  simp only [Bool.and_eq_true, decide_eq_true_eq, Bool.not_eq_true'] at hv
  obtain ⟨⟨h0, h1⟩, h2, h3, h4⟩ := hv
  obtain ⟨i, rfl⟩ := Int.eq_ofNat_of_zero_le h0
  have hi : i < N := by have : (i : Int) < N := hx; omega
  have hF := grpF_view h hi
  have hnone : placesF l ((i : Int), nm, key) = none := by
    have := mt (placesF_some l ((i : Int), nm, key)).2 hn
    cases hp : placesF l ((i : Int), nm, key) with
    | none => rfl
    | some s => rw [hp] at this; exact absurd rfl this
  have hc : r.view.cnt = l.length := by rw [h]; rfl
  have hchk : chk N (i : Int) nm [key, val] = 0 := by
    unfold chk
    rw [if_pos ⟨h2, by simp [h3, h4]⟩, if_pos ⟨by omega, by omega⟩]
  have hans : putAns N (grpF r i) r.view.cnt (i : Int) nm key val = 0 := by
    unfold putAns
    rw [if_neg (by simp [hchk]), if_neg (fun h => by rw [hc] at h; omega)]
  unfold PS.put
  show (if putAns N (grpF r (i : Int)) r.view.cnt (i : Int) nm key val = 0 then _ else _) = _
  rw [if_pos hans, hF]
  have he : (fun s : Spot => placesF l ((i : Int), s.1, s.2)) (nm, key) = none := hnone
  simp only [hnone, if_true]
  rw [h]
  unfold restPS
  simp only [List.length_append, List.length_singleton, PS.mk.injEq, and_true]
  refine ⟨?_, by simp⟩
  apply List.ext_getElem (by simp)
  intro j hj1 hj2
  simp only [List.length_set, List.length_map, List.length_range] at hj1
  rw [List.getElem_set]
  simp only [List.getElem_map, List.getElem_range, Int.toNat_natCast]
  rw [placesF_snoc]
  by_cases e : i = j
  · subst e
    rw [if_pos rfl]
    funext s
    unfold putAt
    by_cases es : s = (nm, key)
    · subst es
      simp [Ent.pl]
    · rw [if_neg es, if_neg (fun h => es (by simp only [Ent.pl, Prod.mk.injEq] at h; exact Prod.ext h.2.1 h.2.2))]
  · rw [if_neg e]
    funext s
    unfold putAt
    rw [if_neg (fun h => e (by simp only [Ent.pl, Prod.mk.injEq] at h; omega))]
theorem restPS_nil (N : Nat) : restPS N [] = ⟨List.replicate N (fun _ => none), 0, 0, fun _ => none⟩ := by
  unfold restPS
  simp only [PS.mk.injEq, List.length_nil, and_true]
  refine ⟨?_, rfl⟩
  apply List.ext_getElem (by simp)
  intro j h1 h2
  simp only [List.getElem_map, List.getElem_range, List.getElem_replicate]
  rfl
/-- What has been put, so far. -/
structure RestAt (w wr : World) (p N : Nat) (l : List Ent) (r : HS) : Prop where
  inv : HeapInv wr w.heap.size p r
  vw : r.view = restPS N l
  nn : r.nn ≤ l.length
  bl : Below w.heap.size w wr
set_option maxRecDepth 100000 in
set_option maxHeartbeats 8000000 in
theorem restore_any (n : Int) (l : List Ent) (v : Value) (w : World) (hv : tEnts.rv (mem w) [v] l) (hl : l.length < 4000) :
    Calls Try.prog 8 #[.int .i64 n, v] w (RestPost w n l) := by
  have HALL := Lib.hid (ents_all hv)
  have HB0 := Lib.hid (fun o => (show Below w.heap.size w (w.alloc o) from (Below.refl _ _).alloc (Nat.le_refl _) o))
  have HV := Lib.hid (fun wr (hb : Below w.heap.size w wr) => valid_any l v wr (tEnts.mono _ _ _ _ (below_mem hb) hv) (by omega))
  have HNB := Lib.hid (fun (h : n < 1 ∨ 128 < n) wr => new_bad n wr h)
  have HNG := Lib.hid (fun (h : 1 ≤ n ∧ n ≤ 128) wr => (show Calls Try.prog 12 #[.int .i64 n] wr _ from (by have := new_any n.toNat wr (by omega) (by omega); rw [Int.toNat_of_nonneg (by omega)] at this; exact this)))
  have HC := Lib.hid (fun wr (hb : Below w.heap.size w wr) (hn : wr.cell? ⟨w.heap.size, 0, none⟩ = some (.int .i64 n)) => containsFuncEnt 29 #[.pointer (some ⟨w.heap.size, 0, none⟩)] (fun x => decide (n ≤ x.g)) l v wr (tEnts.mono _ _ _ _ (below_mem hb) hv) (fun _ _ => rfl) (fun x hx w2 h2 => restore1_any x w.heap.size n w2 (below_mem h2 _ _ _ hn)))
  have HP := Lib.hid (fun wr (hb : Below w.heap.size w wr) => placed_any l v wr (tEnts.mono _ _ _ _ (below_mem hb) hv) (by omega))
  have HAT := Lib.hid (fun k (hk : k < l.length) wr (hb : Below w.heap.size w wr) => (show ∃ a cap, v = .slice a l.length cap ∧ cap ≤ 9223372036854775807 ∧ ∃ b o, a = some ⟨b, o, none⟩ ∧ (∀ j u, l[k].cs[j]? = some u → wr.cell? ⟨b, o + k * 4 + j, none⟩ = some u) ∧ l[k].okE from by
    obtain ⟨a, cap, rfl, hlc, hm, hv⟩ := slice_form hv
    obtain ⟨b, o, rfl, hat, hok⟩ := ents_at (tEnts.mono _ _ _ _ (below_mem hb) hv) hk
    exact ⟨_, cap, rfl, by unfold maxLen at hm; exact hm, b, o, rfl, fun j u h => hat j u h, hok⟩))
  have HPS := Lib.hid (fun (e : Ending) w' (hb : Below w.heap.size w w') (c : Int) (hc : c ≠ 0) (hr : restAns n l = c) (he : e = .returned (.tuple #[.pointer none, .int .i64 c])) => (show RestPost w n l e w' from ⟨hb, .inl ⟨by rw [hr]; exact hc, by rw [hr]; exact he⟩⟩))
  have HPG := Lib.hid (fun (e : Ending) w' p r (hR : RestAt w w' p n.toNat l r) (hr : restAns n l = 0) (he : e = .returned (.tuple #[ptrTo p, .int .i64 0])) => (show RestPost w n l e w' from ⟨hR.bl, .inr ⟨hr, p, r, he, hR.inv, hR.vw, hR.nn⟩⟩))
  have HR := Lib.hid (show restAns n l = if l.all validE = false then 1 else if n < 1 ∨ 128 < n then 7 else if l.any (fun x => decide (n ≤ x.g)) = true then 7 else if (l.map Ent.pl).Nodup then 0 else 6 from rfl)
  have HVA := Lib.hid (fun (h : l.all validE = true) => (show ∀ x ∈ l, validE x = true from List.all_eq_true.1 h))
  have HGA := Lib.hid (fun (h : l.any (fun x => decide (n ≤ x.g)) = false) => (show ∀ x ∈ l, x.g < n from fun x hx => by have := List.any_eq_false.1 h x hx; simp at this; exact this))
  obtain ⟨a, cap, rfl, hlc, hm, -⟩ := slice_form hv
  have hcap : cap ≤ 9223372036854775807 := by unfold maxLen at hm; exact hm
  clear hv hm
  generalize hpost : RestPost w n l = PP at *
  clear hpost
  generalize l.all validE = b1 at *
  generalize l.any (fun x => decide (n ≤ x.g)) = b2 at *
  go_enter Try.func8, Try.ntmps8
  go_wp2_with fail
  refine (HV.out _ (HB0.out _)).mono ?_
  rintro e w1 ⟨rfl, hb1⟩
  have HB1 := Lib.hid (pure_trans (HB0.out _) hb1)
  have HC1 := Lib.hid (below_mem hb1 _ _ _ (mem_cells_new w #[.int .i64 n] 3 (0, 0) 0))
  clear hb1
  cases b1 with
  | false =>
    have HA := Lib.hid (show restAns n l = 1 by rw [HR.out, if_pos rfl])
    go_wp2
    exact HPS.out _ _ HB1.out 1 (by decide) HA.out rfl
  | true =>
  have HR2 := Lib.hid (show restAns n l = if n < 1 ∨ 128 < n then 7 else if b2 = true then 7 else if (l.map Ent.pl).Nodup then 0 else 6 by rw [HR.out, if_neg (by decide)])
  clear HR
  have cn1 : w1.cell? ⟨w.heap.size, 0, none⟩ = some (.int .i64 n) := HC1.out
  by_cases hn : n < 1 ∨ 128 < n
  · have HA := Lib.hid (show restAns n l = 7 by rw [HR2.out, if_pos hn])
    clear HR2
    go_wp2_with fail
    refine (HNB.out hn _).mono ?_
    rintro e w2 ⟨rfl, hb2⟩
    have HB2 := Lib.hid (pure_trans HB1.out hb2)
    clear hn
    go_wp2
    exact HPS.out _ _ HB2.out 7 (by decide) HA.out rfl
  have hn' : 1 ≤ n ∧ n ≤ 128 := by omega
  have HR3 := Lib.hid (show restAns n l = if b2 = true then 7 else if (l.map Ent.pl).Nodup then 0 else 6 by rw [HR2.out, if_neg hn])
  clear HR2 hn
  go_wp2_with fail
  refine (HNG.out hn' _).mono ?_
  rintro e w2 ⟨rfl, r0, hI2, hvw2, hnn2, hb2⟩
  have HB2 := Lib.hid (pure_trans HB1.out hb2)
  have HI2 := Lib.hid (hI2.rebase (base' := w.heap.size) HB1.out.size)
  have HVW2 := Lib.hid hvw2
  have HNN2 := Lib.hid hnn2
  have HC2 := Lib.hid (below_mem hb2 _ _ _ HC1.out)
  clear hI2 hvw2 hnn2 hb2 HC1 HNB HNG HV cn1
  generalize w1.heap.size + 1 = p at *
  go_wp2_with fail
  refine (HC.out _ HB2.out HC2.out).mono ?_
  rintro e w3 ⟨rfl, hb3⟩
  have HB3 := Lib.hid (pure_trans HB2.out hb3)
  have HI3 := Lib.hid (HI2.out.pure hb3)
  clear hb3 HC HC2 HB2 HI2
  cases b2 with
  | true =>
    have HA := Lib.hid (show restAns n l = 7 by rw [HR3.out, if_pos rfl])
    clear HR3
    go_wp2
    exact HPS.out _ _ HB3.out 7 (by decide) HA.out rfl
  | false =>
  have HR4 := Lib.hid (show restAns n l = if (l.map Ent.pl).Nodup then 0 else 6 by rw [HR3.out, if_neg (by decide)])
  clear HR3
  go_wp2_with fail
  refine (HP.out _ HB3.out).mono ?_
  rintro e w4 ⟨b, rfl, -, hb4, hbn⟩
  have HB4 := Lib.hid (pure_trans HB3.out hb4)
  have HI4 := Lib.hid (HI3.out.pure hb4)
  have HBN := Lib.hid hbn
  generalize w3.heap.size = mp at *
  clear hb4 hbn HP HB3 HI3
  cases b with
  | false =>
    have HA := Lib.hid (show restAns n l = 6 by rw [HR4.out, if_neg (fun h => by have := HBN.out.2 h; cases this)])
    clear HR4
    go_wp2
    exact HPS.out _ _ HB4.out 6 (by decide) HA.out rfl
  | true =>
  have HND := Lib.hid (HBN.out.1 rfl)
  have HA := Lib.hid (show restAns n l = 0 by rw [HR4.out, if_pos HND.out])
  have HVE := Lib.hid (show ∀ x ∈ l, validE x = true from HVA.out (by trivial))
  have HGE := Lib.hid (show ∀ x ∈ l, x.g < n from HGA.out (by trivial))
  have H0 := Lib.hid (show RestAt w w4 p n.toNat (l.take 0) r0 from ⟨HI4.out, by rw [HVW2.out, List.take_zero, restPS_nil], by rw [HNN2.out]; exact Nat.zero_le _, HB4.out⟩)
  clear HR4 HBN HVA HGA HI4 HVW2 HNN2 HB4 HB1 HB0
  go_wp2
  go_loopw [35] (fun i wr => ∃ k : Nat, k ≤ l.length ∧ i = .int .i64 k ∧ ∃ r, Hid (RestAt w wr p n.toNat (l.take k) r)) (fun i _ => l.length - (intOf i).toNat)
  case atStart => exact ⟨0, by omega, rfl, r0, H0⟩
  case round =>
    clear H0
    obtain ⟨k, hk, rfl, r, HK⟩ := hrel
    by_cases hlt : k < l.length
    · obtain ⟨a', cap', hs, -, b, o, ha, hat, hok⟩ := HAT.out k hlt wr HK.out.bl
      obtain ⟨rfl, rfl⟩ : a' = a ∧ cap' = cap := by injection hs with h1 h2 h3; exact ⟨h1.symm, h3.symm⟩
      subst ha
      have c0 : wr.cell? ⟨b, o + k * 4, none⟩ = some (.int .i64 l[k].g) := hat 0 _ rfl
      have c1 : wr.cell? ⟨b, o + k * 4 + 1, none⟩ = some (.string l[k].nm) := hat 1 _ rfl
      have c2 : wr.cell? ⟨b, o + k * 4 + 2, none⟩ = some (.string l[k].key) := hat 2 _ rfl
      have c3 : wr.cell? ⟨b, o + k * 4 + 3, none⟩ = some (.string l[k].val) := hat 3 _ rfl
      have HPUT := Lib.hid (fun ob => (show Calls Try.prog 9 #[ptrTo p, .int .i64 l[k].g, .string l[k].nm, .string l[k].key, .string l[k].val] (wr.alloc ob) fun e w' => ∃ z r', e = .returned (.int .i64 z) ∧ RestAt w w' p n.toNat (l.take (k + 1)) r' from by
        have hbo : Below wr.heap.size wr (wr.alloc ob) := (Below.refl _ _).alloc (Nat.le_refl _) _
        have hrl : r.cur.length = n.toNat := (view_len HK.out.vw).trans (restPS_len _ _)
        have htl : (l.take k).length = k := by rw [List.length_take]; omega
        have hcnt : r.cnt = k := by have := congrArg PS.cnt HK.out.vw; rw [show (restPS n.toNat (l.take k)).cnt = ((l.take k).length : Int) from rfl, htl] at this; exact this
        have hnn := HK.out.nn
        refine (put_any l[k].g l[k].nm l[k].key l[k].val (wr.alloc ob) (HK.out.inv.pure hbo) hok.1 hok.2.1 hok.2.2.1 hok.2.2.2 (by omega) (by omega) (by omega)).mono ?_
        rintro e w' ⟨rfl, r', hP⟩
        have hmem := List.getElem_mem hlt
        have hT : l.take (k + 1) = l.take k ++ [l[k]] := List.take_succ_eq_append_getElem hlt
        refine ⟨_, r', rfl, hP.st.inv, ?_, ?_, ?_⟩
        · rw [hP.vw, hrl, hT]
          have hgn := HGE.out _ hmem
          refine restPS_put HK.out.vw (HVE.out _ hmem) (by omega) (fun h => ?_) (by omega)
          have hnd := HND.out
          have hsub := (List.take_sublist (k + 1) l).map Ent.pl
          have h2 := hsub.nodup hnd
          rw [hT, List.map_append, List.nodup_append] at h2
          exact h2.2.2 _ h _ (by simp) rfl
        · have := hP.nn
          rw [hT, List.length_append, htl]
          rw [htl] at hnn
          simp; omega
        · exact (HK.out.bl.alloc HK.out.bl.size _).trans (hP.st.below (HK.out.inv.pure hbo))))
      clear hat hok
      generalize hx : l[k] = x at *
      clear hx
      go_wp2_with fail
      refine (HPUT.out _).mono ?_
      rintro e w5 ⟨z, r', rfl, hR5⟩
      have HR5 := Lib.hid hR5
      clear hR5 HPUT HK
      go_wp2
      go_roundw
      case rel => exact ⟨k + 1, by omega, by go_num, r', HR5⟩
      case measure => simp [intOf]; omega
    · obtain rfl : k = l.length := by omega
      rw [List.take_length] at HK
      go_wp2
      exact HPG.out _ _ p r HK.out HA.out rfl
end Go.Proofs.Ytbmpoecmjmmngaa
