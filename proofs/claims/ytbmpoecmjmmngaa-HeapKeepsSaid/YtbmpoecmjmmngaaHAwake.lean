/- Chapter 13's example. -/
import Derived.Test.YtbmpoecmjmmngaaHSnap2
import Derived.Test.YtbmpoecmjmmngaaHPut
namespace Go.Proofs.Ytbmpoecmjmmngaa
open Go.RowKit Go.Maps

abbrev nS : ByteArray := ⟨#[110]⟩
abbrev aS : ByteArray := ⟨#[97]⟩
abbrev bS : ByteArray := ⟨#[98]⟩
abbrev oneS : ByteArray := ⟨#[49]⟩
abbrev twoS : ByteArray := ⟨#[50]⟩
abbrev thrS : ByteArray := ⟨#[51]⟩
theorem lenOf {r : HS} {gs : List FMap} (h : r.view.grps = gs) : r.cur.length = gs.length := by
  rw [← h]; show r.cur.length = (r.cur.map _).length; simp
theorem grpF_of {r : HS} {gs : List FMap} (h : r.view.grps = gs) {i : Nat} {f : FMap} (hf : gs[i]? = some f) : grpF r i = f := by
  have hi : i < r.cur.length := by rw [lenOf h]; exact (List.getElem?_eq_some_iff.1 hf).1
  have := grps_at r hi
  rw [h, hf] at this
  injection this with this
  exact this.symm
theorem put0_any {base p : Nat} {r : HS} (key val : ByteArray) (w : World) (hI : HeapInv w base p r) (hl : r.cur.length = 8) (hch : chk 8 0 nS [key, val] = 0) (hnn : r.nn ≤ 1000) (hc0 : 0 ≤ r.cnt) (hc1 : r.cnt ≤ 1000) :
    Calls Try.prog 9 #[.pointer (some ⟨p, 0, none⟩), .int .i64 0, .string nS, .string key, .string val] w fun e w' =>
      e = .returned (.int .i64 0) ∧ ∃ r', PutStep w base p r { r.view with grps := r.view.grps.set 0 (putAt (grpF r 0) (nS, key) val), cnt := if grpF r 0 (nS, key) = none then r.cnt + 1 else r.cnt } w' r' := by
  have hsz := (chk_size hch).2
  have h1 := hsz key (by simp)
  have h2 := hsz val (by simp)
  have ha : putAns 8 (grpF r 0) r.cnt 0 nS key val = 0 := by
    unfold putAns
    rw [hch, if_neg (by decide), if_neg (by omega)]
  have h := put_any (r := r) 0 nS key val w hI (by unfold inI64; decide) (by unfold maxLen; decide) (by unfold maxLen; omega) (by unfold maxLen; omega) (by omega) hc0 (by omega)
  rw [hl, ha] at h
  have hp : r.view.put 8 (grpF r 0) 0 nS key val = { r.view with grps := r.view.grps.set 0 (putAt (grpF r 0) (nS, key) val), cnt := if grpF r 0 (nS, key) = none then r.cnt + 1 else r.cnt } := by
    unfold PS.put
    rw [show r.view.cnt = r.cnt from rfl, ha, if_pos rfl]
    rfl
  rw [hp] at h
  exact h
abbrev nullF : FMap := fun _ => none
noncomputable abbrev F1 : FMap := putAt nullF (nS, aS) oneS
noncomputable abbrev gs1 : List FMap := [F1, nullF, nullF, nullF, nullF, nullF, nullF, nullF]
theorem keys_null {ss : List Spot} (h : Keysof nullF ss) : ss = [] := by
  cases ss with
  | nil => rfl
  | cons x l => have := (h.mem x).1 List.mem_cons_self; cases this
theorem F1_same : F1 (nS, aS) = some oneS := putAt_same _ _ _
theorem F1_other {k : Spot} (e : k ≠ (nS, aS)) : F1 k = none := putAt_other _ _ e
theorem keys_F1 {ss : List Spot} (h : Keysof F1 ss) : ss = [(nS, aS)] := by
  refine Keysof.unique h ⟨by simp, fun k => ?_⟩
  by_cases e : k = (nS, aS)
  · subst e; rw [F1_same]; simp
  · rw [F1_other e]; simp [e]
theorem ents_gs1 {es : List Ent} (h : AllOf 0 gs1 es) : es = [⟨0, nS, aS, oneS⟩] := by
  obtain ⟨s0, e0, k0, ⟨s1, e1, k1, ⟨s2, e2, k2, ⟨s3, e3, k3, ⟨s4, e4, k4, ⟨s5, e5, k5, ⟨s6, e6, k6, ⟨s7, e7, k7, h8, g7⟩, g6⟩, g5⟩, g4⟩, g3⟩, g2⟩, g1⟩, g0⟩ := h
  obtain rfl := keys_F1 k0
  obtain rfl := keys_null k1
  obtain rfl := keys_null k2
  obtain rfl := keys_null k3
  obtain rfl := keys_null k4
  obtain rfl := keys_null k5
  obtain rfl := keys_null k6
  obtain rfl := keys_null k7
  obtain rfl : e7 = [] := h8
  subst g7; subst g6; subst g5; subst g4; subst g3; subst g2; subst g1; subst g0
  simp [entsOf, putAt_same, strOr]
set_option maxRecDepth 100000 in
set_option maxHeartbeats 8000000 in
theorem awake_any (w : World) :
    Calls Try.prog 6 #[] w fun e w' => e = .returned (.bool true) ∧ Below w.heap.size w w' := by
  have hch1 : chk 8 0 nS [aS, oneS] = 0 := by kernel_rfl
  have hch2 : chk 8 0 nS [aS, twoS] = 0 := by kernel_rfl
  have hch3 : chk 8 0 nS [bS, thrS] = 0 := by kernel_rfl
  have HC1 := Lib.hid hch1
  have HC2 := Lib.hid hch2
  have HC3 := Lib.hid hch3
  clear hch1 hch2 hch3
  have HN := Lib.hid (new_any 8 w (by decide) (by decide))
  go_enter Try.func6, Try.ntmps6
  go_wp2_with fail
  refine HN.out.mono ?_
  rintro e w1 ⟨rfl, r1, hi1, hv1, hn1, hb1⟩
  have HI1 := Lib.hid hi1
  have HV1 := Lib.hid hv1
  have HB1 := Lib.hid hb1
  have hc1 : r1.cnt = 0 := congrArg PS.cnt hv1
  have HP1 := Lib.hid (put0_any aS oneS w1 hi1 (lenOf (congrArg PS.grps hv1)) HC1.out (by omega) (by omega) (by omega))
  have hg1 : grpF r1 0 = nullF := grpF_of (congrArg PS.grps hv1) (i := 0) rfl
  have HG1 := Lib.hid hg1
  have HN1 := Lib.hid hn1
  have HCN1 := Lib.hid hc1
  clear hi1 hv1 hn1 hb1 hc1 hg1 HN
  go_wp2_with fail
  refine HP1.out.mono ?_
  rintro e w2 ⟨rfl, r2, hp2⟩
  have hv2 : r2.view = ⟨gs1, 1, 0, fun _ => none⟩ := by
    rw [hp2.vw, HG1.out, HV1.out, HCN1.out]
    rfl
  have HV2 := Lib.hid hv2
  have HS2 := Lib.hid hp2.st
  have hn2 : r2.nn ≤ 1 := by have := hp2.nn; rw [HN1.out] at this; exact this
  have HN2 := Lib.hid hn2
  have HSN2 := Lib.hid (snapshot_any [] w2 hp2.st.inv ⟨List.nodup_nil, fun k => by
    have h : (r2.snaps k).map (fun x => x.2.map fun a => (r2.g a).f) = none := congrFun (congrArg PS.sn hv2) k
    cases hs : r2.snaps k with
    | none => simp
    | some x => rw [hs] at h; cases h⟩ (by simp) (by rw [show r2.last = 0 from congrArg PS.last hv2]; decide) (by rw [show r2.last = 0 from congrArg PS.last hv2]; decide) (by omega) (by rw [lenOf (congrArg PS.grps hv2)]; decide))
  rw [show r2.last = 0 from congrArg PS.last hv2] at HSN2
  clear hp2 hv2 hn2 HP1 HG1 HV1 HN1 HCN1
  go_wp2_with fail
  refine HSN2.out.mono ?_
  rintro e w3 ⟨rfl, r3, hs3, hv3, hn3, hcur3, x3, hx3⟩
  have hv3' : r3.view = ⟨gs1, 1, 1, putAt (fun _ => none) 1 gs1⟩ := by rw [hv3, HV2.out]; rfl
  have HV3 := Lib.hid hv3'
  have HS3 := Lib.hid (HS2.out.trans hs3)
  have hn3' : r3.nn ≤ 2 := by have := HN2.out; omega
  have HN3 := Lib.hid hn3'
  have hg3 : grpF r3 0 = F1 := grpF_of (congrArg PS.grps hv3') (i := 0) rfl
  have HG3 := Lib.hid hg3
  have HCN3 := Lib.hid (show r3.cnt = 1 from congrArg PS.cnt hv3')
  have HP3 := Lib.hid (put0_any aS twoS w3 hs3.inv (lenOf (congrArg PS.grps hv3')) HC2.out (by omega) (by rw [HCN3.out]; decide) (by rw [HCN3.out]; decide))
  clear hs3 hv3 hn3 hcur3 hx3 hv3' hn3' hg3 HSN2 HS2 HV2 HN2
  go_wp2_with fail
  refine HP3.out.mono ?_
  rintro e w4 ⟨rfl, r4, hp4⟩
  have hv4 : r4.view = ⟨[putAt F1 (nS, aS) twoS, nullF, nullF, nullF, nullF, nullF, nullF, nullF], 1, 1, putAt (fun _ => none) 1 gs1⟩ := by
    rw [hp4.vw, HG3.out, HV3.out, HCN3.out, F1_same, if_neg (by simp)]
    rfl
  have HV4 := Lib.hid hv4
  have HS4 := Lib.hid (HS3.out.trans hp4.st)
  have hn4 : r4.nn ≤ 3 := by have := HN3.out; have := hp4.nn; omega
  have HN4 := Lib.hid hn4
  have HCN4 := Lib.hid (show r4.cnt = 1 from congrArg PS.cnt hv4)
  have hg4 : grpF r4 0 = putAt F1 (nS, aS) twoS := grpF_of (congrArg PS.grps hv4) (i := 0) rfl
  have HG4 := Lib.hid hg4
  have HP4 := Lib.hid (put0_any bS thrS w4 hp4.st.inv (lenOf (congrArg PS.grps hv4)) HC3.out (by omega) (by rw [HCN4.out]; decide) (by rw [HCN4.out]; decide))
  clear hp4 hv4 hn4 hg4 HP3 HG3 HCN3 HS3 HV3 HN3
  go_wp2_with fail
  refine HP4.out.mono ?_
  rintro e w5 ⟨rfl, r5, hp5⟩
  have hv5s : r5.view.sn = putAt (fun _ => none) 1 gs1 := by rw [hp5.vw]; show r4.view.sn = _; rw [HV4.out]
  have hl5 : r5.cur.length = 8 := by rw [hp5.len, lenOf (congrArg PS.grps HV4.out)]; rfl
  have HS5 := Lib.hid (HS4.out.trans hp5.st)
  have hn5 : r5.nn ≤ 4 := by have := HN4.out; have := hp5.nn; omega
  have HN5 := Lib.hid hn5
  have HSN5 := Lib.hid (show r5.view.sn 1 = some gs1 by rw [hv5s, putAt_same])
  have HL5 := Lib.hid hl5
  have HE5 := Lib.hid (stEntries_any 1 w5 hp5.st.inv (by unfold inI64; decide) (by omega) (by omega))
  clear hp5 hv5s hl5 hn5 HP4 HG4 HCN4 HS4 HV4 HN4
  go_wp2_with fail
  refine HE5.out.mono ?_
  rintro e w6 ⟨u, es, c, rfl, hse, ho, hb6, hic, _⟩
  obtain ⟨hao, rfl⟩ : AllOf 0 gs1 es ∧ c = 0 := by
    have := hse
    unfold SnapEnts at this
    rw [HSN5.out] at this
    exact this
  obtain rfl := ents_gs1 hao
  have HI6 := Lib.hid (HS5.out.trans (HStep.pure HS5.out.inv hb6))
  have hrv := ho.rv'
  obtain ⟨au, cu, rfl, hlu, hmu, _⟩ := slice_form hrv
  obtain ⟨b, o, rfl, cs, hat, hcs⟩ := slice_at hrv (k := 0) (by simp)
  obtain rfl : cs = [.int .i64 0, .string nS, .string aS, .string oneS] := hcs.1
  have hv : w6.cell? ⟨b, o + 3, none⟩ = some (.string oneS) := by have h : mem w6 b (o + 0 * tEnt.sz + 3) = _ := hat 3 _ rfl; rw [show o + 0 * tEnt.sz + 3 = o + 3 by omega] at h; exact h
  have hone : (oneS.toList == oneS.toList) = true := by simp
  have HR6 := Lib.hid (reset_any 1 w6 HI6.out.inv (by unfold inI64; decide) (by rw [HL5.out]; decide) (by rw [HL5.out]; decide) (by have := HN5.out; omega))
  simp only [List.length_cons, List.length_nil] at hlu hmu
  clear hse ho hb6 hrv hat hcs hao HE5 HS5
  go_wp2_with fail
  refine HR6.out.mono ?_
  rintro e w7 ⟨r7, hs7, _, _, _, hcase⟩
  rcases hcase with ⟨h, _⟩ | ⟨fs, es7, hfs, ha7, rfl, hv7⟩
  · rw [HSN5.out] at h; cases h
  rw [HSN5.out] at hfs
  injection hfs with hfs
  subst hfs
  obtain rfl := ents_gs1 ha7
  have HS7 := Lib.hid (HI6.out.trans hs7)
  have HCNT := Lib.hid (count_any w7 hs7.inv)
  rw [show r7.cnt = 1 from congrArg PS.cnt hv7] at HCNT
  clear hs7 ha7 hv7 HR6
  go_wp2_with fail
  refine HCNT.out.mono ?_
  rintro e w8 ⟨rfl, rfl⟩
  have HBF := Lib.hid (HB1.out.trans ((HS7.out.below HI1.out)))
  go_wp2
  go_ret
  exact ⟨rfl, HBF.out⟩
end Go.Proofs.Ytbmpoecmjmmngaa
