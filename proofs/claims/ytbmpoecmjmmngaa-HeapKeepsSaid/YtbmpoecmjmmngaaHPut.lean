/- package heap: Put. -/
import Derived.Test.YtbmpoecmjmmngaaHOwn
namespace Go.Proofs.Ytbmpoecmjmmngaa
open Go.RowKit Go.Maps

/-- What Put answers, and what it leaves. -/
def putAns (N : Nat) (F : FMap) (cnt g : Int) (nm key val : ByteArray) : Int :=
  if chk N g nm [key, val] ≠ 0 then chk N g nm [key, val] else if F (nm, key) = none ∧ cnt = 4000 then 4 else 0
noncomputable def PS.put (s : PS) (N : Nat) (F : FMap) (g : Int) (nm key val : ByteArray) : PS :=
  if putAns N F s.cnt g nm key val = 0 then { s with grps := s.grps.set g.toNat (putAt F (nm, key) val), cnt := if F (nm, key) = none then s.cnt + 1 else s.cnt } else s
structure PutStep (W : World) (base p : Nat) (r : HS) (s : PS) (W' : World) (r' : HS) : Prop where
  st : HStep W base p r W' r'
  vw : r'.view = s
  len : r'.cur.length = r.cur.length
  nn : r'.nn ≤ r.nn + 1
set_option maxRecDepth 100000 in
/-- The map of a group that is the state's own takes an entry. -/
theorem own_put {W0 W : World} {base p i : Nat} {r r1 r2 : HS} {nm key val : ByteArray} (h : OwnStep W0 base p r1 i W r2) (hl : r1.cur.length = r.cur.length) (hf : grpF r1 i = grpF r i) (hn : r1.nn ≤ 1000000) (hi : i < r.cur.length) (hok : okSpot (nm, key)) (hv : val.size ≤ maxLen) {vb : Nat} (hvb : W.heap[vb]? = some (.cells #[.string nm, .string key] 71 (0, 0))) :
    ∃ W', (Instr.mapUpdate 73 (.map (some (r2.g (adAt r2 i)).mb)) (.agg #[.string nm, .string key]) (.string val)).run Try.prog W = .ok () W' ∧ W'.heap[vb]? = some (.cells #[.string nm, .string key] 71 (0, 0)) ∧
      ∃ r3, HStep W base p r2 W' r3 ∧ r3.view = { r1.view with grps := r1.view.grps.set i (putAt (grpF r i) (nm, key) val) } ∧ r3.cur.length = r.cur.length ∧ r3.nn = r1.nn + 1 := by
  have hl2 : i < r2.cur.length := by rw [h.len, hl]; exact hi
  have hu : used r2 (adAt r2 i) := by rw [adAt_eq hl2]; exact .inl (List.getElem_mem hl2)
  have hgm := (h.st.inv.gb _ hu).2
  obtain ⟨W', hrun, hg, hgr⟩ := GMap.put hgm (by rw [h.nn]; unfold maxLen; omega) hok val hv
  have hne : some vb ≠ some (r2.g (adAt r2 i)).mb := fun e => by
    obtain ⟨es, c, ho⟩ := hgm.obj
    injection e with e
    rw [← e, hvb] at ho
    cases ho
  refine ⟨W', hrun, (hgr.block vb (Array.getElem?_eq_some_iff.1 hvb).1 hne).trans hvb, _, h.st.inv.putG hu (Nat.le_succ _) hg hgr, ?_, h.len.trans hl, by show r2.nn + 1 = _; rw [h.nn]⟩
  rw [view_putG h.st.inv hl2 h.sh, h.vw]
  have e : (r2.g (adAt r2 i)).f = grpF r i := by rw [show (r2.g (adAt r2 i)).f = grpF r2 i from rfl, h.fe, hf]
  rw [e]
set_option maxRecDepth 100000 in
set_option maxHeartbeats 8000000 in
theorem put_any {base p : Nat} {r : HS} (g : Int) (nm key val : ByteArray) (w : World) (hI : HeapInv w base p r) (hg : inI64 g) (hn : nm.size ≤ maxLen) (hk : key.size ≤ maxLen) (hv : val.size ≤ maxLen) (hnn : r.nn ≤ 1000000) (hc0 : 0 ≤ r.cnt) (hc1 : r.cnt ≤ 4000) :
    Calls Try.prog 9 #[.pointer (some ⟨p, 0, none⟩), .int .i64 g, .string nm, .string key, .string val] w fun e w' =>
      e = .returned (.int .i64 (putAns r.cur.length (grpF r g) r.cnt g nm key val)) ∧ ∃ r', PutStep w base p r (r.view.put r.cur.length (grpF r g) g nm key val) w' r' := by
  have HB0 := Lib.hid (fun o => (show Below w.heap.size w (w.alloc o) from (Below.refl _ _).alloc (Nat.le_refl _) o))
  have HCH := Lib.hid (fun (o : Obj) (v : Value) (hv : tStrs.rv (mem (w.alloc o)) [v] [key, val]) => checked_any g nm [key, val] v (w.alloc o) (hI.pure (HB0.out o)) hg hn hv)
  have HST := Lib.hid (fun (T : TypeId) => (show tStrs.rv (mem (w.alloc (.cells #[.string key, .string val] T))) [.slice (some ⟨w.heap.size, 0, none⟩) 2 2] [key, val] from strs_rv2 (mem_cells_new w _ T (0, 0) 0) (mem_cells_new w _ T (0, 0) 1) hk hv))
  have HI := Lib.hid hI
  have HANS := Lib.hid (show putAns r.cur.length (grpF r g) r.cnt g nm key val = if chk r.cur.length g nm [key, val] ≠ 0 then chk r.cur.length g nm [key, val] else if grpF r g (nm, key) = none ∧ r.cnt = 4000 then 4 else 0 from rfl)
  have HPS := Lib.hid (show r.view.put r.cur.length (grpF r g) g nm key val = if putAns r.cur.length (grpF r g) r.cnt g nm key val = 0 then { r.view with grps := r.view.grps.set g.toNat (putAt (grpF r g) (nm, key) val), cnt := if grpF r g (nm, key) = none then r.cnt + 1 else r.cnt } else r.view from rfl)
  generalize putAns r.cur.length (grpF r g) r.cnt g nm key val = ans at HANS HPS ⊢
  generalize r.view.put r.cur.length (grpF r g) g nm key val = s' at HPS ⊢
  have hcs := chk_cases r.cur.length g nm [key, val]
  have HVS := Lib.hid hv
  have HOKF := Lib.hid (fun (h : chk r.cur.length g nm [key, val] = 0) => (show ∃ i : Nat, g = (i : Int) ∧ i < r.cur.length ∧ okSpot (nm, key) from by
    obtain ⟨_, _, h0, h1⟩ := chk_ok h
    obtain ⟨i, rfl⟩ := Int.eq_ofNat_of_zero_le h0
    exact ⟨i, rfl, by omega, okSpot_of h (by simp)⟩))
  clear hI hg hn hk hv
  generalize hc : chk r.cur.length g nm [key, val] = c at *
  clear hc
  go_enter Try.func9, Try.ntmps9
  go_wp2_with fail
  refine (HCH.out _ _ (HST.out _)).mono ?_
  rintro e w1 ⟨rfl, hb1⟩
  have HB1 := Lib.hid (pure_trans (HB0.out _) hb1)
  clear hb1 HCH HST HB0
  rcases hcs with rfl | hcs
  case inr =>
    have hne : (c == 0) = false := by rcases hcs with rfl | rfl <;> rfl
    have hn0 : c ≠ 0 := by rcases hcs with rfl | rfl <;> decide
    have HA := Lib.hid (show ans = c by rw [HANS.out, if_pos hn0])
    have HP := Lib.hid (show s' = r.view by rw [HPS.out, if_neg (by rw [HA.out]; exact hn0)])
    clear hcs HANS HPS HOKF hn0
    go_wp2
    go_ret
    exact ⟨by rw [HA.out] <;> rfl, r, HStep.pure HI.out HB1.out, HP.out.symm, rfl, Nat.le_succ _⟩
  obtain ⟨i, rfl, hi, hok⟩ := HOKF.out rfl
  have HI1 := Lib.hid (HI.out.pure HB1.out)
  have HIL := Lib.hid hi
  have HOK := Lib.hid hok
  have HA0 := Lib.hid (show ans = if grpF r i (nm, key) = none ∧ r.cnt = 4000 then 4 else 0 by rw [HANS.out, if_neg (by simp)])
  clear HOKF HANS hi hok
  go_wp2_with fail
  generalize hW2 : w1.alloc (.cells #[.string nm, .string key] 71) = W2
  generalize hvb : w1.heap.size = vb
  have HV2 := Lib.hid (show W2.heap[vb]? = some (.cells #[.string nm, .string key] 71 (0, 0)) by rw [← hW2, ← hvb]; exact heap_alloc_new w1 _)
  have HVL := Lib.hid (show w.heap.size ≤ vb by rw [← hvb]; exact HB1.out.size)
  have HB2 := Lib.hid (show Below w.heap.size w W2 by rw [← hW2]; exact HB1.out.alloc HB1.out.size _)
  have HI2 := Lib.hid (HI.out.pure HB2.out)
  clear hW2 hvb HB1 HI1
  obtain ⟨cb, off, cap, ⟨c0, hlc, hmx, c1, c2, -, hgm⟩, -⟩ := HI2.out.grp HIL.out
  have v0 : W2.cell? ⟨vb, 0, none⟩ = some (.string nm) := mem_cells HV2.out 0
  have v1 : W2.cell? ⟨vb, 1, none⟩ = some (.string key) := mem_cells HV2.out 1
  have HNC := Lib.hid (show W2.cell? ⟨p, 1, none⟩ = some (.int .i64 r.cnt) from mem_cells HI2.out.hb 1)
  have HNF := Lib.hid (show W2.frozen? ⟨p, 1, none⟩ = false from frozen_cells HI2.out.hb 1)
  have hlk : ∀ n, (Instr.lookup 73 (.map (some (r.g (adAt r i)).mb)) (.agg #[.string nm, .string key]) true).run Try.prog (W2.drewN n) = .ok (.tuple #[.string (strOr (grpF r i (nm, key))), .bool (grpF r i (nm, key)).isSome]) (W2.drewN n) := fun n => GMap.lookOk (W := W2.drewN n) (hgm.below ⟨rfl, rfl, rfl, Nat.le_refl _, fun _ _ => rfl⟩) HOK.out
  generalize (r.g (adAt r i)).mb = mb at *
  generalize adAt r i = a at c1 c2
  have hi := HIL.out
  obtain ⟨N, hN⟩ : ∃ N, N = r.cur.length := ⟨_, rfl⟩
  rw [← hN] at c0 hlc hi
  have HF := Lib.hid (show grpF r i (nm, key) = grpF r i (nm, key) from rfl)
  obtain ⟨q, hq⟩ : ∃ q, q = grpF r i (nm, key) := ⟨_, rfl⟩
  rw [← hq] at hlk HA0 HPS
  have HQ := Lib.hid hq
  clear hN hgm HF hq
  have hl1 := hlk 1
  have hl1 : (Instr.lookup 73 (.map (some mb)) (.agg #[.string nm, .string key]) true).run Try.prog W2.drew = .ok (.tuple #[.string (strOr q), .bool q.isSome]) W2.drew := hl1
  clear hlk
  go_region_held3 (fun w' => w'.cell? ⟨p, 0, none⟩ = some (.slice (some ⟨cb, off, none⟩) N cap) ∧ w'.cell? ⟨cb, off + i, none⟩ = some (ptrTo a) ∧ w'.cell? ⟨a, 0, none⟩ = some (.map (some mb)) ∧ w'.cell? ⟨vb, 0, none⟩ = some (.string nm) ∧ w'.cell? ⟨vb, 1, none⟩ = some (.string key))
    (go_keep) (fail)
  simp only [Exit.then]
  go_at_K
  have HS2 := Lib.hid (HStep.pure HI.out (HB2.out.drew))
  have HV4 := Lib.hid (show W2.drew.heap[vb]? = some (.cells #[.string nm, .string key] 71 (0, 0)) from HV2.out)
  have HNM0 := Lib.hid (show ¬ mutB p r vb from fun h => by have := HI.out.cells_kind vb h; have := HVL.out; omega)
  clear v0 v1 c0 c1 c2 hlc hmx hl1
  cases q with
  | some s0 =>
    have HA := Lib.hid (show ans = 0 by rw [HA0.out, if_neg (by simp)])
    obtain ⟨r1, hr1⟩ : ∃ r1, r1 = r := ⟨r, rfl⟩
    have HF1 := Lib.hid (show grpF r1 i = grpF r i by rw [hr1])
    have HN1 := Lib.hid (show r1.nn = r.nn by rw [hr1])
    have HL1 := Lib.hid (show r1.cur.length = r.cur.length by rw [hr1])
    have HVW1 := Lib.hid (show ({ r1.view with grps := r1.view.grps.set i (putAt (grpF r i) (nm, key) val) } : PS) = s' by rw [HPS.out, if_pos HA.out, hr1, if_neg (by simp)]; rfl)
    have HNM := Lib.hid (show ¬ mutB p r1 vb by rw [hr1]; exact HNM0.out)
    have HS2 := Lib.hid (show HStep w base p r W2.drew r1 by rw [hr1]; exact HS2.out)
    clear hr1
    generalize hW4 : W2.drew = W4 at HV4 HS2
    have H14 := HS2
    clear hW4 HS2 HNC HNF HPS HA0 HQ HI2 HB2 HV2 HNM0
    go_wp2_with fail
    have HI4 := Lib.hid H14.out.inv
    have HOW := Lib.hid (own_any i W4.drew (HI4.out.pure ⟨rfl, rfl, rfl, Nat.le_refl _, fun _ _ => rfl⟩) (by rw [HL1.out]; exact HIL.out))
    have v4 : W4.cell? ⟨vb, 0, none⟩ = some (.string nm) := mem_cells HV4.out 0
    have v5 : W4.cell? ⟨vb, 1, none⟩ = some (.string key) := mem_cells HV4.out 1
    go_wp2_with fail
    go_region_held3 (fun w' => w'.cell? ⟨vb, 0, none⟩ = some (.string nm) ∧ w'.cell? ⟨vb, 1, none⟩ = some (.string key))
      (first | exact ⟨by assumption, by assumption⟩ | go_keep)
      ((first | (go_at_call 32; refine HOW.out.mono ?_; rintro e w5 ⟨r2, rfl, hO⟩; have hv5 : w5.heap[vb]? = some (.cells #[.string nm, .string key] 71 (0, 0)) := (hO.st.kp.block vb (Array.getElem?_eq_some_iff.1 HV4.out).1 HNM.out).trans HV4.out; have HO5 := Lib.hid hO; have HOWN := Lib.hid (own_put HO5.out HL1.out HF1.out (by rw [HN1.out]; exact hnn) HIL.out HOK.out HVS.out hv5); obtain ⟨W6, hrun6, hv6, HST6⟩ := HOWN.out; have hq0 : w5.cell? ⟨vb, 0, none⟩ = some (.string nm) := mem_cells hv5 0; have hq1 : w5.cell? ⟨vb, 1, none⟩ = some (.string key) := mem_cells hv5 1; have hq2 : W6.cell? ⟨vb, 0, none⟩ = some (.string nm) := mem_cells hv6 0; have hq3 : W6.cell? ⟨vb, 1, none⟩ = some (.string key) := mem_cells hv6 1; clear hO HOWN)))
    clear HOW HI4 v4 v5
    simp only [Exit.then]
    go_at_K
    go_wp2
    go_ret
    exact ⟨by rw [HA.out] <;> rfl, HST6.elim (fun r3 h => ⟨r3, ⟨H14.out.trans (((HStep.pure (W' := W4.drew) H14.out.inv ⟨rfl, rfl, rfl, Nat.le_refl _, fun _ _ => rfl⟩).trans HO5.out.st).trans h.1), by rw [h.2.1]; exact HVW1.out, h.2.2.1, by rw [h.2.2.2, HN1.out]; exact Nat.le_refl _⟩⟩)⟩
  | none =>
    have c4 : W2.drew.cell? ⟨p, 1, none⟩ = some (.int .i64 r.cnt) := HNC.out
    have f4 : W2.drew.frozen? ⟨p, 1, none⟩ = false := HNF.out
    by_cases h4 : r.cnt = 4000
    · have HA := Lib.hid (show ans = 4 by rw [HA0.out, if_pos ⟨rfl, h4⟩])
      have HP := Lib.hid (show s' = r.view by rw [HPS.out, if_neg (by rw [HA.out]; decide)])
      have h4b : (r.cnt == 4000) = true := by simp [h4]
      clear h4 HPS HA0 HQ
      go_wp2
      go_ret
      exact ⟨by rw [HA.out] <;> rfl, r, HS2.out, HP.out.symm, rfl, Nat.le_succ _⟩
    · have HA := Lib.hid (show ans = 0 by rw [HA0.out, if_neg (fun h => h4 h.2)])
      have h4b : (r.cnt == 4000) = false := by simp [h4]
      clear h4
      have HPN := Lib.hid (show p ≠ vb from fun e => by
        have h1 := HI2.out.hb
        rw [e, HV2.out] at h1
        exact absurd (by injection h1 with h1; injection h1) (show ¬ ((71 : TypeId) = 80) by decide))
      have H15 := Lib.hid (HS2.out.trans (HStep.own (W' := W2.drew.setCell ⟨p, 1, none⟩ (.int .i64 (r.cnt + 1))) HS2.out.inv ((Keeps.refl (fun k => k = p) _).setCell (p := ⟨p, 1, none⟩) (fun _ => rfl) _) (r.cnt + 1) r.last (set_block HS2.out.inv.hb)))
      have HV5 := Lib.hid (show (W2.drew.setCell ⟨p, 1, none⟩ (.int .i64 (r.cnt + 1))).heap[vb]? = some (.cells #[.string nm, .string key] 71 (0, 0)) from (set_block_other (Ne.symm HPN.out)).trans HV4.out)
      obtain ⟨r1, hr1⟩ : ∃ r1, r1 = ({ r with cnt := r.cnt + 1, last := r.last } : HS) := ⟨_, rfl⟩
      have HF1 := Lib.hid (show grpF r1 i = grpF r i by rw [hr1]; rfl)
      have HN1 := Lib.hid (show r1.nn = r.nn by rw [hr1])
      have HL1 := Lib.hid (show r1.cur.length = r.cur.length by rw [hr1])
      have HVW1 := Lib.hid (show ({ r1.view with grps := r1.view.grps.set i (putAt (grpF r i) (nm, key) val) } : PS) = s' by rw [HPS.out, if_pos HA.out, hr1, if_pos rfl]; rfl)
      have HNM := Lib.hid (show ¬ mutB p r1 vb by rw [hr1]; exact HNM0.out)
      have HS2 := Lib.hid (show HStep w base p r (W2.drew.setCell ⟨p, 1, none⟩ (.int .i64 (r.cnt + 1))) r1 by rw [hr1]; exact H15.out)
      have HV4 := HV5
      clear hr1 H15 HV5 HPN hl1 HNC HNF HPS HA0 HQ HI2 HB2 HV2 HNM0
      go_wp2_with fail
      have HS2 : Hid (HStep w base p r (W2.setCell ⟨p, 1, none⟩ (.int .i64 (r.cnt + 1))).drew r1) := HS2
      have HV4 : Hid ((W2.setCell ⟨p, 1, none⟩ (.int .i64 (r.cnt + 1))).drew.heap[vb]? = some (.cells #[.string nm, .string key] 71 (0, 0))) := HV4
      generalize hW4 : (W2.setCell ⟨p, 1, none⟩ (.int .i64 (r.cnt + 1))).drew = W4 at HV4 HS2 ⊢
      have H14 := HS2
      have HI4 := Lib.hid H14.out.inv
      have HOW := Lib.hid (own_any i W4.drew (HI4.out.pure ⟨rfl, rfl, rfl, Nat.le_refl _, fun _ _ => rfl⟩) (by rw [HL1.out]; exact HIL.out))
      have v4 : W4.cell? ⟨vb, 0, none⟩ = some (.string nm) := mem_cells HV4.out 0
      have v5 : W4.cell? ⟨vb, 1, none⟩ = some (.string key) := mem_cells HV4.out 1
      go_wp2_with fail
      go_region_held3 (fun w' => w'.cell? ⟨vb, 0, none⟩ = some (.string nm) ∧ w'.cell? ⟨vb, 1, none⟩ = some (.string key))
        (first | exact ⟨by assumption, by assumption⟩ | go_keep)
        ((first | (go_at_call 32; refine HOW.out.mono ?_; rintro e w5 ⟨r2, rfl, hO⟩; have hv5 : w5.heap[vb]? = some (.cells #[.string nm, .string key] 71 (0, 0)) := (hO.st.kp.block vb (Array.getElem?_eq_some_iff.1 HV4.out).1 HNM.out).trans HV4.out; have HO5 := Lib.hid hO; have HOWN := Lib.hid (own_put HO5.out HL1.out HF1.out (by rw [HN1.out]; exact hnn) HIL.out HOK.out HVS.out hv5); obtain ⟨W6, hrun6, hv6, HST6⟩ := HOWN.out; have hq0 : w5.cell? ⟨vb, 0, none⟩ = some (.string nm) := mem_cells hv5 0; have hq1 : w5.cell? ⟨vb, 1, none⟩ = some (.string key) := mem_cells hv5 1; have hq2 : W6.cell? ⟨vb, 0, none⟩ = some (.string nm) := mem_cells hv6 0; have hq3 : W6.cell? ⟨vb, 1, none⟩ = some (.string key) := mem_cells hv6 1; clear hO HOWN)))
      clear HOW HI4 v4 v5
      simp only [Exit.then]
      go_at_K
      go_wp2
      go_ret
      exact ⟨by rw [HA.out] <;> rfl, HST6.elim (fun r3 h => ⟨r3, ⟨H14.out.trans (((HStep.pure (W' := W4.drew) H14.out.inv ⟨rfl, rfl, rfl, Nat.le_refl _, fun _ _ => rfl⟩).trans HO5.out.st).trans h.1), by rw [h.2.1]; exact HVW1.out, h.2.2.1, by rw [h.2.2.2, HN1.out]; exact Nat.le_refl _⟩⟩)⟩
end Go.Proofs.Ytbmpoecmjmmngaa
