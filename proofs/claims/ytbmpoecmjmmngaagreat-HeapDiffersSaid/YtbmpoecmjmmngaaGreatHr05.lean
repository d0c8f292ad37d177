/- Part 5 of the texts that the law's proof stands on, merged. -/
import Derived.Deep.RegionHeld3
import Derived.Deep.RegionLaw
import Derived.Test.YtbmpoecmjmmngaaGreatHr04
set_option linter.unusedVariables false
set_option linter.unusedSimpArgs false
/- The two states within an act: small facts. -/
namespace Go.Proofs.YtbmpoecmjmmngaaGreat
open Go.RowKit Go.Maps

section
variable {base p N R : Nat} {M M' : Mem} {w0 W W' W2 : World} {o : World × HS × Mem} {h h' : HS} {r r' : RS} {a q : Value}
theorem joinM_mono {w w' : World} (hb : Below w.heap.size w w') : (joinM M W w).le (joinM M W w') := fun b o v e => by
  unfold joinM at e ⊢
  split at e
  · rename_i hs; rw [if_pos hs]; exact below_mem hb _ _ _ e
  · rename_i hs; rw [if_neg hs]; exact e
theorem store4_keeps (w : World) (b : Nat) (v0 v1 v2 v3 : Value) : Keeps (· = b) w (store4 w b v0 v1 v2 v3) := by
  unfold store4
  exact ((((Keeps.refl (· = b) w).setCell (p := ⟨b, 0, none⟩) (fun _ => rfl) _).setCell (p := ⟨b, 1, none⟩) (fun _ => rfl) _).setCell (p := ⟨b, 2, none⟩) (fun _ => rfl) _).setCell (p := ⟨b, 3, none⟩) (fun _ => rfl) _
theorem HMid.stored (c : HMid base p N M R o W h r) (hk : Keeps (· = R) W W2) : M.le (Go.Proofs.YtbmpoecmjmmngaaGreat.mem W2) := fun b o v e => by
  obtain ⟨hne, e⟩ := Mem.of_on (c.mem _ _ _ e)
  obtain ⟨_, e⟩ := Mem.of_on e
  exact (mem_of_block (hk.block b (mem_lt e) hne) o).trans e
theorem HMid.res (c : HMid base p N M R o W h r) : W.cell? ⟨R, 0, none⟩ = some (.int .i64 0) ∧ W.cell? ⟨R, 1, none⟩ = some (.int .i64 0) ∧ W.cell? ⟨R, 2, none⟩ = some (.slice none 0 0) ∧ W.cell? ⟨R, 3, none⟩ = some (.slice none 0 0) ∧ ∀ o, W.frozen? ⟨R, o, none⟩ = false :=
  ⟨mem_cells c.hR 0, mem_cells c.hR 1, mem_cells c.hR 2, mem_cells c.hR 3, frozen_cells c.hR⟩
theorem put_last (s : PS) (N : Nat) (F : FMap) (g : Int) (nm key val : ByteArray) : (s.put N F g nm key val).last = s.last := by unfold PS.put; split <;> rfl
theorem put_sn (s : PS) (N : Nat) (F : FMap) (g : Int) (nm key val : ByteArray) : (s.put N F g nm key val).sn = s.sn := by unfold PS.put; split <;> rfl
theorem HMid.again (c : HMid base p N M R o W h r) : HMid base p N M R o W h r := c
end
end Go.Proofs.YtbmpoecmjmmngaaGreat
/- The reference's Put. -/
namespace Go.Proofs.YtbmpoecmjmmngaaGreat
open Go.RowKit Go.Maps

theorem one_at {w : World} {b : Nat} {x : Ent} {T : TypeId} (h : w.heap[b]? = some (.cells #[.int .i64 x.g, .string x.nm, .string x.key, .string x.val] T (0, 0))) (hok : x.okE) : tEnts.rv (mem w) [.slice (some ⟨b, 0, none⟩) 1 1] [x] := by
  refine ⟨some ⟨b, 0, none⟩, 1, rfl, Nat.le_refl _, by unfold maxLen; decide, fun _ => ⟨b, 0, rfl, fun k hk => ?_⟩⟩
  match k, hk with
  | 0, _ => exact ⟨x.cs, fun j v hj => by
      rw [show 0 + 0 * tEnt.sz + j = j by omega]
      have := mem_cells h j
      have h2 : (#[.int .i64 x.g, .string x.nm, .string x.key, .string x.val] : Array Value)[j]? = some v := by simpa using hj
      rw [h2] at this
      exact this, rfl, hok⟩
set_option maxRecDepth 100000 in
set_option maxHeartbeats 16000000 in
theorem refPut_any (r : RS) (a q : Value) (M : Mem) (W : World) (hM : M.le (mem W)) (h : RsAt M r a q) (hl : r.es.length ≤ 4000) (ha : Asc r.es) (x : Ent) (hx : x.okE) :
    Calls Tryz.prog 39 #[rsV r a q, .int .i64 x.g, .string x.nm, .string x.key, .string x.val] W (REs M W r q (putR r.N r.es x)) := by
  have HM := Lib.hid hM
  have HRS := Lib.hid h
  obtain ⟨aa, ca, rfl, hla, hma, hra⟩ := slice_form h.ha
  obtain ⟨aq, cq, rfl, hlq, hmq, hrq⟩ := slice_form h.hq
  have hca : ca ≤ 9223372036854775807 := by unfold maxLen at hma; exact hma
  have hcq : cq ≤ 9223372036854775807 := by unfold maxLen at hmq; exact hmq
  have HA := Lib.hid (fun w' (hb : Below W.heap.size W w') => tEnts.mono _ _ _ _ (Mem.le_trans hM (below_mem hb)) hra)
  have HF0 := Lib.hid (Fr.start W (.int .i64 r.N) (.int .i64 r.next) (.slice aa r.es.length ca) (.slice aq r.sn.length cq))
  clear hma hmq hra hrq h hM
  obtain ⟨xg, nm, key, val⟩ := x
  have HX := Lib.hid hx
  have HC := Lib.hid (chk_cases r.N xg nm [key, val])
  have HP := Lib.hid (show putR r.N r.es ⟨xg, nm, key, val⟩ = if chk r.N xg nm [key, val] ≠ 0 then (r.es, chk r.N xg nm [key, val]) else if (delL r.es ⟨xg, nm, key, val⟩).length = 4000 then (r.es, 4) else (putL r.es ⟨xg, nm, key, val⟩, 0) from rfl)
  generalize putR r.N r.es ⟨xg, nm, key, val⟩ = pr at *
  have HK := Lib.hid (fun wr => refAsked_any r.N (.int .i64 r.next) (.slice aa r.es.length ca) (.slice aq r.sn.length cq) xg nm key val wr hx.2.1 hx.2.2.1 hx.2.2.2)
  generalize hcc : chk r.N xg nm [key, val] = c at *
  have HCC := Lib.hid hcc
  clear hcc
  have HASC := Lib.hid ha
  clear ha hx
  go_enter Tryz.func39, Tryz.ntmps39
  go_wp2_with fail
  refine (HK.out _).mono ?_
  rintro e w1 ⟨rfl, hb1⟩
  have HF1 := Lib.hid (HF0.out.pure hb1)
  clear hb1 HK HF0
  have c0 : w1.cell? ⟨W.heap.size, 0, none⟩ = some (.int .i64 r.N) := HF1.out.cells.1
  have c1 : w1.cell? ⟨W.heap.size, 1, none⟩ = some (.int .i64 r.next) := HF1.out.cells.2.1
  have c2 : w1.cell? ⟨W.heap.size, 2, none⟩ = some (.slice aa r.es.length ca) := HF1.out.cells.2.2.1
  have c3 : w1.cell? ⟨W.heap.size, 3, none⟩ = some (.slice aq r.sn.length cq) := HF1.out.cells.2.2.2
  have cz : ∀ o, w1.frozen? ⟨W.heap.size, o, none⟩ = false := HF1.out.thaw
  have d0 : w1.cell? ⟨W.heap.size + 1, 0, none⟩ = some (.int .i64 0) := HF1.out.res.1
  have d1 : w1.cell? ⟨W.heap.size + 1, 1, none⟩ = some (.int .i64 0) := HF1.out.res.2.1
  have d2 : w1.cell? ⟨W.heap.size + 1, 2, none⟩ = some (.slice none 0 0) := HF1.out.res.2.2.1
  have d3 : w1.cell? ⟨W.heap.size + 1, 3, none⟩ = some (.slice none 0 0) := HF1.out.res.2.2.2.1
  have dz : ∀ o, w1.frozen? ⟨W.heap.size + 1, o, none⟩ = false := HF1.out.res.2.2.2.2
  by_cases hc0 : c = 0
  case neg =>
    have hcb : (c == 0) = false := by simp [hc0]
    have HPV := Lib.hid (show pr = (r.es, c) by rw [HP.out, if_pos hc0])
    clear HP
    go_wp2
    have r1 := store4_block HF1.out.rs (.int .i64 r.N) (.int .i64 r.next) (.slice aa r.es.length ca) (.slice aq r.sn.length cq)
    have hBz := store4_below HF1.out.bl (Nat.le_succ _) (.int .i64 r.N) (.int .i64 r.next) (.slice aa r.es.length ca) (.slice aq r.sn.length cq)
    have hnz : (nw W w1).le (nw W (store4 w1 (W.heap.size + 1) (.int .i64 r.N) (.int .i64 r.next) (.slice aa r.es.length ca) (.slice aq r.sn.length cq))) := nw_store4 (.int .i64 r.N) (.int .i64 r.next) (.slice aa r.es.length ca) (.slice aq r.sn.length cq)
    show bodyPost _ _ _ _ _ (store4 w1 (W.heap.size + 1) (.int .i64 r.N) (.int .i64 r.next) (.slice aa r.es.length ca) (.slice aq r.sn.length cq))
    generalize store4 w1 (W.heap.size + 1) (.int .i64 r.N) (.int .i64 r.next) (.slice aa r.es.length ca) (.slice aq r.sn.length cq) = wz at r1 hBz hnz ⊢
    have g0 : wz.cell? ⟨W.heap.size + 1, 0, none⟩ = some (.int .i64 r.N) := mem_cells r1 0
    have g1 : wz.cell? ⟨W.heap.size + 1, 1, none⟩ = some (.int .i64 r.next) := mem_cells r1 1
    have g2 : wz.cell? ⟨W.heap.size + 1, 2, none⟩ = some (.slice aa r.es.length ca) := mem_cells r1 2
    have g3 : wz.cell? ⟨W.heap.size + 1, 3, none⟩ = some (.slice aq r.sn.length cq) := mem_cells r1 3
    exact bodyPost_ret (v := .tuple #[.agg #[.int .i64 r.N, .int .i64 r.next, .slice aa r.es.length ca, .slice aq r.sn.length cq], .int .i64 c]) (by simp [results, Tryz.results39, go_sem, g0, g1, g2, g3]) rfl (by rw [HPV.out]; exact ⟨hBz, _, rfl, HRS.out.mono (joinM_le HM.out)⟩)
  subst hc0
  have HP2 := Lib.hid (show pr = if (delL r.es ⟨xg, nm, key, val⟩).length = 4000 then (r.es, 4) else (putL r.es ⟨xg, nm, key, val⟩, 0) by rw [HP.out, if_neg (by simp)])
  have HAT := Lib.hid (refAt_any r.es (.slice aa r.es.length ca) xg nm key val w1 (HA.out _ HF1.out.bl))
  clear HP HC
  go_wp2_with fail
  refine HAT.out.mono ?_
  rintro e w2 ⟨i, b, rfl, hat, hb2⟩
  have HF2 := Lib.hid (HF1.out.pure hb2)
  have HATP := Lib.hid hat
  clear hb2 hat HAT HF1 c0 c1 c2 c3 cz d0 d1 d2 d3 dz
  have c0 : w2.cell? ⟨W.heap.size, 0, none⟩ = some (.int .i64 r.N) := HF2.out.cells.1
  have c1 : w2.cell? ⟨W.heap.size, 1, none⟩ = some (.int .i64 r.next) := HF2.out.cells.2.1
  have c2 : w2.cell? ⟨W.heap.size, 2, none⟩ = some (.slice aa r.es.length ca) := HF2.out.cells.2.2.1
  have c3 : w2.cell? ⟨W.heap.size, 3, none⟩ = some (.slice aq r.sn.length cq) := HF2.out.cells.2.2.2
  have cz : ∀ o, w2.frozen? ⟨W.heap.size, o, none⟩ = false := HF2.out.thaw
  have d0 : w2.cell? ⟨W.heap.size + 1, 0, none⟩ = some (.int .i64 0) := HF2.out.res.1
  have d1 : w2.cell? ⟨W.heap.size + 1, 1, none⟩ = some (.int .i64 0) := HF2.out.res.2.1
  have d2 : w2.cell? ⟨W.heap.size + 1, 2, none⟩ = some (.slice none 0 0) := HF2.out.res.2.2.1
  have d3 : w2.cell? ⟨W.heap.size + 1, 3, none⟩ = some (.slice none 0 0) := HF2.out.res.2.2.2.1
  have dz : ∀ o, w2.frozen? ⟨W.heap.size + 1, o, none⟩ = false := HF2.out.res.2.2.2.2
  cases b with
  | true =>
    obtain ⟨⟨y, hly, hyp, -⟩, hil, hlow, hup⟩ := HATP.out.yes' HASC.out
    have hdl : r.es.take i ++ r.es.drop (i + 1) = delL r.es ⟨xg, nm, key, val⟩ := by rw [hlow, hup]; rfl
    have HWO := Lib.hid (refWithout_any r.es (.slice aa r.es.length ca) i w2 (HA.out _ HF2.out.bl) hil (by omega))
    have hti : (r.es.take i).length = i := by rw [List.length_take]; omega
    have HLO := Lib.hid (show (r.es.take i ++ r.es.drop (i + 1)).take i = r.es.filter (fun y => decide (placeC y ⟨xg, nm, key, val⟩ < 0)) by rw [← hlow]; exact List.take_left' hti)
    have HUP := Lib.hid (show (r.es.take i ++ r.es.drop (i + 1)).drop i = r.es.filter (fun y => decide (placeC ⟨xg, nm, key, val⟩ y < 0)) by rw [← hup]; exact List.drop_left' hti)
    have HIL := Lib.hid (show i ≤ (r.es.take i ++ r.es.drop (i + 1)).length by rw [List.length_append, hti]; omega)
    have HLL := Lib.hid (show (r.es.take i ++ r.es.drop (i + 1)).length ≤ 4000 by rw [List.length_append, List.length_take, List.length_drop]; omega)
    have HD := Lib.hid hdl
    clear hly hyp hlow hup hdl hti
    generalize r.es.take i ++ r.es.drop (i + 1) = L at *
    clear hil
    go_wp2_with fail
    refine HWO.out.mono ?_
    rintro e w3 ⟨v3, rfl, hrv, hb3⟩
    obtain ⟨sa, sc, rfl, hsl, hsm, hrv⟩ := slice_form hrv
    have HSRC := Lib.hid (fun w' (hb : Below w3.heap.size w3 w') => tEnts.mono _ _ _ _ (Mem.le_trans (Mem.on_le _ _) (below_mem hb)) hrv)
    have hsc : sc ≤ 9223372036854775807 := by unfold maxLen at hsm; exact hsm
    have HF3 := Lib.hid (HF2.out.pure hb3)
    clear hrv hsm hb3 HWO HF2 HATP c0 c1 c2 c3 cz d0 d1 d2 d3 dz
    have c0 : w3.cell? ⟨W.heap.size, 0, none⟩ = some (.int .i64 r.N) := HF3.out.cells.1
    have c1 : w3.cell? ⟨W.heap.size, 1, none⟩ = some (.int .i64 r.next) := HF3.out.cells.2.1
    have c2 : w3.cell? ⟨W.heap.size, 2, none⟩ = some (.slice aa r.es.length ca) := HF3.out.cells.2.2.1
    have c3 : w3.cell? ⟨W.heap.size, 3, none⟩ = some (.slice aq r.sn.length cq) := HF3.out.cells.2.2.2
    have cz : ∀ o, w3.frozen? ⟨W.heap.size, o, none⟩ = false := HF3.out.thaw
    have d0 : w3.cell? ⟨W.heap.size + 1, 0, none⟩ = some (.int .i64 0) := HF3.out.res.1
    have d1 : w3.cell? ⟨W.heap.size + 1, 1, none⟩ = some (.int .i64 0) := HF3.out.res.2.1
    have d2 : w3.cell? ⟨W.heap.size + 1, 2, none⟩ = some (.slice none 0 0) := HF3.out.res.2.2.1
    have d3 : w3.cell? ⟨W.heap.size + 1, 3, none⟩ = some (.slice none 0 0) := HF3.out.res.2.2.2.1
    have dz : ∀ o, w3.frozen? ⟨W.heap.size + 1, o, none⟩ = false := HF3.out.res.2.2.2.2
    by_cases h4 : L.length = 4000
    · have h4b : ((L.length : Int) == 4000) = true := by simp [h4]
      have HPV := Lib.hid (show pr = (r.es, 4) by rw [HP2.out, if_pos (by rw [← HD.out]; exact h4)])
      clear HP2 HD HLO HUP HSRC h4
      go_wp2
      have r1 := store4_block HF3.out.rs (.int .i64 r.N) (.int .i64 r.next) (.slice aa r.es.length ca) (.slice aq r.sn.length cq)
      have hBz := store4_below HF3.out.bl (Nat.le_succ _) (.int .i64 r.N) (.int .i64 r.next) (.slice aa r.es.length ca) (.slice aq r.sn.length cq)
      have hnz : (nw W w3).le (nw W (store4 w3 (W.heap.size + 1) (.int .i64 r.N) (.int .i64 r.next) (.slice aa r.es.length ca) (.slice aq r.sn.length cq))) := nw_store4 (.int .i64 r.N) (.int .i64 r.next) (.slice aa r.es.length ca) (.slice aq r.sn.length cq)
      show bodyPost _ _ _ _ _ (store4 w3 (W.heap.size + 1) (.int .i64 r.N) (.int .i64 r.next) (.slice aa r.es.length ca) (.slice aq r.sn.length cq))
      generalize store4 w3 (W.heap.size + 1) (.int .i64 r.N) (.int .i64 r.next) (.slice aa r.es.length ca) (.slice aq r.sn.length cq) = wz at r1 hBz hnz ⊢
      have g0 : wz.cell? ⟨W.heap.size + 1, 0, none⟩ = some (.int .i64 r.N) := mem_cells r1 0
      have g1 : wz.cell? ⟨W.heap.size + 1, 1, none⟩ = some (.int .i64 r.next) := mem_cells r1 1
      have g2 : wz.cell? ⟨W.heap.size + 1, 2, none⟩ = some (.slice aa r.es.length ca) := mem_cells r1 2
      have g3 : wz.cell? ⟨W.heap.size + 1, 3, none⟩ = some (.slice aq r.sn.length cq) := mem_cells r1 3
      exact bodyPost_ret (v := .tuple #[.agg #[.int .i64 r.N, .int .i64 r.next, .slice aa r.es.length ca, .slice aq r.sn.length cq], .int .i64 4]) (by simp [results, Tryz.results39, go_sem, g0, g1, g2, g3]) rfl (by rw [HPV.out]; exact ⟨hBz, _, rfl, HRS.out.mono (joinM_le HM.out)⟩)
    · have h4b : ((L.length : Int) == 4000) = false := by simp; omega
      have HPV := Lib.hid (show pr = (putL r.es ⟨xg, nm, key, val⟩, 0) by rw [HP2.out, if_neg (by rw [← HD.out]; exact h4)])
      have HPL := Lib.hid (show putL r.es ⟨xg, nm, key, val⟩ = (([] ++ L.take i) ++ [⟨xg, nm, key, val⟩]) ++ L.drop i by rw [HLO.out, HUP.out]; unfold putL; simp)
      obtain ⟨a1, cc1, hlo, hr1⟩ := cut_lo (HSRC.out _ (Below.refl _ _)) (n := i) HIL.out Tryz.underlying22 entSize
      obtain ⟨a2, cc2, hhi, hr2⟩ := cut_hi (HSRC.out _ (Below.refl _ _)) (n := i) HIL.out Tryz.underlying22 entSize
      have hil := HIL.out
      have hll := HLL.out
      have HL1 := Lib.hid (show i = (L.take i).length by rw [List.length_take]; omega)
      have HL2 := Lib.hid (show L.length - i = (L.drop i).length by rw [List.length_drop])
      have HA1 := Lib.hid (show ([] : List Ent).length + (L.take i).length ≤ maxLen by rw [← HL1.out]; unfold maxLen; simp; omega)
      have HA2 := Lib.hid (show (([] : List Ent).length + (L.take i).length) * 56 ≤ 140737488355328 by rw [← HL1.out]; simp; omega)
      have HA3 := Lib.hid (show ([] ++ L.take i).length + [(⟨xg, nm, key, val⟩ : Ent)].length ≤ maxLen by rw [List.nil_append, ← HL1.out]; unfold maxLen; simp; omega)
      have HA4 := Lib.hid (show (([] ++ L.take i).length + [(⟨xg, nm, key, val⟩ : Ent)].length) * 56 ≤ 140737488355328 by rw [List.nil_append, ← HL1.out]; simp; omega)
      have HA5 := Lib.hid (show (([] ++ L.take i) ++ [(⟨xg, nm, key, val⟩ : Ent)]).length + (L.drop i).length ≤ maxLen by rw [← HL2.out, List.length_append, List.nil_append, ← HL1.out]; unfold maxLen; simp; omega)
      have HA6 := Lib.hid (show ((([] ++ L.take i) ++ [(⟨xg, nm, key, val⟩ : Ent)]).length + (L.drop i).length) * 56 ≤ 140737488355328 by rw [← HL2.out, List.length_append, List.nil_append, ← HL1.out]; simp; omega)
      clear HP2 HD HLO HUP h4 hil hll
      go_wp2_with fail
      generalize hw4 : w3.alloc (.cells #[.int .i64 xg, .string nm, .string key, .string val] 34) = w4
      have HXB := Lib.hid (show w4.heap[w3.heap.size]? = some (.cells #[.int .i64 xg, .string nm, .string key, .string val] 34 (0, 0)) by rw [← hw4]; exact heap_alloc_new _ _)
      have HB4 := Lib.hid (show Below w3.heap.size w3 w4 by rw [← hw4]; exact (Below.refl _ _).alloc (Nat.le_refl _) _)
      have HF4 := Lib.hid (HF3.out.pure HB4.out)
      have HWL := Lib.hid (show W.heap.size ≠ w3.heap.size by have := HF3.out.sz; omega)
      have HR1 := Lib.hid (fun w' (h : Below w4.heap.size w4 w') => tEnts.mono _ _ _ _ (Mem.le_trans (below_mem HB4.out) (below_mem h)) hr1)
      have HR2 := Lib.hid (fun w' (h : Below w4.heap.size w4 w') => tEnts.mono _ _ _ _ (Mem.le_trans (below_mem HB4.out) (below_mem h)) hr2)
      clear hr1 hr2 HSRC
      clear hw4 c0 c1 c2 c3 cz d0 d1 d2 d3 dz
      generalize w3.heap.size = bx at *
      have HKX := Lib.hid (fun (w' : World) (h : Keeps (fun k => k = W.heap.size) w4 w') => (show w'.cell? ⟨bx, 0, none⟩ = some (.int .i64 xg) ∧ w'.cell? ⟨bx, 1, none⟩ = some (.string nm) ∧ w'.cell? ⟨bx, 2, none⟩ = some (.string key) ∧ w'.cell? ⟨bx, 3, none⟩ = some (.string val) from by
        have hb := (h.block bx (Array.getElem?_eq_some_iff.1 HXB.out).1 (fun e => HWL.out e.symm)).trans HXB.out
        exact ⟨mem_cells hb 0, mem_cells hb 1, mem_cells hb 2, mem_cells hb 3⟩))
      have HSZ := Lib.hid (show W.heap.size < w4.heap.size by have := HF4.out.sz; omega)
      have HKB := Lib.hid (fun (w' : World) (h : Below w4.heap.size w4 w') => (show Keeps (fun k => k = W.heap.size) w4 w' from (below_keeps h).wide (fun k h1 h2 => by omega)))
      have HBd := Lib.hid (show Below w4.heap.size w4 w4.drew from (Below.refl _ _).drew)
      have HBa := Lib.hid (show Below w4.heap.size w4 (w4.alloc (.cells #[] 34)).drew from ((Below.refl _ _).alloc (Nat.le_refl _) _).drew)
      have HBe := Lib.hid (show Below w4.heap.size w4 (w4.alloc (.cells #[.int .i64 xg, .string nm, .string key, .string val] 34)).drew from ((Below.refl _ _).alloc (Nat.le_refl _) _).drew)
      have HBb := Lib.hid (show Below w4.heap.size w4 ((w4.alloc (.cells #[] 34)).alloc (.cells #[.int .i64 xg, .string nm, .string key, .string val] 34)).drew from (((Below.refl _ _).alloc (Nat.le_refl _) _).alloc (by simp) _).drew)
      have HBc := Lib.hid (show Below w4.heap.size w4 ((w4.alloc (.cells #[.int .i64 xg, .string nm, .string key, .string val] 34)).alloc (.cells #[] 34)).drew from (((Below.refl _ _).alloc (Nat.le_refl _) _).alloc (by simp) _).drew)
      have HLa := Lib.hid (show OwnsO tEnt ((w4.alloc (.cells #[] 34)).drew) 34 (.slice (some ⟨w4.heap.size, 0, none⟩) 0 0) [] from lit0_of tEnt (heap_alloc_new w4 _))
      have HLb := Lib.hid (show OwnsO tEnt (((w4.alloc (.cells #[] 34)).alloc (.cells #[.int .i64 xg, .string nm, .string key, .string val] 34)).drew) 34 (.slice (some ⟨w4.heap.size, 0, none⟩) 0 0) [] from lit0_of tEnt (alloc_at0 w4 _ _))
      have HLc := Lib.hid (show OwnsO tEnt (((w4.alloc (.cells #[.int .i64 xg, .string nm, .string key, .string val] 34)).alloc (.cells #[] 34)).drew) 34 (.slice (some ⟨w4.heap.size + 1, 0, none⟩) 0 0) [] from lit0_of tEnt (alloc_at1 w4 _ _))
      have HXb := Lib.hid (show (((w4.alloc (.cells #[] 34)).alloc (.cells #[.int .i64 xg, .string nm, .string key, .string val] 34)).drew).heap[w4.heap.size + 1]? = some (.cells #[.int .i64 xg, .string nm, .string key, .string val] 34 (0, 0)) from alloc_at1 w4 _ _)
      have HXc := Lib.hid (show (((w4.alloc (.cells #[.int .i64 xg, .string nm, .string key, .string val] 34)).alloc (.cells #[] 34)).drew).heap[w4.heap.size]? = some (.cells #[.int .i64 xg, .string nm, .string key, .string val] 34 (0, 0)) from alloc_at0 w4 _ _)
      have HXS := Lib.hid (fun (w' : World) (h : Below w4.heap.size w4 w') => HKX.out w' (HKB.out w' h))
      obtain ⟨e0, e1, e2, e3⟩ := HXS.out _ HBd.out
      obtain ⟨e4, e5, e6, e7⟩ := HXS.out _ HBa.out
      have k0 : w4.cell? ⟨bx, 0, none⟩ = some (.int .i64 xg) := e0
      have k1 : w4.cell? ⟨bx, 1, none⟩ = some (.string nm) := e1
      have k2 : w4.cell? ⟨bx, 2, none⟩ = some (.string key) := e2
      have k3 : w4.cell? ⟨bx, 3, none⟩ = some (.string val) := e3
      have k4 : (w4.alloc (.cells #[] 34)).cell? ⟨bx, 0, none⟩ = some (.int .i64 xg) := e4
      have k5 : (w4.alloc (.cells #[] 34)).cell? ⟨bx, 1, none⟩ = some (.string nm) := e5
      have k6 : (w4.alloc (.cells #[] 34)).cell? ⟨bx, 2, none⟩ = some (.string key) := e6
      have k7 : (w4.alloc (.cells #[] 34)).cell? ⟨bx, 3, none⟩ = some (.string val) := e7
      clear e0 e1 e2 e3 e4 e5 e6 e7
      have HZb := Lib.hid (show w4.heap.size ≤ ((w4.alloc (.cells #[] 34)).alloc (.cells #[.int .i64 xg, .string nm, .string key, .string val] 34)).drew.heap.size ∧ w4.heap.size ≤ ((w4.alloc (.cells #[.int .i64 xg, .string nm, .string key, .string val] 34)).alloc (.cells #[] 34)).drew.heap.size ∧ w4.heap.size ≤ (w4.alloc (.cells #[] 34)).drew.heap.size from ⟨HBb.out.size, HBc.out.size, HBa.out.size⟩)
      go_region_law (first
          | (refine step_append_os rfl (.tmp 51) (.tmp 54) 22 rfl tEnt tEnt_flat tEnt_one Tryz.underlying22 infoEnt rfl (Nat.succ_pos 3) (.slice (some ⟨w4.heap.size, 0, none⟩) 0 0) [] (L.take i) rfl HLa.out _ _ _ rfl HL1.out (HR1.out _ HBa.out) HA1.out HA2.out ?_; intro v5 w5 own5 happ5; obtain ⟨hb5, hg5⟩ := app_below (Z := w4) (B := w4.heap.size) HBa.out HZb.out.2.2 happ5 (fun k e => by cases e; exact Nat.le_refl _); obtain ⟨a5, n5, c5, rfl, -⟩ := own5.formN; obtain ⟨f0, f1, f2, f3⟩ := HXS.out _ hb5; have hb56 := hb5.alloc hb5.size (.cells #[.int .i64 xg, .string nm, .string key, .string val] 34); have own56 := own5.keeps (w' := w5.alloc (.cells #[.int .i64 xg, .string nm, .string key, .string val] 34)) (fun k e => Below.heap_alloc _ _ _ (own5.lt k e)); have hx5 := heap_alloc_new w5 (.cells #[.int .i64 xg, .string nm, .string key, .string val] 34); have hz5 := hb56.size; clear happ5)
          | (refine step_append_os rfl (.tmp 51) (.tmp 54) 22 rfl tEnt tEnt_flat tEnt_one Tryz.underlying22 infoEnt rfl (Nat.succ_pos 3) (.slice (some ⟨w4.heap.size, 0, none⟩) 0 0) [] (L.take i) rfl HLb.out _ _ _ rfl HL1.out (HR1.out _ HBb.out) HA1.out HA2.out ?_; intro v5 w5 own5 happ5; obtain ⟨hb5, hg5⟩ := app_below (Z := w4) (B := w4.heap.size) HBb.out HZb.out.1 happ5 (fun k e => by cases e; exact Nat.le_refl _); have hx5 := (happ5.grown.block (w4.heap.size + 1) (Array.getElem?_eq_some_iff.1 HXb.out).1 (by simp [Value.ownBlock])).trans HXb.out; obtain ⟨a5, n5, c5, rfl, -⟩ := own5.formN; obtain ⟨f0, f1, f2, f3⟩ := HXS.out _ hb5; have hb56 := hb5; have own56 := own5; have hz5 := hb56.size; clear happ5)
          | (refine step_append_os rfl (.tmp 51) (.tmp 54) 22 rfl tEnt tEnt_flat tEnt_one Tryz.underlying22 infoEnt rfl (Nat.succ_pos 3) (.slice (some ⟨w4.heap.size + 1, 0, none⟩) 0 0) [] (L.take i) rfl HLc.out _ _ _ rfl HL1.out (HR1.out _ HBc.out) HA1.out HA2.out ?_; intro v5 w5 own5 happ5; obtain ⟨hb5, hg5⟩ := app_below (Z := w4) (B := w4.heap.size) HBc.out HZb.out.2.1 happ5 (fun k e => by cases e; exact Nat.le_succ _); have hx5 := (happ5.grown.block w4.heap.size (Array.getElem?_eq_some_iff.1 HXc.out).1 (by simp [Value.ownBlock])).trans HXc.out; obtain ⟨a5, n5, c5, rfl, -⟩ := own5.formN; obtain ⟨f0, f1, f2, f3⟩ := HXS.out _ hb5; have hb56 := hb5; have own56 := own5; have hz5 := hb56.size; clear happ5)
          | (refine step_append_os rfl (.tmp 55) (.tmp 57) 22 rfl tEnt tEnt_flat tEnt_one Tryz.underlying22 infoEnt rfl (Nat.succ_pos 3) (.slice a5 n5 c5) ([] ++ L.take i) [(⟨xg, nm, key, val⟩ : Ent)] rfl own56 _ _ _ rfl rfl (one_at hx5 HX.out) HA3.out HA4.out ?_; intro v6 w6 own6 happ6; obtain ⟨hb6, hg6⟩ := app_below (Z := w4) (B := w4.heap.size) hb56 hz5 happ6 hg5; obtain ⟨a6, n6, c6, rfl, -⟩ := own6.formN; clear happ6)
          | (refine step_append_os rfl (.tmp 58) (.tmp 61) 22 rfl tEnt tEnt_flat tEnt_one Tryz.underlying22 infoEnt rfl (Nat.succ_pos 3) (.slice a6 n6 c6) (([] ++ L.take i) ++ [(⟨xg, nm, key, val⟩ : Ent)]) (L.drop i) rfl own6 _ _ _ rfl HL2.out (HR2.out _ hb6) HA5.out HA6.out ?_; intro v7 w7 own7 happ7; obtain ⟨hb7, hg7⟩ := app_below hb6 hb6.size happ7 hg6; obtain ⟨a7, n7, c7, rfl, -⟩ := own7.formN; have hk7 := HKB.out _ hb7; have HF7 := Lib.hid (HF4.out.pure hb7); have q7 := HF7.out.cells.2.2.1; have z7 := HF7.out.thaw 2; clear happ7))
      all_goals
        have HR7 := Lib.hid (own7.rv tEnt_flat (S := (W.heap.size + 2 ≤ ·)) (fun k e => Nat.le_trans HF4.out.sz (hg7 k e)))
        have HF8 := Lib.hid (HF7.out.set2 (.slice a7 n7 c7))
        have HN8 := Lib.hid (nw_set (W := W) (w := w7) (b := W.heap.size) (o := 2) (u := .slice a7 n7 c7) (by omega))
        clear own7 hb7 hg7 hk7 HF7 q7 z7
        generalize w7.setCell ⟨W.heap.size, 2, none⟩ (.slice a7 n7 c7) = w8 at *
        have c0 : w8.cell? ⟨W.heap.size, 0, none⟩ = some (.int .i64 r.N) := HF8.out.cells.1
        have c1 : w8.cell? ⟨W.heap.size, 1, none⟩ = some (.int .i64 r.next) := HF8.out.cells.2.1
        have c2 : w8.cell? ⟨W.heap.size, 2, none⟩ = some (.slice a7 n7 c7) := HF8.out.cells.2.2.1
        have c3 : w8.cell? ⟨W.heap.size, 3, none⟩ = some (.slice aq r.sn.length cq) := HF8.out.cells.2.2.2
        have cz : ∀ o, w8.frozen? ⟨W.heap.size, o, none⟩ = false := HF8.out.thaw
        have d0 : w8.cell? ⟨W.heap.size + 1, 0, none⟩ = some (.int .i64 0) := HF8.out.res.1
        have d1 : w8.cell? ⟨W.heap.size + 1, 1, none⟩ = some (.int .i64 0) := HF8.out.res.2.1
        have d2 : w8.cell? ⟨W.heap.size + 1, 2, none⟩ = some (.slice none 0 0) := HF8.out.res.2.2.1
        have d3 : w8.cell? ⟨W.heap.size + 1, 3, none⟩ = some (.slice none 0 0) := HF8.out.res.2.2.2.1
        have dz : ∀ o, w8.frozen? ⟨W.heap.size + 1, o, none⟩ = false := HF8.out.res.2.2.2.2
        go_wp2
        have r1 := store4_block HF8.out.rs (.int .i64 r.N) (.int .i64 r.next) (.slice a7 n7 c7) (.slice aq r.sn.length cq)
        have hBz := store4_below HF8.out.bl (Nat.le_succ _) (.int .i64 r.N) (.int .i64 r.next) (.slice a7 n7 c7) (.slice aq r.sn.length cq)
        have hnz : (nw W w8).le (nw W (store4 w8 (W.heap.size + 1) (.int .i64 r.N) (.int .i64 r.next) (.slice a7 n7 c7) (.slice aq r.sn.length cq))) := nw_store4 (.int .i64 r.N) (.int .i64 r.next) (.slice a7 n7 c7) (.slice aq r.sn.length cq)
        show bodyPost _ _ _ _ _ (store4 w8 (W.heap.size + 1) (.int .i64 r.N) (.int .i64 r.next) (.slice a7 n7 c7) (.slice aq r.sn.length cq))
        generalize store4 w8 (W.heap.size + 1) (.int .i64 r.N) (.int .i64 r.next) (.slice a7 n7 c7) (.slice aq r.sn.length cq) = wz at r1 hBz hnz ⊢
        have g0 : wz.cell? ⟨W.heap.size + 1, 0, none⟩ = some (.int .i64 r.N) := mem_cells r1 0
        have g1 : wz.cell? ⟨W.heap.size + 1, 1, none⟩ = some (.int .i64 r.next) := mem_cells r1 1
        have g2 : wz.cell? ⟨W.heap.size + 1, 2, none⟩ = some (.slice a7 n7 c7) := mem_cells r1 2
        have g3 : wz.cell? ⟨W.heap.size + 1, 3, none⟩ = some (.slice aq r.sn.length cq) := mem_cells r1 3
        exact bodyPost_ret (v := .tuple #[.agg #[.int .i64 r.N, .int .i64 r.next, .slice a7 n7 c7, .slice aq r.sn.length cq], .int .i64 0]) (by simp [results, Tryz.results39, go_sem, g0, g1, g2, g3]) rfl (by rw [HPV.out]; exact ⟨hBz, _, rfl, ⟨HRS.out.hN, HRS.out.hx, by (show tEnts.rv _ _ (putL r.es ⟨xg, nm, key, val⟩)); rw [HPL.out]; exact tEnts.mono _ _ _ _ (Mem.le_trans (Mem.le_trans HN8.out hnz) nw_join) HR7.out, (tSlice tSn).mono _ _ _ _ (joinM_le HM.out) HRS.out.hq⟩⟩)
  | false =>
    obtain ⟨hne, hlow, hup⟩ := HATP.out.no' HASC.out
    have HLO := Lib.hid hlow
    have HUP := Lib.hid hup
    have HD := Lib.hid (show r.es = delL r.es ⟨xg, nm, key, val⟩ by (conv => lhs; rw [← List.take_append_drop i r.es, hlow, hup]); rfl)
    have HIL := Lib.hid HATP.out.le
    have HLL := Lib.hid hl
    have HSRC := Lib.hid (fun w' (hb : Below w2.heap.size w2 w') => HA.out w' (HF2.out.bl.trans (hb.mono HF2.out.bl.size)))
    clear hne hlow hup HATP
    by_cases h4 : r.es.length = 4000
    · have h4b : ((r.es.length : Int) == 4000) = true := by simp [h4]
      have HPV := Lib.hid (show pr = (r.es, 4) by rw [HP2.out, if_pos (by rw [← HD.out]; exact h4)])
      clear HP2 HD HLO HUP HSRC h4
      go_wp2
      have r1 := store4_block HF2.out.rs (.int .i64 r.N) (.int .i64 r.next) (.slice aa r.es.length ca) (.slice aq r.sn.length cq)
      have hBz := store4_below HF2.out.bl (Nat.le_succ _) (.int .i64 r.N) (.int .i64 r.next) (.slice aa r.es.length ca) (.slice aq r.sn.length cq)
      have hnz : (nw W w2).le (nw W (store4 w2 (W.heap.size + 1) (.int .i64 r.N) (.int .i64 r.next) (.slice aa r.es.length ca) (.slice aq r.sn.length cq))) := nw_store4 (.int .i64 r.N) (.int .i64 r.next) (.slice aa r.es.length ca) (.slice aq r.sn.length cq)
      show bodyPost _ _ _ _ _ (store4 w2 (W.heap.size + 1) (.int .i64 r.N) (.int .i64 r.next) (.slice aa r.es.length ca) (.slice aq r.sn.length cq))
      generalize store4 w2 (W.heap.size + 1) (.int .i64 r.N) (.int .i64 r.next) (.slice aa r.es.length ca) (.slice aq r.sn.length cq) = wz at r1 hBz hnz ⊢
      have g0 : wz.cell? ⟨W.heap.size + 1, 0, none⟩ = some (.int .i64 r.N) := mem_cells r1 0
      have g1 : wz.cell? ⟨W.heap.size + 1, 1, none⟩ = some (.int .i64 r.next) := mem_cells r1 1
      have g2 : wz.cell? ⟨W.heap.size + 1, 2, none⟩ = some (.slice aa r.es.length ca) := mem_cells r1 2
      have g3 : wz.cell? ⟨W.heap.size + 1, 3, none⟩ = some (.slice aq r.sn.length cq) := mem_cells r1 3
      exact bodyPost_ret (v := .tuple #[.agg #[.int .i64 r.N, .int .i64 r.next, .slice aa r.es.length ca, .slice aq r.sn.length cq], .int .i64 4]) (by simp [results, Tryz.results39, go_sem, g0, g1, g2, g3]) rfl (by rw [HPV.out]; exact ⟨hBz, _, rfl, HRS.out.mono (joinM_le HM.out)⟩)
    · have h4b : ((r.es.length : Int) == 4000) = false := by simp; omega
      have HPV := Lib.hid (show pr = (putL r.es ⟨xg, nm, key, val⟩, 0) by rw [HP2.out, if_neg (by rw [← HD.out]; exact h4)])
      have HPL := Lib.hid (show putL r.es ⟨xg, nm, key, val⟩ = (([] ++ r.es.take i) ++ [⟨xg, nm, key, val⟩]) ++ r.es.drop i by rw [HLO.out, HUP.out]; unfold putL; simp)
      obtain ⟨a1, cc1, hlo, hr1⟩ := cut_lo (HSRC.out _ (Below.refl _ _)) (n := i) HIL.out Tryz.underlying22 entSize
      obtain ⟨a2, cc2, hhi, hr2⟩ := cut_hi (HSRC.out _ (Below.refl _ _)) (n := i) HIL.out Tryz.underlying22 entSize
      have hil := HIL.out
      have hll := HLL.out
      have HL1 := Lib.hid (show i = (r.es.take i).length by rw [List.length_take]; omega)
      have HL2 := Lib.hid (show r.es.length - i = (r.es.drop i).length by rw [List.length_drop])
      have HA1 := Lib.hid (show ([] : List Ent).length + (r.es.take i).length ≤ maxLen by rw [← HL1.out]; unfold maxLen; simp; omega)
      have HA2 := Lib.hid (show (([] : List Ent).length + (r.es.take i).length) * 56 ≤ 140737488355328 by rw [← HL1.out]; simp; omega)
      have HA3 := Lib.hid (show ([] ++ r.es.take i).length + [(⟨xg, nm, key, val⟩ : Ent)].length ≤ maxLen by rw [List.nil_append, ← HL1.out]; unfold maxLen; simp; omega)
      have HA4 := Lib.hid (show (([] ++ r.es.take i).length + [(⟨xg, nm, key, val⟩ : Ent)].length) * 56 ≤ 140737488355328 by rw [List.nil_append, ← HL1.out]; simp; omega)
      have HA5 := Lib.hid (show (([] ++ r.es.take i) ++ [(⟨xg, nm, key, val⟩ : Ent)]).length + (r.es.drop i).length ≤ maxLen by rw [← HL2.out, List.length_append, List.nil_append, ← HL1.out]; unfold maxLen; simp; omega)
      have HA6 := Lib.hid (show ((([] ++ r.es.take i) ++ [(⟨xg, nm, key, val⟩ : Ent)]).length + (r.es.drop i).length) * 56 ≤ 140737488355328 by rw [← HL2.out, List.length_append, List.nil_append, ← HL1.out]; simp; omega)
      clear HP2 HD HLO HUP h4 hil hll
      go_wp2_with fail
      generalize hw4 : w2.alloc (.cells #[.int .i64 xg, .string nm, .string key, .string val] 34) = w4
      have HXB := Lib.hid (show w4.heap[w2.heap.size]? = some (.cells #[.int .i64 xg, .string nm, .string key, .string val] 34 (0, 0)) by rw [← hw4]; exact heap_alloc_new _ _)
      have HB4 := Lib.hid (show Below w2.heap.size w2 w4 by rw [← hw4]; exact (Below.refl _ _).alloc (Nat.le_refl _) _)
      have HF4 := Lib.hid (HF2.out.pure HB4.out)
      have HWL := Lib.hid (show W.heap.size ≠ w2.heap.size by have := HF2.out.sz; omega)
      have HR1 := Lib.hid (fun w' (h : Below w4.heap.size w4 w') => tEnts.mono _ _ _ _ (Mem.le_trans (below_mem HB4.out) (below_mem h)) hr1)
      have HR2 := Lib.hid (fun w' (h : Below w4.heap.size w4 w') => tEnts.mono _ _ _ _ (Mem.le_trans (below_mem HB4.out) (below_mem h)) hr2)
      clear hr1 hr2 HSRC
      clear hw4 c0 c1 c2 c3 cz d0 d1 d2 d3 dz
      generalize w2.heap.size = bx at *
      have HKX := Lib.hid (fun (w' : World) (h : Keeps (fun k => k = W.heap.size) w4 w') => (show w'.cell? ⟨bx, 0, none⟩ = some (.int .i64 xg) ∧ w'.cell? ⟨bx, 1, none⟩ = some (.string nm) ∧ w'.cell? ⟨bx, 2, none⟩ = some (.string key) ∧ w'.cell? ⟨bx, 3, none⟩ = some (.string val) from by
        have hb := (h.block bx (Array.getElem?_eq_some_iff.1 HXB.out).1 (fun e => HWL.out e.symm)).trans HXB.out
        exact ⟨mem_cells hb 0, mem_cells hb 1, mem_cells hb 2, mem_cells hb 3⟩))
      have HSZ := Lib.hid (show W.heap.size < w4.heap.size by have := HF4.out.sz; omega)
      have HKB := Lib.hid (fun (w' : World) (h : Below w4.heap.size w4 w') => (show Keeps (fun k => k = W.heap.size) w4 w' from (below_keeps h).wide (fun k h1 h2 => by omega)))
      have HBd := Lib.hid (show Below w4.heap.size w4 w4.drew from (Below.refl _ _).drew)
      have HBa := Lib.hid (show Below w4.heap.size w4 (w4.alloc (.cells #[] 34)).drew from ((Below.refl _ _).alloc (Nat.le_refl _) _).drew)
      have HBe := Lib.hid (show Below w4.heap.size w4 (w4.alloc (.cells #[.int .i64 xg, .string nm, .string key, .string val] 34)).drew from ((Below.refl _ _).alloc (Nat.le_refl _) _).drew)
      have HBb := Lib.hid (show Below w4.heap.size w4 ((w4.alloc (.cells #[] 34)).alloc (.cells #[.int .i64 xg, .string nm, .string key, .string val] 34)).drew from (((Below.refl _ _).alloc (Nat.le_refl _) _).alloc (by simp) _).drew)
      have HBc := Lib.hid (show Below w4.heap.size w4 ((w4.alloc (.cells #[.int .i64 xg, .string nm, .string key, .string val] 34)).alloc (.cells #[] 34)).drew from (((Below.refl _ _).alloc (Nat.le_refl _) _).alloc (by simp) _).drew)
      have HLa := Lib.hid (show OwnsO tEnt ((w4.alloc (.cells #[] 34)).drew) 34 (.slice (some ⟨w4.heap.size, 0, none⟩) 0 0) [] from lit0_of tEnt (heap_alloc_new w4 _))
      have HLb := Lib.hid (show OwnsO tEnt (((w4.alloc (.cells #[] 34)).alloc (.cells #[.int .i64 xg, .string nm, .string key, .string val] 34)).drew) 34 (.slice (some ⟨w4.heap.size, 0, none⟩) 0 0) [] from lit0_of tEnt (alloc_at0 w4 _ _))
      have HLc := Lib.hid (show OwnsO tEnt (((w4.alloc (.cells #[.int .i64 xg, .string nm, .string key, .string val] 34)).alloc (.cells #[] 34)).drew) 34 (.slice (some ⟨w4.heap.size + 1, 0, none⟩) 0 0) [] from lit0_of tEnt (alloc_at1 w4 _ _))
      have HXb := Lib.hid (show (((w4.alloc (.cells #[] 34)).alloc (.cells #[.int .i64 xg, .string nm, .string key, .string val] 34)).drew).heap[w4.heap.size + 1]? = some (.cells #[.int .i64 xg, .string nm, .string key, .string val] 34 (0, 0)) from alloc_at1 w4 _ _)
      have HXc := Lib.hid (show (((w4.alloc (.cells #[.int .i64 xg, .string nm, .string key, .string val] 34)).alloc (.cells #[] 34)).drew).heap[w4.heap.size]? = some (.cells #[.int .i64 xg, .string nm, .string key, .string val] 34 (0, 0)) from alloc_at0 w4 _ _)
      have HXS := Lib.hid (fun (w' : World) (h : Below w4.heap.size w4 w') => HKX.out w' (HKB.out w' h))
      obtain ⟨e0, e1, e2, e3⟩ := HXS.out _ HBd.out
      obtain ⟨e4, e5, e6, e7⟩ := HXS.out _ HBa.out
      have k0 : w4.cell? ⟨bx, 0, none⟩ = some (.int .i64 xg) := e0
      have k1 : w4.cell? ⟨bx, 1, none⟩ = some (.string nm) := e1
      have k2 : w4.cell? ⟨bx, 2, none⟩ = some (.string key) := e2
      have k3 : w4.cell? ⟨bx, 3, none⟩ = some (.string val) := e3
      have k4 : (w4.alloc (.cells #[] 34)).cell? ⟨bx, 0, none⟩ = some (.int .i64 xg) := e4
      have k5 : (w4.alloc (.cells #[] 34)).cell? ⟨bx, 1, none⟩ = some (.string nm) := e5
      have k6 : (w4.alloc (.cells #[] 34)).cell? ⟨bx, 2, none⟩ = some (.string key) := e6
      have k7 : (w4.alloc (.cells #[] 34)).cell? ⟨bx, 3, none⟩ = some (.string val) := e7
      clear e0 e1 e2 e3 e4 e5 e6 e7
      have HZb := Lib.hid (show w4.heap.size ≤ ((w4.alloc (.cells #[] 34)).alloc (.cells #[.int .i64 xg, .string nm, .string key, .string val] 34)).drew.heap.size ∧ w4.heap.size ≤ ((w4.alloc (.cells #[.int .i64 xg, .string nm, .string key, .string val] 34)).alloc (.cells #[] 34)).drew.heap.size ∧ w4.heap.size ≤ (w4.alloc (.cells #[] 34)).drew.heap.size from ⟨HBb.out.size, HBc.out.size, HBa.out.size⟩)
      go_region_law (first
          | (refine step_append_os rfl (.tmp 51) (.tmp 54) 22 rfl tEnt tEnt_flat tEnt_one Tryz.underlying22 infoEnt rfl (Nat.succ_pos 3) (.slice (some ⟨w4.heap.size, 0, none⟩) 0 0) [] (r.es.take i) rfl HLa.out _ _ _ rfl HL1.out (HR1.out _ HBa.out) HA1.out HA2.out ?_; intro v5 w5 own5 happ5; obtain ⟨hb5, hg5⟩ := app_below (Z := w4) (B := w4.heap.size) HBa.out HZb.out.2.2 happ5 (fun k e => by cases e; exact Nat.le_refl _); obtain ⟨a5, n5, c5, rfl, -⟩ := own5.formN; obtain ⟨f0, f1, f2, f3⟩ := HXS.out _ hb5; have hb56 := hb5.alloc hb5.size (.cells #[.int .i64 xg, .string nm, .string key, .string val] 34); have own56 := own5.keeps (w' := w5.alloc (.cells #[.int .i64 xg, .string nm, .string key, .string val] 34)) (fun k e => Below.heap_alloc _ _ _ (own5.lt k e)); have hx5 := heap_alloc_new w5 (.cells #[.int .i64 xg, .string nm, .string key, .string val] 34); have hz5 := hb56.size; clear happ5)
          | (refine step_append_os rfl (.tmp 51) (.tmp 54) 22 rfl tEnt tEnt_flat tEnt_one Tryz.underlying22 infoEnt rfl (Nat.succ_pos 3) (.slice (some ⟨w4.heap.size, 0, none⟩) 0 0) [] (r.es.take i) rfl HLb.out _ _ _ rfl HL1.out (HR1.out _ HBb.out) HA1.out HA2.out ?_; intro v5 w5 own5 happ5; obtain ⟨hb5, hg5⟩ := app_below (Z := w4) (B := w4.heap.size) HBb.out HZb.out.1 happ5 (fun k e => by cases e; exact Nat.le_refl _); have hx5 := (happ5.grown.block (w4.heap.size + 1) (Array.getElem?_eq_some_iff.1 HXb.out).1 (by simp [Value.ownBlock])).trans HXb.out; obtain ⟨a5, n5, c5, rfl, -⟩ := own5.formN; obtain ⟨f0, f1, f2, f3⟩ := HXS.out _ hb5; have hb56 := hb5; have own56 := own5; have hz5 := hb56.size; clear happ5)
          | (refine step_append_os rfl (.tmp 51) (.tmp 54) 22 rfl tEnt tEnt_flat tEnt_one Tryz.underlying22 infoEnt rfl (Nat.succ_pos 3) (.slice (some ⟨w4.heap.size + 1, 0, none⟩) 0 0) [] (r.es.take i) rfl HLc.out _ _ _ rfl HL1.out (HR1.out _ HBc.out) HA1.out HA2.out ?_; intro v5 w5 own5 happ5; obtain ⟨hb5, hg5⟩ := app_below (Z := w4) (B := w4.heap.size) HBc.out HZb.out.2.1 happ5 (fun k e => by cases e; exact Nat.le_succ _); have hx5 := (happ5.grown.block w4.heap.size (Array.getElem?_eq_some_iff.1 HXc.out).1 (by simp [Value.ownBlock])).trans HXc.out; obtain ⟨a5, n5, c5, rfl, -⟩ := own5.formN; obtain ⟨f0, f1, f2, f3⟩ := HXS.out _ hb5; have hb56 := hb5; have own56 := own5; have hz5 := hb56.size; clear happ5)
          | (refine step_append_os rfl (.tmp 55) (.tmp 57) 22 rfl tEnt tEnt_flat tEnt_one Tryz.underlying22 infoEnt rfl (Nat.succ_pos 3) (.slice a5 n5 c5) ([] ++ r.es.take i) [(⟨xg, nm, key, val⟩ : Ent)] rfl own56 _ _ _ rfl rfl (one_at hx5 HX.out) HA3.out HA4.out ?_; intro v6 w6 own6 happ6; obtain ⟨hb6, hg6⟩ := app_below (Z := w4) (B := w4.heap.size) hb56 hz5 happ6 hg5; obtain ⟨a6, n6, c6, rfl, -⟩ := own6.formN; clear happ6)
          | (refine step_append_os rfl (.tmp 58) (.tmp 61) 22 rfl tEnt tEnt_flat tEnt_one Tryz.underlying22 infoEnt rfl (Nat.succ_pos 3) (.slice a6 n6 c6) (([] ++ r.es.take i) ++ [(⟨xg, nm, key, val⟩ : Ent)]) (r.es.drop i) rfl own6 _ _ _ rfl HL2.out (HR2.out _ hb6) HA5.out HA6.out ?_; intro v7 w7 own7 happ7; obtain ⟨hb7, hg7⟩ := app_below hb6 hb6.size happ7 hg6; obtain ⟨a7, n7, c7, rfl, -⟩ := own7.formN; have hk7 := HKB.out _ hb7; have HF7 := Lib.hid (HF4.out.pure hb7); have q7 := HF7.out.cells.2.2.1; have z7 := HF7.out.thaw 2; clear happ7))
      all_goals
        have HR7 := Lib.hid (own7.rv tEnt_flat (S := (W.heap.size + 2 ≤ ·)) (fun k e => Nat.le_trans HF4.out.sz (hg7 k e)))
        have HF8 := Lib.hid (HF7.out.set2 (.slice a7 n7 c7))
        have HN8 := Lib.hid (nw_set (W := W) (w := w7) (b := W.heap.size) (o := 2) (u := .slice a7 n7 c7) (by omega))
        clear own7 hb7 hg7 hk7 HF7 q7 z7
        generalize w7.setCell ⟨W.heap.size, 2, none⟩ (.slice a7 n7 c7) = w8 at *
        have c0 : w8.cell? ⟨W.heap.size, 0, none⟩ = some (.int .i64 r.N) := HF8.out.cells.1
        have c1 : w8.cell? ⟨W.heap.size, 1, none⟩ = some (.int .i64 r.next) := HF8.out.cells.2.1
        have c2 : w8.cell? ⟨W.heap.size, 2, none⟩ = some (.slice a7 n7 c7) := HF8.out.cells.2.2.1
        have c3 : w8.cell? ⟨W.heap.size, 3, none⟩ = some (.slice aq r.sn.length cq) := HF8.out.cells.2.2.2
        have cz : ∀ o, w8.frozen? ⟨W.heap.size, o, none⟩ = false := HF8.out.thaw
        have d0 : w8.cell? ⟨W.heap.size + 1, 0, none⟩ = some (.int .i64 0) := HF8.out.res.1
        have d1 : w8.cell? ⟨W.heap.size + 1, 1, none⟩ = some (.int .i64 0) := HF8.out.res.2.1
        have d2 : w8.cell? ⟨W.heap.size + 1, 2, none⟩ = some (.slice none 0 0) := HF8.out.res.2.2.1
        have d3 : w8.cell? ⟨W.heap.size + 1, 3, none⟩ = some (.slice none 0 0) := HF8.out.res.2.2.2.1
        have dz : ∀ o, w8.frozen? ⟨W.heap.size + 1, o, none⟩ = false := HF8.out.res.2.2.2.2
        go_wp2
        have r1 := store4_block HF8.out.rs (.int .i64 r.N) (.int .i64 r.next) (.slice a7 n7 c7) (.slice aq r.sn.length cq)
        have hBz := store4_below HF8.out.bl (Nat.le_succ _) (.int .i64 r.N) (.int .i64 r.next) (.slice a7 n7 c7) (.slice aq r.sn.length cq)
        have hnz : (nw W w8).le (nw W (store4 w8 (W.heap.size + 1) (.int .i64 r.N) (.int .i64 r.next) (.slice a7 n7 c7) (.slice aq r.sn.length cq))) := nw_store4 (.int .i64 r.N) (.int .i64 r.next) (.slice a7 n7 c7) (.slice aq r.sn.length cq)
        show bodyPost _ _ _ _ _ (store4 w8 (W.heap.size + 1) (.int .i64 r.N) (.int .i64 r.next) (.slice a7 n7 c7) (.slice aq r.sn.length cq))
        generalize store4 w8 (W.heap.size + 1) (.int .i64 r.N) (.int .i64 r.next) (.slice a7 n7 c7) (.slice aq r.sn.length cq) = wz at r1 hBz hnz ⊢
        have g0 : wz.cell? ⟨W.heap.size + 1, 0, none⟩ = some (.int .i64 r.N) := mem_cells r1 0
        have g1 : wz.cell? ⟨W.heap.size + 1, 1, none⟩ = some (.int .i64 r.next) := mem_cells r1 1
        have g2 : wz.cell? ⟨W.heap.size + 1, 2, none⟩ = some (.slice a7 n7 c7) := mem_cells r1 2
        have g3 : wz.cell? ⟨W.heap.size + 1, 3, none⟩ = some (.slice aq r.sn.length cq) := mem_cells r1 3
        exact bodyPost_ret (v := .tuple #[.agg #[.int .i64 r.N, .int .i64 r.next, .slice a7 n7 c7, .slice aq r.sn.length cq], .int .i64 0]) (by simp [results, Tryz.results39, go_sem, g0, g1, g2, g3]) rfl (by rw [HPV.out]; exact ⟨hBz, _, rfl, ⟨HRS.out.hN, HRS.out.hx, by (show tEnts.rv _ _ (putL r.es ⟨xg, nm, key, val⟩)); rw [HPL.out]; exact tEnts.mono _ _ _ _ (Mem.le_trans (Mem.le_trans HN8.out hnz) nw_join) HR7.out, (tSlice tSn).mono _ _ _ _ (joinM_le HM.out) HRS.out.hq⟩⟩)
end Go.Proofs.YtbmpoecmjmmngaaGreat
/- does: put. -/
namespace Go.Proofs.YtbmpoecmjmmngaaGreat
open Go.RowKit Go.Maps
set_option maxRecDepth 100000 in
set_option maxHeartbeats 16000000 in
theorem does_put (base p N : Nat) (M : Mem) (W : World) (h : HS) (r : RS) (a q : Value) (xk xg xn : Int) (nm key val : ByteArray) (c : HRun base p N M W h r a q) (hx : (⟨xk, xg, xn, nm, key, val⟩ : HAct).okA) (hN : N ≤ 90000) (hkd : xk % 10 = 0) :
    Calls Tryz.prog 19 #[.pointer (some ⟨p, 0, none⟩), rsV r a q, .agg #[.int .u8 xk, .int .i64 xg, .int .i64 xn, .string nm, .string key, .string val]] W (DoesOut base p N M W h ⟨xk, xg, xn, nm, key, val⟩) := by
  obtain ⟨⟨hk0, -⟩, hxg, hxn, hnm, hkey, hval⟩ := hx
  have hkt : xk.tmod 10 = 0 := by rw [Int.tmod_eq_emod_of_nonneg hk0]; exact hkd
  clear hk0
  simp only at hxg hxn hnm hkey hval
  have HSK := Lib.hid (fun (h' : HS) (e : ∀ k fs, h.view.sn k = some fs → ¬ ((0 : Int) = 6 ∧ xn = k) → h'.view.sn k = some fs) => (show SnKept ⟨xk, xg, xn, nm, key, val⟩ h h' from fun k fs e1 e2 => e k fs e1 (fun ee => e2 ⟨hkd.trans ee.1, ee.2⟩)))
  obtain ⟨aa, ca, rfl, hla, hma, hra⟩ := slice_form c.rat.ha
  obtain ⟨aq, cq, rfl, hlq, hmq, hrq⟩ := slice_form c.rat.hq
  have hca : ca ≤ 9223372036854775807 := by unfold maxLen at hma; exact hma
  have hcq : cq ≤ 9223372036854775807 := by unfold maxLen at hmq; exact hmq
  have HB := Lib.hid (show Below W.heap.size W (((W.alloc (.cells #[.int .i64 r.N, .int .i64 r.next, .slice aa r.es.length ca, .slice aq r.sn.length cq] 43)).alloc (.cells #[.int .u8 xk, .int .i64 xg, .int .i64 xn, .string nm, .string key, .string val] 49)).alloc rsZ) from (((Below.refl W.heap.size W).alloc (Nat.le_refl _) _).alloc (by simp) _).alloc (by simp; omega) _)
  have hY : ∀ (b : Nat) (o o' : Obj) (w : World), w.heap[b]? = some o → (w.alloc o').heap[b]? = some o := fun b o o' w e => (Below.heap_alloc _ _ _ (Array.getElem?_eq_some_iff.1 e).1).trans e
  have y4 : (((W.alloc (.cells #[.int .i64 r.N, .int .i64 r.next, .slice aa r.es.length ca, .slice aq r.sn.length cq] 43)).alloc (.cells #[.int .u8 xk, .int .i64 xg, .int .i64 xn, .string nm, .string key, .string val] 49)).alloc rsZ).heap[W.heap.size]? = some (.cells #[.int .i64 r.N, .int .i64 r.next, .slice aa r.es.length ca, .slice aq r.sn.length cq] 43 (0, 0)) := hY _ _ _ _ (hY _ _ _ _ (heap_alloc_new W _))
  have y5 : (((W.alloc (.cells #[.int .i64 r.N, .int .i64 r.next, .slice aa r.es.length ca, .slice aq r.sn.length cq] 43)).alloc (.cells #[.int .u8 xk, .int .i64 xg, .int .i64 xn, .string nm, .string key, .string val] 49)).alloc rsZ).heap[W.heap.size + 1]? = some (.cells #[.int .u8 xk, .int .i64 xg, .int .i64 xn, .string nm, .string key, .string val] 49 (0, 0)) := hY _ _ _ _ (by have h := heap_alloc_new (W.alloc (.cells #[.int .i64 r.N, .int .i64 r.next, .slice aa r.es.length ca, .slice aq r.sn.length cq] 43)) (.cells #[.int .u8 xk, .int .i64 xg, .int .i64 xn, .string nm, .string key, .string val] 49); rwa [World.size_alloc] at h)
  have yR : (((W.alloc (.cells #[.int .i64 r.N, .int .i64 r.next, .slice aa r.es.length ca, .slice aq r.sn.length cq] 43)).alloc (.cells #[.int .u8 xk, .int .i64 xg, .int .i64 xn, .string nm, .string key, .string val] 49)).alloc rsZ).heap[W.heap.size + 1 + 1]? = some rsZ := by have h := heap_alloc_new ((W.alloc (.cells #[.int .i64 r.N, .int .i64 r.next, .slice aa r.es.length ca, .slice aq r.sn.length cq] 43)).alloc (.cells #[.int .u8 xk, .int .i64 xg, .int .i64 xn, .string nm, .string key, .string val] 49)) rsZ; simpa only [World.size_alloc] using h
  obtain ⟨M1, hMid, hM1, hnew1, hrat⟩ := c.start HB.out (R := W.heap.size + 1 + 1) yR (by omega)
  have HRAT := Lib.hid hrat
  have HM1 := Lib.hid hM1
  have hbR : W.heap.size ≤ W.heap.size + 1 + 1 := by omega
  have hle := c.rel.le
  have h20 := c.rel.l20
  have HASC := Lib.hid c.rel.es.asc
  have hnn := c.nn
  have hlast := c.last
  have hn1 := c.n1
  have hn128 := c.n128
  have hlen := c.len
  have HC4 := Lib.hid (fun (wq : World) (hq : M1.le (mem wq)) => (show wq.cell? ⟨W.heap.size, 0, none⟩ = some (.int .i64 r.N) ∧ wq.cell? ⟨W.heap.size, 1, none⟩ = some (.int .i64 r.next) ∧ wq.cell? ⟨W.heap.size, 2, none⟩ = some (.slice aa r.es.length ca) ∧ wq.cell? ⟨W.heap.size, 3, none⟩ = some (.slice aq r.sn.length cq) from ⟨hq _ _ _ (hnew1 _ _ _ (Mem.on_some (mem_cells y4 0) ⟨by omega, by omega⟩)), hq _ _ _ (hnew1 _ _ _ (Mem.on_some (mem_cells y4 1) ⟨by omega, by omega⟩)), hq _ _ _ (hnew1 _ _ _ (Mem.on_some (mem_cells y4 2) ⟨by omega, by omega⟩)), hq _ _ _ (hnew1 _ _ _ (Mem.on_some (mem_cells y4 3) ⟨by omega, by omega⟩))⟩))
  have HC5 := Lib.hid (fun (wq : World) (hq : M1.le (mem wq)) => (show wq.cell? ⟨W.heap.size + 1, 0, none⟩ = some (.int .u8 xk) ∧ wq.cell? ⟨W.heap.size + 1, 1, none⟩ = some (.int .i64 xg) ∧ wq.cell? ⟨W.heap.size + 1, 2, none⟩ = some (.int .i64 xn) ∧ wq.cell? ⟨W.heap.size + 1, 3, none⟩ = some (.string nm) ∧ wq.cell? ⟨W.heap.size + 1, 4, none⟩ = some (.string key) ∧ wq.cell? ⟨W.heap.size + 1, 5, none⟩ = some (.string val) from ⟨hq _ _ _ (hnew1 _ _ _ (Mem.on_some (mem_cells y5 0) ⟨by omega, by omega⟩)), hq _ _ _ (hnew1 _ _ _ (Mem.on_some (mem_cells y5 1) ⟨by omega, by omega⟩)), hq _ _ _ (hnew1 _ _ _ (Mem.on_some (mem_cells y5 2) ⟨by omega, by omega⟩)), hq _ _ _ (hnew1 _ _ _ (Mem.on_some (mem_cells y5 3) ⟨by omega, by omega⟩)), hq _ _ _ (hnew1 _ _ _ (Mem.on_some (mem_cells y5 4) ⟨by omega, by omega⟩)), hq _ _ _ (hnew1 _ _ _ (Mem.on_some (mem_cells y5 5) ⟨by omega, by omega⟩))⟩))
  clear hY y4 y5 yR hnew1 hra hrq hma hmq hM1 hrat c
  go_enter Tryz.func19, Tryz.ntmps19
  go_upto_region 1 with fail
  generalize ((W.alloc (.cells #[.int .i64 r.N, .int .i64 r.next, .slice aa r.es.length ca, .slice aq r.sn.length cq] 43)).alloc (.cells #[.int .u8 xk, .int .i64 xg, .int .i64 xn, .string nm, .string key, .string val] 49)).alloc rsZ = Y at HB hMid ⊢
  have HMI := Lib.hid hMid
  obtain ⟨c0, c1, c2, c3⟩ := HC4.out Y hMid.le
  obtain ⟨d0, d1, d2, d3, d4, d5⟩ := HC5.out Y hMid.le
  clear hMid
  go_upto_region 2 with fail
  try rw [hkt]
  have hok : (⟨xg, nm, key, val⟩ : Ent).okE := ⟨hxg, hnm, hkey, hval⟩
  have HREL := Lib.hid (HMI.out.rel.put (g := xg) (nm := nm) (key := key) (val := val) (fun h0 h1 => HMI.out.grp h0 h1))
  have HCNT := Lib.hid HMI.out.cnt
  go_wp2_with fail
  refine (refPut_any r _ _ M1 Y HMI.out.le HRAT.out hle HASC.out ⟨xg, nm, key, val⟩ hok).mono ?_
  rintro e w1 ⟨hb1, a', rfl, hr1⟩
  generalize putR r.N r.es ⟨xg, nm, key, val⟩ = pr at *
  obtain ⟨es2, cc⟩ := pr
  simp only at hr1
  obtain ⟨a2, k2, rfl, hl2, hm2, -⟩ := slice_form hr1.ha
  have hk2 : k2 ≤ 9223372036854775807 := by unfold maxLen at hm2; exact hm2
  clear hm2 hok
  have hcc : (cc == cc) = true := by simp
  have HP := Lib.hid (fun (wq : World) (hq : HMid base p N (joinM M1 Y (w1.alloc (.cells #[.int .i64 r.N, .int .i64 r.next, .slice a2 es2.length k2, .slice aq r.sn.length cq] 43))) (W.heap.size + 1 + 1) (W, h, M) wq h r) => (show Calls Tryz.prog 13 #[.pointer (some ⟨p, 0, none⟩), .int .i64 xg, .string nm, .string key, .string val] wq (fun e W' => e = .returned (.int .i64 cc) ∧ ∃ h', HMid base p (N + 1) (joinM M1 Y (w1.alloc (.cells #[.int .i64 r.N, .int .i64 r.next, .slice a2 es2.length k2, .slice aq r.sn.length cq] 43))) (W.heap.size + 1 + 1) (W, h, M) W' h' { r with es := es2 } ∧ SnKept ⟨xk, xg, xn, nm, key, val⟩ h h') from
    (put_any xg nm key val wq hq.inv hxg hnm hkey hval (by have := hq.nn; omega) (by have := hq.cnt; omega) (by have := hq.cnt; omega)).mono fun e W' ⟨he, h', st⟩ => by
      refine ⟨by rw [he, hq.len]; exact congrArg (fun z => Ending.returned (.int .i64 z)) HREL.out.1, h', hq.step st.st (by rw [st.vw, hq.len]; exact HREL.out.2) rfl (by have := st.nn; have := hq.nn; omega) (by have := hq.last; have e : h'.last = h.last := (congrArg PS.last st.vw).trans (put_last _ _ _ _ _ _ _); omega), HSK.out h' (fun k fs e1 _ => by rw [st.vw, put_sn]; exact e1)⟩))
  have hbA := hb1.alloc hb1.size (.cells #[.int .i64 r.N, .int .i64 r.next, .slice a2 es2.length k2, .slice aq r.sn.length cq] 43)
  have HMid2 := Lib.hid (HMI.out.grow hbA)
  have HM2 := Lib.hid (joinM_le (W' := w1.alloc (.cells #[.int .i64 r.N, .int .i64 r.next, .slice a2 es2.length k2, .slice aq r.sn.length cq] 43)) HMI.out.le)
  have HJ2 := Lib.hid (show (joinM M1 Y w1).le (joinM M1 Y (w1.alloc (.cells #[.int .i64 r.N, .int .i64 r.next, .slice a2 es2.length k2, .slice aq r.sn.length cq] 43))) from joinM_mono ((Below.refl _ _).alloc (Nat.le_refl _) _))
  have HC8 := Lib.hid (fun (wq : World) (hq : (joinM M1 Y (w1.alloc (.cells #[.int .i64 r.N, .int .i64 r.next, .slice a2 es2.length k2, .slice aq r.sn.length cq] 43))).le (mem wq)) => (show wq.cell? ⟨w1.heap.size, 0, none⟩ = some (.int .i64 r.N) ∧ wq.cell? ⟨w1.heap.size, 1, none⟩ = some (.int .i64 r.next) ∧ wq.cell? ⟨w1.heap.size, 2, none⟩ = some (.slice a2 es2.length k2) ∧ wq.cell? ⟨w1.heap.size, 3, none⟩ = some (.slice aq r.sn.length cq) from ⟨hq _ _ _ (joinM_new _ _ _ (Mem.on_some (cell_new 0 rfl) hb1.size)), hq _ _ _ (joinM_new _ _ _ (Mem.on_some (cell_new 1 rfl) hb1.size)), hq _ _ _ (joinM_new _ _ _ (Mem.on_some (cell_new 2 rfl) hb1.size)), hq _ _ _ (joinM_new _ _ _ (Mem.on_some (cell_new 3 rfl) hb1.size))⟩))
  have HRF2 := Lib.hid (hr1.mono HJ2.out)
  clear hbA hb1 hr1 c0 c1 c2 c3 d0 d1 d2 d3 d4 d5 HJ2
  go_upto_region 4 with fail
  generalize w1.alloc (.cells #[.int .i64 r.N, .int .i64 r.next, .slice a2 es2.length k2, .slice aq r.sn.length cq] 43) = X at *
  generalize w1.heap.size = nb at *
  generalize joinM M1 Y X = M2 at *
  have HMD := Lib.hid (HMid2.out.pure0 (Below.refl _ _).drew)
  have HSS := Lib.hid (fun (w' : World) (hq : M2.le (mem w')) => (show w'.cell? ⟨nb, 0, none⟩ = some (.int .i64 r.N) ∧ w'.cell? ⟨nb, 1, none⟩ = some (.int .i64 r.next) ∧ w'.cell? ⟨nb, 2, none⟩ = some (.slice a2 es2.length k2) ∧ w'.cell? ⟨nb, 3, none⟩ = some (.slice aq r.sn.length cq) ∧ w'.cell? ⟨W.heap.size + 1, 1, none⟩ = some (.int .i64 xg) ∧ w'.cell? ⟨W.heap.size + 1, 3, none⟩ = some (.string nm) ∧ w'.cell? ⟨W.heap.size + 1, 4, none⟩ = some (.string key) ∧ w'.cell? ⟨W.heap.size + 1, 5, none⟩ = some (.string val) from ⟨(HC8.out w' hq).1, (HC8.out w' hq).2.1, (HC8.out w' hq).2.2.1, (HC8.out w' hq).2.2.2, (HC5.out w' (Mem.le_trans HM2.out hq)).2.1, (HC5.out w' (Mem.le_trans HM2.out hq)).2.2.2.1, (HC5.out w' (Mem.le_trans HM2.out hq)).2.2.2.2.1, (HC5.out w' (Mem.le_trans HM2.out hq)).2.2.2.2.2⟩))
  have HSR := Lib.hid (fun (N' : Nat) (h' : HS) (r' : RS) (wq : World) (hq : HMid base p N' M2 (W.heap.size + 1 + 1) (W, h, M) wq h' r') => (show ((((wq.setCell ⟨W.heap.size + 1 + 1, 0, none⟩ (.int .i64 r.N)).setCell ⟨W.heap.size + 1 + 1, 1, none⟩ (.int .i64 r.next)).setCell ⟨W.heap.size + 1 + 1, 2, none⟩ (.slice a2 es2.length k2)).setCell ⟨W.heap.size + 1 + 1, 3, none⟩ (.slice aq r.sn.length cq)).cell? ⟨nb, 0, none⟩ = some (.int .i64 r.N) ∧ ((((wq.setCell ⟨W.heap.size + 1 + 1, 0, none⟩ (.int .i64 r.N)).setCell ⟨W.heap.size + 1 + 1, 1, none⟩ (.int .i64 r.next)).setCell ⟨W.heap.size + 1 + 1, 2, none⟩ (.slice a2 es2.length k2)).setCell ⟨W.heap.size + 1 + 1, 3, none⟩ (.slice aq r.sn.length cq)).cell? ⟨nb, 1, none⟩ = some (.int .i64 r.next) ∧ ((((wq.setCell ⟨W.heap.size + 1 + 1, 0, none⟩ (.int .i64 r.N)).setCell ⟨W.heap.size + 1 + 1, 1, none⟩ (.int .i64 r.next)).setCell ⟨W.heap.size + 1 + 1, 2, none⟩ (.slice a2 es2.length k2)).setCell ⟨W.heap.size + 1 + 1, 3, none⟩ (.slice aq r.sn.length cq)).cell? ⟨nb, 2, none⟩ = some (.slice a2 es2.length k2) ∧ ((((wq.setCell ⟨W.heap.size + 1 + 1, 0, none⟩ (.int .i64 r.N)).setCell ⟨W.heap.size + 1 + 1, 1, none⟩ (.int .i64 r.next)).setCell ⟨W.heap.size + 1 + 1, 2, none⟩ (.slice a2 es2.length k2)).setCell ⟨W.heap.size + 1 + 1, 3, none⟩ (.slice aq r.sn.length cq)).cell? ⟨nb, 3, none⟩ = some (.slice aq r.sn.length cq) ∧ ((((wq.setCell ⟨W.heap.size + 1 + 1, 0, none⟩ (.int .i64 r.N)).setCell ⟨W.heap.size + 1 + 1, 1, none⟩ (.int .i64 r.next)).setCell ⟨W.heap.size + 1 + 1, 2, none⟩ (.slice a2 es2.length k2)).setCell ⟨W.heap.size + 1 + 1, 3, none⟩ (.slice aq r.sn.length cq)).cell? ⟨W.heap.size + 1, 1, none⟩ = some (.int .i64 xg) ∧ ((((wq.setCell ⟨W.heap.size + 1 + 1, 0, none⟩ (.int .i64 r.N)).setCell ⟨W.heap.size + 1 + 1, 1, none⟩ (.int .i64 r.next)).setCell ⟨W.heap.size + 1 + 1, 2, none⟩ (.slice a2 es2.length k2)).setCell ⟨W.heap.size + 1 + 1, 3, none⟩ (.slice aq r.sn.length cq)).cell? ⟨W.heap.size + 1, 3, none⟩ = some (.string nm) ∧ ((((wq.setCell ⟨W.heap.size + 1 + 1, 0, none⟩ (.int .i64 r.N)).setCell ⟨W.heap.size + 1 + 1, 1, none⟩ (.int .i64 r.next)).setCell ⟨W.heap.size + 1 + 1, 2, none⟩ (.slice a2 es2.length k2)).setCell ⟨W.heap.size + 1 + 1, 3, none⟩ (.slice aq r.sn.length cq)).cell? ⟨W.heap.size + 1, 4, none⟩ = some (.string key) ∧ ((((wq.setCell ⟨W.heap.size + 1 + 1, 0, none⟩ (.int .i64 r.N)).setCell ⟨W.heap.size + 1 + 1, 1, none⟩ (.int .i64 r.next)).setCell ⟨W.heap.size + 1 + 1, 2, none⟩ (.slice a2 es2.length k2)).setCell ⟨W.heap.size + 1 + 1, 3, none⟩ (.slice aq r.sn.length cq)).cell? ⟨W.heap.size + 1, 5, none⟩ = some (.string val) from HSS.out _ (hq.stored (store4_keeps wq (W.heap.size + 1 + 1) (.int .i64 r.N) (.int .i64 r.next) (.slice a2 es2.length k2) (.slice aq r.sn.length cq)))))
  have s0 := HSS.out X.drew HMD.out.le
  have HP1 := Lib.hid (HP.out _ HMD.out)
  go_region_held3 (fun w' => w'.cell? ⟨nb, 0, none⟩ = some (.int .i64 r.N) ∧ w'.cell? ⟨nb, 1, none⟩ = some (.int .i64 r.next) ∧ w'.cell? ⟨nb, 2, none⟩ = some (.slice a2 es2.length k2) ∧ w'.cell? ⟨nb, 3, none⟩ = some (.slice aq r.sn.length cq) ∧ w'.cell? ⟨W.heap.size + 1, 1, none⟩ = some (.int .i64 xg) ∧ w'.cell? ⟨W.heap.size + 1, 3, none⟩ = some (.string nm) ∧ w'.cell? ⟨W.heap.size + 1, 4, none⟩ = some (.string key) ∧ w'.cell? ⟨W.heap.size + 1, 5, none⟩ = some (.string val)) (first | with_reducible exact s0 | with_reducible exact HSS.out w5 hm5 | with_reducible exact HSR.out _ _ _ w5 HMid5.out | go_keep)
    ((first
      | (go_at_call 13; refine HP1.out.mono ?_; rintro e w5 ⟨rfl, h5, hMid5, hsk5⟩; have hm5 := hMid5.le; have HMid5 := Lib.hid hMid5; have HSK5 := Lib.hid hsk5; obtain ⟨z0, z1, z2, z3, zz⟩ := HMid5.out.res; have zz0 := zz 0; have zz1 := zz 1; have zz2 := zz 2; have zz3 := zz 3; clear zz; clear hMid5 hsk5)))
  all_goals
    go_wp2
    have r1 := store4_block (HMid5.out.hR) (.int .i64 r.N) (.int .i64 r.next) (.slice a2 es2.length k2) (.slice aq r.sn.length cq)
    have hk := store4_keeps (w5) (W.heap.size + 1 + 1) (.int .i64 r.N) (.int .i64 r.next) (.slice a2 es2.length k2) (.slice aq r.sn.length cq)
    show bodyPost _ _ _ _ _ (store4 (w5) (W.heap.size + 1 + 1) (.int .i64 r.N) (.int .i64 r.next) (.slice a2 es2.length k2) (.slice aq r.sn.length cq))
    generalize store4 (w5) (W.heap.size + 1 + 1) (.int .i64 r.N) (.int .i64 r.next) (.slice a2 es2.length k2) (.slice aq r.sn.length cq) = wz at r1 hk ⊢
    have g0 : wz.cell? ⟨W.heap.size + 1 + 1, 0, none⟩ = some (.int .i64 r.N) := mem_cells r1 0
    have g1 : wz.cell? ⟨W.heap.size + 1 + 1, 1, none⟩ = some (.int .i64 r.next) := mem_cells r1 1
    have g2 : wz.cell? ⟨W.heap.size + 1 + 1, 2, none⟩ = some (.slice a2 es2.length k2) := mem_cells r1 2
    have g3 : wz.cell? ⟨W.heap.size + 1 + 1, 3, none⟩ = some (.slice aq r.sn.length cq) := mem_cells r1 3
    refine bodyPost_ret (v := .tuple #[.agg #[.int .i64 r.N, .int .i64 r.next, .slice a2 es2.length k2, .slice aq r.sn.length cq], .bool true]) (by simp [results, Tryz.results19, go_sem, g0, g1, g2, g3]) rfl ?_
    have hf := HMid5.out.finish hk hbR HRF2.out
    exact ⟨h5, { r with es := es2 }, _, _, M2, rfl, hf.1, Mem.le_trans HM1.out HM2.out, hf.2, HSK5.out⟩
end Go.Proofs.YtbmpoecmjmmngaaGreat
/- The reference's Snapshot. -/
namespace Go.Proofs.YtbmpoecmjmmngaaGreat
open Go.RowKit Go.Maps

theorem tSn_one (M : Mem) : ∀ m cs x, (tIn M tSn).rv m cs x → ∀ u ∈ cs, u.oneCell' = true := fun m cs x h u hu => by
  obtain ⟨s, rfl, _, hr⟩ := (show tSn.rv M cs x from h)
  obtain ⟨a, c, rfl, _⟩ := slice_form hr
  simp at hu
  rcases hu with rfl | rfl <;> rfl
theorem infoSn : (Tryz.prog.info? 127).map (fun i => (i.zero, i.size, i.bytes)) = some (some (.agg #[.int .i64 0, .slice none 0 0]), 2, 32) := by kernel_rfl
theorem snSize : (Tryz.prog.info? 127).map (·.size) = some 2 := by kernel_rfl
theorem slice_to {α : Type} {M m : Mem} {t : Ty α} {v : Value} {xs : List α} (h : (tSlice t).rv M [v] xs) (hM : M.le m) : (tSlice (tIn M t)).rv m [v] xs := by
  obtain ⟨a, cap, h1, h2, h3, h4⟩ := h
  refine ⟨a, cap, h1, h2, h3, fun hp => ?_⟩
  obtain ⟨b, o, ha, hat⟩ := h4 hp
  refine ⟨b, o, ha, fun k hk => ?_⟩
  obtain ⟨cs, hc, hr⟩ := hat k hk
  exact ⟨cs, fun j v hj => hM _ _ _ (hc j v hj), hr⟩
theorem one_of {M : Mem} {w : World} {b : Nat} {u0 u1 : Value} {x : Int × List Ent} {T : TypeId} (h : w.heap[b]? = some (.cells #[u0, u1] T (0, 0))) (hr : tSn.rv M [u0, u1] x) : (tSlice (tIn M tSn)).rv (mem w) [.slice (some ⟨b, 0, none⟩) 1 1] [x] := by
  refine ⟨some ⟨b, 0, none⟩, 1, rfl, Nat.le_refl _, by unfold maxLen; decide, fun _ => ⟨b, 0, rfl, fun k hk => ?_⟩⟩
  match k, hk with
  | 0, _ => exact ⟨[u0, u1], fun j v hj => by
      rw [show 0 + 0 * (tIn M tSn).sz + j = j by omega]
      have := mem_cells h j
      have h2 : (#[u0, u1] : Array Value)[j]? = some v := by simpa using hj
      rw [h2] at this
      exact this, hr⟩
def snapR (r : RS) : RS := { r with next := r.next + 1, sn := r.sn ++ [(r.next, r.es)] }
def SnapSays (r r' : RS) (n c : Int) : Prop := (r.sn.length = 20 ∧ r' = r ∧ n = 0 ∧ c = 4) ∨ (r.sn.length ≠ 20 ∧ r' = snapR r ∧ n = r.next ∧ c = 0)
set_option maxRecDepth 100000 in
set_option maxHeartbeats 16000000 in
theorem refSnapshot_any (r : RS) (a q : Value) (M : Mem) (W : World) (hM : M.le (mem W)) (h : RsAt M r a q) (hl : r.es.length ≤ 4000) (hs : r.sn.length ≤ 20) (hn0 : 0 ≤ r.next) (hn1 : r.next ≤ 1000000) :
    Calls Tryz.prog 46 #[rsV r a q] W fun e W' => ∃ r' a' q' n c, SnapSays r r' n c ∧ Below W.heap.size W W' ∧ e = .returned (.tuple #[rsV r' a' q', .int .i64 n, .int .i64 c]) ∧ RsAt (joinM M W W') r' a' q' := by
  have HM := Lib.hid hM
  have HRS := Lib.hid h
  obtain ⟨aa, ca, rfl, hla, hma, hra⟩ := slice_form h.ha
  obtain ⟨aq, cq, rfl, hlq, hmq, hrq⟩ := slice_form h.hq
  have hca : ca ≤ 9223372036854775807 := by unfold maxLen at hma; exact hma
  have hcq : cq ≤ 9223372036854775807 := by unfold maxLen at hmq; exact hmq
  have HA := Lib.hid (fun w' (hb : Below W.heap.size W w') => tEnts.mono _ _ _ _ (Mem.le_trans hM (below_mem hb)) hra)
  have HF0 := Lib.hid (Fr.start W (.int .i64 r.N) (.int .i64 r.next) (.slice aa r.es.length ca) (.slice aq r.sn.length cq))
  have HQ := Lib.hid hrq
  have HE := Lib.hid (show tSn.rv M [.int .i64 r.next, .slice aa r.es.length ca] (r.next, r.es) from ⟨_, rfl, h.hx, hra⟩)
  clear hma hmq hra hrq h hM
  go_enter Tryz.func46, Tryz.ntmps46
  by_cases h20 : r.sn.length = 20
  · have h20b : ((r.sn.length : Int) == 20) = true := by simp [h20]
    have HS := Lib.hid h20
    clear h20
    generalize hw1 : (W.alloc (.cells #[.int .i64 r.N, .int .i64 r.next, .slice aa r.es.length ca, .slice aq r.sn.length cq] 43)).alloc (.cells #[.int .i64 0, .int .i64 0, .slice none 0 0, .slice none 0 0] 43) = w1 at *
    have c0 : w1.cell? ⟨W.heap.size, 0, none⟩ = some (.int .i64 r.N) := HF0.out.cells.1
    have c1 : w1.cell? ⟨W.heap.size, 1, none⟩ = some (.int .i64 r.next) := HF0.out.cells.2.1
    have c2 : w1.cell? ⟨W.heap.size, 2, none⟩ = some (.slice aa r.es.length ca) := HF0.out.cells.2.2.1
    have c3 : w1.cell? ⟨W.heap.size, 3, none⟩ = some (.slice aq r.sn.length cq) := HF0.out.cells.2.2.2
    have cz : ∀ o, w1.frozen? ⟨W.heap.size, o, none⟩ = false := HF0.out.thaw
    have d0 : w1.cell? ⟨W.heap.size + 1, 0, none⟩ = some (.int .i64 0) := HF0.out.res.1
    have d1 : w1.cell? ⟨W.heap.size + 1, 1, none⟩ = some (.int .i64 0) := HF0.out.res.2.1
    have d2 : w1.cell? ⟨W.heap.size + 1, 2, none⟩ = some (.slice none 0 0) := HF0.out.res.2.2.1
    have d3 : w1.cell? ⟨W.heap.size + 1, 3, none⟩ = some (.slice none 0 0) := HF0.out.res.2.2.2.1
    have dz : ∀ o, w1.frozen? ⟨W.heap.size + 1, o, none⟩ = false := HF0.out.res.2.2.2.2
    go_wp2
    have r1 := store4_block HF0.out.rs (.int .i64 r.N) (.int .i64 r.next) (.slice aa r.es.length ca) (.slice aq r.sn.length cq)
    have hBz := store4_below HF0.out.bl (Nat.le_succ _) (.int .i64 r.N) (.int .i64 r.next) (.slice aa r.es.length ca) (.slice aq r.sn.length cq)
    have hnz : (nw W w1).le (nw W (store4 w1 (W.heap.size + 1) (.int .i64 r.N) (.int .i64 r.next) (.slice aa r.es.length ca) (.slice aq r.sn.length cq))) := nw_store4 (.int .i64 r.N) (.int .i64 r.next) (.slice aa r.es.length ca) (.slice aq r.sn.length cq)
    show bodyPost _ _ _ _ _ (store4 w1 (W.heap.size + 1) (.int .i64 r.N) (.int .i64 r.next) (.slice aa r.es.length ca) (.slice aq r.sn.length cq))
    generalize store4 w1 (W.heap.size + 1) (.int .i64 r.N) (.int .i64 r.next) (.slice aa r.es.length ca) (.slice aq r.sn.length cq) = wz at r1 hBz hnz ⊢
    have g0 : wz.cell? ⟨W.heap.size + 1, 0, none⟩ = some (.int .i64 r.N) := mem_cells r1 0
    have g1 : wz.cell? ⟨W.heap.size + 1, 1, none⟩ = some (.int .i64 r.next) := mem_cells r1 1
    have g2 : wz.cell? ⟨W.heap.size + 1, 2, none⟩ = some (.slice aa r.es.length ca) := mem_cells r1 2
    have g3 : wz.cell? ⟨W.heap.size + 1, 3, none⟩ = some (.slice aq r.sn.length cq) := mem_cells r1 3
    exact bodyPost_ret (v := .tuple #[.agg #[.int .i64 r.N, .int .i64 r.next, .slice aa r.es.length ca, .slice aq r.sn.length cq], .int .i64 0, .int .i64 4]) (by simp [results, Tryz.results46, go_sem, g0, g1, g2, g3]) rfl ⟨r, _, _, 0, 4, .inl ⟨HS.out, rfl, rfl, rfl⟩, hBz, rfl, HRS.out.mono (joinM_le HM.out)⟩
  have h20b : ((r.sn.length : Int) == 20) = false := by simp; omega
  have HS := Lib.hid h20
  clear h20
  generalize hw1 : (W.alloc (.cells #[.int .i64 r.N, .int .i64 r.next, .slice aa r.es.length ca, .slice aq r.sn.length cq] 43)).alloc (.cells #[.int .i64 0, .int .i64 0, .slice none 0 0, .slice none 0 0] 43) = w1 at *
  have HB1 := Lib.hid HF0.out.bl
  have hz1 := HF0.out.sz
  have c0 : w1.cell? ⟨W.heap.size, 0, none⟩ = some (.int .i64 r.N) := HF0.out.cells.1
  have c1 : w1.cell? ⟨W.heap.size, 1, none⟩ = some (.int .i64 r.next) := HF0.out.cells.2.1
  have c2 : w1.cell? ⟨W.heap.size, 2, none⟩ = some (.slice aa r.es.length ca) := HF0.out.cells.2.2.1
  have c3 : w1.cell? ⟨W.heap.size, 3, none⟩ = some (.slice aq r.sn.length cq) := HF0.out.cells.2.2.2
  have cz : ∀ o, w1.frozen? ⟨W.heap.size, o, none⟩ = false := HF0.out.thaw
  have d0 : w1.cell? ⟨W.heap.size + 1, 0, none⟩ = some (.int .i64 0) := HF0.out.res.1
  have d1 : w1.cell? ⟨W.heap.size + 1, 1, none⟩ = some (.int .i64 0) := HF0.out.res.2.1
  have d2 : w1.cell? ⟨W.heap.size + 1, 2, none⟩ = some (.slice none 0 0) := HF0.out.res.2.2.1
  have d3 : w1.cell? ⟨W.heap.size + 1, 3, none⟩ = some (.slice none 0 0) := HF0.out.res.2.2.2.1
  have dz : ∀ o, w1.frozen? ⟨W.heap.size + 1, o, none⟩ = false := HF0.out.res.2.2.2.2
  go_wp2_with fail
  clear hw1 c0 c1 c2 c3 cz d0 d1 d2 d3 dz
  have HBd := Lib.hid (show Below w1.heap.size w1 w1.drew from (Below.refl _ _).drew)
  have HBa := Lib.hid (show Below w1.heap.size w1 (w1.alloc (.cells #[] 127)).drew from ((Below.refl _ _).alloc (Nat.le_refl _) _).drew)
  have HBe := Lib.hid (show Below w1.heap.size w1 (w1.alloc (.cells #[.int .i64 r.next, .slice aa r.es.length ca] 127)).drew from ((Below.refl _ _).alloc (Nat.le_refl _) _).drew)
  have HBb := Lib.hid (show Below w1.heap.size w1 ((w1.alloc (.cells #[] 127)).alloc (.cells #[.int .i64 r.next, .slice aa r.es.length ca] 127)).drew from (((Below.refl _ _).alloc (Nat.le_refl _) _).alloc (by simp) _).drew)
  have HBc := Lib.hid (show Below w1.heap.size w1 ((w1.alloc (.cells #[.int .i64 r.next, .slice aa r.es.length ca] 127)).alloc (.cells #[] 127)).drew from (((Below.refl _ _).alloc (Nat.le_refl _) _).alloc (by simp) _).drew)
  have HLa := Lib.hid (show OwnsO (tIn M tSn) ((w1.alloc (.cells #[] 127)).drew) 127 (.slice (some ⟨w1.heap.size, 0, none⟩) 0 0) [] from lit0_of _ (heap_alloc_new w1 _))
  have HLb := Lib.hid (show OwnsO (tIn M tSn) (((w1.alloc (.cells #[] 127)).alloc (.cells #[.int .i64 r.next, .slice aa r.es.length ca] 127)).drew) 127 (.slice (some ⟨w1.heap.size, 0, none⟩) 0 0) [] from lit0_of _ (alloc_at0 w1 _ _))
  have HLc := Lib.hid (show OwnsO (tIn M tSn) (((w1.alloc (.cells #[.int .i64 r.next, .slice aa r.es.length ca] 127)).alloc (.cells #[] 127)).drew) 127 (.slice (some ⟨w1.heap.size + 1, 0, none⟩) 0 0) [] from lit0_of _ (alloc_at1 w1 _ _))
  have HXb := Lib.hid (show (((w1.alloc (.cells #[] 127)).alloc (.cells #[.int .i64 r.next, .slice aa r.es.length ca] 127)).drew).heap[w1.heap.size + 1]? = some (.cells #[.int .i64 r.next, .slice aa r.es.length ca] 127 (0, 0)) from alloc_at1 w1 _ _)
  have HXc := Lib.hid (show (((w1.alloc (.cells #[.int .i64 r.next, .slice aa r.es.length ca] 127)).alloc (.cells #[] 127)).drew).heap[w1.heap.size]? = some (.cells #[.int .i64 r.next, .slice aa r.es.length ca] 127 (0, 0)) from alloc_at0 w1 _ _)
  have HROW := Lib.hid (fun (w' : World) (h : Below w1.heap.size w1 w') => (show (tSlice (tIn M tSn)).rv (mem w') [.slice aq r.sn.length cq] r.sn from slice_to HQ.out (Mem.le_trans HM.out (below_mem (HB1.out.trans (h.mono HB1.out.size))))))
  have HONE := Lib.hid (fun (w' : World) (b : Nat) (h : w'.heap[b]? = some (.cells #[.int .i64 r.next, .slice aa r.es.length ca] 127 (0, 0))) => (show (tSlice (tIn M tSn)).rv (mem w') [.slice (some ⟨b, 0, none⟩) 1 1] [(r.next, r.es)] from one_of h HE.out))
  have HA1 := Lib.hid (show ([] : List (Int × List Ent)).length + r.sn.length ≤ maxLen by unfold maxLen; simp; omega)
  have HA2 := Lib.hid (show (([] : List (Int × List Ent)).length + r.sn.length) * 32 ≤ 140737488355328 by simp; omega)
  have HA3 := Lib.hid (show ([] ++ r.sn).length + [(r.next, r.es)].length ≤ maxLen by unfold maxLen; simp; omega)
  have HA4 := Lib.hid (show (([] ++ r.sn).length + [(r.next, r.es)].length) * 32 ≤ 140737488355328 by simp; omega)
  have HZb := Lib.hid (show w1.heap.size ≤ ((w1.alloc (.cells #[] 127)).alloc (.cells #[.int .i64 r.next, .slice aa r.es.length ca] 127)).drew.heap.size ∧ w1.heap.size ≤ ((w1.alloc (.cells #[.int .i64 r.next, .slice aa r.es.length ca] 127)).alloc (.cells #[] 127)).drew.heap.size ∧ w1.heap.size ≤ (w1.alloc (.cells #[] 127)).drew.heap.size from ⟨HBb.out.size, HBc.out.size, HBa.out.size⟩)
  have HCC := Lib.hid (fun (w' : World) (h : Below w1.heap.size w1 w') => (show w'.cell? ⟨W.heap.size, 2, none⟩ = some (.slice aa r.es.length ca) ∧ w'.cell? ⟨W.heap.size, 3, none⟩ = some (.slice aq r.sn.length cq) from ⟨(HF0.out.pure h).cells.2.2.1, (HF0.out.pure h).cells.2.2.2⟩))
  obtain ⟨e1, e2⟩ := HCC.out _ HBd.out
  obtain ⟨e3, e4⟩ := HCC.out _ HBa.out
  obtain ⟨e5, e6⟩ := HCC.out _ HBb.out
  obtain ⟨e7, e8⟩ := HCC.out _ HBc.out
  obtain ⟨e9, e10⟩ := HCC.out _ HBe.out
  have e3' : (w1.alloc (.cells #[] 127)).cell? ⟨W.heap.size, 2, none⟩ = some (.slice aa r.es.length ca) := e3
  have e4' : (w1.alloc (.cells #[] 127)).cell? ⟨W.heap.size, 3, none⟩ = some (.slice aq r.sn.length cq) := e4
  have e5' : ((w1.alloc (.cells #[] 127)).alloc (.cells #[.int .i64 r.next, .slice aa r.es.length ca] 127)).cell? ⟨W.heap.size, 2, none⟩ = some (.slice aa r.es.length ca) := e5
  have e6' : ((w1.alloc (.cells #[] 127)).alloc (.cells #[.int .i64 r.next, .slice aa r.es.length ca] 127)).cell? ⟨W.heap.size, 3, none⟩ = some (.slice aq r.sn.length cq) := e6
  have e7' : ((w1.alloc (.cells #[.int .i64 r.next, .slice aa r.es.length ca] 127)).alloc (.cells #[] 127)).cell? ⟨W.heap.size, 2, none⟩ = some (.slice aa r.es.length ca) := e7
  have e8' : ((w1.alloc (.cells #[.int .i64 r.next, .slice aa r.es.length ca] 127)).alloc (.cells #[] 127)).cell? ⟨W.heap.size, 3, none⟩ = some (.slice aq r.sn.length cq) := e8
  have e9' : (w1.alloc (.cells #[.int .i64 r.next, .slice aa r.es.length ca] 127)).cell? ⟨W.heap.size, 2, none⟩ = some (.slice aa r.es.length ca) := e9
  have e10' : (w1.alloc (.cells #[.int .i64 r.next, .slice aa r.es.length ca] 127)).cell? ⟨W.heap.size, 3, none⟩ = some (.slice aq r.sn.length cq) := e10
  have e1' : w1.cell? ⟨W.heap.size, 2, none⟩ = some (.slice aa r.es.length ca) := e1
  have e2' : w1.cell? ⟨W.heap.size, 3, none⟩ = some (.slice aq r.sn.length cq) := e2
  clear e1 e2 e3 e4 e5 e6 e7 e8 e9 e10
  go_region_law (first
    | (refine step_append_os rfl (.tmp 13) (.tmp 15) 41 rfl (tIn M tSn) (tIn_flat M tSn) (tSn_one M) Tryz.underlying41 infoSn rfl (Nat.succ_pos 1) (.slice (some ⟨w1.heap.size, 0, none⟩) 0 0) [] r.sn rfl HLa.out _ _ _ rfl rfl (HROW.out _ HBa.out) HA1.out HA2.out ?_; intro v5 w5 own5 happ5; obtain ⟨hb5, hg5⟩ := app_below (Z := w1) (B := w1.heap.size) HBa.out HZb.out.2.2 happ5 (fun k e => by cases e; exact Nat.le_refl _); obtain ⟨a5, n5, c5, rfl, -⟩ := own5.formN; obtain ⟨f1, f2⟩ := HCC.out _ hb5; have hb56 := hb5.alloc hb5.size (.cells #[.int .i64 r.next, .slice aa r.es.length ca] 127); have own56 := own5.keeps (w' := w5.alloc (.cells #[.int .i64 r.next, .slice aa r.es.length ca] 127)) (fun k e => Below.heap_alloc _ _ _ (own5.lt k e)); have hx5 := heap_alloc_new w5 (.cells #[.int .i64 r.next, .slice aa r.es.length ca] 127); have hz5 := hb56.size; clear happ5)
    | (refine step_append_os rfl (.tmp 13) (.tmp 15) 41 rfl (tIn M tSn) (tIn_flat M tSn) (tSn_one M) Tryz.underlying41 infoSn rfl (Nat.succ_pos 1) (.slice (some ⟨w1.heap.size, 0, none⟩) 0 0) [] r.sn rfl HLb.out _ _ _ rfl rfl (HROW.out _ HBb.out) HA1.out HA2.out ?_; intro v5 w5 own5 happ5; obtain ⟨hb5, hg5⟩ := app_below (Z := w1) (B := w1.heap.size) HBb.out HZb.out.1 happ5 (fun k e => by cases e; exact Nat.le_refl _); have hx5 := (happ5.grown.block (w1.heap.size + 1) (Array.getElem?_eq_some_iff.1 HXb.out).1 (by simp [Value.ownBlock])).trans HXb.out; obtain ⟨a5, n5, c5, rfl, -⟩ := own5.formN; obtain ⟨f1, f2⟩ := HCC.out _ hb5; have hb56 := hb5; have own56 := own5; have hz5 := hb56.size; clear happ5)
    | (refine step_append_os rfl (.tmp 13) (.tmp 15) 41 rfl (tIn M tSn) (tIn_flat M tSn) (tSn_one M) Tryz.underlying41 infoSn rfl (Nat.succ_pos 1) (.slice (some ⟨w1.heap.size + 1, 0, none⟩) 0 0) [] r.sn rfl HLc.out _ _ _ rfl rfl (HROW.out _ HBc.out) HA1.out HA2.out ?_; intro v5 w5 own5 happ5; obtain ⟨hb5, hg5⟩ := app_below (Z := w1) (B := w1.heap.size) HBc.out HZb.out.2.1 happ5 (fun k e => by cases e; exact Nat.le_succ _); have hx5 := (happ5.grown.block w1.heap.size (Array.getElem?_eq_some_iff.1 HXc.out).1 (by simp [Value.ownBlock])).trans HXc.out; obtain ⟨a5, n5, c5, rfl, -⟩ := own5.formN; obtain ⟨f1, f2⟩ := HCC.out _ hb5; have hb56 := hb5; have own56 := own5; have hz5 := hb56.size; clear happ5)
    | (refine step_append_os rfl (.tmp 16) (.tmp 21) 41 rfl (tIn M tSn) (tIn_flat M tSn) (tSn_one M) Tryz.underlying41 infoSn rfl (Nat.succ_pos 1) (.slice a5 n5 c5) ([] ++ r.sn) [(r.next, r.es)] rfl own56 _ _ _ rfl rfl (HONE.out _ _ hx5) HA3.out HA4.out ?_; intro v7 w7 own7 happ7; obtain ⟨hb7, hg7⟩ := app_below (Z := w1) (B := w1.heap.size) hb56 hz5 happ7 hg5; obtain ⟨a7, n7, c7, rfl, -⟩ := own7.formN; have HF7 := Lib.hid (HF0.out.pure hb7); have q7 := HF7.out.cells.2.2.2; have z7 := HF7.out.thaw 3; clear happ7))
  all_goals
    have HR7 := Lib.hid (show (tSlice (tIn M tSn)).rv (nw W w7) [.slice a7 n7 c7] (([] ++ r.sn) ++ [(r.next, r.es)]) from own7.rv (tIn_flat M tSn) (S := (W.heap.size + 2 ≤ ·)) (fun k e => Nat.le_trans hz1 (hg7 k e)))
    have HF8 := Lib.hid (HF7.out.set3 (.slice a7 n7 c7))
    have HN8 := Lib.hid (nw_set (W := W) (w := w7) (b := W.heap.size) (o := 3) (u := .slice a7 n7 c7) (by omega))
    clear own7 hb7 hg7 HF7 q7 z7 own56 hb56 hz5 hx5 hb5 hg5 own5 f1 f2 e1' e2' e3' e4' e5' e6' e7' e8' e9' e10' HBa HBb HBc HBd HBe HLa HLb HLc HXb HXc HROW HONE HCC HZb
    generalize w7.setCell ⟨W.heap.size, 3, none⟩ (.slice a7 n7 c7) = w8 at *
    have hw := IntWalk.i64_in (r.next + 1) (by omega)
    have c0 : w8.cell? ⟨W.heap.size, 0, none⟩ = some (.int .i64 r.N) := HF8.out.cells.1
    have c1 : w8.cell? ⟨W.heap.size, 1, none⟩ = some (.int .i64 r.next) := HF8.out.cells.2.1
    have c2 : w8.cell? ⟨W.heap.size, 2, none⟩ = some (.slice aa r.es.length ca) := HF8.out.cells.2.2.1
    have c3 : w8.cell? ⟨W.heap.size, 3, none⟩ = some (.slice a7 n7 c7) := HF8.out.cells.2.2.2
    have cz : ∀ o, w8.frozen? ⟨W.heap.size, o, none⟩ = false := HF8.out.thaw
    have d0 : w8.cell? ⟨W.heap.size + 1, 0, none⟩ = some (.int .i64 0) := HF8.out.res.1
    have d1 : w8.cell? ⟨W.heap.size + 1, 1, none⟩ = some (.int .i64 0) := HF8.out.res.2.1
    have d2 : w8.cell? ⟨W.heap.size + 1, 2, none⟩ = some (.slice none 0 0) := HF8.out.res.2.2.1
    have d3 : w8.cell? ⟨W.heap.size + 1, 3, none⟩ = some (.slice none 0 0) := HF8.out.res.2.2.2.1
    have dz : ∀ o, w8.frozen? ⟨W.heap.size + 1, o, none⟩ = false := HF8.out.res.2.2.2.2
    go_wp2
    have HFS := Lib.hid (HF8.out.set1 (.int .i64 (r.next + 1)))
    have r1 := store4_block HFS.out.rs (.int .i64 r.N) (.int .i64 (r.next + 1)) (.slice aa r.es.length ca) (.slice a7 n7 c7)
    have hBz := store4_below HFS.out.bl (Nat.le_succ _) (.int .i64 r.N) (.int .i64 (r.next + 1)) (.slice aa r.es.length ca) (.slice a7 n7 c7)
    have hnz : (nw W (w8.setCell ⟨W.heap.size, 1, none⟩ (.int .i64 (r.next + 1)))).le (nw W (store4 (w8.setCell ⟨W.heap.size, 1, none⟩ (.int .i64 (r.next + 1))) (W.heap.size + 1) (.int .i64 r.N) (.int .i64 (r.next + 1)) (.slice aa r.es.length ca) (.slice a7 n7 c7))) := nw_store4 (.int .i64 r.N) (.int .i64 (r.next + 1)) (.slice aa r.es.length ca) (.slice a7 n7 c7)
    show bodyPost _ _ _ _ _ (store4 (w8.setCell ⟨W.heap.size, 1, none⟩ (.int .i64 (r.next + 1))) (W.heap.size + 1) (.int .i64 r.N) (.int .i64 (r.next + 1)) (.slice aa r.es.length ca) (.slice a7 n7 c7))
    generalize store4 (w8.setCell ⟨W.heap.size, 1, none⟩ (.int .i64 (r.next + 1))) (W.heap.size + 1) (.int .i64 r.N) (.int .i64 (r.next + 1)) (.slice aa r.es.length ca) (.slice a7 n7 c7) = wz at r1 hBz hnz ⊢
    have g0 : wz.cell? ⟨W.heap.size + 1, 0, none⟩ = some (.int .i64 r.N) := mem_cells r1 0
    have g1 : wz.cell? ⟨W.heap.size + 1, 1, none⟩ = some (.int .i64 (r.next + 1)) := mem_cells r1 1
    have g2 : wz.cell? ⟨W.heap.size + 1, 2, none⟩ = some (.slice aa r.es.length ca) := mem_cells r1 2
    have g3 : wz.cell? ⟨W.heap.size + 1, 3, none⟩ = some (.slice a7 n7 c7) := mem_cells r1 3
    exact bodyPost_ret (v := .tuple #[.agg #[.int .i64 r.N, .int .i64 (r.next + 1), .slice aa r.es.length ca, .slice a7 n7 c7], .int .i64 r.next, .int .i64 0]) (by simp [results, Tryz.results46, go_sem, g0, g1, g2, g3]) rfl ⟨snapR r, _, _, r.next, 0, .inr ⟨HS.out, rfl, rfl, rfl⟩, hBz, rfl, ⟨HRS.out.hN, by unfold inI64; simp only [snapR]; omega, tEnts.mono _ _ _ _ (joinM_le HM.out) HRS.out.ha, slice_in ((tSlice (tIn M tSn)).mono _ _ _ _ (Mem.le_trans (Mem.le_trans (Mem.le_trans HN8.out (nw_set (by omega))) hnz) nw_join) HR7.out) (joinM_le HM.out)⟩⟩
end Go.Proofs.YtbmpoecmjmmngaaGreat
/- The reference's Scan. -/
namespace Go.Proofs.YtbmpoecmjmmngaaGreat
open Go.RowKit Go.Maps

def ScanSays (N : Nat) (l : List Ent) (g : Int) (nm a b : ByteArray) (es : List Ent) (c : Int) : Prop :=
  (chk N g nm [a, b] ≠ 0 ∧ es = [] ∧ c = chk N g nm [a, b]) ∨ (chk N g nm [a, b] = 0 ∧ es = scanL l g nm a b ∧ c = 0)
set_option maxRecDepth 100000 in
set_option maxHeartbeats 8000000 in
theorem refScan_any (r : RS) (a q : Value) (W : World) (h : RsAt (mem W) r a q) (hl : r.es.length ≤ 4000) (g : Int) (nm f t : ByteArray) (hn : nm.size ≤ maxLen) (hf : f.size ≤ maxLen) (ht : t.size ≤ maxLen) :
    Calls Tryz.prog 45 #[rsV r a q, .int .i64 g, .string nm, .string f, .string t] W fun e w' => ∃ v es c, e = .returned (.tuple #[v, .int .i64 c]) ∧ tEnts.rv (mem w') [v] es ∧ Below W.heap.size W w' ∧ ScanSays r.N r.es g nm f t es c := by
  obtain ⟨aa, ca, rfl, hla, hma, hra⟩ := slice_form h.ha
  obtain ⟨aq, cq, rfl, hlq, hmq, hrq⟩ := slice_form h.hq
  have hca : ca ≤ 9223372036854775807 := by unfold maxLen at hma; exact hma
  have hcq : cq ≤ 9223372036854775807 := by unfold maxLen at hmq; exact hmq
  have HB := Lib.hid (box_below W (.cells #[.int .i64 r.N, .int .i64 r.next, .slice aa r.es.length ca, .slice aq r.sn.length cq] 43))
  have HK := Lib.hid (fun w => refAsked_any r.N (.int .i64 r.next) (.slice aa r.es.length ca) (.slice aq r.sn.length cq) g nm f t w hn hf ht)
  have HG1 := Lib.hid (fun (e : chk r.N g nm [f, t] ≠ 0) => (show ScanSays r.N r.es g nm f t [] (chk r.N g nm [f, t]) from .inl ⟨e, rfl, rfl⟩))
  have HG2 := Lib.hid (fun (e : chk r.N g nm [f, t] = 0) => (show ScanSays r.N r.es g nm f t (r.es.filter (fun x => (x.g == g) && inScan nm f t x)) 0 from .inr ⟨e, rfl, rfl⟩))
  generalize ScanSays r.N r.es g nm f t = GS at *
  generalize hcc : chk r.N g nm [f, t] = c at *
  clear hcc
  have HBK := Lib.hid (heap_alloc_new W (.cells #[.int .i64 r.N, .int .i64 r.next, .slice aa r.es.length ca, .slice aq r.sn.length cq] 43))
  have HRA := Lib.hid (tEnts.mono _ _ _ _ (below_mem HB.out) hra)
  clear hma hmq hra hrq h
  go_enter Tryz.func45, Tryz.ntmps45
  go_wp2_with fail
  refine (HK.out _).mono ?_
  rintro e w1 ⟨rfl, hb1⟩
  have HB1 := Lib.hid (HB.out.trans (hb1.mono HB.out.size))
  have HBK1 := Lib.hid ((hb1.block _ (Array.getElem?_eq_some_iff.1 HBK.out).1).trans HBK.out)
  have HRA1 := Lib.hid (tEnts.mono _ _ _ _ (below_mem hb1) HRA.out)
  clear hb1 HBK HK HB HRA
  by_cases hc0 : c = 0
  case neg =>
    have hcb : (c == 0) = false := by simp [hc0]
    have HC0 := Lib.hid hc0
    go_wp2
    go_ret2
    exact ⟨_, [], c, rfl, slice_nil _ _, HB1.out, HG1.out HC0.out⟩
  subst hc0
  have HG := Lib.hid (HG2.out rfl)
  clear HG1 HG2
  have HS1 := Lib.hid (show W.heap.size < w1.heap.size from (Array.getElem?_eq_some_iff.1 HBK1.out).1)
  have HC := Lib.hid (fun (w' : World) (hb : Below w1.heap.size w1 w') => (show w'.cell? ⟨W.heap.size, 2, none⟩ = some (.slice aa r.es.length ca) from mem_cells ((hb.block _ HS1.out).trans HBK1.out) 2))
  have HPP := Lib.hid (fun (z : Ent) => (show ((z.g == g) && inScan nm f t z) = ((z.g == g) && ((z.nm.toList == nm.toList) && (!Op.bytesLess z.key.toList f.toList && (t.toList == [] || Op.bytesLess z.key.toList t.toList)))) from rfl))
  generalize hP : (fun (x : Ent) => (x.g == g) && inScan nm f t x) = P at *
  have HPQ := Lib.hid (fun z => (congrFun hP z).symm.trans (HPP.out z))
  clear HBK1 HPP hP
  go_wp2_with fail
  go_loopw [13, 14] (fun ov i wr => ∃ k : Nat, k ≤ r.es.length ∧ i = .int .i64 k ∧ Hid (Owns tEnt wr w1.heap.size 34 ov ((r.es.take k).filter P)) ∧ Hid (Below w1.heap.size w1 wr)) (fun _ i _ => r.es.length - (intOf i).toNat)
  case atStart => exact ⟨0, by omega, rfl, Lib.hid (Owns.nil _ _ _ _), Lib.hid (Below.refl _ _)⟩
  case round =>
    obtain ⟨k, hk, rfl, HO, HBR⟩ := hrel
    have c2 := HC.out _ HBR.out
    by_cases hlt : k < r.es.length
    · have HSZ := Lib.hid HBR.out.size
      obtain ⟨b, o, rfl, hat, hok⟩ := ents_at (tEnts.mono _ _ _ _ (below_mem HBR.out) HRA1.out) hlt
      have d0 : wr.cell? ⟨b, o + k * 4, none⟩ = some (.int .i64 r.es[k].g) := hat 0 _ rfl
      have d1 : wr.cell? ⟨b, o + k * 4 + 1, none⟩ = some (.string r.es[k].nm) := hat 1 _ rfl
      have d2 : wr.cell? ⟨b, o + k * 4 + 2, none⟩ = some (.string r.es[k].key) := hat 2 _ rfl
      have d3 : wr.cell? ⟨b, o + k * 4 + 3, none⟩ = some (.string r.es[k].val) := hat 3 _ rfl
      have HYO := Lib.hid hok
      have HLL := Lib.hid (show ((r.es.take k).filter P).length ≤ 4000 from Nat.le_trans (List.length_filter_le _ _) (by rw [List.length_take]; omega))
      have HYES := Lib.hid (fun (e : P r.es[k] = true) => filter_yes (P := P) hlt e)
      have HNO := Lib.hid (fun (e : P r.es[k] = false) => filter_no (P := P) hlt e)
      clear hat hok
      generalize (r.es.take k).filter P = l at *
      generalize r.es[k] = y at *
      obtain ⟨yg, y1, y2, y3⟩ := y
      simp only at d0 d1 d2 d3
      have HPY := Lib.hid (HPQ.out ⟨yg, y1, y2, y3⟩)
      simp only at HPY
      obtain ⟨al, cl, hvl, _⟩ := HO.out.len
      subst hvl
      have HBX := Lib.hid (HBR.out.alloc HBR.out.size (.cells #[.int .i64 yg, .string y1, .string y2, .string y3] 34))
      have HOX := Lib.hid (HO.out.alloc (.cells #[.int .i64 yg, .string y1, .string y2, .string y3] 34))
      have HNR := Lib.hid (fun (e : P ⟨yg, y1, y2, y3⟩ = false) => (show Owns tEnt (wr.alloc (.cells #[.int .i64 yg, .string y1, .string y2, .string y3] 34)) w1.heap.size 34 (.slice al l.length cl) ((r.es.take (k + 1)).filter P) by rw [HNO.out e]; exact HOX.out))
      have HSX := Lib.hid HBX.out.size
      by_cases h1 : yg = g
      case neg =>
        have h1b : (yg == g) = false := by simp [h1]
        have HNX := Lib.hid (HNR.out (by rw [HPY.out]; simp [h1]))
        clear HYES HNO HPY HNR
        go_wp2
        go_roundw
        case rel => exact ⟨k + 1, by omega, by go_num, HNX, HBX⟩
        case measure => simp [intOf]; omega
      subst h1
      have h1b : (yg == yg) = true := by simp
      cases h2 : (y1.toList == nm.toList)
      case false =>
        have HNX := Lib.hid (HNR.out (by rw [HPY.out]; simp [h2]))
        clear HYES HNO HPY HNR
        go_wp2
        go_roundw
        case rel => exact ⟨k + 1, by omega, by go_num, HNX, HBX⟩
        case measure => simp [intOf]; omega
      cases h3 : Op.bytesLess y2.toList f.toList
      case true =>
        have HNX := Lib.hid (HNR.out (by rw [HPY.out]; simp [h2, h3]))
        clear HYES HNO HPY HNR
        go_wp2
        go_roundw
        case rel => exact ⟨k + 1, by omega, by go_num, HNX, HBX⟩
        case measure => simp [intOf]; omega
      by_cases h4 : t.toList = []
      case pos =>
        have h4b : (t.toList == []) = true := by simp [h4]
        have HNX := Lib.hid (HYES.out (by rw [HPY.out]; simp [h2, h3, h4]))
        clear HYES HNO HPY HNR
        go_wp2_with (at_builtin; refine wpList_append_one rfl _ _ 22 rfl tEnt Tryz.underlying22 infoEnt rfl (by decide) w1.heap.size _ l rfl (HOX.out.alloc _) _ _ ⟨yg, y1, y2, y3⟩ rfl [.int .i64 yg, .string y1, .string y2, .string y3] ?a2 ⟨rfl, HYO.out⟩ ?b2 ?c2 ?d2 ?e2 ?_)
        case a2 => exact fun j u hj => by match j, hj with | 0, hj => simp at hj; subst hj; simp [mem] | 1, hj => simp at hj; subst hj; simp [mem] | 2, hj => simp at hj; subst hj; simp [mem] | 3, hj => simp at hj; subst hj; simp [mem]
        case b2 => intro x hx; simp at hx; rcases hx with rfl | rfl | rfl | rfl <;> rfl
        case c2 => have := HLL.out; unfold maxLen; omega
        case d2 => have := HLL.out; omega
        case e2 => have := HSZ.out; simp; omega
        · intro v' w6 own6 hgrow _
          have HB6 := Lib.hid (show Below w1.heap.size w1 w6 from (HBX.out.alloc HBX.out.size _).grown hgrow (by have := HSZ.out; simp; omega) (fun k hk => ((HO.out).lt k hk).1))
          obtain ⟨a6, cap6, rfl, _⟩ := own6.len
          have HO6 := Lib.hid (show Owns tEnt w6 w1.heap.size 34 (.slice a6 (l ++ [(⟨yg, y1, y2, y3⟩ : Ent)]).length cap6) ((r.es.take (k + 1)).filter P) by
            rw [← HNX.out]
            exact own6)
          clear own6 hgrow HO
          go_wp2
          go_roundw
          case rel => exact ⟨k + 1, by omega, by go_num, HO6, HB6⟩
          case measure => simp [intOf]; omega
      have h4b : (t.toList == []) = false := by simp [h4]
      cases h5 : Op.bytesLess y2.toList t.toList
      case true =>
        have HNX := Lib.hid (HYES.out (by rw [HPY.out]; simp [h2, h3, h4, h5]))
        clear HYES HNO HPY HNR
        go_wp2_with (at_builtin; refine wpList_append_one rfl _ _ 22 rfl tEnt Tryz.underlying22 infoEnt rfl (by decide) w1.heap.size _ l rfl (HOX.out.alloc _) _ _ ⟨yg, y1, y2, y3⟩ rfl [.int .i64 yg, .string y1, .string y2, .string y3] ?a2 ⟨rfl, HYO.out⟩ ?b2 ?c2 ?d2 ?e2 ?_)
        case a2 => exact fun j u hj => by match j, hj with | 0, hj => simp at hj; subst hj; simp [mem] | 1, hj => simp at hj; subst hj; simp [mem] | 2, hj => simp at hj; subst hj; simp [mem] | 3, hj => simp at hj; subst hj; simp [mem]
        case b2 => intro x hx; simp at hx; rcases hx with rfl | rfl | rfl | rfl <;> rfl
        case c2 => have := HLL.out; unfold maxLen; omega
        case d2 => have := HLL.out; omega
        case e2 => have := HSZ.out; simp; omega
        · intro v' w6 own6 hgrow _
          have HB6 := Lib.hid (show Below w1.heap.size w1 w6 from (HBX.out.alloc HBX.out.size _).grown hgrow (by have := HSZ.out; simp; omega) (fun k hk => ((HO.out).lt k hk).1))
          obtain ⟨a6, cap6, rfl, _⟩ := own6.len
          have HO6 := Lib.hid (show Owns tEnt w6 w1.heap.size 34 (.slice a6 (l ++ [(⟨yg, y1, y2, y3⟩ : Ent)]).length cap6) ((r.es.take (k + 1)).filter P) by
            rw [← HNX.out]
            exact own6)
          clear own6 hgrow HO
          go_wp2
          go_roundw
          case rel => exact ⟨k + 1, by omega, by go_num, HO6, HB6⟩
          case measure => simp [intOf]; omega
      have HNX := Lib.hid (HNR.out (by rw [HPY.out]; simp [h2, h3, h4, h5]))
      clear HYES HNO HPY HNR
      go_wp2
      go_roundw
      case rel => exact ⟨k + 1, by omega, by go_num, HNX, HBX⟩
      case measure => simp [intOf]; omega
    · obtain rfl : k = r.es.length := by omega
      rw [List.take_length] at HO
      have HF := HO
      obtain ⟨al, cl, rfl, _⟩ := HF.out.len
      clear HO
      go_wp2
      go_ret2
      exact ⟨_, _, 0, rfl, HF.out.rv', HB1.out.trans (HBR.out.mono HB1.out.size), HG.out⟩
end Go.Proofs.YtbmpoecmjmmngaaGreat
/- package heap: Snapshot where there are twenty; the answers of both states are one. -/
namespace Go.Proofs.YtbmpoecmjmmngaaGreat
open Go.RowKit Go.Maps

set_option maxRecDepth 100000 in
set_option maxHeartbeats 2000000 in
theorem snapshot_full {base p : Nat} {r : HS} (ks : List Int) (w : World) (hI : HeapInv w base p r) (hks : SnapKeys r ks) (h20 : ks.length = 20) :
    Calls Tryz.prog 22 #[.pointer (some ⟨p, 0, none⟩)] w fun e w' => e = .returned (.tuple #[.int .i64 0, .int .i64 4]) ∧ w' = w := by
  have c2 : w.cell? ⟨p, 2, none⟩ = some (.map (some r.sm)) := mem_cells hI.hb 2
  have hlen : (Builtin.len_ #[79] 3 #[.map (some r.sm)]).run Tryz.prog w = .ok (.int .i64 ks.length) w := by
    obtain ⟨D, hown, hs⟩ := hI.sn
    have := hown.len Tryz.underlying79 3
    rwa [SMap.card hown hs hks.1 hks.2] at this
  have h20i : ((ks.length : Int) == 20) = true := by simp; omega
  clear hI hks
  go_enter Tryz.func22, Tryz.ntmps22
  go_wp2
  go_ret2
  exact ⟨rfl, rfl⟩
theorem Rel.keys {h : HS} {r : RS} (c : Rel h.view r) : SnapKeys h (r.sn.map Prod.fst) := by
  refine ⟨c.up.imp (fun h e => by omega), fun k => ?_⟩
  rw [← c.ks k]
  show ((h.snaps k).map _).isSome = true ↔ _
  rw [Option.isSome_map]
theorem ClearSays.one {N : Nat} {l : List Ent} {g : Int} {nm : ByteArray} {es es' : List Ent} {n n' c c' : Int} (h : ClearSays N l g nm es n c) (h' : ClearSays N l g nm es' n' c') : es = es' ∧ n = n' ∧ c = c' := by
  rcases h with ⟨h0, rfl, rfl, rfl⟩ | ⟨h0, rfl, rfl, rfl⟩ <;> rcases h' with ⟨g0, rfl, rfl, rfl⟩ | ⟨g0, rfl, rfl, rfl⟩
  · exact ⟨rfl, rfl, rfl⟩
  · exact absurd g0 h0
  · exact absurd h0 g0
  · exact ⟨rfl, rfl, rfl⟩
section
variable {h : HS} {r : RS}
theorem scan_both (c : Rel h.view r) (hl : h.cur.length = r.N) {g : Int} {nm a b : ByteArray} {es es' : List Ent} {k k' : Int} (h1 : ScanIs h g nm a b es k) (h2 : ScanSays r.N r.es g nm a b es' k') : es = es' ∧ k = k' := by
  unfold ScanIs at h1
  rw [hl] at h1
  rcases h1 with ⟨h0, rfl, rfl⟩ | ⟨h0, ⟨ss, hk, rfl⟩, rfl⟩ <;> rcases h2 with ⟨g0, rfl, rfl⟩ | ⟨g0, rfl, rfl⟩
  · exact ⟨rfl, rfl⟩
  · exact absurd g0 h0
  · exact absurd h0 g0
  · obtain ⟨-, -, hg0, hgN⟩ := chk_ok h0
    obtain ⟨i, rfl⟩ := Int.eq_ofNat_of_zero_le hg0
    exact ⟨c.es.scan (grps_at h (i := i) (by omega)) hk (inScan nm a b), rfl⟩
theorem groups_both (c : Rel h.view r) (hl : h.cur.length = r.N) {a b : Int} {es es' : List Ent} {k k' : Int} (h1 : GroupsAre h.cur.length h.view.grps a b es k) (h2 : GroupsSay r.N r.es a b es' k') : es = es' ∧ k = k' := by
  unfold GroupsAre at h1
  rw [hl] at h1
  rcases h1 with ⟨h0, rfl, rfl⟩ | ⟨h0, ha, rfl⟩ <;> rcases h2 with ⟨g0, rfl, rfl⟩ | ⟨g0, rfl, rfl⟩
  · exact ⟨rfl, rfl⟩
  · exact absurd g0 h0
  · exact absurd h0 g0
  · obtain ⟨i, rfl⟩ := Int.eq_ofNat_of_zero_le h0.1
    rw [Int.toNat_natCast] at ha
    refine ⟨?_, rfl⟩
    have := c.es.groups ha
    rw [this, show ((i + ((b - (i : Int)).toNat) : Nat) : Int) = b by omega]
theorem ents_both (c : Rel h.view r) {k : Int} {es es' : List Ent} {d d' : Int} (h1 : SnapEnts h.view k es d) (h2 : EntsSays r.sn k es' d') : es = es' ∧ d = d' := by
  rcases h2 with ⟨h3, rfl⟩ | ⟨h3, rfl, rfl⟩
  · exact c.ents_of h3 h1
  · exact c.ents_no h3 h1
end
end Go.Proofs.YtbmpoecmjmmngaaGreat
/- does: get. -/
namespace Go.Proofs.YtbmpoecmjmmngaaGreat
open Go.RowKit Go.Maps
set_option maxRecDepth 100000 in
set_option maxHeartbeats 16000000 in
theorem does_get (base p N : Nat) (M : Mem) (W : World) (h : HS) (r : RS) (a q : Value) (xk xg xn : Int) (nm key val : ByteArray) (c : HRun base p N M W h r a q) (hx : (⟨xk, xg, xn, nm, key, val⟩ : HAct).okA) (hN : N ≤ 90000) (hkd : xk % 10 = 1) :
    Calls Tryz.prog 19 #[.pointer (some ⟨p, 0, none⟩), rsV r a q, .agg #[.int .u8 xk, .int .i64 xg, .int .i64 xn, .string nm, .string key, .string val]] W (DoesOut base p N M W h ⟨xk, xg, xn, nm, key, val⟩) := by
  obtain ⟨⟨hk0, -⟩, hxg, hxn, hnm, hkey, hval⟩ := hx
  have hkt : xk.tmod 10 = 1 := by rw [Int.tmod_eq_emod_of_nonneg hk0]; exact hkd
  clear hk0
  simp only at hxg hxn hnm hkey hval
  have HSK := Lib.hid (fun (h' : HS) (e : ∀ k fs, h.view.sn k = some fs → ¬ ((1 : Int) = 6 ∧ xn = k) → h'.view.sn k = some fs) => (show SnKept ⟨xk, xg, xn, nm, key, val⟩ h h' from fun k fs e1 e2 => e k fs e1 (fun ee => e2 ⟨hkd.trans ee.1, ee.2⟩)))
  obtain ⟨aa, ca, rfl, hla, hma, hra⟩ := slice_form c.rat.ha
  obtain ⟨aq, cq, rfl, hlq, hmq, hrq⟩ := slice_form c.rat.hq
  have hca : ca ≤ 9223372036854775807 := by unfold maxLen at hma; exact hma
  have hcq : cq ≤ 9223372036854775807 := by unfold maxLen at hmq; exact hmq
  have HB := Lib.hid (show Below W.heap.size W (((W.alloc (.cells #[.int .i64 r.N, .int .i64 r.next, .slice aa r.es.length ca, .slice aq r.sn.length cq] 43)).alloc (.cells #[.int .u8 xk, .int .i64 xg, .int .i64 xn, .string nm, .string key, .string val] 49)).alloc rsZ) from (((Below.refl W.heap.size W).alloc (Nat.le_refl _) _).alloc (by simp) _).alloc (by simp; omega) _)
  have hY : ∀ (b : Nat) (o o' : Obj) (w : World), w.heap[b]? = some o → (w.alloc o').heap[b]? = some o := fun b o o' w e => (Below.heap_alloc _ _ _ (Array.getElem?_eq_some_iff.1 e).1).trans e
  have y4 : (((W.alloc (.cells #[.int .i64 r.N, .int .i64 r.next, .slice aa r.es.length ca, .slice aq r.sn.length cq] 43)).alloc (.cells #[.int .u8 xk, .int .i64 xg, .int .i64 xn, .string nm, .string key, .string val] 49)).alloc rsZ).heap[W.heap.size]? = some (.cells #[.int .i64 r.N, .int .i64 r.next, .slice aa r.es.length ca, .slice aq r.sn.length cq] 43 (0, 0)) := hY _ _ _ _ (hY _ _ _ _ (heap_alloc_new W _))
  have y5 : (((W.alloc (.cells #[.int .i64 r.N, .int .i64 r.next, .slice aa r.es.length ca, .slice aq r.sn.length cq] 43)).alloc (.cells #[.int .u8 xk, .int .i64 xg, .int .i64 xn, .string nm, .string key, .string val] 49)).alloc rsZ).heap[W.heap.size + 1]? = some (.cells #[.int .u8 xk, .int .i64 xg, .int .i64 xn, .string nm, .string key, .string val] 49 (0, 0)) := hY _ _ _ _ (by have h := heap_alloc_new (W.alloc (.cells #[.int .i64 r.N, .int .i64 r.next, .slice aa r.es.length ca, .slice aq r.sn.length cq] 43)) (.cells #[.int .u8 xk, .int .i64 xg, .int .i64 xn, .string nm, .string key, .string val] 49); rwa [World.size_alloc] at h)
  have yR : (((W.alloc (.cells #[.int .i64 r.N, .int .i64 r.next, .slice aa r.es.length ca, .slice aq r.sn.length cq] 43)).alloc (.cells #[.int .u8 xk, .int .i64 xg, .int .i64 xn, .string nm, .string key, .string val] 49)).alloc rsZ).heap[W.heap.size + 1 + 1]? = some rsZ := by have h := heap_alloc_new ((W.alloc (.cells #[.int .i64 r.N, .int .i64 r.next, .slice aa r.es.length ca, .slice aq r.sn.length cq] 43)).alloc (.cells #[.int .u8 xk, .int .i64 xg, .int .i64 xn, .string nm, .string key, .string val] 49)) rsZ; simpa only [World.size_alloc] using h
  obtain ⟨M1, hMid, hM1, hnew1, hrat⟩ := c.start HB.out (R := W.heap.size + 1 + 1) yR (by omega)
  have HRAT := Lib.hid hrat
  have HM1 := Lib.hid hM1
  have hbR : W.heap.size ≤ W.heap.size + 1 + 1 := by omega
  have hle := c.rel.le
  have h20 := c.rel.l20
  have HASC := Lib.hid c.rel.es.asc
  have hnn := c.nn
  have hlast := c.last
  have hn1 := c.n1
  have hn128 := c.n128
  have hlen := c.len
  have HC4 := Lib.hid (fun (wq : World) (hq : M1.le (mem wq)) => (show wq.cell? ⟨W.heap.size, 0, none⟩ = some (.int .i64 r.N) ∧ wq.cell? ⟨W.heap.size, 1, none⟩ = some (.int .i64 r.next) ∧ wq.cell? ⟨W.heap.size, 2, none⟩ = some (.slice aa r.es.length ca) ∧ wq.cell? ⟨W.heap.size, 3, none⟩ = some (.slice aq r.sn.length cq) from ⟨hq _ _ _ (hnew1 _ _ _ (Mem.on_some (mem_cells y4 0) ⟨by omega, by omega⟩)), hq _ _ _ (hnew1 _ _ _ (Mem.on_some (mem_cells y4 1) ⟨by omega, by omega⟩)), hq _ _ _ (hnew1 _ _ _ (Mem.on_some (mem_cells y4 2) ⟨by omega, by omega⟩)), hq _ _ _ (hnew1 _ _ _ (Mem.on_some (mem_cells y4 3) ⟨by omega, by omega⟩))⟩))
  have HC5 := Lib.hid (fun (wq : World) (hq : M1.le (mem wq)) => (show wq.cell? ⟨W.heap.size + 1, 0, none⟩ = some (.int .u8 xk) ∧ wq.cell? ⟨W.heap.size + 1, 1, none⟩ = some (.int .i64 xg) ∧ wq.cell? ⟨W.heap.size + 1, 2, none⟩ = some (.int .i64 xn) ∧ wq.cell? ⟨W.heap.size + 1, 3, none⟩ = some (.string nm) ∧ wq.cell? ⟨W.heap.size + 1, 4, none⟩ = some (.string key) ∧ wq.cell? ⟨W.heap.size + 1, 5, none⟩ = some (.string val) from ⟨hq _ _ _ (hnew1 _ _ _ (Mem.on_some (mem_cells y5 0) ⟨by omega, by omega⟩)), hq _ _ _ (hnew1 _ _ _ (Mem.on_some (mem_cells y5 1) ⟨by omega, by omega⟩)), hq _ _ _ (hnew1 _ _ _ (Mem.on_some (mem_cells y5 2) ⟨by omega, by omega⟩)), hq _ _ _ (hnew1 _ _ _ (Mem.on_some (mem_cells y5 3) ⟨by omega, by omega⟩)), hq _ _ _ (hnew1 _ _ _ (Mem.on_some (mem_cells y5 4) ⟨by omega, by omega⟩)), hq _ _ _ (hnew1 _ _ _ (Mem.on_some (mem_cells y5 5) ⟨by omega, by omega⟩))⟩))
  clear hY y4 y5 yR hnew1 hra hrq hma hmq hM1 hrat c
  go_enter Tryz.func19, Tryz.ntmps19
  go_upto_region 1 with fail
  generalize ((W.alloc (.cells #[.int .i64 r.N, .int .i64 r.next, .slice aa r.es.length ca, .slice aq r.sn.length cq] 43)).alloc (.cells #[.int .u8 xk, .int .i64 xg, .int .i64 xn, .string nm, .string key, .string val] 49)).alloc rsZ = Y at HB hMid ⊢
  have HMI := Lib.hid hMid
  obtain ⟨c0, c1, c2, c3⟩ := HC4.out Y hMid.le
  obtain ⟨d0, d1, d2, d3, d4, d5⟩ := HC5.out Y hMid.le
  clear hMid
  go_upto_region 2 with fail
  try rw [hkt]
  go_wp2_with fail
  refine (get_any xg nm key Y HMI.out.inv hxg hnm hkey).mono ?_
  rintro e w1 ⟨rfl, hb1⟩
  have HMid2 := Lib.hid (HMI.out.pure0 hb1)
  have hga := fun v c hs => HMI.out.rel.get (g := xg) (nm := nm) (key := key) (v := v) (c := c) (fun h0 h1 => HMI.out.grp h0 h1) hs
  have HGA := Lib.hid hga
  rw [show h.cur.length = r.N from hlen]
  generalize getAns r.N (grpF h xg) xg nm key = ga at *
  obtain ⟨gv, gc⟩ := ga
  clear hga hb1
  clear c0 c1 c2 c3 d0 d1 d2 d3 d4 d5
  obtain ⟨c0, c1, c2, c3⟩ := HC4.out w1 HMid2.out.le
  obtain ⟨d0, d1, d2, d3, d4, d5⟩ := HC5.out w1 HMid2.out.le
  go_wp2_with fail
  refine (refGet_any r _ _ w1 (HRAT.out.mono HMid2.out.le) HASC.out xg nm key hnm hkey).mono ?_
  rintro e w2 ⟨v, cc, rfl, hgs, hb2⟩
  have heq := HGA.out v cc hgs
  simp only [Prod.mk.injEq] at heq
  obtain ⟨rfl, rfl⟩ := heq
  have HMid5 := Lib.hid (HMid2.out.pure0 hb2).more
  clear hgs hb2 HGA
  clear c0 c1 c2 c3 d0 d1 d2 d3 d4 d5
  obtain ⟨c0, c1, c2, c3⟩ := HC4.out w2 HMid5.out.le
  obtain ⟨d0, d1, d2, d3, d4, d5⟩ := HC5.out w2 HMid5.out.le
  obtain ⟨z0, z1, z2, z3, zz⟩ := HMid5.out.res; have zz0 := zz 0; have zz1 := zz 1; have zz2 := zz 2; have zz3 := zz 3; clear zz
  have hvv : (gv.toList == gv.toList) = true := by simp
  have hcc : (gc == gc) = true := by simp
  go_wp2
  have r1 := store4_block (HMid5.out.hR) (.int .i64 r.N) (.int .i64 r.next) (.slice aa r.es.length ca) (.slice aq r.sn.length cq)
  have hk := store4_keeps (w2) (W.heap.size + 1 + 1) (.int .i64 r.N) (.int .i64 r.next) (.slice aa r.es.length ca) (.slice aq r.sn.length cq)
  show bodyPost _ _ _ _ _ (store4 (w2) (W.heap.size + 1 + 1) (.int .i64 r.N) (.int .i64 r.next) (.slice aa r.es.length ca) (.slice aq r.sn.length cq))
  generalize store4 (w2) (W.heap.size + 1 + 1) (.int .i64 r.N) (.int .i64 r.next) (.slice aa r.es.length ca) (.slice aq r.sn.length cq) = wz at r1 hk ⊢
  have g0 : wz.cell? ⟨W.heap.size + 1 + 1, 0, none⟩ = some (.int .i64 r.N) := mem_cells r1 0
  have g1 : wz.cell? ⟨W.heap.size + 1 + 1, 1, none⟩ = some (.int .i64 r.next) := mem_cells r1 1
  have g2 : wz.cell? ⟨W.heap.size + 1 + 1, 2, none⟩ = some (.slice aa r.es.length ca) := mem_cells r1 2
  have g3 : wz.cell? ⟨W.heap.size + 1 + 1, 3, none⟩ = some (.slice aq r.sn.length cq) := mem_cells r1 3
  refine bodyPost_ret (v := .tuple #[.agg #[.int .i64 r.N, .int .i64 r.next, .slice aa r.es.length ca, .slice aq r.sn.length cq], .bool true]) (by simp [results, Tryz.results19, go_sem, g0, g1, g2, g3]) rfl ?_
  have hf := HMid5.out.finish hk hbR HRAT.out
  exact ⟨h, r, _, _, M1, rfl, hf.1, HM1.out, hf.2, HSK.out h (fun k fs e1 _ => e1)⟩
end Go.Proofs.YtbmpoecmjmmngaaGreat
/- The reference's Delete. -/
namespace Go.Proofs.YtbmpoecmjmmngaaGreat
open Go.RowKit Go.Maps

set_option maxRecDepth 100000 in
set_option maxHeartbeats 16000000 in
theorem refDelete_any (r : RS) (a q : Value) (M : Mem) (W : World) (hM : M.le (mem W)) (h : RsAt M r a q) (hl : r.es.length ≤ 4000) (ha : Asc r.es) (g : Int) (nm key : ByteArray) (hn : nm.size ≤ maxLen) (hk : key.size ≤ maxLen) :
    Calls Tryz.prog 41 #[rsV r a q, .int .i64 g, .string nm, .string key] W (REs M W r q (delR r.N r.es g nm key)) := by
  have HM := Lib.hid hM
  have HRS := Lib.hid h
  obtain ⟨aa, ca, rfl, hla, hma, hra⟩ := slice_form h.ha
  obtain ⟨aq, cq, rfl, hlq, hmq, hrq⟩ := slice_form h.hq
  have hca : ca ≤ 9223372036854775807 := by unfold maxLen at hma; exact hma
  have hcq : cq ≤ 9223372036854775807 := by unfold maxLen at hmq; exact hmq
  have HA := Lib.hid (fun w' (hb : Below W.heap.size W w') => tEnts.mono _ _ _ _ (Mem.le_trans hM (below_mem hb)) hra)
  have HF0 := Lib.hid (Fr.start W (.int .i64 r.N) (.int .i64 r.next) (.slice aa r.es.length ca) (.slice aq r.sn.length cq))
  clear hma hmq hra hrq h hM
  have HP := Lib.hid (show delR r.N r.es g nm key = if chk r.N g nm [key, .empty] ≠ 0 then (r.es, chk r.N g nm [key, .empty]) else if (delL r.es ⟨g, nm, key, .empty⟩).length = r.es.length then (r.es, 8) else (delL r.es ⟨g, nm, key, .empty⟩, 0) from rfl)
  generalize delR r.N r.es g nm key = pr at *
  have HK := Lib.hid (fun wr => refAsked_any r.N (.int .i64 r.next) (.slice aa r.es.length ca) (.slice aq r.sn.length cq) g nm key .empty wr hn hk (by unfold maxLen; decide))
  generalize hcc : chk r.N g nm [key, .empty] = c at *
  clear hcc
  have HASC := Lib.hid ha
  clear ha
  go_enter Tryz.func41, Tryz.ntmps41
  go_wp2_with fail
  refine (HK.out _).mono ?_
  rintro e w1 ⟨rfl, hb1⟩
  have HF1 := Lib.hid (HF0.out.pure hb1)
  clear hb1 HK HF0
  have c0 : w1.cell? ⟨W.heap.size, 0, none⟩ = some (.int .i64 r.N) := HF1.out.cells.1
  have c1 : w1.cell? ⟨W.heap.size, 1, none⟩ = some (.int .i64 r.next) := HF1.out.cells.2.1
  have c2 : w1.cell? ⟨W.heap.size, 2, none⟩ = some (.slice aa r.es.length ca) := HF1.out.cells.2.2.1
  have c3 : w1.cell? ⟨W.heap.size, 3, none⟩ = some (.slice aq r.sn.length cq) := HF1.out.cells.2.2.2
  have cz : ∀ o, w1.frozen? ⟨W.heap.size, o, none⟩ = false := HF1.out.thaw
  have d0 : w1.cell? ⟨W.heap.size + 1, 0, none⟩ = some (.int .i64 0) := HF1.out.res.1
  have d1 : w1.cell? ⟨W.heap.size + 1, 1, none⟩ = some (.int .i64 0) := HF1.out.res.2.1
  have d2 : w1.cell? ⟨W.heap.size + 1, 2, none⟩ = some (.slice none 0 0) := HF1.out.res.2.2.1
  have d3 : w1.cell? ⟨W.heap.size + 1, 3, none⟩ = some (.slice none 0 0) := HF1.out.res.2.2.2.1
  have dz : ∀ o, w1.frozen? ⟨W.heap.size + 1, o, none⟩ = false := HF1.out.res.2.2.2.2
  by_cases hc0 : c = 0
  case neg =>
    have hcb : (c == 0) = false := by simp [hc0]
    have HPV := Lib.hid (show pr = (r.es, c) by rw [HP.out, if_pos hc0])
    clear HP
    go_wp2
    have r1 := store4_block HF1.out.rs (.int .i64 r.N) (.int .i64 r.next) (.slice aa r.es.length ca) (.slice aq r.sn.length cq)
    have hBz := store4_below HF1.out.bl (Nat.le_succ _) (.int .i64 r.N) (.int .i64 r.next) (.slice aa r.es.length ca) (.slice aq r.sn.length cq)
    have hnz : (nw W w1).le (nw W (store4 w1 (W.heap.size + 1) (.int .i64 r.N) (.int .i64 r.next) (.slice aa r.es.length ca) (.slice aq r.sn.length cq))) := nw_store4 (.int .i64 r.N) (.int .i64 r.next) (.slice aa r.es.length ca) (.slice aq r.sn.length cq)
    show bodyPost _ _ _ _ _ (store4 w1 (W.heap.size + 1) (.int .i64 r.N) (.int .i64 r.next) (.slice aa r.es.length ca) (.slice aq r.sn.length cq))
    generalize store4 w1 (W.heap.size + 1) (.int .i64 r.N) (.int .i64 r.next) (.slice aa r.es.length ca) (.slice aq r.sn.length cq) = wz at r1 hBz hnz ⊢
    have g0 : wz.cell? ⟨W.heap.size + 1, 0, none⟩ = some (.int .i64 r.N) := mem_cells r1 0
    have g1 : wz.cell? ⟨W.heap.size + 1, 1, none⟩ = some (.int .i64 r.next) := mem_cells r1 1
    have g2 : wz.cell? ⟨W.heap.size + 1, 2, none⟩ = some (.slice aa r.es.length ca) := mem_cells r1 2
    have g3 : wz.cell? ⟨W.heap.size + 1, 3, none⟩ = some (.slice aq r.sn.length cq) := mem_cells r1 3
    exact bodyPost_ret (v := .tuple #[.agg #[.int .i64 r.N, .int .i64 r.next, .slice aa r.es.length ca, .slice aq r.sn.length cq], .int .i64 c]) (by simp [results, Tryz.results41, go_sem, g0, g1, g2, g3]) rfl (by rw [HPV.out]; exact ⟨hBz, _, rfl, HRS.out.mono (joinM_le HM.out)⟩)
  subst hc0
  have HP2 := Lib.hid (show pr = if (delL r.es ⟨g, nm, key, .empty⟩).length = r.es.length then (r.es, 8) else (delL r.es ⟨g, nm, key, .empty⟩, 0) by rw [HP.out, if_neg (by simp)])
  have HAT := Lib.hid (refAt_any r.es (.slice aa r.es.length ca) g nm key .empty w1 (HA.out _ HF1.out.bl))
  clear HP
  go_wp2_with fail
  refine HAT.out.mono ?_
  rintro e w2 ⟨i, b, rfl, hat, hb2⟩
  have HF2 := Lib.hid (HF1.out.pure hb2)
  have HATP := Lib.hid hat
  clear hb2 hat HAT HF1 c0 c1 c2 c3 cz d0 d1 d2 d3 dz
  have c0 : w2.cell? ⟨W.heap.size, 0, none⟩ = some (.int .i64 r.N) := HF2.out.cells.1
  have c1 : w2.cell? ⟨W.heap.size, 1, none⟩ = some (.int .i64 r.next) := HF2.out.cells.2.1
  have c2 : w2.cell? ⟨W.heap.size, 2, none⟩ = some (.slice aa r.es.length ca) := HF2.out.cells.2.2.1
  have c3 : w2.cell? ⟨W.heap.size, 3, none⟩ = some (.slice aq r.sn.length cq) := HF2.out.cells.2.2.2
  have cz : ∀ o, w2.frozen? ⟨W.heap.size, o, none⟩ = false := HF2.out.thaw
  have d0 : w2.cell? ⟨W.heap.size + 1, 0, none⟩ = some (.int .i64 0) := HF2.out.res.1
  have d1 : w2.cell? ⟨W.heap.size + 1, 1, none⟩ = some (.int .i64 0) := HF2.out.res.2.1
  have d2 : w2.cell? ⟨W.heap.size + 1, 2, none⟩ = some (.slice none 0 0) := HF2.out.res.2.2.1
  have d3 : w2.cell? ⟨W.heap.size + 1, 3, none⟩ = some (.slice none 0 0) := HF2.out.res.2.2.2.1
  have dz : ∀ o, w2.frozen? ⟨W.heap.size + 1, o, none⟩ = false := HF2.out.res.2.2.2.2
  cases b with
  | false =>
    have HPV := Lib.hid (show pr = (r.es, 8) by
      obtain ⟨-, hlow, hup⟩ := HATP.out.no' HASC.out
      have he : r.es = delL r.es ⟨g, nm, key, .empty⟩ := by
        conv => lhs; rw [← List.take_append_drop i r.es, hlow, hup]
        rfl
      rw [HP2.out, if_pos (by rw [← he])])
    clear HATP HP2
    go_wp2
    have r1 := store4_block HF2.out.rs (.int .i64 r.N) (.int .i64 r.next) (.slice aa r.es.length ca) (.slice aq r.sn.length cq)
    have hBz := store4_below HF2.out.bl (Nat.le_succ _) (.int .i64 r.N) (.int .i64 r.next) (.slice aa r.es.length ca) (.slice aq r.sn.length cq)
    have hnz : (nw W w2).le (nw W (store4 w2 (W.heap.size + 1) (.int .i64 r.N) (.int .i64 r.next) (.slice aa r.es.length ca) (.slice aq r.sn.length cq))) := nw_store4 (.int .i64 r.N) (.int .i64 r.next) (.slice aa r.es.length ca) (.slice aq r.sn.length cq)
    show bodyPost _ _ _ _ _ (store4 w2 (W.heap.size + 1) (.int .i64 r.N) (.int .i64 r.next) (.slice aa r.es.length ca) (.slice aq r.sn.length cq))
    generalize store4 w2 (W.heap.size + 1) (.int .i64 r.N) (.int .i64 r.next) (.slice aa r.es.length ca) (.slice aq r.sn.length cq) = wz at r1 hBz hnz ⊢
    have g0 : wz.cell? ⟨W.heap.size + 1, 0, none⟩ = some (.int .i64 r.N) := mem_cells r1 0
    have g1 : wz.cell? ⟨W.heap.size + 1, 1, none⟩ = some (.int .i64 r.next) := mem_cells r1 1
    have g2 : wz.cell? ⟨W.heap.size + 1, 2, none⟩ = some (.slice aa r.es.length ca) := mem_cells r1 2
    have g3 : wz.cell? ⟨W.heap.size + 1, 3, none⟩ = some (.slice aq r.sn.length cq) := mem_cells r1 3
    exact bodyPost_ret (v := .tuple #[.agg #[.int .i64 r.N, .int .i64 r.next, .slice aa r.es.length ca, .slice aq r.sn.length cq], .int .i64 8]) (by simp [results, Tryz.results41, go_sem, g0, g1, g2, g3]) rfl (by rw [HPV.out]; exact ⟨hBz, _, rfl, HRS.out.mono (joinM_le HM.out)⟩)
  | true =>
    obtain ⟨-, hil, hlow, hup⟩ := HATP.out.yes' HASC.out
    have hdl : r.es.take i ++ r.es.drop (i + 1) = delL r.es ⟨g, nm, key, .empty⟩ := by rw [hlow, hup]; rfl
    have HPV := Lib.hid (show pr = (r.es.take i ++ r.es.drop (i + 1), 0) by
      rw [HP2.out, ← hdl, if_neg (by rw [List.length_append, List.length_take, List.length_drop]; omega)])
    have HWO := Lib.hid (refWithout_any r.es (.slice aa r.es.length ca) i w2 (HA.out _ HF2.out.bl) hil (by omega))
    clear hlow hup hdl HP2 HATP
    generalize r.es.take i ++ r.es.drop (i + 1) = L at *
    clear hil
    go_wp2_with fail
    refine HWO.out.mono ?_
    rintro e w3 ⟨v3, rfl, hrv, hb3⟩
    obtain ⟨sa, sc, rfl, hsl, hsm, hrv⟩ := slice_form hrv
    have HR := Lib.hid hrv
    have HF3 := Lib.hid (HF2.out.pure hb3)
    have HSZ := Lib.hid HF2.out.sz
    clear hrv hsm hb3 HWO HF2 c0 c1 c2 c3 cz d0 d1 d2 d3 dz
    have c0 : w3.cell? ⟨W.heap.size, 0, none⟩ = some (.int .i64 r.N) := HF3.out.cells.1
    have c1 : w3.cell? ⟨W.heap.size, 1, none⟩ = some (.int .i64 r.next) := HF3.out.cells.2.1
    have c2 : w3.cell? ⟨W.heap.size, 2, none⟩ = some (.slice aa r.es.length ca) := HF3.out.cells.2.2.1
    have c3 : w3.cell? ⟨W.heap.size, 3, none⟩ = some (.slice aq r.sn.length cq) := HF3.out.cells.2.2.2
    have cz : ∀ o, w3.frozen? ⟨W.heap.size, o, none⟩ = false := HF3.out.thaw
    have d0 : w3.cell? ⟨W.heap.size + 1, 0, none⟩ = some (.int .i64 0) := HF3.out.res.1
    have d1 : w3.cell? ⟨W.heap.size + 1, 1, none⟩ = some (.int .i64 0) := HF3.out.res.2.1
    have d2 : w3.cell? ⟨W.heap.size + 1, 2, none⟩ = some (.slice none 0 0) := HF3.out.res.2.2.1
    have d3 : w3.cell? ⟨W.heap.size + 1, 3, none⟩ = some (.slice none 0 0) := HF3.out.res.2.2.2.1
    have dz : ∀ o, w3.frozen? ⟨W.heap.size + 1, o, none⟩ = false := HF3.out.res.2.2.2.2
    go_wp2
    have HFS := Lib.hid (HF3.out.set2 (.slice sa L.length sc))
    have r1 := store4_block HFS.out.rs (.int .i64 r.N) (.int .i64 r.next) (.slice sa L.length sc) (.slice aq r.sn.length cq)
    have hBz := store4_below HFS.out.bl (Nat.le_succ _) (.int .i64 r.N) (.int .i64 r.next) (.slice sa L.length sc) (.slice aq r.sn.length cq)
    have hnz : (nw W (w3.setCell ⟨W.heap.size, 2, none⟩ (.slice sa L.length sc))).le (nw W (store4 (w3.setCell ⟨W.heap.size, 2, none⟩ (.slice sa L.length sc)) (W.heap.size + 1) (.int .i64 r.N) (.int .i64 r.next) (.slice sa L.length sc) (.slice aq r.sn.length cq))) := nw_store4 (.int .i64 r.N) (.int .i64 r.next) (.slice sa L.length sc) (.slice aq r.sn.length cq)
    show bodyPost _ _ _ _ _ (store4 (w3.setCell ⟨W.heap.size, 2, none⟩ (.slice sa L.length sc)) (W.heap.size + 1) (.int .i64 r.N) (.int .i64 r.next) (.slice sa L.length sc) (.slice aq r.sn.length cq))
    generalize store4 (w3.setCell ⟨W.heap.size, 2, none⟩ (.slice sa L.length sc)) (W.heap.size + 1) (.int .i64 r.N) (.int .i64 r.next) (.slice sa L.length sc) (.slice aq r.sn.length cq) = wz at r1 hBz hnz ⊢
    have g0 : wz.cell? ⟨W.heap.size + 1, 0, none⟩ = some (.int .i64 r.N) := mem_cells r1 0
    have g1 : wz.cell? ⟨W.heap.size + 1, 1, none⟩ = some (.int .i64 r.next) := mem_cells r1 1
    have g2 : wz.cell? ⟨W.heap.size + 1, 2, none⟩ = some (.slice sa L.length sc) := mem_cells r1 2
    have g3 : wz.cell? ⟨W.heap.size + 1, 3, none⟩ = some (.slice aq r.sn.length cq) := mem_cells r1 3
    exact bodyPost_ret (v := .tuple #[.agg #[.int .i64 r.N, .int .i64 r.next, .slice sa L.length sc, .slice aq r.sn.length cq], .int .i64 0]) (by simp [results, Tryz.results41, go_sem, g0, g1, g2, g3]) rfl (by rw [HPV.out]; exact ⟨hBz, _, rfl, ⟨HRS.out.hN, HRS.out.hx, tEnts.mono _ _ _ _ (Mem.le_trans (Mem.le_trans (Mem.le_trans (nw_new HSZ.out) (nw_set (by omega))) hnz) nw_join) HR.out, (tSlice tSn).mono _ _ _ _ (joinM_le HM.out) HRS.out.hq⟩⟩)
end Go.Proofs.YtbmpoecmjmmngaaGreat
