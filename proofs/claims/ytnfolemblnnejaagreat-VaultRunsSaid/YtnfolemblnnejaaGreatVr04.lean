/- Part 4 of the texts that the law's proof stands on, merged. -/
import Derived.RegionTactic
import Derived.Test.YtnfolemblnnejaaGreatVr03
set_option linter.unusedVariables false
set_option linter.unusedSimpArgs false
/- The reference of a vault: Forget (printed by gen_vforget.py). -/
namespace Go.Proofs.YtnfolemblnnejaaGreat
open Go.RowKit Go.Maps

theorem Fr.other {W w : World} {v0 v1 v2 v3 v4 : Value} (h : Fr W w v0 v1 v2 v3 v4) {g o : Nat} (hg : W.heap.size + 2 ≤ g) (u : Value) : Fr W (w.setCell ⟨g, o, none⟩ u) v0 v1 v2 v3 v4 :=
  ⟨h.bl.setCell (p := ⟨g, o, none⟩) (by show W.heap.size ≤ g; omega) _, by simp [World.setCell]; exact h.sz, (set_block_other (by omega)).trans h.bx, (set_block_other (by omega)).trans h.rs⟩
/-- An element of a row is written. -/
theorem rows_put {M M' m m' : Mem} {g o n c i : Nat} {xs : List (Int × Sn)} {x : Int × Sn} (h : (tSlice (tIn M tRSn)).rv m [.slice (some ⟨g, o, none⟩) n c] xs) (hi : i < xs.length) (hM : M.le M')
    (hoth : ∀ j v, (j < o + i * 6 ∨ o + i * 6 + 6 ≤ j) → m g j = some v → m' g j = some v) {cs : List Value} (hat : ∀ j v, cs[j]? = some v → m' g (o + i * 6 + j) = some v) (hrv : tRSn.rv M' cs x) :
    (tSlice (tIn M' tRSn)).rv m' [.slice (some ⟨g, o, none⟩) n c] (xs.set i x) := by
  obtain ⟨a, cap, e, h1, h2, h3⟩ := h
  simp only [List.cons.injEq, Value.slice.injEq, and_true] at e
  obtain ⟨rfl, rfl, rfl⟩ := e
  refine ⟨_, c, by rw [List.length_set], by rw [List.length_set]; exact h1, h2, fun _ => ?_⟩
  obtain ⟨b', o', e, hk⟩ := h3 (by omega)
  simp only [Option.some.injEq, Addr.mk.injEq, and_true] at e
  obtain ⟨rfl, rfl⟩ := e
  refine ⟨g, o, rfl, fun k hk' => ?_⟩
  have hkx : k < xs.length := by simpa using hk'
  by_cases e : i = k
  · subst e
    rw [List.getElem_set_self]
    exact ⟨cs, hat, hrv⟩
  · rw [List.getElem_set_ne e]
    obtain ⟨cs', hc, hr⟩ := hk k hkx
    refine ⟨cs', fun j v hj => hoth _ _ ?_ (hc j v hj), tRSn.mono _ _ _ _ hM hr⟩
    have hl : j < 6 := by
      have hl := (tIn M tRSn).len _ _ _ hr
      have hl : cs'.length = 6 := hl
      rw [← hl]
      exact (List.getElem?_eq_some_iff.1 hj).1
    show o + k * 6 + j < o + i * 6 ∨ o + i * 6 + 6 ≤ o + k * 6 + j
    omega
theorem upd_set {s : VS} (h : VOk s) {j : Nat} {k : Int} {t : Sn} (hj : s.all[j]? = some (k, t)) (f : Sn → Sn) : (s.upd k f).all = s.all.set j (k, f t) := by
  obtain ⟨hjl, he⟩ := List.getElem?_eq_some_iff.1 hj
  have hnd : s.nums.Nodup := h.up.imp (fun h => by omega)
  apply List.ext_getElem
  · unfold VS.upd; simp
  · intro i h1 h2
    have hi : i < s.all.length := by simpa using h2
    show (s.all.map (fun x => if x.1 = k then (x.1, f x.2) else x))[i]'(by simpa using hi) = _
    rw [List.getElem_map, List.getElem_set]
    by_cases e : j = i
    · subst e
      rw [if_pos rfl, he]
      simp
    · rw [if_neg e, if_neg]
      intro e2
      have h3 : s.nums[i]'(by unfold VS.nums; simpa using hi) = s.nums[j]'(by unfold VS.nums; simpa using hjl) := by
        rw [nums_get s _ hi, nums_get s _ hjl, he, e2]
      exact e ((List.getElem_inj hnd).1 h3).symm
theorem named_says {s : VS} {nm : ByteArray} {i : Int} (hn : isName nm = true) (h : NamedSays s nm i) : (i = -1 ∧ namedAns s nm = (0, 5)) ∨ ∃ (j : Nat) (k : Int) (t : Sn), s.all[j]? = some (k, t) ∧ i = j ∧ namedAns s nm = (k, 0) := by
  unfold namedAns
  rw [if_neg (by rw [hn]; simp)]
  rcases h with ⟨j, k, t, hj, hy, rfl, hb⟩ | ⟨hb, rfl⟩
  · right
    refine ⟨j, k, t, hj, rfl, ?_⟩
    obtain ⟨hjl, he⟩ := List.getElem?_eq_some_iff.1 hj
    have hl : s.all = s.all.take j ++ (k, t) :: s.all.drop (j + 1) := by
      conv => lhs; rw [← List.take_append_drop j s.all, List.drop_eq_getElem_cons hjl, he]
    have ht : s.those (fun t => t.done && (t.name.toList == nm.toList)) = k :: ((s.all.drop (j + 1)).filter (isNamed nm)).map Prod.fst := by
      show (s.all.filter (isNamed nm)).map Prod.fst = _
      conv => lhs; rw [hl]
      rw [List.filter_append, List.filter_eq_nil_iff.2 (fun x hx => by rw [hb x hx]; simp), List.filter_cons, if_pos hy]
      rfl
    rw [ht]
    simp
  · left
    refine ⟨rfl, ?_⟩
    have ht : s.those (fun t => t.done && (t.name.toList == nm.toList)) = [] := by
      show (s.all.filter (isNamed nm)).map Prod.fst = _
      rw [List.filter_eq_nil_iff.2 (fun x hx => by rw [hb x hx]; simp)]
      rfl
    rw [ht, if_pos rfl]
theorem rows_name {M : Mem} {W w : World} {g o n c i : Nat} {s : VS} {cur : Array Value} {T : TypeId} {k : Int} {t : Sn} (hok : VOk s) (hj : s.all[i]? = some (k, t)) (hM : M.le (mem W)) (h : (tSlice (tIn M tRSn)).rv (nw W w) [.slice (some ⟨g, o, none⟩) n c] s.all)
    (hh : w.heap[g]? = some (.cells cur T (0, 0))) (hg : W.heap.size + 2 ≤ g) : RV (jn M W (w.setCell ⟨g, o + i * 6 + 1, none⟩ (.string .empty))) (s.upd k Sn.noName) (.slice (some ⟨g, o, none⟩) n c) := by
  obtain ⟨hil, hie⟩ := List.getElem?_eq_some_iff.1 hj
  have hmem : (k, t) ∈ s.all := hie ▸ List.getElem_mem hil
  have hk : VOk (s.upd k Sn.noName) := hok.upd hmem rfl (Nat.zero_le _)
  have hb := set_block (o := o + i * 6 + 1) (v := .string .empty) hh
  generalize w.setCell ⟨g, o + i * 6 + 1, none⟩ (.string .empty) = w' at hb ⊢
  have hjn : ∀ j, jn M W w' g j = mem w' g j := fun j => by unfold jn; rw [if_pos hg]
  have hne : ∀ j v, j ≠ o + i * 6 + 1 → nw W w g j = some v → jn M W w' g j = some v := fun j v hj e => by
    have e := nw_le _ _ _ e
    rw [hjn, mem_cells hb, Array.getElem?_setIfInBounds_ne (Ne.symm hj)]
    rw [mem_cells hh] at e; exact e
  have hMJ : M.le (jn M W w') := jn_of hM
  obtain ⟨cs, h1, h2⟩ : ∃ cs, (∀ j v, cs[j]? = some v → nw W w g (o + i * 6 + j) = some v) ∧ tRSn.rv M cs s.all[i] := by
    obtain ⟨b', o', e, cs, h1, h2⟩ := slice_at h hil
    simp only [Option.some.injEq, Addr.mk.injEq, and_true] at e
    obtain ⟨rfl, rfl⟩ := e
    exact ⟨cs, h1, h2⟩
  rw [hie] at h2
  obtain ⟨s1, s2, s3, rfl, hi, r1, r2, r3⟩ := h2
  have hq : jn M W w' g (o + i * 6 + 1) = some (.string .empty) := by
    have e := nw_le _ _ _ (h1 1 _ rfl)
    rw [mem_cells hh] at e
    have := (Array.getElem?_eq_some_iff.1 e).1
    rw [hjn, mem_cells hb, Array.getElem?_setIfInBounds_self_of_lt this]
  have hr := rows_put (M' := jn M W w') (m' := jn M W w') (x := (k, t.noName)) (cs := [.int .i64 k, .string .empty, .bool t.done, s1, s2, s3]) h hil hMJ (fun j v hj e => hne j v (by omega) e)
    (fun j v e => by
      rcases j with _ | _ | _ | _ | _ | _ | j
      · exact hne _ v (by omega) (h1 0 v e)
      · cases e; exact hq
      · exact hne _ v (by omega) (h1 2 v e)
      · exact hne _ v (by omega) (h1 3 v e)
      · exact hne _ v (by omega) (h1 4 v e)
      · exact hne _ v (by omega) (h1 5 v e)
      · cases e)
    ⟨s1, s2, s3, rfl, ⟨hi.1, Nat.zero_le _⟩, tBools.mono _ _ _ _ hMJ r1, tStrs.mono _ _ _ _ hMJ r2, tEntss.mono _ _ _ _ hMJ r3⟩
  refine ⟨?_, hk⟩
  rw [upd_set hok hj]
  exact slice_in hr (fun b o v e => e)
set_option maxRecDepth 100000 in
set_option maxHeartbeats 16000000 in
theorem refForget_any (s : VS) (a : Value) (M : Mem) (W : World) (hM : M.le (mem W)) (h : RV M s a) (hl : s.all.length ≤ 1000) (nm : ByteArray) (hnm : nm.size ≤ maxLen) :
    Calls Tryz.prog 21 #[rvV s a, .string nm] W fun e W' => ∃ a', Below W.heap.size W W' ∧ e = .returned (.tuple #[rvV (s.forget nm) a', .int .i64 (namedAns s nm).2]) ∧ RV (joinM M W W') (s.forget nm) a' := by
  have HM := Lib.hid hM
  have HRS := Lib.hid h
  obtain ⟨aa, ca, rfl, hla, hma, hra⟩ := slice_form h.ha
  have hca : ca ≤ 9223372036854775807 := by unfold maxLen at hma; exact hma
  have HAL := Lib.hid (show s.all.length ≤ 1000000 from by have := all_len h.ok; have := h.ok.l; omega)
  have HF0 := Lib.hid (Fr.start W (.int .i64 s.tasks) (.int .i64 s.most) (.int .i64 s.keep) (.int .i64 ((s.last : Int) + 1)) (.slice aa s.all.length ca))
  have HA := Lib.hid (fun w' (hb : Below W.heap.size W w') => tRSns.mono _ _ _ _ (Mem.le_trans hM (below_mem hb)) hra)
  have HRW := Lib.hid (fun w' (hb : Below W.heap.size W w') => (h.mono (Mem.le_trans hM (below_mem hb)) : RV (mem w') s (.slice aa s.all.length ca)))
  have HQ := Lib.hid hra
  have HNI := Lib.hid (fun (w : World) (hb : Below W.heap.size W w) => refNamedI_any s _ w (h.mono (Mem.le_trans hM (below_mem hb))) nm)
  have HOK := Lib.hid h.ok
  have HNM := Lib.hid (fun w => refName_any nm w hnm)
  have HFG := Lib.hid (show s.forget nm = if (namedAns s nm).2 = 0 then (s.upd (namedAns s nm).1 Sn.noName).dropped else s from rfl)
  clear hma hra h hM
  cases hin : isName nm with
  | false =>
    have HAE := Lib.hid (show (namedAns s nm).2 = 1 from by unfold namedAns; rw [if_pos hin])
    have HS := Lib.hid (show s.forget nm = s from HFG.out.trans (if_neg (by rw [HAE.out]; decide)))
    rw [hin] at HNM
    go_enter Tryz.func21, Tryz.ntmps21
    go_wp2_with fail
    refine (HNM.out _).mono ?_
    rintro e w1 ⟨rfl, rfl⟩
    generalize ((W.alloc (.cells #[.int .i64 s.tasks, .int .i64 s.most, .int .i64 s.keep, .int .i64 ((s.last : Int) + 1), .slice aa s.all.length ca] 31)).alloc (.cells #[.int .i64 0, .int .i64 0, .int .i64 0, .int .i64 0, .slice none 0 0] 31)) = w1 at *
    have c0 : w1.cell? ⟨W.heap.size, 0, none⟩ = some (.int .i64 s.tasks) := HF0.out.cells.1
    have c1 : w1.cell? ⟨W.heap.size, 1, none⟩ = some (.int .i64 s.most) := HF0.out.cells.2.1
    have c2 : w1.cell? ⟨W.heap.size, 2, none⟩ = some (.int .i64 s.keep) := HF0.out.cells.2.2.1
    have c3 : w1.cell? ⟨W.heap.size, 3, none⟩ = some (.int .i64 ((s.last : Int) + 1)) := HF0.out.cells.2.2.2.1
    have c4 : w1.cell? ⟨W.heap.size, 4, none⟩ = some (.slice aa s.all.length ca) := HF0.out.cells.2.2.2.2
    have cz : ∀ o, w1.frozen? ⟨W.heap.size, o, none⟩ = false := HF0.out.thaw
    have d0 : w1.cell? ⟨W.heap.size + 1, 0, none⟩ = some (.int .i64 0) := HF0.out.res.1
    have d1 : w1.cell? ⟨W.heap.size + 1, 1, none⟩ = some (.int .i64 0) := HF0.out.res.2.1
    have d2 : w1.cell? ⟨W.heap.size + 1, 2, none⟩ = some (.int .i64 0) := HF0.out.res.2.2.1
    have d3 : w1.cell? ⟨W.heap.size + 1, 3, none⟩ = some (.int .i64 0) := HF0.out.res.2.2.2.1
    have d4 : w1.cell? ⟨W.heap.size + 1, 4, none⟩ = some (.slice none 0 0) := HF0.out.res.2.2.2.2.1
    have dz : ∀ o, w1.frozen? ⟨W.heap.size + 1, o, none⟩ = false := HF0.out.res.2.2.2.2.2
    go_wp2
    have r1 := store5_block HF0.out.rs (.int .i64 s.tasks) (.int .i64 s.most) (.int .i64 s.keep) (.int .i64 ((s.last : Int) + 1)) (.slice aa s.all.length ca)
    have hBz := store5_below HF0.out.bl (Nat.le_succ _) (.int .i64 s.tasks) (.int .i64 s.most) (.int .i64 s.keep) (.int .i64 ((s.last : Int) + 1)) (.slice aa s.all.length ca)
    have hnz : (nw W w1).le (nw W (store5 w1 (W.heap.size + 1) (.int .i64 s.tasks) (.int .i64 s.most) (.int .i64 s.keep) (.int .i64 ((s.last : Int) + 1)) (.slice aa s.all.length ca))) := nw_store5 (.int .i64 s.tasks) (.int .i64 s.most) (.int .i64 s.keep) (.int .i64 ((s.last : Int) + 1)) (.slice aa s.all.length ca)
    show bodyPost _ _ _ _ _ (store5 w1 (W.heap.size + 1) (.int .i64 s.tasks) (.int .i64 s.most) (.int .i64 s.keep) (.int .i64 ((s.last : Int) + 1)) (.slice aa s.all.length ca))
    generalize store5 w1 (W.heap.size + 1) (.int .i64 s.tasks) (.int .i64 s.most) (.int .i64 s.keep) (.int .i64 ((s.last : Int) + 1)) (.slice aa s.all.length ca) = wz at r1 hBz hnz ⊢
    have g0 : wz.cell? ⟨W.heap.size + 1, 0, none⟩ = some (.int .i64 s.tasks) := mem_cells r1 0
    have g1 : wz.cell? ⟨W.heap.size + 1, 1, none⟩ = some (.int .i64 s.most) := mem_cells r1 1
    have g2 : wz.cell? ⟨W.heap.size + 1, 2, none⟩ = some (.int .i64 s.keep) := mem_cells r1 2
    have g3 : wz.cell? ⟨W.heap.size + 1, 3, none⟩ = some (.int .i64 ((s.last : Int) + 1)) := mem_cells r1 3
    have g4 : wz.cell? ⟨W.heap.size + 1, 4, none⟩ = some (.slice aa s.all.length ca) := mem_cells r1 4
    exact bodyPost_ret (v := .tuple #[.agg #[.int .i64 s.tasks, .int .i64 s.most, .int .i64 s.keep, .int .i64 ((s.last : Int) + 1), .slice aa s.all.length ca], .int .i64 1]) (by simp [results, Tryz.results21, go_sem, g0, g1, g2, g3, g4]) rfl ⟨.slice aa s.all.length ca, hBz, by rw [HS.out, HAE.out], by rw [HS.out]; exact HRS.out.mono (joinM_le HM.out)⟩
  | true =>
    rw [hin] at HNM
    go_enter Tryz.func21, Tryz.ntmps21
    go_wp2_with fail
    refine (HNM.out _).mono ?_
    rintro e w0 ⟨rfl, rfl⟩
    generalize ((W.alloc (.cells #[.int .i64 s.tasks, .int .i64 s.most, .int .i64 s.keep, .int .i64 ((s.last : Int) + 1), .slice aa s.all.length ca] 31)).alloc (.cells #[.int .i64 0, .int .i64 0, .int .i64 0, .int .i64 0, .slice none 0 0] 31)) = w0 at *
    have c0 : w0.cell? ⟨W.heap.size, 0, none⟩ = some (.int .i64 s.tasks) := HF0.out.cells.1
    have c1 : w0.cell? ⟨W.heap.size, 1, none⟩ = some (.int .i64 s.most) := HF0.out.cells.2.1
    have c2 : w0.cell? ⟨W.heap.size, 2, none⟩ = some (.int .i64 s.keep) := HF0.out.cells.2.2.1
    have c3 : w0.cell? ⟨W.heap.size, 3, none⟩ = some (.int .i64 ((s.last : Int) + 1)) := HF0.out.cells.2.2.2.1
    have c4 : w0.cell? ⟨W.heap.size, 4, none⟩ = some (.slice aa s.all.length ca) := HF0.out.cells.2.2.2.2
    have cz : ∀ o, w0.frozen? ⟨W.heap.size, o, none⟩ = false := HF0.out.thaw
    have d0 : w0.cell? ⟨W.heap.size + 1, 0, none⟩ = some (.int .i64 0) := HF0.out.res.1
    have d1 : w0.cell? ⟨W.heap.size + 1, 1, none⟩ = some (.int .i64 0) := HF0.out.res.2.1
    have d2 : w0.cell? ⟨W.heap.size + 1, 2, none⟩ = some (.int .i64 0) := HF0.out.res.2.2.1
    have d3 : w0.cell? ⟨W.heap.size + 1, 3, none⟩ = some (.int .i64 0) := HF0.out.res.2.2.2.1
    have d4 : w0.cell? ⟨W.heap.size + 1, 4, none⟩ = some (.slice none 0 0) := HF0.out.res.2.2.2.2.1
    have dz : ∀ o, w0.frozen? ⟨W.heap.size + 1, o, none⟩ = false := HF0.out.res.2.2.2.2.2
    go_wp2_with fail
    refine (HNI.out _ HF0.out.bl).mono ?_
    rintro e w1 ⟨i, rfl, hf, hb1⟩
    have HF1 := Lib.hid (HF0.out.pure hb1)
    clear hb1 HNI HF0 c0 c1 c2 c3 c4 cz d0 d1 d2 d3 d4 dz HNM
    have c0 : w1.cell? ⟨W.heap.size, 0, none⟩ = some (.int .i64 s.tasks) := HF1.out.cells.1
    have c1 : w1.cell? ⟨W.heap.size, 1, none⟩ = some (.int .i64 s.most) := HF1.out.cells.2.1
    have c2 : w1.cell? ⟨W.heap.size, 2, none⟩ = some (.int .i64 s.keep) := HF1.out.cells.2.2.1
    have c3 : w1.cell? ⟨W.heap.size, 3, none⟩ = some (.int .i64 ((s.last : Int) + 1)) := HF1.out.cells.2.2.2.1
    have c4 : w1.cell? ⟨W.heap.size, 4, none⟩ = some (.slice aa s.all.length ca) := HF1.out.cells.2.2.2.2
    have cz : ∀ o, w1.frozen? ⟨W.heap.size, o, none⟩ = false := HF1.out.thaw
    have d0 : w1.cell? ⟨W.heap.size + 1, 0, none⟩ = some (.int .i64 0) := HF1.out.res.1
    have d1 : w1.cell? ⟨W.heap.size + 1, 1, none⟩ = some (.int .i64 0) := HF1.out.res.2.1
    have d2 : w1.cell? ⟨W.heap.size + 1, 2, none⟩ = some (.int .i64 0) := HF1.out.res.2.2.1
    have d3 : w1.cell? ⟨W.heap.size + 1, 3, none⟩ = some (.int .i64 0) := HF1.out.res.2.2.2.1
    have d4 : w1.cell? ⟨W.heap.size + 1, 4, none⟩ = some (.slice none 0 0) := HF1.out.res.2.2.2.2.1
    have dz : ∀ o, w1.frozen? ⟨W.heap.size + 1, o, none⟩ = false := HF1.out.res.2.2.2.2.2
    rcases named_says hin hf with ⟨rfl, ha⟩ | ⟨i, k, t, hj, rfl, ha⟩
    · have HAE := Lib.hid (show (namedAns s nm).2 = 5 from by rw [ha])
      have HS := Lib.hid (show s.forget nm = s from HFG.out.trans (if_neg (by rw [HAE.out]; decide)))
      clear hf ha
      go_wp2
      have r1 := store5_block HF1.out.rs (.int .i64 s.tasks) (.int .i64 s.most) (.int .i64 s.keep) (.int .i64 ((s.last : Int) + 1)) (.slice aa s.all.length ca)
      have hBz := store5_below HF1.out.bl (Nat.le_succ _) (.int .i64 s.tasks) (.int .i64 s.most) (.int .i64 s.keep) (.int .i64 ((s.last : Int) + 1)) (.slice aa s.all.length ca)
      have hnz : (nw W w1).le (nw W (store5 w1 (W.heap.size + 1) (.int .i64 s.tasks) (.int .i64 s.most) (.int .i64 s.keep) (.int .i64 ((s.last : Int) + 1)) (.slice aa s.all.length ca))) := nw_store5 (.int .i64 s.tasks) (.int .i64 s.most) (.int .i64 s.keep) (.int .i64 ((s.last : Int) + 1)) (.slice aa s.all.length ca)
      show bodyPost _ _ _ _ _ (store5 w1 (W.heap.size + 1) (.int .i64 s.tasks) (.int .i64 s.most) (.int .i64 s.keep) (.int .i64 ((s.last : Int) + 1)) (.slice aa s.all.length ca))
      generalize store5 w1 (W.heap.size + 1) (.int .i64 s.tasks) (.int .i64 s.most) (.int .i64 s.keep) (.int .i64 ((s.last : Int) + 1)) (.slice aa s.all.length ca) = wz at r1 hBz hnz ⊢
      have g0 : wz.cell? ⟨W.heap.size + 1, 0, none⟩ = some (.int .i64 s.tasks) := mem_cells r1 0
      have g1 : wz.cell? ⟨W.heap.size + 1, 1, none⟩ = some (.int .i64 s.most) := mem_cells r1 1
      have g2 : wz.cell? ⟨W.heap.size + 1, 2, none⟩ = some (.int .i64 s.keep) := mem_cells r1 2
      have g3 : wz.cell? ⟨W.heap.size + 1, 3, none⟩ = some (.int .i64 ((s.last : Int) + 1)) := mem_cells r1 3
      have g4 : wz.cell? ⟨W.heap.size + 1, 4, none⟩ = some (.slice aa s.all.length ca) := mem_cells r1 4
      exact bodyPost_ret (v := .tuple #[.agg #[.int .i64 s.tasks, .int .i64 s.most, .int .i64 s.keep, .int .i64 ((s.last : Int) + 1), .slice aa s.all.length ca], .int .i64 5]) (by simp [results, Tryz.results21, go_sem, g0, g1, g2, g3, g4]) rfl ⟨.slice aa s.all.length ca, hBz, by rw [HS.out, HAE.out], by rw [HS.out]; exact HRS.out.mono (joinM_le HM.out)⟩
    · have HAE := Lib.hid (show (namedAns s nm).2 = 0 from by rw [ha])
      have HS := Lib.hid (show s.forget nm = (s.upd k Sn.noName).dropped from by rw [HFG.out, if_pos HAE.out, ha])
      have HJ := Lib.hid hj
      obtain ⟨hil, hie⟩ := List.getElem?_eq_some_iff.1 hj
      clear hf ha hj
      have hz1 := HF1.out.sz
      have HSO := Lib.hid (show (tSlice (tIn M tRSn)).rv (mem (w1.alloc (.cells #[] 102))) [.slice aa s.all.length ca] s.all from slice_to HQ.out (Mem.le_trans HM.out (below_mem (HF1.out.bl.trans ((box_below w1 _).mono HF1.out.bl.size)))))
      have HOO := Lib.hid (show Owns (tIn M tRSn) (w1.alloc (.cells #[] 102)) w1.heap.size 102 (.slice (some ⟨w1.heap.size, 0, none⟩) 0 0) [] from ⟨[], rfl, World.ownsRow_lit w1 #[] 0 (Nat.le_refl _) (Nat.zero_le _) (by simp), fun c h => absurd h (by simp), fun k h => absurd h (by simp)⟩)
      have hx4 : (w1.alloc (.cells #[] 102)).cell? ⟨W.heap.size, 4, none⟩ = some (.slice aa s.all.length ca) := (HF1.out.pure (box_below w1 _)).cells.2.2.2.2
      go_wp2_with (at_builtin; refine wpList_append_flat rfl _ _ 29 rfl (tIn_flat M tRSn) (tRSn_one M) Tryz.underlying29 infoRSn rfl (Nat.succ_pos 5) w1.heap.size _ [] s.all rfl (HOO.out) _ _ _ rfl rfl (HSO.out) ?c1 ?c2 ?c3 ?_)
      case c1 => simp; unfold maxLen; omega
      case c2 => simp; omega
      case c3 => simp
      intro v' w6 own6 hgrow
      have HB6 := Lib.hid (show Below w1.heap.size w1 w6 from (box_below w1 _).grown hgrow (by simp) (fun k hk => (HOO.out.lt k hk).1))
      obtain ⟨g, o, c6, cur, rfl, hgl, hhg⟩ : ∃ g o c6 cur, v' = .slice (some ⟨g, o, none⟩) s.all.length c6 ∧ w1.heap.size ≤ g ∧ w6.heap[g]? = some (.cells cur 102 (0, 0)) := by
        obtain ⟨css, g1, ⟨g2, g3⟩, g4, g5⟩ := own6
        rcases g3 with ⟨rfl, h6⟩ | ⟨g, cap, cur, rfl, hg, hh, -⟩
        · omega
        · exact ⟨g, 0, cap, cur, rfl, hg, hh⟩
      have HR6 := Lib.hid (show (tSlice (tIn M tRSn)).rv (nw W w6) [.slice (some ⟨g, o, none⟩) s.all.length c6] s.all from own6.rv (S := (W.heap.size + 2 ≤ ·)) (fun k e => Nat.le_trans hz1 e) (fun _ _ _ h => h))
      have HF6 := Lib.hid (HF1.out.pure HB6.out)
      have hg2 : W.heap.size + 2 ≤ g := Nat.le_trans hz1 hgl
      clear own6 hgrow HOO HSO c0 c1 c2 c3 c4 cz d0 d1 d2 d3 d4 dz hx4
      have c0 : w6.cell? ⟨W.heap.size, 0, none⟩ = some (.int .i64 s.tasks) := HF6.out.cells.1
      have c1 : w6.cell? ⟨W.heap.size, 1, none⟩ = some (.int .i64 s.most) := HF6.out.cells.2.1
      have c2 : w6.cell? ⟨W.heap.size, 2, none⟩ = some (.int .i64 s.keep) := HF6.out.cells.2.2.1
      have c3 : w6.cell? ⟨W.heap.size, 3, none⟩ = some (.int .i64 ((s.last : Int) + 1)) := HF6.out.cells.2.2.2.1
      have c4 : w6.cell? ⟨W.heap.size, 4, none⟩ = some (.slice aa s.all.length ca) := HF6.out.cells.2.2.2.2
      have cz : ∀ o, w6.frozen? ⟨W.heap.size, o, none⟩ = false := HF6.out.thaw
      have d0 : w6.cell? ⟨W.heap.size + 1, 0, none⟩ = some (.int .i64 0) := HF6.out.res.1
      have d1 : w6.cell? ⟨W.heap.size + 1, 1, none⟩ = some (.int .i64 0) := HF6.out.res.2.1
      have d2 : w6.cell? ⟨W.heap.size + 1, 2, none⟩ = some (.int .i64 0) := HF6.out.res.2.2.1
      have d3 : w6.cell? ⟨W.heap.size + 1, 3, none⟩ = some (.int .i64 0) := HF6.out.res.2.2.2.1
      have d4 : w6.cell? ⟨W.heap.size + 1, 4, none⟩ = some (.slice none 0 0) := HF6.out.res.2.2.2.2.1
      have dz : ∀ o, w6.frozen? ⟨W.heap.size + 1, o, none⟩ = false := HF6.out.res.2.2.2.2.2
      have czg : ∀ o, w6.frozen? ⟨g, o, none⟩ = false := frozen_cells hhg
      have x4 : (w6.setCell ⟨W.heap.size, 4, none⟩ (.slice (some ⟨g, o, none⟩) s.all.length c6)).cell? ⟨W.heap.size, 4, none⟩ = some (.slice (some ⟨g, o, none⟩) s.all.length c6) := (HF6.out.set4 _).cells.2.2.2.2
      have xz : ∀ o', (w6.setCell ⟨W.heap.size, 4, none⟩ (.slice (some ⟨g, o, none⟩) s.all.length c6)).frozen? ⟨g, o', none⟩ = false := frozen_cells ((set_block_other (by show g ≠ W.heap.size; omega)).trans hhg)
      have xg : w6.cell? ⟨g, o + i * 6 + 1, none⟩ = some (.string t.name) := by
        obtain ⟨b', o', e, hk⟩ := slice_at HR6.out hil
        simp only [Option.some.injEq, Addr.mk.injEq, and_true] at e
        obtain ⟨rfl, rfl⟩ := e
        obtain ⟨cs, h1, h2⟩ := hk
        obtain ⟨s1, s2, s3, rfl, -⟩ := h2
        have := nw_le _ _ _ (h1 1 _ rfl)
        rw [hie] at this
        exact this
      go_wp2_with fail
      have HF7 := Lib.hid ((HF6.out.set4 (.slice (some ⟨g, o, none⟩) s.all.length c6)).other (g := g) (o := o + i * 6 + 1) hg2 (.string .empty))
      have HV7 := Lib.hid (rows_name (w := w6.setCell ⟨W.heap.size, 4, none⟩ (.slice (some ⟨g, o, none⟩) s.all.length c6)) HOK.out HJ.out HM.out ((tSlice (tIn M tRSn)).mono _ _ _ _ (nw_set (by omega)) HR6.out) ((set_block_other (by show g ≠ W.heap.size; omega)).trans hhg) hg2)
      clear xg xz x4 czg c0 c1 c2 c3 c4 cz d0 d1 d2 d3 d4 dz
      have hex : (.string { data := #[] } : Value) = .string .empty := rfl
      rw [hex]
      generalize (w6.setCell ⟨W.heap.size, 4, none⟩ (.slice (some ⟨g, o, none⟩) s.all.length c6)).setCell ⟨g, o + i * 6 + 1, none⟩ (.string .empty) = w7 at HF7 HV7 ⊢
      have hz7 := HF7.out.sz
      refine (refTidy_any (s.upd k Sn.noName) _ _ w7 (jn_le HM.out HF7.out.bl) HV7.out (by unfold VS.upd; simpa using hl)).mono ?_
      rintro e w8 ⟨a8, hb8, rfl, hv8⟩
      have HF8 := Lib.hid (HF7.out.pure hb8)
      obtain ⟨a9, c9, rfl, -⟩ := slice_form hv8.ha
      have HV8 := Lib.hid (hv8.mono (jn_step hb8 hz7))
      clear hb8 hv8
      have HVV := Lib.hid (show rvV (s.upd k Sn.noName).dropped (.slice a9 (s.upd k Sn.noName).dropped.all.length c9) = .agg #[.int .i64 s.tasks, .int .i64 s.most, .int .i64 s.keep, .int .i64 ((s.last : Int) + 1), .slice a9 (s.upd k Sn.noName).dropped.all.length c9] from rfl)
      generalize hn9 : (s.upd k Sn.noName).dropped.all.length = n9 at *
      rw [HVV.out]
      have c0 : w8.cell? ⟨W.heap.size, 0, none⟩ = some (.int .i64 s.tasks) := HF8.out.cells.1
      have c1 : w8.cell? ⟨W.heap.size, 1, none⟩ = some (.int .i64 s.most) := HF8.out.cells.2.1
      have c2 : w8.cell? ⟨W.heap.size, 2, none⟩ = some (.int .i64 s.keep) := HF8.out.cells.2.2.1
      have c3 : w8.cell? ⟨W.heap.size, 3, none⟩ = some (.int .i64 ((s.last : Int) + 1)) := HF8.out.cells.2.2.2.1
      have c4 : w8.cell? ⟨W.heap.size, 4, none⟩ = some (.slice (some ⟨g, o, none⟩) s.all.length c6) := HF8.out.cells.2.2.2.2
      have cz : ∀ o, w8.frozen? ⟨W.heap.size, o, none⟩ = false := HF8.out.thaw
      have d0 : w8.cell? ⟨W.heap.size + 1, 0, none⟩ = some (.int .i64 0) := HF8.out.res.1
      have d1 : w8.cell? ⟨W.heap.size + 1, 1, none⟩ = some (.int .i64 0) := HF8.out.res.2.1
      have d2 : w8.cell? ⟨W.heap.size + 1, 2, none⟩ = some (.int .i64 0) := HF8.out.res.2.2.1
      have d3 : w8.cell? ⟨W.heap.size + 1, 3, none⟩ = some (.int .i64 0) := HF8.out.res.2.2.2.1
      have d4 : w8.cell? ⟨W.heap.size + 1, 4, none⟩ = some (.slice none 0 0) := HF8.out.res.2.2.2.2.1
      have dz : ∀ o, w8.frozen? ⟨W.heap.size + 1, o, none⟩ = false := HF8.out.res.2.2.2.2.2
      go_wp2
      have r1 := store5_block HF8.out.rs (.int .i64 s.tasks) (.int .i64 s.most) (.int .i64 s.keep) (.int .i64 ((s.last : Int) + 1)) (.slice a9 n9 c9)
      have hBz := store5_below HF8.out.bl (Nat.le_succ _) (.int .i64 s.tasks) (.int .i64 s.most) (.int .i64 s.keep) (.int .i64 ((s.last : Int) + 1)) (.slice a9 n9 c9)
      have hnz : (nw W w8).le (nw W (store5 w8 (W.heap.size + 1) (.int .i64 s.tasks) (.int .i64 s.most) (.int .i64 s.keep) (.int .i64 ((s.last : Int) + 1)) (.slice a9 n9 c9))) := nw_store5 (.int .i64 s.tasks) (.int .i64 s.most) (.int .i64 s.keep) (.int .i64 ((s.last : Int) + 1)) (.slice a9 n9 c9)
      show bodyPost _ _ _ _ _ (store5 w8 (W.heap.size + 1) (.int .i64 s.tasks) (.int .i64 s.most) (.int .i64 s.keep) (.int .i64 ((s.last : Int) + 1)) (.slice a9 n9 c9))
      generalize store5 w8 (W.heap.size + 1) (.int .i64 s.tasks) (.int .i64 s.most) (.int .i64 s.keep) (.int .i64 ((s.last : Int) + 1)) (.slice a9 n9 c9) = wz at r1 hBz hnz ⊢
      have g0 : wz.cell? ⟨W.heap.size + 1, 0, none⟩ = some (.int .i64 s.tasks) := mem_cells r1 0
      have g1 : wz.cell? ⟨W.heap.size + 1, 1, none⟩ = some (.int .i64 s.most) := mem_cells r1 1
      have g2 : wz.cell? ⟨W.heap.size + 1, 2, none⟩ = some (.int .i64 s.keep) := mem_cells r1 2
      have g3 : wz.cell? ⟨W.heap.size + 1, 3, none⟩ = some (.int .i64 ((s.last : Int) + 1)) := mem_cells r1 3
      have g4 : wz.cell? ⟨W.heap.size + 1, 4, none⟩ = some (.slice a9 n9 c9) := mem_cells r1 4
      exact bodyPost_ret (v := .tuple #[.agg #[.int .i64 s.tasks, .int .i64 s.most, .int .i64 s.keep, .int .i64 ((s.last : Int) + 1), .slice a9 n9 c9], .int .i64 0]) (by simp [results, Tryz.results21, go_sem, g0, g1, g2, g3, g4]) rfl ⟨.slice a9 n9 c9, hBz, by rw [HS.out, HAE.out, HVV.out], by rw [HS.out]; exact HV8.out.mono (jn_join HM.out hnz)⟩
end Go.Proofs.YtnfolemblnnejaaGreat
/- A region that draws its order, by an invariant over what has come up. No program in sight. -/
namespace Go.Proofs.YtnfolemblnnejaaGreat
open Go.RowKit
section
variable {P : Program} {ops : Array Oper} {Q : Exit → Act → World → Prop} {md : Region.Mode}
def depsOf (md : Region.Mode) (ops : Array Oper) (i : Nat) : List Nat := match ops[i]? with | some o => (o.after.toList.filter (Region.binds md)).map (·.on) | none => []
def dstOf (ops : Array Oper) (i : Nat) : Option Tmp := (ops[i]?).bind (·.dst)
def dstsOk (ops : Array Oper) (n : Nat) : Bool := (List.range ops.size).all fun i => match dstOf ops i with
  | none => true
  | some d => decide (d < n) && (List.range ops.size).all fun j => j == i || !(dstOf ops j == some d)
def depsBack (md : Region.Mode) (ops : Array Oper) : Bool := (List.range ops.size).all fun i => (depsOf md ops i).all (fun j => decide (j < i))
def putAll : List Oper → (Nat → Value) → Nat → Act → Act
  | [], _, _, a => a
  | o :: os, f, k, a => putAll os f (k + 1) (a.put o.dst (f k))
def setL (L : Nat → Bool) (i : Nat) : Nat → Bool := fun j => if j = i then true else L j
def setV (f : Nat → Value) (i : Nat) (v : Value) : Nat → Value := fun j => if j = i then v else f j
theorem dst_lt {i : Nat} {d : Tmp} (h : dstOf ops i = some d) : i < ops.size := by
  unfold dstOf at h
  rcases Nat.lt_or_ge i ops.size with h' | h'
  · exact h'
  · rw [Array.getElem?_eq_none h'] at h; cases h
theorem dsts_spec {n : Nat} (h : dstsOk ops n = true) {i : Nat} {d : Tmp} (hi : dstOf ops i = some d) : d < n ∧ ∀ j, dstOf ops j = some d → j = i := by
  have h1 := List.all_eq_true.1 h i (List.mem_range.2 (dst_lt hi))
  rw [hi] at h1
  simp only [Bool.and_eq_true, decide_eq_true_eq] at h1
  refine ⟨h1.1, fun j hj => ?_⟩
  have h2 := List.all_eq_true.1 h1.2 j (List.mem_range.2 (dst_lt hj))
  rw [hj] at h2
  simpa using h2
structure FRel (ops : Array Oper) (A0 : Act) (L : Nat → Bool) (f : Nat → Value) (a : Act) : Prop where
  df : a.defers = A0.defers
  sz : a.tmps.size = A0.tmps.size
  at_ : ∀ i d, dstOf ops i = some d → L i = true → a.tmps[d]? = some (f i)
  old : ∀ d : Nat, (∀ i, L i = true → dstOf ops i ≠ some d) → a.tmps[d]? = A0.tmps[d]?
theorem FRel.put {A0 a : Act} {L : Nat → Bool} {f : Nat → Value} (h : FRel ops A0 L f a) (hd : dstsOk ops A0.tmps.size = true) {i : Nat} {o : Oper} (ho : ops[i]? = some o) (v : Value) : FRel ops A0 (setL L i) (setV f i v) (a.put o.dst v) := by
  have hdi : dstOf ops i = o.dst := by unfold dstOf; rw [ho]; rfl
  cases he : o.dst with
  | none =>
    refine ⟨h.df, h.sz, fun j d hj hl => ?_, fun d hn => h.old d (fun j hj => hn j (by unfold setL; split <;> simp [*]))⟩
    have hji : j ≠ i := fun e => by subst e; rw [hdi, he] at hj; cases hj
    simp only [setL, setV, if_neg hji] at hl ⊢
    exact h.at_ j d hj hl
  | some e =>
    rw [he] at hdi
    have hlt := (dsts_spec hd hdi).1
    refine ⟨h.df, by simp [Act.put, h.sz], fun j d hj hl => ?_, fun d hn => ?_⟩
    · by_cases hji : j = i
      · subst hji
        rw [hdi] at hj; cases hj
        simp only [Act.put, setV, if_pos]
        rw [Array.getElem?_setIfInBounds_self_of_lt (by rw [h.sz]; exact hlt)]
      · simp only [setL, setV, if_neg hji] at hl ⊢
        have hne : e ≠ d := fun e2 => by subst e2; exact hji ((dsts_spec hd hdi).2 j hj)
        simp only [Act.put]
        rw [Array.getElem?_setIfInBounds_ne hne]
        exact h.at_ j d hj hl
    · have hne : e ≠ d := fun e2 => by subst e2; exact hn i (by unfold setL; rw [if_pos rfl]) hdi
      simp only [Act.put]
      rw [Array.getElem?_setIfInBounds_ne hne]
      exact h.old d (fun j hj => hn j (by unfold setL; split <;> simp [*]))
theorem FRel.start (A0 : Act) (f : Nat → Value) {L : Nat → Bool} (hL : ∀ i, L i = false) : FRel ops A0 L f A0 := ⟨rfl, rfl, fun i d _ h => absurd h (by rw [hL i]; simp), fun _ _ => rfl⟩
theorem FRel.uniq {A0 a b : Act} {L : Nat → Bool} {f : Nat → Value} (ha : FRel ops A0 L f a) (hb : FRel ops A0 L f b) : a = b := by
  obtain ⟨at1, ad⟩ := a
  obtain ⟨bt, bd⟩ := b
  have hd : ad = bd := ha.df.trans hb.df.symm
  have ht : at1 = bt := by
    apply Array.ext_getElem?
    intro d
    by_cases h : ∃ i, L i = true ∧ dstOf ops i = some d
    · obtain ⟨i, h1, h2⟩ := h
      exact (ha.at_ i d h2 h1).trans (hb.at_ i d h2 h1).symm
    · have hn : ∀ i, L i = true → dstOf ops i ≠ some d := fun i h1 h2 => h ⟨i, h1, h2⟩
      exact (ha.old d hn).trans (hb.old d hn).symm
  rw [hd, ht]
theorem FRel.all {A0 : Act} (hd : dstsOk ops A0.tmps.size = true) (f : Nat → Value) : ∀ (os : List Oper) (k : Nat) (a : Act), (∀ j : Nat, os[j]? = ops[k + j]?) → FRel ops A0 (fun i => decide (i < k)) f a →
    ∃ n, ops.size ≤ n ∧ FRel ops A0 (fun i => decide (i < n)) f (putAll os f k a)
  | [], k, a, ho, h => ⟨k, by have := ho 0; simp at this; exact this, h⟩
  | o :: os, k, a, ho, h => by
    have h0 : ops[k]? = some o := by simpa using (ho 0).symm
    refine FRel.all hd f os (k + 1) _ (fun j => by have := ho (j + 1); simpa [Nat.add_assoc, Nat.add_comm 1 j] using this) ?_
    have h1 := h.put hd h0 (f k)
    have e1 : setV f k (f k) = f := by funext j; unfold setV; split <;> simp [*]
    have e2 : setL (fun i => decide (i < k)) k = fun i => decide (i < k + 1) := by
      funext j
      unfold setL
      split
      · subst_vars; simp
      · rw [decide_eq_decide]; omega
    rw [e1, e2] at h1
    exact h1
theorem FRel.done {A0 a : Act} (hd : dstsOk ops A0.tmps.size = true) {L : Nat → Bool} {f : Nat → Value} (h : FRel ops A0 L f a) (hL : ∀ i, i < ops.size → L i = true) : a = putAll ops.toList f 0 A0 := by
  obtain ⟨n, hn, h2⟩ := FRel.all (ops := ops) hd f ops.toList 0 A0 (fun j => by simp) (FRel.start A0 f (fun i => by simp))
  refine FRel.uniq (L := fun i => decide (i < ops.size)) (f := f) ⟨h.df, h.sz, fun i d hi hl => h.at_ i d hi (hL i (by simpa using hl)), fun d hx => h.old d (fun i _ e => hx i (by simpa using dst_lt e) e)⟩
    ⟨h2.df, h2.sz, fun i d hi hl => h2.at_ i d hi (by have := dst_lt hi; simp; omega), fun d hx => h2.old d (fun i _ e => hx i (by simpa using dst_lt e) e)⟩
def unl (n : Nat) (L : Nat → Bool) : List Nat := (List.range n).filter (fun i => !L i)
theorem unl_set {n : Nat} {L : Nat → Bool} {i : Nat} (hi : i < n) (h : L i = false) : (unl n (setL L i)).length < (unl n L).length := by
  have e : unl n (setL L i) = (unl n L).filter (fun j => decide (j ≠ i)) := by
    unfold unl
    rw [List.filter_filter]
    congr 1
    funext j
    unfold setL
    by_cases hj : j = i <;> simp [hj]
  rw [e]
  refine List.length_filter_lt_length_iff_exists.2 ⟨i, List.mem_filter.2 ⟨List.mem_range.2 hi, by rw [h]; rfl⟩, by simp⟩
theorem first_of {n : Nat} {L : Nat → Bool} (h : ¬ ∀ i, i < n → L i = true) : ∃ i, i < n ∧ L i = false ∧ ∀ j, j < i → L j = true := by
  induction n with
  | zero => exact absurd (fun i hi => absurd hi (by omega)) h
  | succ n ih =>
    by_cases h1 : ∀ i, i < n → L i = true
    · refine ⟨n, by omega, ?_, h1⟩
      cases hn : L n with
      | false => rfl
      | true => exact absurd (fun i hi => by by_cases e : i = n; · rw [e]; exact hn
                                             · exact h1 i (by omega)) h
    · obtain ⟨i, h2, h3⟩ := ih h1
      exact ⟨i, by omega, h3⟩
/-- A REGION THAT DRAWS ITS ORDER, BY AN INVARIANT: J tells what holds once the operations of L have come up and yielded f. -/
theorem wpAny_inv {A0 : Act} (hd : dstsOk ops A0.tmps.size = true) (hb : depsBack md ops = true) (J : (Nat → Bool) → (Nat → Value) → World → Prop)
    (hstep : ∀ i o, ops[i]? = some o → ∀ L f a w, J L f w → L i = false → (∀ j ∈ depsOf md ops i, L j = true) → (∀ j d, dstOf ops j = some d → L j = true → a.eval (.tmp d) = f j) →
      (∀ d, (∀ j, dstOf ops j ≠ some d) → a.eval (.tmp d) = A0.eval (.tmp d)) → ∀ K : Act → World → Prop, (∀ v w', J (setL L i) (setV f i v) w' → K (a.put o.dst v) w') →
      if Region.wanted o (yielded ops a.tmps) = true then Oper.wp P o a w K Q else K (a.put o.dst undef) w)
    (hend : ∀ L f w, J L f w → (∀ i, i < ops.size → L i = true) → Q .normal (putAll ops.toList f 0 A0) w) :
    ∀ (fuel : Nat) (listed : Array Bool) (L : Nat → Bool) (f : Nat → Value) (a : Act) (w : World), listed.size = ops.size → (∀ i, i < ops.size → listed.getD i false = L i) → (unl ops.size L).length ≤ fuel → FRel ops A0 L f a → J L f w →
      wpAny P md ops Q fuel listed a w := by
  have hall : ∀ (listed : Array Bool) (L : Nat → Bool), listed.size = ops.size → (∀ i, i < ops.size → listed.getD i false = L i) → Region.ready md ops listed = [] → ∀ i, i < ops.size → L i = true := by
    intro listed L hs hl hr
    refine Classical.byContradiction (fun hn => ?_)
    obtain ⟨i, h1, h2, h3⟩ := first_of hn
    have hm : i ∈ Region.ready md ops listed := by
      rw [mem_ready]
      refine ⟨?_, ops[i], by simp [h1], fun e he hbi => ?_⟩
      · have := hl i h1
        rw [h2] at this
        have hi : i < listed.size := by omega
        simp [Array.getD, hi] at this ⊢
        exact this
      · have hje : e.on < i := by
          have := List.all_eq_true.1 hb i (List.mem_range.2 h1)
          have := List.all_eq_true.1 this e.on (by unfold depsOf; simp [h1]; exact ⟨e, ⟨by simpa using he, hbi⟩, rfl⟩)
          simpa using this
        rw [hl e.on (by omega)]
        exact h3 _ hje
    rw [hr] at hm; cases hm
  intro fuel
  induction fuel with
  | zero =>
    intro listed L f a w hs hl hu hF hJ
    have h1 : ∀ i, i < ops.size → L i = true := by
      intro i hi
      cases h : L i with
      | true => rfl
      | false =>
        have : i ∈ unl ops.size L := List.mem_filter.2 ⟨List.mem_range.2 hi, by rw [h]; rfl⟩
        have := List.length_pos_iff.2 (List.ne_nil_of_mem this)
        omega
    refine ⟨?_, by rw [hF.done hd h1]; exact hend L f w hJ h1⟩
    refine List.eq_nil_iff_forall_not_mem.2 (fun i hi => ?_)
    obtain ⟨g1, o, g2, -⟩ := mem_ready.1 hi
    have hi2 : i < ops.size := (Array.getElem?_eq_some_iff.1 g2).1
    have := hl i hi2
    rw [h1 i hi2] at this
    have hi3 : i < listed.size := by omega
    simp [Array.getD, hi3] at this g1
    rw [g1] at this; cases this
  | succ fuel ih =>
    intro listed L f a w hs hl hu hF hJ
    refine ⟨fun hr => by rw [hF.done hd (hall listed L hs hl hr)]; exact hend L f w hJ (hall listed L hs hl hr), fun i hi => ?_⟩
    obtain ⟨g1, o, g2, g3⟩ := mem_ready.1 hi
    have hi2 : i < ops.size := (Array.getElem?_eq_some_iff.1 g2).1
    have hi3 : i < listed.size := by omega
    have hLi : L i = false := by
      rw [← hl i hi2]
      simp [Array.getD, hi3] at g1 ⊢
      exact g1
    refine wpOp_step g2 (fun K' hK => hstep i o g2 L f a w hJ hLi (fun j hj => ?_) (fun j d hj hLj => ?_) (fun d hn => ?_) K' (fun v w' hJ' => ?_))
    · unfold depsOf at hj
      rw [g2] at hj
      obtain ⟨e, he, rfl⟩ := List.mem_map.1 hj
      obtain ⟨he1, he2⟩ := List.mem_filter.1 he
      have h1 := g3 e (by simpa using he1) he2
      by_cases hlt : e.on < ops.size
      · rw [← hl _ hlt]; exact h1
      · have : ¬ e.on < listed.size := by omega
        simp [Array.getD, this] at h1
    · have := hF.at_ j d hj hLj
      simp [Act.eval, Array.getD_eq_getD_getElem?, this]
    · have := hF.old d (fun j _ => hn j)
      simp [Act.eval, Array.getD_eq_getD_getElem?, this]
    · refine hK _ _ (ih (listed.setIfInBounds i true) (setL L i) (setV f i v) _ w' (by simp [hs]) (fun j hj => ?_) ?_ (hF.put hd g2 v) hJ')
      · unfold setL
        by_cases hji : j = i
        · subst hji; simp [hi3]
        · rw [if_neg hji, getD_set_ne false (fun e => hji e.symm)]; exact hl j hj
      · have := unl_set hi2 hLi
        omega
/-- The same for a region. -/
theorem wp_region_inv {id : Nat} {A0 : Act} {w : World} (hm : P.follows .mixedOrders = true) (hd : dstsOk ops A0.tmps.size = true) (hb : depsBack .any ops = true) (J : (Nat → Bool) → (Nat → Value) → World → Prop)
    (hstart : J (fun _ => false) (fun _ => undef) w.drew)
    (hstep : ∀ i o, ops[i]? = some o → ∀ L f a w, J L f w → L i = false → (∀ j ∈ depsOf .any ops i, L j = true) → (∀ j d, dstOf ops j = some d → L j = true → a.eval (.tmp d) = f j) →
      (∀ d, (∀ j, dstOf ops j ≠ some d) → a.eval (.tmp d) = A0.eval (.tmp d)) → ∀ K : Act → World → Prop, (∀ v w', J (setL L i) (setV f i v) w' → K (a.put o.dst v) w') →
      if Region.wanted o (yielded ops a.tmps) = true then Oper.wp P o a w K Q else K (a.put o.dst undef) w)
    (hend : ∀ L f w, J L f w → (∀ i, i < ops.size → L i = true) → Q .normal (putAll ops.toList f 0 A0) w) : (Code.region id ops true).wp P Q A0 w :=
  wp_region_any hm (wpAny_inv hd hb J hstep hend ops.size _ (fun _ => false) (fun _ => undef) A0 _ (by simp) (fun i hi => by simp [hi]) (by unfold unl; exact Nat.le_trans (List.length_filter_le _ _) (by simp)) (FRel.start A0 _ (fun _ => rfl)) hstart)
def AllAt (R : Nat → Oper → Prop) : List Oper → Nat → Prop
  | [], _ => True
  | o :: os, k => R k o ∧ AllAt R os (k + 1)
theorem AllAt.nil {R : Nat → Oper → Prop} {k : Nat} : AllAt R [] k := trivial
theorem AllAt.cons {R : Nat → Oper → Prop} {o : Oper} {os : List Oper} {k : Nat} (k' : Nat) (h : R k o) (h2 : AllAt R os k') (hk : k' = k + 1) : AllAt R (o :: os) k := ⟨h, hk ▸ h2⟩
theorem AllAt.get {R : Nat → Oper → Prop} : ∀ {os : List Oper} {k : Nat}, AllAt R os k → ∀ i o, os[i]? = some o → R (k + i) o
  | [], _, _, i, o, h => by simp at h
  | o' :: os, k, h, 0, o, e => by simp at e; subst e; exact h.1
  | o' :: os, k, h, i + 1, o, e => by
    have := AllAt.get h.2 i o (by simpa using e)
    rw [show k + (i + 1) = k + 1 + i by omega]; exact this
theorem AllAt.all {R : Nat → Oper → Prop} (h : AllAt R ops.toList 0) : ∀ i o, ops[i]? = some o → R i o := fun i o e => by
  have := h.get i o (by rw [Array.getElem?_toList]; exact e)
  rwa [Nat.zero_add] at this
def noDst (ops : Array Oper) (d : Nat) : Bool := (List.range ops.size).all fun j => !(dstOf ops j == some d)
theorem noDst_spec {d : Nat} (h : noDst ops d = true) : ∀ j, dstOf ops j ≠ some d := fun j e => by
  have := List.all_eq_true.1 h j (List.mem_range.2 (dst_lt e))
  rw [e] at this
  simp at this
/-- An operation that yields a value, as one step. -/
theorem step_val {o : Oper} {a : Act} {w w' : World} {K : Act → World → Prop} {E : Prop} {v : Value} (hg : o.guard = none) (hr : (execOp a.eval o).run P w = .ok (.value v) w') (h : K (a.put o.dst v) w') :
    if Region.wanted o (yielded ops a.tmps) = true then Oper.wp P o a w K Q else E := by
  rw [if_pos (by simp [Region.wanted, hg])]
  unfold Oper.wp
  rw [hr]
  exact h
/-- An operation that yields nothing (a store), as one step. -/
theorem step_skip {o : Oper} {a : Act} {w w' : World} {K : Act → World → Prop} {E : Prop} (hg : o.guard = none) (hr : (execOp a.eval o).run P w = .ok .skip w') (h : K (a.put o.dst undef) w') :
    if Region.wanted o (yielded ops a.tmps) = true then Oper.wp P o a w K Q else E := by
  rw [if_pos (by simp [Region.wanted, hg])]
  unfold Oper.wp
  rw [hr]
  exact h
end
end Go.Proofs.YtnfolemblnnejaaGreat
/- The reference of a vault: what holds while Trigger's row is made (a region that draws its order). -/
namespace Go.Proofs.YtnfolemblnnejaaGreat
open Go.RowKit Go.Maps

structure Cx where
  own : Option Nat
  d3 : Bool
  d17 : Bool
  d19 : Bool
noncomputable def NM (W : World) (c : Cx) (w : World) : Mem := (mem w).on (fun b => W.heap.size + 2 ≤ b ∧ some b ≠ c.own)
def newX (s : VS) (nm : ByteArray) : Int × Sn := ((s.last : Int) + 1, Sn.new s.tasks nm)
noncomputable def joinN (M : Mem) (W : World) (N : Mem) : Mem := fun b o => if W.heap.size + 2 ≤ b then N b o else M b o
theorem NM_le {W w : World} {c : Cx} : (NM W c w).le (mem w) := Mem.on_le _ _
theorem NM_join {M : Mem} {W w : World} {c : Cx} : (NM W c w).le (joinN M W (NM W c w)) := fun b o v e => by
  obtain ⟨hs, -⟩ := Mem.of_on e
  unfold joinN
  rw [if_pos hs.1]; exact e
theorem joinN_of {M : Mem} {W : World} (N : Mem) (hM : M.le (mem W)) : M.le (joinN M W N) := fun b o v e => by
  have := mem_lt (hM _ _ _ e)
  unfold joinN
  rw [if_neg (by omega)]; exact e
theorem joinN_jn {M : Mem} {W w w' : World} {c : Cx} (h : (NM W c w).le (mem w')) : (joinN M W (NM W c w)).le (jn M W w') := fun b o v e => by
  unfold joinN at e
  unfold jn
  split at e
  · next hb => rw [if_pos hb]; exact h _ _ _ e
  · next hb => rw [if_neg hb]; exact e
theorem slice_to2 {α : Type} {M1 m M' : Mem} {t : Ty α} {v : Value} {xs : List α} (h : (tSlice t).rv M1 [v] xs) (h1 : M1.le m) (h2 : M1.le M') : (tSlice (tIn M' t)).rv m [v] xs := by
  obtain ⟨a, cap, h3, h4, h5, h6⟩ := h
  refine ⟨a, cap, h3, h4, h5, fun hp => ?_⟩
  obtain ⟨b, o, ha, hat⟩ := h6 hp
  refine ⟨b, o, ha, fun k hk => ?_⟩
  obtain ⟨cs, hc, hr⟩ := hat k hk
  exact ⟨cs, fun j v hj => h1 _ _ _ (hc j v hj), t.mono _ _ _ _ h2 hr⟩
theorem Fr.grown {W w w' : World} {v0 v1 v2 v3 v4 : Value} {row : Option Nat} (h : Fr W w v0 v1 v2 v3 v4) (hg : w.grownBy w' row) (hr : ∀ k, row = some k → W.heap.size + 2 ≤ k) : Fr W w' v0 v1 v2 v3 v4 := by
  have hs := h.sz
  have hne : ∀ k, k < W.heap.size + 2 → some k ≠ row := fun k hk e => by have := hr k e.symm; omega
  refine ⟨h.bl.grown hg h.bl.size (fun k e => by have := hr k e; omega), Nat.le_trans h.sz hg.size, ?_, ?_⟩
  · exact (hg.block _ (by omega) (hne _ (by omega))).trans h.bx
  · exact (hg.block _ (by omega) (hne _ (by omega))).trans h.rs
section
variable (W : World) (M : Mem) (s : VS) (nm : ByteArray) (aa : Option Addr) (ca : Nat)
/-- What the operations yield. -/
def TV (c : Cx) (v : Value) (w : World) : Nat → Prop
  | 0 => c.d3 = false → ∃ b, v = .slice (some ⟨b, 0, none⟩) 0 0 ∧ w.heap[b]? = some (.cells #[] 102 (0, 0)) ∧ W.heap.size + 2 ≤ b
  | 1 => v = .pointer (some ⟨W.heap.size, 4, none⟩)
  | 2 => v = .slice aa s.all.length ca
  | 3 => c.d17 = false → OwnsO (tIn M tRSn) w 102 v s.all ∧ ∀ k, v.ownBlock = some k → W.heap.size + 2 ≤ k
  | 4 => v = .int .i64 ((s.last : Int) + 1)
  | 5 => v = .string nm
  | 6 => v = .pointer (some ⟨W.heap.size, 0, none⟩)
  | 7 => v = .int .i64 s.tasks
  | 8 => ∃ a, v = .slice a s.tasks s.tasks ∧ tBools.rv (NM W c w) [v] (Sn.new s.tasks nm).bits
  | 9 => v = .pointer (some ⟨W.heap.size, 0, none⟩)
  | 10 => v = .int .i64 s.tasks
  | 11 => ∃ a, v = .slice a s.tasks s.tasks ∧ tStrs.rv (NM W c w) [v] (Sn.new s.tasks nm).texts
  | 12 => v = .pointer (some ⟨W.heap.size, 0, none⟩)
  | 13 => v = .int .i64 s.tasks
  | 14 => ∃ a, v = .slice a s.tasks s.tasks ∧ tEntss.rv (NM W c w) [v] (Sn.new s.tasks nm).rents
  | 15 => ∃ a1 a2 a3, v = .agg #[.int .i64 ((s.last : Int) + 1), .string nm, .bool false, .slice a1 s.tasks s.tasks, .slice a2 s.tasks s.tasks, .slice a3 s.tasks s.tasks] ∧
      tRSn.rv (NM W c w) [.int .i64 ((s.last : Int) + 1), .string nm, .bool false, .slice a1 s.tasks s.tasks, .slice a2 s.tasks s.tasks, .slice a3 s.tasks s.tasks] (newX s nm)
  | 16 => ∃ a cp, v = .slice a 1 cp ∧ (tSlice tRSn).rv (NM W c w) [v] [newX s nm]
  | 17 => ∃ a cp, v = .slice a (s.all.length + 1) cp ∧ (tSlice tRSn).rv (jn M W w) [v] (s.all ++ [newX s nm])
  | 18 => v = .pointer (some ⟨W.heap.size, 4, none⟩)
  | _ => True
def TS (c : Cx) (w : World) : Prop := ∃ u, Fr W w (.int .i64 s.tasks) (.int .i64 s.most) (.int .i64 s.keep) (.int .i64 ((s.last : Int) + 1)) u ∧ (c.d19 = false → u = .slice aa s.all.length ca) ∧
  (c.d19 = true → ∃ a cp, u = .slice a (s.all.length + 1) cp ∧ (tSlice tRSn).rv (jn M W w) [u] (s.all ++ [newX s nm]))
def cx (L : Nat → Bool) (f : Nat → Value) : Cx := ⟨if L 3 = true then (f 3).ownBlock else none, L 3, L 17, L 19⟩
structure TJ (L : Nat → Bool) (f : Nat → Value) (w : World) : Prop where
  st : TS W M s nm aa ca (cx L f) w
  vs : ∀ k, L k = true → TV W M s nm aa ca (cx L f) (f k) w k
  c17 : L 17 = true → L 3 = true
  c3 : L 3 = true → L 0 = true ∧ L 2 = true
  c19 : L 19 = true → L 17 = true
  ow : ∀ k, (cx L f).own = some k → k < w.heap.size
variable {W M s nm aa ca}
/-- From world to world. -/
theorem TV.to {c c' : Cx} {v : Value} {w w' : World} (hN : (NM W c w).le (NM W c' w')) (h3 : c'.d3 = false → c.d3 = false) (h17 : c'.d17 = false → c.d17 = false)
    (h0 : ∀ b, c'.d3 = false → w.heap[b]? = some (.cells #[] 102 (0, 0)) → W.heap.size + 2 ≤ b → w'.heap[b]? = w.heap[b]?)
    (ho : c'.d17 = false → OwnsO (tIn M tRSn) w 102 v s.all → (∀ k, v.ownBlock = some k → W.heap.size + 2 ≤ k) → OwnsO (tIn M tRSn) w' 102 v s.all) (hj : (jn M W w).le (jn M W w')) :
    ∀ k, TV W M s nm aa ca c v w k → TV W M s nm aa ca c' v w' k
  | 0, h => fun e => by
    obtain ⟨b, h1, h2, h4⟩ := h (h3 e)
    exact ⟨b, h1, (h0 b e h2 h4).trans h2, h4⟩
  | 1, h => h
  | 2, h => h
  | 3, h => fun e => by
    obtain ⟨h1, h2⟩ := h (h17 e)
    exact ⟨ho e h1 h2, h2⟩
  | 4, h => h
  | 5, h => h
  | 6, h => h
  | 7, h => h
  | 8, ⟨a, h1, h2⟩ => ⟨a, h1, tBools.mono _ _ _ _ hN h2⟩
  | 9, h => h
  | 10, h => h
  | 11, ⟨a, h1, h2⟩ => ⟨a, h1, tStrs.mono _ _ _ _ hN h2⟩
  | 12, h => h
  | 13, h => h
  | 14, ⟨a, h1, h2⟩ => ⟨a, h1, tEntss.mono _ _ _ _ hN h2⟩
  | 15, ⟨a1, a2, a3, h1, h2⟩ => ⟨a1, a2, a3, h1, tRSn.mono _ _ _ _ hN h2⟩
  | 16, ⟨a, cp, h1, h2⟩ => ⟨a, cp, h1, (tSlice tRSn).mono _ _ _ _ hN h2⟩
  | 17, ⟨a, cp, h1, h2⟩ => ⟨a, cp, h1, (tSlice tRSn).mono _ _ _ _ hj h2⟩
  | 18, h => h
  | _ + 19, _ => trivial
theorem NM_grow {c : Cx} {w w' : World} (hb : Below w.heap.size w w') : (NM W c w).le (NM W c w') := fun b o v e => by
  obtain ⟨hs, e⟩ := Mem.of_on e
  exact Mem.on_some (below_mem hb _ _ _ e) hs
theorem jn_grow {w w' : World} (hb : Below w.heap.size w w') : (jn M W w).le (jn M W w') := fun b o v e => by
  unfold jn at e ⊢
  split at e
  · next h => rw [if_pos h]; exact below_mem hb _ _ _ e
  · next h => rw [if_neg h]; exact e
theorem TV.grow {c : Cx} {v : Value} {w w' : World} (hb : Below w.heap.size w w') {k : Nat} (h : TV W M s nm aa ca c v w k) : TV W M s nm aa ca c v w' k :=
  TV.to (NM_grow hb) id id (fun b _ h _ => hb.block _ (Array.getElem?_eq_some_iff.1 h).1) (fun _ h _ => h.keeps (fun k hk => hb.block _ (h.lt k hk))) (jn_grow hb) k h
variable {L : Nat → Bool} {f : Nat → Value} {w w' : World} {v : Value}
theorem TS.grow {c : Cx} (h : TS W M s nm aa ca c w) (hb : Below w.heap.size w w') : TS W M s nm aa ca c w' := by
  obtain ⟨u, h1, h2, h3⟩ := h
  refine ⟨u, h1.pure hb, h2, fun e => ?_⟩
  obtain ⟨a, cp, e1, e2⟩ := h3 e
  exact ⟨a, cp, e1, (tSlice tRSn).mono _ _ _ _ (jn_grow hb) e2⟩
theorem TJ.add {i : Nat} (hi3 : i ≠ 3) (hi17 : i ≠ 17) (hi19 : i ≠ 19) (h : TJ W M s nm aa ca L f w) (hb : Below w.heap.size w w') (hv : TV W M s nm aa ca (cx L f) v w' i) : TJ W M s nm aa ca (setL L i) (setV f i v) w' := by
  have hc : cx (setL L i) (setV f i v) = cx L f := by
    unfold cx setL setV
    rw [if_neg (Ne.symm hi3), if_neg (Ne.symm hi17), if_neg (Ne.symm hi19), if_neg (Ne.symm hi3)]
  refine ⟨by rw [hc]; exact h.st.grow hb, fun k hk => ?_, fun e => ?_, fun e => ?_, fun e => ?_, fun k e => ?_⟩
  · rw [hc]
    by_cases e : k = i
    · subst e; simp only [setV, if_pos]; exact hv
    · simp only [setL, setV, if_neg e] at hk ⊢
      exact (h.vs k hk).grow hb
  · simp only [setL, if_neg (Ne.symm hi17)] at e
    simp only [setL, if_neg (Ne.symm hi3)]
    exact h.c17 e
  · simp only [setL, if_neg (Ne.symm hi3)] at e
    obtain ⟨h1, h2⟩ := h.c3 e
    constructor <;> (unfold setL; split <;> first | rfl | assumption)
  · simp only [setL, if_neg (Ne.symm hi19)] at e
    simp only [setL, if_neg (Ne.symm hi17)]
    exact h.c19 e
  · rw [hc] at e
    exact Nat.lt_of_lt_of_le (h.ow k e) hb.size
theorem TJ.add3 (h : TJ W M s nm aa ca L f w) (hL : L 3 = false) (hL0 : L 0 = true) (hL2 : L 2 = true) (hown : OwnsO (tIn M tRSn) w' 102 v s.all) (happ : AppAt w w' (f 0) 0 s.all.length v) :
    TJ W M s nm aa ca (setL L 3) (setV f 3 v) w' := by
  have h17 : L 17 = false := by cases e : L 17 with | false => rfl | true => rw [h.c17 e] at hL; cases hL
  have h19 : L 19 = false := by cases e : L 19 with | false => rfl | true => rw [h.c19 e] at h17; cases h17
  obtain ⟨b0, hf0, hb0, hb0W⟩ := h.vs 0 hL0 hL
  obtain ⟨u, hF, hu1, hu2⟩ := h.st
  have hc : cx (setL L 3) (setV f 3 v) = ⟨v.ownBlock, true, false, false⟩ := by
    unfold cx setL setV
    rw [if_pos rfl]
    simp [h17, h19]
  have hgr := happ.grown
  have hro : ∀ k, (f 0).ownBlock = some k → W.heap.size + 2 ≤ k := fun k e => by rw [hf0] at e; cases e; exact hb0W
  have hF' := hF.grown hgr hro
  have hvo : ∀ k, v.ownBlock = some k → W.heap.size + 2 ≤ k := fun k e => by
    rcases happ.block with g | g
    · exact hro k (g ▸ e)
    · have := g k e; have := hF.sz; omega
  have hN : (NM W (cx L f) w).le (NM W ⟨v.ownBlock, true, false, false⟩ w') := fun b o x e => by
    obtain ⟨hs, e⟩ := Mem.of_on e
    have hlt := mem_lt e
    have hbne : b ≠ b0 := fun e2 => by subst e2; rw [mem_cells hb0] at e; simp at e
    have hbo : some b ≠ (f 0).ownBlock := by rw [hf0]; intro e2; cases e2; exact hbne rfl
    refine Mem.on_some ((mem_of_block (hgr.block _ hlt hbo) _).trans e) ⟨hs.1, fun e2 => ?_⟩
    rcases happ.block with g | g
    · exact hbo (by rw [← g]; exact e2)
    · have := g b e2.symm; omega
  refine ⟨?_, fun k hk => ?_, fun e => ?_, fun _ => ?_, fun e => ?_, fun k e => ?_⟩
  · rw [hc]
    exact ⟨u, hF', fun _ => hu1 h19, fun e => by cases e⟩
  · rw [hc]
    by_cases e : k = 3
    · subst e; simp only [setV, if_pos]; exact fun _ => ⟨hown, hvo⟩
    · simp only [setL, setV, if_neg e] at hk ⊢
      have h1 := h.vs k hk
      by_cases e17 : k = 17
      · subst e17; rw [h17] at hk; cases hk
      match k, e, h1, e17 with
      | 0, _, _, _ => exact fun e => by cases e
      | 1, _, h, _ => exact h
      | 2, _, h, _ => exact h
      | 3, e, _, _ => exact absurd rfl e
      | 4, _, h, _ => exact h
      | 5, _, h, _ => exact h
      | 6, _, h, _ => exact h
      | 7, _, h, _ => exact h
      | 8, _, ⟨a, h1, h2⟩, _ => exact ⟨a, h1, tBools.mono _ _ _ _ hN h2⟩
      | 9, _, h, _ => exact h
      | 10, _, h, _ => exact h
      | 11, _, ⟨a, h1, h2⟩, _ => exact ⟨a, h1, tStrs.mono _ _ _ _ hN h2⟩
      | 12, _, h, _ => exact h
      | 13, _, h, _ => exact h
      | 14, _, ⟨a, h1, h2⟩, _ => exact ⟨a, h1, tEntss.mono _ _ _ _ hN h2⟩
      | 15, _, ⟨a1, a2, a3, h1, h2⟩, _ => exact ⟨a1, a2, a3, h1, tRSn.mono _ _ _ _ hN h2⟩
      | 16, _, ⟨a, cp, h1, h2⟩, _ => exact ⟨a, cp, h1, (tSlice tRSn).mono _ _ _ _ hN h2⟩
      | 17, _, _, e => exact absurd rfl e
      | 18, _, h, _ => exact h
      | _ + 19, _, _, _ => trivial
  · simp [setL]
  · simp [setL, hL0, hL2]
  · simp [setL, h19] at e
  · rw [hc] at e
    exact hown.lt k e
theorem TJ.add17 (h : TJ W M s nm aa ca L f w) (hL : L 17 = false) (hL3 : L 3 = true)
    (hown : OwnsO (tIn (joinN M W (NM W (cx L f) w)) tRSn) w' 102 v (s.all ++ [newX s nm])) (happ : AppAt w w' (f 3) s.all.length 1 v) :
    TJ W M s nm aa ca (setL L 17) (setV f 17 v) w' := by
  have h19 : L 19 = false := by cases e : L 19 with | false => rfl | true => rw [h.c19 e] at hL; cases hL
  obtain ⟨-, hro⟩ := h.vs 3 hL3 hL
  obtain ⟨u, hF, hu1, hu2⟩ := h.st
  have hc0 : (cx L f).own = (f 3).ownBlock := by unfold cx; rw [hL3]; rfl
  have hc : cx (setL L 17) (setV f 17 v) = ⟨(f 3).ownBlock, true, true, false⟩ := by
    unfold cx setL setV
    simp [hL3, h19]
  have hgr := happ.grown
  have hF' := hF.grown hgr hro
  have hvo : ∀ k, v.ownBlock = some k → W.heap.size + 2 ≤ k := fun k e => by
    rcases happ.block with g | g
    · exact hro k (g ▸ e)
    · have := g k e; have := hF.sz; omega
  have hN : (NM W (cx L f) w).le (NM W ⟨(f 3).ownBlock, true, true, false⟩ w') := fun b o x e => by
    obtain ⟨hs, e⟩ := Mem.of_on e
    have hbo : some b ≠ (f 3).ownBlock := by rw [← hc0]; exact hs.2
    exact Mem.on_some ((mem_of_block (hgr.block _ (mem_lt e) hbo) _).trans e) ⟨hs.1, hbo⟩
  have h17new : TV W M s nm aa ca ⟨(f 3).ownBlock, true, true, false⟩ v w' 17 := by
    obtain ⟨a, cp, hv, -, -⟩ := hown.form
    refine ⟨a, cp, by rw [hv]; simp, ?_⟩
    have hr := hown.rv (tIn_flat _ _) (S := (W.heap.size + 2 ≤ ·)) hvo
    refine slice_in ((tSlice (tIn _ tRSn)).mono _ (jn M W w') _ _ (fun b o x e => ?_) hr) (joinN_jn (fun b o x e => NM_le _ _ _ (hN b o x e)))
    obtain ⟨hs, e⟩ := Mem.of_on e
    unfold jn
    rw [if_pos hs]; exact e
  refine ⟨?_, fun k hk => ?_, fun e => ?_, fun e => ?_, fun e => ?_, fun k e => ?_⟩
  · rw [hc]
    exact ⟨u, hF', fun _ => hu1 h19, fun e => by cases e⟩
  · rw [hc]
    by_cases e : k = 17
    · subst e; simp only [setV, if_pos]; exact h17new
    · simp only [setL, setV, if_neg e] at hk ⊢
      have h1 := h.vs k hk
      match k, e, h1 with
      | 0, _, _ => exact fun e => by cases e
      | 1, _, h => exact h
      | 2, _, h => exact h
      | 3, _, _ => exact fun e => by cases e
      | 4, _, h => exact h
      | 5, _, h => exact h
      | 6, _, h => exact h
      | 7, _, h => exact h
      | 8, _, ⟨a, h1, h2⟩ => exact ⟨a, h1, tBools.mono _ _ _ _ hN h2⟩
      | 9, _, h => exact h
      | 10, _, h => exact h
      | 11, _, ⟨a, h1, h2⟩ => exact ⟨a, h1, tStrs.mono _ _ _ _ hN h2⟩
      | 12, _, h => exact h
      | 13, _, h => exact h
      | 14, _, ⟨a, h1, h2⟩ => exact ⟨a, h1, tEntss.mono _ _ _ _ hN h2⟩
      | 15, _, ⟨a1, a2, a3, h1, h2⟩ => exact ⟨a1, a2, a3, h1, tRSn.mono _ _ _ _ hN h2⟩
      | 16, _, ⟨a, cp, h1, h2⟩ => exact ⟨a, cp, h1, (tSlice tRSn).mono _ _ _ _ hN h2⟩
      | 17, e, _ => exact absurd rfl e
      | 18, _, h => exact h
      | _ + 19, _, _ => trivial
  · simp [setL, hL3]
  · obtain ⟨h1, h2⟩ := h.c3 hL3
    simp [setL, h1, h2]
  · simp [setL]
  · rw [hc] at e
    exact Nat.lt_of_lt_of_le (h.ow k (hc0.trans e)) hgr.size
theorem TJ.add19 (h : TJ W M s nm aa ca L f w) (hL17 : L 17 = true) (x : Value) :
    TJ W M s nm aa ca (setL L 19) (setV f 19 x) (w.setCell ⟨W.heap.size, 4, none⟩ (f 17)) := by
  have hL3 := h.c17 hL17
  obtain ⟨u, hF, hu1, hu2⟩ := h.st
  have hc : cx (setL L 19) (setV f 19 x) = ⟨(cx L f).own, true, true, true⟩ := by
    unfold cx setL setV
    simp [hL3, hL17]
  have hj : (jn M W w).le (jn M W (w.setCell ⟨W.heap.size, 4, none⟩ (f 17))) := jn_set (by omega)
  have hN : (NM W (cx L f) w).le (NM W ⟨(cx L f).own, true, true, true⟩ (w.setCell ⟨W.heap.size, 4, none⟩ (f 17))) := fun b o v e => by
    obtain ⟨hs, e⟩ := Mem.of_on e
    exact Mem.on_some ((mem_of_block (set_block_other (by have := hs.1; omega)) _).trans e) hs
  refine ⟨?_, fun k hk => ?_, fun e => ?_, fun e => ?_, fun e => ?_, fun k e => ?_⟩
  · rw [hc]
    obtain ⟨a, cp, h1, h2⟩ := h.vs 17 hL17
    exact ⟨f 17, hF.set4 _, fun e => (by cases e), fun _ => ⟨a, cp, h1, (tSlice tRSn).mono _ _ _ _ hj h2⟩⟩
  · rw [hc]
    by_cases e : k = 19
    · subst e; trivial
    · simp only [setL, setV, if_neg e] at hk ⊢
      exact TV.to hN (fun e => by cases e) (fun e => by cases e) (fun b e => by cases e) (fun e => by cases e) hj k (h.vs k hk)
  · simp [setL, hL3]
  · obtain ⟨h1, h2⟩ := h.c3 hL3
    simp [setL, h1, h2]
  · simp [setL, hL17]
  · rw [hc] at e
    have := h.ow k e
    simpa [World.setCell] using this
end
end Go.Proofs.YtnfolemblnnejaaGreat
/- The reference of a vault: rows made at once, one cell an element. -/
namespace Go.Proofs.YtnfolemblnnejaaGreat
open Go.RowKit Go.Maps

theorem made_at (z : Value) (n : Nat) : ∀ i, i < n → (madeCells #[z] n)[i]? = some z := fun i hi => by
  unfold madeCells
  simp [hi, Nat.mod_one]
theorem made_rv {α : Type} {t : Ty α} (hsz : t.sz = 1) {z : Value} {x : α} {m : Mem} (hrv : t.rv m [z] x) {b n : Nat} (hn : n ≤ maxLen) (hm : ∀ i, i < n → m b i = some z) : (tSlice t).rv m [.slice (some ⟨b, 0, none⟩) n n] (List.replicate n x) := by
  refine ⟨some ⟨b, 0, none⟩, n, by rw [List.length_replicate], by rw [List.length_replicate]; exact Nat.le_refl _, hn, fun _ => ⟨b, 0, rfl, fun k hk => ?_⟩⟩
  rw [List.length_replicate] at hk
  rw [List.getElem_replicate]
  refine ⟨[z], fun j v hj => ?_, hrv⟩
  cases j with
  | zero => simp at hj; subst hj; rw [hsz]; simpa using hm k hk
  | succ j => simp at hj
theorem infoBool1 : (Tryz.prog.info? 4).map (fun i => (i.zero, i.size, i.bytes)) = some (some (.bool false), 1, 1) := by kernel_rfl
theorem infoStr1 : (Tryz.prog.info? 9).map (fun i => (i.zero, i.size, i.bytes)) = some (some (.string .empty), 1, 16) := by kernel_rfl
theorem infoEs1 : (Tryz.prog.info? 34).map (fun i => (i.zero, i.size, i.bytes)) = some (some (.slice none 0 0), 1, 24) := by kernel_rfl
theorem make_any {T e : TypeId} {z : Value} {bytes : Nat} (hT : Tryz.prog.underlying T = some (.slice e)) (hinf : (Tryz.prog.info? e).map (fun i => (i.zero, i.size, i.bytes)) = some (some z, 1, bytes)) (hz : z.cells = #[z]) (hb : bytes ≤ 1000) (n : Nat) (hn : n ≤ 1000) (w : World) :
    (Instr.makeSlice T (.int .i64 (n : Int)) (.int .i64 (n : Int))).run Tryz.prog w = .ok (.slice (some ⟨w.heap.size, 0, none⟩) n n) (w.alloc (.cells (madeCells #[z] n) e)) := by
  obtain ⟨i, hi, e⟩ := Option.map_eq_some_iff.1 hinf
  simp only [Prod.mk.injEq] at e
  obtain ⟨e1, e2, e3⟩ := e
  have hbn : (bytes : Int) * n ≤ 281474976710656 := by
    have h1 : bytes * n ≤ 1000000 := Nat.le_trans (Nat.mul_le_mul hb hn) (by omega)
    have h2 := Int.ofNat_le.2 h1
    rw [Int.natCast_mul] at h2; omega
  have := run_makeSlice (P := Tryz.prog) (w := w) T _ i z hT hi e1 .i64 .i64 (n : Int) (n : Int) (by omega) (by omega) (by rw [e2, Int.toNat_natCast]; omega) (by rw [e3]; exact hbn) (by omega)
  rw [this]
  simp [e2, hz]
section
variable {W : World} {M : Mem} {s : VS} {nm : ByteArray} {aa : Option Addr} {ca : Nat} {L : Nat → Bool} {f : Nat → Value} {w : World}
theorem TJ.cell4 (h : TJ W M s nm aa ca L f w) (hL2 : L 2 = false) : w.cell? ⟨W.heap.size, 4, none⟩ = some (.slice aa s.all.length ca) := by
  obtain ⟨u, hF, hu1, -⟩ := h.st
  have h19 : (cx L f).d19 = false := by
    show L 19 = false
    cases e : L 19 with
    | false => rfl
    | true => rw [(h.c3 (h.c17 (h.c19 e))).2] at hL2; cases hL2
  rw [← hu1 h19]; exact hF.cells.2.2.2.2
theorem TJ.cell0 (h : TJ W M s nm aa ca L f w) : w.cell? ⟨W.heap.size, 0, none⟩ = some (.int .i64 s.tasks) := by
  obtain ⟨u, hF, hu1, -⟩ := h.st
  exact hF.cells.1
theorem TJ.some4 (h : TJ W M s nm aa ca L f w) : (∃ u, w.cell? ⟨W.heap.size, 4, none⟩ = some u) ∧ w.frozen? ⟨W.heap.size, 4, none⟩ = false := by
  obtain ⟨u, hF, hu1, -⟩ := h.st
  exact ⟨⟨u, hF.cells.2.2.2.2⟩, hF.thaw 4⟩
theorem TJ.size (h : TJ W M s nm aa ca L f w) : W.heap.size + 2 ≤ w.heap.size := by
  obtain ⟨u, hF, -⟩ := h.st
  exact hF.sz
/-- A row made. -/
theorem TJ.made {α : Type} {t : Ty α} (h : TJ W M s nm aa ca L f w) (hsz : t.sz = 1) {z : Value} {x : α} {T : TypeId} (hrv : ∀ m, t.rv m [z] x) (hn : s.tasks ≤ 1000) :
    (tSlice t).rv (NM W (cx L f) (w.alloc (.cells (madeCells #[z] s.tasks) T))) [.slice (some ⟨w.heap.size, 0, none⟩) s.tasks s.tasks] (List.replicate s.tasks x) := by
  refine made_rv hsz (hrv _) (by unfold maxLen; omega) (fun i hi => Mem.on_some (mem_cells (heap_alloc_new w _) i |>.trans (made_at z _ i hi)) ⟨h.size, fun e => ?_⟩)
  have := h.ow _ e.symm
  omega
theorem new_row {v0 v1 v2 v3 v4 v5 : Value} {x : Int × Sn} {T : TypeId} (hsz : W.heap.size + 2 ≤ w.heap.size) (how : ∀ k, (cx L f).own = some k → k < w.heap.size) (r : tRSn.rv (NM W (cx L f) w) [v0, v1, v2, v3, v4, v5] x) :
    (tSlice tRSn).rv (NM W (cx L f) (w.alloc (.cells #[v0, v1, v2, v3, v4, v5] T))) [.slice (some ⟨w.heap.size, 0, none⟩) 1 1] [x] := by
  refine ⟨_, 1, rfl, by simp, by unfold maxLen; omega, fun _ => ⟨_, 0, rfl, fun k hk => ?_⟩⟩
  have hk : k = 0 := by simpa using hk
  subst hk
  refine ⟨[v0, v1, v2, v3, v4, v5], fun j v hj => ?_, tRSn.mono _ _ _ _ (NM_grow (box_below w _)) r⟩
  refine Mem.on_some ?_ ⟨hsz, fun e => absurd (how _ e.symm) (Nat.lt_irrefl _)⟩
  rw [mem_cells (heap_alloc_new w _)]
  simpa using hj
end
end Go.Proofs.YtnfolemblnnejaaGreat
