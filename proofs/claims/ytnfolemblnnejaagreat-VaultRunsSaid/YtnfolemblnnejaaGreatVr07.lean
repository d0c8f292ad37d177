/- Part 7 of the texts that the law's proof stands on, merged. -/
import Derived.Deep.RegionHeld3
import Derived.Deep.RegionLaw
import Derived.Test.YtnfolemblnnejaaGreatVr06
set_option linter.unusedVariables false
set_option linter.unusedSimpArgs false
/- The reference of a vault: Tell (printed by gen_vrtell.py). -/
namespace Go.Proofs.YtnfolemblnnejaaGreat
open Go.RowKit Go.Maps

theorem nw_jn {M : Mem} {W w : World} : (nw W w).le (jn M W w) := fun b o v e => by
  obtain ⟨hs, e⟩ := Mem.of_on e
  unfold jn
  rw [if_pos hs]; exact e
def keepT (k : Int) (x : Int × Sn) : Bool := x.2.done || decide (k < x.1)
theorem tell_done {s : VS} (h : VOk s) {i : Nat} {k : Int} {t : Sn} {u : Nat} {x : Part} (hj : s.all[i]? = some (k, t)) (hd : true = (t.tell u x).done) {y : Int × Sn} (hy : y ∈ (s.upd k (fun t => t.tell u x)).all) (e : y.1 = k) : y.2.done = true := by
  unfold VS.upd at hy
  obtain ⟨z, hz, rfl⟩ := List.mem_map.1 hy
  have hm := List.mem_of_getElem? hj
  by_cases e2 : z.1 = k
  · rw [if_pos e2]
    have : z.2 = t := h.one (k := k) (e2 ▸ hz) hm
    rw [this]
    exact hd.symm
  · rw [if_neg e2] at e
    exact absurd e e2
theorem tell_keep {s : VS} (h : VOk s) {k : Int} (hk : ∀ y ∈ s.all, y.1 = k → y.2.done = true) : (s.dels (s.pend.filter (fun j => decide (j < k)))).all = s.all.filter (keepT k) := by
  unfold VS.dels
  refine List.filter_congr (fun y hy => ?_)
  unfold keepT
  have hp : y.1 ∈ s.pend ↔ y.2.done = false := by
    unfold VS.pend VS.those
    rw [List.mem_map]
    constructor
    · rintro ⟨z, hz, e⟩
      obtain ⟨hz1, hz2⟩ := List.mem_filter.1 hz
      have : z.2 = y.2 := h.one (k := y.1) (e ▸ hz1) hy
      rw [← this]; simpa using hz2
    · intro e
      exact ⟨y, List.mem_filter.2 ⟨hy, by simp [e]⟩, rfl⟩
  have h1 := hk y hy
  cases hd : y.2.done with
  | true =>
    rw [Bool.true_or, decide_eq_true]
    intro hm
    have := hp.1 (List.mem_filter.1 hm).1
    rw [hd] at this; cases this
  | false =>
    rw [Bool.false_or, decide_eq_decide, List.mem_filter, decide_eq_true_eq]
    have h2 := hp.2 hd
    constructor
    · intro hn
      have : ¬ y.1 < k := fun hlt => hn ⟨h2, hlt⟩
      have : y.1 ≠ k := fun e => by have := h1 e; rw [hd] at this; cases this
      omega
    · rintro hlt ⟨-, h3⟩
      omega
theorem tell_ge {S q g3 g4 g5 g : Nat} (h : S + 2 ≤ q ∧ S + 2 ≤ g3 ∧ S + 2 ≤ g4 ∧ S + 2 ≤ g5 ∧ q + 1 ≤ g3 ∧ q + 1 ≤ g4 ∧ q + 1 ≤ g5) (hgq : g < q) : (∀ b, b = g3 ∨ b = g4 ∨ b = g5 → S + 2 ≤ b) ∧ (g ≠ g3 ∧ g ≠ g4 ∧ g ≠ g5) :=
  ⟨fun b e => by rcases e with rfl | rfl | rfl <;> omega, by omega⟩
theorem Fr.keeps {W w w' : World} {v0 v1 v2 v3 v4 : Value} {F : Nat → Prop} (h : Fr W w v0 v1 v2 v3 v4) (hk : Keeps F w w') (hF : ∀ b, F b → W.heap.size + 2 ≤ b) : Fr W w' v0 v1 v2 v3 v4 :=
  ⟨h.bl.trans (hk.below h.bl.size (fun b e => by have := hF b e; omega)), Nat.le_trans h.sz hk.size, (hk.block _ (Array.getElem?_eq_some_iff.1 h.bx).1 (fun e => by have := hF _ e; omega)).trans h.bx, (hk.block _ (Array.getElem?_eq_some_iff.1 h.rs).1 (fun e => by have := hF _ e; omega)).trans h.rs⟩
theorem cell_some {w : World} {b o : Nat} {cur : Array Value} {T : TypeId} (h : w.heap[b]? = some (.cells cur T (0, 0))) (ho : o < cur.size) : ∃ v, w.cell? ⟨b, o, none⟩ = some v := by
  refine ⟨cur[o], ?_⟩
  have := mem_cells h o
  rw [Array.getElem?_eq_getElem ho] at this
  exact this
theorem rsn_size {M : Mem} {w : World} {g n c i : Nat} {xs : List (Int × Sn)} {cur : Array Value} {T : TypeId} (h : (tSlice (tIn M tRSn)).rv (mem w) [.slice (some ⟨g, 0, none⟩) n c] xs) (hh : w.heap[g]? = some (.cells cur T (0, 0))) (hi : i < xs.length) : i * 6 + 6 ≤ cur.size := by
  obtain ⟨b', o', e, cs, h1, h2⟩ := slice_at h hi
  simp only [Option.some.injEq, Addr.mk.injEq, and_true] at e
  obtain ⟨rfl, rfl⟩ := e
  obtain ⟨s1, s2, s3, rfl, -⟩ := h2
  have h5 := h1 5 _ rfl
  rw [mem_cells hh] at h5
  have := (Array.getElem?_eq_some_iff.1 h5).1
  have e6 : (tIn M tRSn).sz = 6 := rfl
  rw [e6] at this
  omega
theorem miss_len (bs : List Bool) : (missOf bs).length ≤ bs.length := by
  unfold missOf
  rw [List.length_map]
  exact Nat.le_trans (List.length_filter_le _ _) (by rw [List.length_range]; exact Nat.le_refl _)
theorem bits_le {l : List Bool} {n : Nat} (h : l.length = n) (hn : n ≤ 40) (u : Nat) : (l.set u true).length ≤ 1000 := by rw [List.length_set]; omega
theorem tell_apart {w9 w10 w11 w12 w13 : World} {q g3 g4 g5 : Nat} {qc : Array Value} {cu3 cu4 cu5 : Array Value} {g : Nat} (hgq : g < q) (hq9 : w9.heap[q]? = some (.cells qc 102 (0, 0)))
    (hh3 : w9.heap[g3]? = some (.cells cu3 4 (0, 0))) (hh4 : w11.heap[g4]? = some (.cells cu4 9 (0, 0))) (hh5 : w13.heap[g5]? = some (.cells cu5 34 (0, 0)))
    (hl3 : q + 1 ≤ g3) (hl4 : w9.heap.size ≤ g4) (hl5 : w11.heap.size ≤ g5) (hs10 : w10.heap.size = w9.heap.size) (hs12 : w12.heap.size = w11.heap.size) (h11 : w10.heap.size ≤ w11.heap.size) (h13 : w12.heap.size ≤ w13.heap.size)
    (k11 : ∀ b, b < w10.heap.size → w11.heap[b]? = w10.heap[b]?) (k13 : ∀ b, b < w12.heap.size → w13.heap[b]? = w12.heap[b]?) (ho10 : ∀ b, b ≠ q → w10.heap[b]? = w9.heap[b]?) (ho12 : ∀ b, b ≠ q → w12.heap[b]? = w11.heap[b]?) :
    q ≠ g3 ∧ q ≠ g4 ∧ q ≠ g5 ∧ g3 ≠ g4 ∧ g3 ≠ g5 ∧ g4 ≠ g5 := by
  have a1 := (Array.getElem?_eq_some_iff.1 hq9).1
  have a3 := (Array.getElem?_eq_some_iff.1 hh3).1
  have a4 := (Array.getElem?_eq_some_iff.1 hh4).1
  have a5 := (Array.getElem?_eq_some_iff.1 hh5).1
  omega
set_option maxRecDepth 100000 in
set_option maxHeartbeats 32000000 in
theorem refTell_any (s : VS) (a : Value) (M : Mem) (W : World) (hM : M.le (mem W)) (h : RV M s a) (hl : s.all.length ≤ 1000) (k task : Int) (hk : inI64 k) (htk : inI64 task) (x : Part) (v : Value) (hv : tEnts.rv M [v] x.2) (hx : x.1.size ≤ 65536) (hxl : x.2.length ≤ 4000) :
    Calls Tryz.prog 25 #[rvV s a, .int .i64 k, .int .i64 task, .string x.1, v] W fun e W' => ∃ a', Below W.heap.size W W' ∧ e = .returned (.tuple #[rvV (s.told k task x) a', .bool (tellAns s k task x).1, .int .i64 (tellAns s k task x).2]) ∧ RV (joinM M W W') (s.told k task x) a' := by
  have HM := Lib.hid hM
  have HRS := Lib.hid h
  obtain ⟨aa, ca, rfl, hla, hma, hra⟩ := slice_form h.ha
  have hca : ca ≤ 9223372036854775807 := by unfold maxLen at hma; exact hma
  have HAL := Lib.hid (show s.all.length ≤ 1000000 from by have := all_len h.ok; have := h.ok.l; omega)
  have HF0 := Lib.hid (Fr.start W (.int .i64 s.tasks) (.int .i64 s.most) (.int .i64 s.keep) (.int .i64 ((s.last : Int) + 1)) (.slice aa s.all.length ca))
  have HA := Lib.hid (fun w' (hb : Below W.heap.size W w') => tRSns.mono _ _ _ _ (Mem.le_trans hM (below_mem hb)) hra)
  have HRW := Lib.hid (fun w' (hb : Below W.heap.size W w') => (h.mono (Mem.le_trans hM (below_mem hb)) : RV (mem w') s (.slice aa s.all.length ca)))
  have HQ := Lib.hid hra
  have HOK := Lib.hid h.ok
  obtain ⟨text, es⟩ := x
  simp only at hv hx hxl
  obtain ⟨ae, ke, rfl, hle, hme, hve⟩ := slice_form hv
  have hke : ke ≤ 9223372036854775807 := by unfold maxLen at hme; exact hme
  have HVE := Lib.hid hve
  have HE := Lib.hid (fun w' (hb : Below W.heap.size W w') => tEnts.mono _ _ _ _ (Mem.le_trans hM (below_mem hb)) hve)
  have HPL := Lib.hid (fun (w : World) (hb : Below W.heap.size W w) => refPlace_any s _ w (h.mono (Mem.le_trans hM (below_mem hb))) k)
  have HT1 := Lib.hid (fun h => tellAns_bad (s := s) (k := k) (task := task) (x := (text, es)) h)
  have HT2 := Lib.hid (fun h hf => tellAns_none (s := s) (k := k) (task := task) (x := (text, es)) h hf)
  have HT3 := Lib.hid (fun h t hf => tellAns_some (s := s) (k := k) (task := task) (x := (text, es)) (t := t) h hf)
  have HTD := Lib.hid (show s.told k task (text, es) = if (tellAns s k task (text, es)).2 ≠ 0 then s else if (tellAns s k task (text, es)).1 = true then
    ((s.upd k (fun t => t.tell task.toNat (text, es))).dels ((s.upd k (fun t => t.tell task.toNat (text, es))).pend.filter (fun j => decide (j < k)))).dropped
    else s.upd k (fun t => t.tell task.toNat (text, es)) from rfl)
  have hti : (text.size : Int) ≤ 65536 := by omega
  have hli : (es.length : Int) ≤ 4000 := by omega
  have hno1 : ¬ (4000 < (es.length : Int)) := by omega
  have hno2 : ¬ (65536 < (text.size : Int)) := by omega
  clear hma hra h hM hv hve hme
  go_enter Tryz.func25, Tryz.ntmps25
  go_wp2_with fail
  generalize ((W.alloc (.cells #[.int .i64 s.tasks, .int .i64 s.most, .int .i64 s.keep, .int .i64 ((s.last : Int) + 1), .slice aa s.all.length ca] 31)).alloc (.cells #[.int .i64 0, .int .i64 0, .int .i64 0, .int .i64 0, .slice none 0 0] 31)) = w0 at *
  have c0 : w0.cell? ⟨W.heap.size, 0, none⟩ = some (.int .i64 s.tasks) := HF0.out.cells.1
  have c1 : w0.cell? ⟨W.heap.size, 1, none⟩ = some (.int .i64 s.most) := HF0.out.cells.2.1
  have c2 : w0.cell? ⟨W.heap.size, 2, none⟩ = some (.int .i64 s.keep) := HF0.out.cells.2.2.1
  have c3 : w0.cell? ⟨W.heap.size, 3, none⟩ = some (.int .i64 ((s.last : Int) + 1)) := HF0.out.cells.2.2.2.1
  have c4 : w0.cell? ⟨W.heap.size, 4, none⟩ = some (.slice aa s.all.length ca) := HF0.out.cells.2.2.2.2
  have cz : ∀ o, w0.frozen? ⟨W.heap.size, o, none⟩ = false := HF0.out.thaw
  have d0 : w0.cell? ⟨W.heap.size + 1, 0, none⟩ = some (.int .i64 0) := HF0.out.res.1
  have d1 : w0.cell? ⟨W.heap.size + 1, 1, none⟩ = some (.int .i64 0) := HF0.out.res.2.1
  have d2 : w0.cell? ⟨W.heap.size + 1, 2, none⟩ = some (.int .i64 0) := HF0.out.res.2.2.1
  have d3 : w0.cell? ⟨W.heap.size + 1, 3, none⟩ = some (.int .i64 0) := HF0.out.res.2.2.2.1
  have d4 : w0.cell? ⟨W.heap.size + 1, 4, none⟩ = some (.slice none 0 0) := HF0.out.res.2.2.2.2.1
  have dz : ∀ o, w0.frozen? ⟨W.heap.size + 1, o, none⟩ = false := HF0.out.res.2.2.2.2.2
  go_loopw [13] (fun iv wr => ∃ j : Nat, j ≤ es.length ∧ iv = .int .i64 j ∧ Hid (Fr W wr (.int .i64 s.tasks) (.int .i64 s.most) (.int .i64 s.keep) (.int .i64 ((s.last : Int) + 1)) (.slice aa s.all.length ca)) ∧ Hid (∀ y ∈ es.take j, validE y = true)) (fun iv _ => es.length - (intOf iv).toNat)
  case atStart => exact ⟨0, by omega, rfl, HF0, Lib.hid (by simp)⟩
  case round =>
    obtain ⟨j, hj, rfl, HF, HT⟩ := hrel
    clear HF0 c0 c1 c2 c3 c4 cz d0 d1 d2 d3 d4 dz
    by_cases hlt : j < es.length
    · obtain ⟨b, o, e, q0, q1, q2, q3, hok⟩ := ent_cells (HE.out _ HF.out.bl) hlt
      subst e
      have g0 : wr.cell? ⟨b, o + j * 4, none⟩ = some (.int .i64 es[j].g) := q0
      have g1 : wr.cell? ⟨b, o + j * 4 + 1, none⟩ = some (.string es[j].nm) := q1
      have g2 : wr.cell? ⟨b, o + j * 4 + 2, none⟩ = some (.string es[j].key) := q2
      have g3 : wr.cell? ⟨b, o + j * 4 + 3, none⟩ = some (.string es[j].val) := q3
      have HRV := Lib.hid (refValid_any es[j] wr hok)
      have HN := Lib.hid (fun (e : validE es[j] = true) => (show ∀ y ∈ es.take (j + 1), validE y = true from fun y hy => by
        rw [List.take_succ_eq_append_getElem hlt] at hy
        rcases List.mem_append.1 hy with hy | hy
        · exact HT.out y hy
        · simp at hy; subst hy; exact e))
      have HB := Lib.hid (fun (e : validE es[j] = false) => (show es.all validE = false from by
        rw [List.all_eq_false]; exact ⟨es[j], List.getElem_mem hlt, by rw [e]; simp⟩))
      clear q0 q1 q2 q3 hok HT
      generalize es[j] = y at *
      go_wp2_with fail
      refine HRV.out.mono ?_
      rintro e w1 ⟨rfl, hb1⟩
      have HF1 := Lib.hid (HF.out.pure hb1)
      clear hb1 HF HRV g0 g1 g2 g3
      cases hve : validE y with
      | false =>
        have HAE := Lib.hid (show tellAns s k task (text, es) = (false, 1) from by exact HT1.out (HB.out hve))
        have HS := Lib.hid (show s.told k task (text, es) = s from by rw [HTD.out, HAE.out]; rfl)
        have c0 : w1.cell? ⟨W.heap.size, 0, none⟩ = some (.int .i64 s.tasks) := HF1.out.cells.1
        have c1 : w1.cell? ⟨W.heap.size, 1, none⟩ = some (.int .i64 s.most) := HF1.out.cells.2.1
        have c2 : w1.cell? ⟨W.heap.size, 2, none⟩ = some (.int .i64 s.keep) := HF1.out.cells.2.2.1
        have c3 : w1.cell? ⟨W.heap.size, 3, none⟩ = some (.int .i64 ((s.last : Int) + 1)) := HF1.out.cells.2.2.2.1
        have c4 : w1.cell? ⟨W.heap.size, 4, none⟩ = some (.slice aa s.all.length ca) := HF1.out.cells.2.2.2.2
        have cz : ∀ o, w1.frozen? ⟨W.heap.size, o, none⟩ = false := HF1.out.thaw
        have d0 : w1.cell? ⟨W.heap.size + 1, 0, none⟩ = some (.int .i64 0) := HF1.out.res.1
        have d1 : w1.cell? ⟨W.heap.size + 1, 1, none⟩ = some (.int .i64 0) := HF1.out.res.2.1
        have d2 : w1.cell? ⟨W.heap.size + 1, 2, none⟩ = some (.int .i64 0) := HF1.out.res.2.2.1
        have d3 : w1.cell? ⟨W.heap.size + 1, 3, none⟩ = some (.int .i64 0) := HF1.out.res.2.2.2.1
        have d4 : w1.cell? ⟨W.heap.size + 1, 4, none⟩ = some (.slice none 0 0) := HF1.out.res.2.2.2.2.1
        have dz : ∀ o, w1.frozen? ⟨W.heap.size + 1, o, none⟩ = false := HF1.out.res.2.2.2.2.2
        clear HN HB
        go_wp2
        have r1 := store5_block HF1.out.rs (.int .i64 s.tasks) (.int .i64 s.most) (.int .i64 s.keep) (.int .i64 ((s.last : Int) + 1)) (.slice aa s.all.length ca)
        have hBz := store5_below HF1.out.bl (Nat.le_succ _) (.int .i64 s.tasks) (.int .i64 s.most) (.int .i64 s.keep) (.int .i64 ((s.last : Int) + 1)) (.slice aa s.all.length ca)
        have hnz : (nw W w1).le (nw W (store5 w1 (W.heap.size + 1) (.int .i64 s.tasks) (.int .i64 s.most) (.int .i64 s.keep) (.int .i64 ((s.last : Int) + 1)) (.slice aa s.all.length ca))) := nw_store5 (.int .i64 s.tasks) (.int .i64 s.most) (.int .i64 s.keep) (.int .i64 ((s.last : Int) + 1)) (.slice aa s.all.length ca)
        show bodyPost _ _ _ _ _ (store5 w1 (W.heap.size + 1) (.int .i64 s.tasks) (.int .i64 s.most) (.int .i64 s.keep) (.int .i64 ((s.last : Int) + 1)) (.slice aa s.all.length ca))
        generalize store5 w1 (W.heap.size + 1) (.int .i64 s.tasks) (.int .i64 s.most) (.int .i64 s.keep) (.int .i64 ((s.last : Int) + 1)) (.slice aa s.all.length ca) = wz at r1 hBz hnz ⊢
        have g0 : wz.cell? ⟨W.heap.size + 1, 0, none⟩ = some (.int .i64 s.tasks) := mem_cells r1 0
        have g1 : wz.cell? ⟨W.heap.size + 1, 1, none⟩ = some (.int .i64 s.most) := mem_cells r1 1
        have g2 : wz.cell? ⟨W.heap.size + 1, 2, none⟩ = some (.int .i64 s.keep) := mem_cells r1 2
        have g3 : wz.cell? ⟨W.heap.size + 1, 3, none⟩ = some (.int .i64 ((s.last : Int) + 1)) := mem_cells r1 3
        have g4 : wz.cell? ⟨W.heap.size + 1, 4, none⟩ = some (.slice aa s.all.length ca) := mem_cells r1 4
        exact bodyPost_ret (v := .tuple #[.agg #[.int .i64 s.tasks, .int .i64 s.most, .int .i64 s.keep, .int .i64 ((s.last : Int) + 1), .slice aa s.all.length ca], .bool false, .int .i64 1]) (by simp [results, Tryz.results25, go_sem, g0, g1, g2, g3, g4]) rfl ⟨.slice aa s.all.length ca, hBz, by rw [HS.out, HAE.out], by rw [HS.out]; exact HRS.out.mono (joinM_le HM.out)⟩
      | true =>
        have HNX := Lib.hid (HN.out hve)
        clear HN HB
        go_wp2
        go_roundw
        case rel => exact ⟨j + 1, by omega, by go_num, HF1, HNX⟩
        case measure => simp [intOf]; omega
    · obtain rfl : j = es.length := by omega
      rw [List.take_length] at HT
      have hva : es.all validE = true := List.all_eq_true.2 HT.out
      have HT2' := Lib.hid (HT2.out hva)
      have HT3' := Lib.hid (HT3.out hva)
      clear HT HT1 HT2 HT3
      have c0 : wr.cell? ⟨W.heap.size, 0, none⟩ = some (.int .i64 s.tasks) := HF.out.cells.1
      have c1 : wr.cell? ⟨W.heap.size, 1, none⟩ = some (.int .i64 s.most) := HF.out.cells.2.1
      have c2 : wr.cell? ⟨W.heap.size, 2, none⟩ = some (.int .i64 s.keep) := HF.out.cells.2.2.1
      have c3 : wr.cell? ⟨W.heap.size, 3, none⟩ = some (.int .i64 ((s.last : Int) + 1)) := HF.out.cells.2.2.2.1
      have c4 : wr.cell? ⟨W.heap.size, 4, none⟩ = some (.slice aa s.all.length ca) := HF.out.cells.2.2.2.2
      have cz : ∀ o, wr.frozen? ⟨W.heap.size, o, none⟩ = false := HF.out.thaw
      have d0 : wr.cell? ⟨W.heap.size + 1, 0, none⟩ = some (.int .i64 0) := HF.out.res.1
      have d1 : wr.cell? ⟨W.heap.size + 1, 1, none⟩ = some (.int .i64 0) := HF.out.res.2.1
      have d2 : wr.cell? ⟨W.heap.size + 1, 2, none⟩ = some (.int .i64 0) := HF.out.res.2.2.1
      have d3 : wr.cell? ⟨W.heap.size + 1, 3, none⟩ = some (.int .i64 0) := HF.out.res.2.2.2.1
      have d4 : wr.cell? ⟨W.heap.size + 1, 4, none⟩ = some (.slice none 0 0) := HF.out.res.2.2.2.2.1
      have dz : ∀ o, wr.frozen? ⟨W.heap.size + 1, o, none⟩ = false := HF.out.res.2.2.2.2.2
      have HPW := Lib.hid (HPL.out wr HF.out.bl)
      clear HPL
      go_wp2_with fail
      refine HPW.out.mono ?_
      rintro e w2 ⟨i, rfl, hpl, hb2⟩
      have HF2 := Lib.hid (HF.out.pure hb2)
      clear hb2 HPW HF c0 c1 c2 c3 c4 cz d0 d1 d2 d3 d4 dz
      have c0 : w2.cell? ⟨W.heap.size, 0, none⟩ = some (.int .i64 s.tasks) := HF2.out.cells.1
      have c1 : w2.cell? ⟨W.heap.size, 1, none⟩ = some (.int .i64 s.most) := HF2.out.cells.2.1
      have c2 : w2.cell? ⟨W.heap.size, 2, none⟩ = some (.int .i64 s.keep) := HF2.out.cells.2.2.1
      have c3 : w2.cell? ⟨W.heap.size, 3, none⟩ = some (.int .i64 ((s.last : Int) + 1)) := HF2.out.cells.2.2.2.1
      have c4 : w2.cell? ⟨W.heap.size, 4, none⟩ = some (.slice aa s.all.length ca) := HF2.out.cells.2.2.2.2
      have cz : ∀ o, w2.frozen? ⟨W.heap.size, o, none⟩ = false := HF2.out.thaw
      have d0 : w2.cell? ⟨W.heap.size + 1, 0, none⟩ = some (.int .i64 0) := HF2.out.res.1
      have d1 : w2.cell? ⟨W.heap.size + 1, 1, none⟩ = some (.int .i64 0) := HF2.out.res.2.1
      have d2 : w2.cell? ⟨W.heap.size + 1, 2, none⟩ = some (.int .i64 0) := HF2.out.res.2.2.1
      have d3 : w2.cell? ⟨W.heap.size + 1, 3, none⟩ = some (.int .i64 0) := HF2.out.res.2.2.2.1
      have d4 : w2.cell? ⟨W.heap.size + 1, 4, none⟩ = some (.slice none 0 0) := HF2.out.res.2.2.2.2.1
      have dz : ∀ o, w2.frozen? ⟨W.heap.size + 1, o, none⟩ = false := HF2.out.res.2.2.2.2.2
      rcases place_find HOK.out hpl with ⟨hf, rfl⟩ | ⟨i, t, hi, rfl, hf⟩
      · have HA0 := Lib.hid (HT2'.out hf)
        clear hpl HT2' HT3'
        by_cases h1 : task < 0
        · have HAE := Lib.hid (HA0.out.trans (if_pos (.inl h1)))
          have HS := Lib.hid (show s.told k task (text, es) = s from by rw [HTD.out, HAE.out]; rfl)
          clear HA0
          go_wp2
          have r1 := store5_block HF2.out.rs (.int .i64 s.tasks) (.int .i64 s.most) (.int .i64 s.keep) (.int .i64 ((s.last : Int) + 1)) (.slice aa s.all.length ca)
          have hBz := store5_below HF2.out.bl (Nat.le_succ _) (.int .i64 s.tasks) (.int .i64 s.most) (.int .i64 s.keep) (.int .i64 ((s.last : Int) + 1)) (.slice aa s.all.length ca)
          have hnz : (nw W w2).le (nw W (store5 w2 (W.heap.size + 1) (.int .i64 s.tasks) (.int .i64 s.most) (.int .i64 s.keep) (.int .i64 ((s.last : Int) + 1)) (.slice aa s.all.length ca))) := nw_store5 (.int .i64 s.tasks) (.int .i64 s.most) (.int .i64 s.keep) (.int .i64 ((s.last : Int) + 1)) (.slice aa s.all.length ca)
          show bodyPost _ _ _ _ _ (store5 w2 (W.heap.size + 1) (.int .i64 s.tasks) (.int .i64 s.most) (.int .i64 s.keep) (.int .i64 ((s.last : Int) + 1)) (.slice aa s.all.length ca))
          generalize store5 w2 (W.heap.size + 1) (.int .i64 s.tasks) (.int .i64 s.most) (.int .i64 s.keep) (.int .i64 ((s.last : Int) + 1)) (.slice aa s.all.length ca) = wz at r1 hBz hnz ⊢
          have g0 : wz.cell? ⟨W.heap.size + 1, 0, none⟩ = some (.int .i64 s.tasks) := mem_cells r1 0
          have g1 : wz.cell? ⟨W.heap.size + 1, 1, none⟩ = some (.int .i64 s.most) := mem_cells r1 1
          have g2 : wz.cell? ⟨W.heap.size + 1, 2, none⟩ = some (.int .i64 s.keep) := mem_cells r1 2
          have g3 : wz.cell? ⟨W.heap.size + 1, 3, none⟩ = some (.int .i64 ((s.last : Int) + 1)) := mem_cells r1 3
          have g4 : wz.cell? ⟨W.heap.size + 1, 4, none⟩ = some (.slice aa s.all.length ca) := mem_cells r1 4
          exact bodyPost_ret (v := .tuple #[.agg #[.int .i64 s.tasks, .int .i64 s.most, .int .i64 s.keep, .int .i64 ((s.last : Int) + 1), .slice aa s.all.length ca], .bool false, .int .i64 7]) (by simp [results, Tryz.results25, go_sem, g0, g1, g2, g3, g4]) rfl ⟨.slice aa s.all.length ca, hBz, by rw [HS.out, HAE.out], by rw [HS.out]; exact HRS.out.mono (joinM_le HM.out)⟩
        by_cases h2 : (s.tasks : Int) ≤ task
        · have HAE := Lib.hid (HA0.out.trans (if_pos (.inr h2)))
          have HS := Lib.hid (show s.told k task (text, es) = s from by rw [HTD.out, HAE.out]; rfl)
          clear HA0
          go_wp2
          have r1 := store5_block HF2.out.rs (.int .i64 s.tasks) (.int .i64 s.most) (.int .i64 s.keep) (.int .i64 ((s.last : Int) + 1)) (.slice aa s.all.length ca)
          have hBz := store5_below HF2.out.bl (Nat.le_succ _) (.int .i64 s.tasks) (.int .i64 s.most) (.int .i64 s.keep) (.int .i64 ((s.last : Int) + 1)) (.slice aa s.all.length ca)
          have hnz : (nw W w2).le (nw W (store5 w2 (W.heap.size + 1) (.int .i64 s.tasks) (.int .i64 s.most) (.int .i64 s.keep) (.int .i64 ((s.last : Int) + 1)) (.slice aa s.all.length ca))) := nw_store5 (.int .i64 s.tasks) (.int .i64 s.most) (.int .i64 s.keep) (.int .i64 ((s.last : Int) + 1)) (.slice aa s.all.length ca)
          show bodyPost _ _ _ _ _ (store5 w2 (W.heap.size + 1) (.int .i64 s.tasks) (.int .i64 s.most) (.int .i64 s.keep) (.int .i64 ((s.last : Int) + 1)) (.slice aa s.all.length ca))
          generalize store5 w2 (W.heap.size + 1) (.int .i64 s.tasks) (.int .i64 s.most) (.int .i64 s.keep) (.int .i64 ((s.last : Int) + 1)) (.slice aa s.all.length ca) = wz at r1 hBz hnz ⊢
          have g0 : wz.cell? ⟨W.heap.size + 1, 0, none⟩ = some (.int .i64 s.tasks) := mem_cells r1 0
          have g1 : wz.cell? ⟨W.heap.size + 1, 1, none⟩ = some (.int .i64 s.most) := mem_cells r1 1
          have g2 : wz.cell? ⟨W.heap.size + 1, 2, none⟩ = some (.int .i64 s.keep) := mem_cells r1 2
          have g3 : wz.cell? ⟨W.heap.size + 1, 3, none⟩ = some (.int .i64 ((s.last : Int) + 1)) := mem_cells r1 3
          have g4 : wz.cell? ⟨W.heap.size + 1, 4, none⟩ = some (.slice aa s.all.length ca) := mem_cells r1 4
          exact bodyPost_ret (v := .tuple #[.agg #[.int .i64 s.tasks, .int .i64 s.most, .int .i64 s.keep, .int .i64 ((s.last : Int) + 1), .slice aa s.all.length ca], .bool false, .int .i64 7]) (by simp [results, Tryz.results25, go_sem, g0, g1, g2, g3, g4]) rfl ⟨.slice aa s.all.length ca, hBz, by rw [HS.out, HAE.out], by rw [HS.out]; exact HRS.out.mono (joinM_le HM.out)⟩
        · have HAE := Lib.hid (HA0.out.trans (if_neg (by omega)))
          have HS := Lib.hid (show s.told k task (text, es) = s from by rw [HTD.out, HAE.out]; rfl)
          clear HA0
          go_wp2
          have r1 := store5_block HF2.out.rs (.int .i64 s.tasks) (.int .i64 s.most) (.int .i64 s.keep) (.int .i64 ((s.last : Int) + 1)) (.slice aa s.all.length ca)
          have hBz := store5_below HF2.out.bl (Nat.le_succ _) (.int .i64 s.tasks) (.int .i64 s.most) (.int .i64 s.keep) (.int .i64 ((s.last : Int) + 1)) (.slice aa s.all.length ca)
          have hnz : (nw W w2).le (nw W (store5 w2 (W.heap.size + 1) (.int .i64 s.tasks) (.int .i64 s.most) (.int .i64 s.keep) (.int .i64 ((s.last : Int) + 1)) (.slice aa s.all.length ca))) := nw_store5 (.int .i64 s.tasks) (.int .i64 s.most) (.int .i64 s.keep) (.int .i64 ((s.last : Int) + 1)) (.slice aa s.all.length ca)
          show bodyPost _ _ _ _ _ (store5 w2 (W.heap.size + 1) (.int .i64 s.tasks) (.int .i64 s.most) (.int .i64 s.keep) (.int .i64 ((s.last : Int) + 1)) (.slice aa s.all.length ca))
          generalize store5 w2 (W.heap.size + 1) (.int .i64 s.tasks) (.int .i64 s.most) (.int .i64 s.keep) (.int .i64 ((s.last : Int) + 1)) (.slice aa s.all.length ca) = wz at r1 hBz hnz ⊢
          have g0 : wz.cell? ⟨W.heap.size + 1, 0, none⟩ = some (.int .i64 s.tasks) := mem_cells r1 0
          have g1 : wz.cell? ⟨W.heap.size + 1, 1, none⟩ = some (.int .i64 s.most) := mem_cells r1 1
          have g2 : wz.cell? ⟨W.heap.size + 1, 2, none⟩ = some (.int .i64 s.keep) := mem_cells r1 2
          have g3 : wz.cell? ⟨W.heap.size + 1, 3, none⟩ = some (.int .i64 ((s.last : Int) + 1)) := mem_cells r1 3
          have g4 : wz.cell? ⟨W.heap.size + 1, 4, none⟩ = some (.slice aa s.all.length ca) := mem_cells r1 4
          exact bodyPost_ret (v := .tuple #[.agg #[.int .i64 s.tasks, .int .i64 s.most, .int .i64 s.keep, .int .i64 ((s.last : Int) + 1), .slice aa s.all.length ca], .bool false, .int .i64 8]) (by simp [results, Tryz.results25, go_sem, g0, g1, g2, g3, g4]) rfl ⟨.slice aa s.all.length ca, hBz, by rw [HS.out, HAE.out], by rw [HS.out]; exact HRS.out.mono (joinM_le HM.out)⟩
      · have HA0 := Lib.hid (HT3'.out t hf)
        have HJ := Lib.hid hi
        have HFD := Lib.hid hf
        clear hpl HT2' HT3' hf
        obtain ⟨hil, hie⟩ := List.getElem?_eq_some_iff.1 hi
        obtain ⟨b, o, s1, s2, s3, e, ⟨-, -, -, q3, -, -⟩, -, -, r1, -, -⟩ := rsn_at (HA.out _ HF2.out.bl) hil
        subst e
        rw [hie] at r1
        obtain ⟨ab, cb, rfl, hlb, hmb, hrb⟩ := slice_form r1
        have hcb : cb ≤ 9223372036854775807 := by unfold maxLen at hmb; exact hmb
        have g3 : w2.cell? ⟨b, o + i * 6 + 3, none⟩ = some (.slice ab t.bits.length cb) := q3
        have HLB := Lib.hid (show t.bits.length = t.told.length from by unfold Sn.bits; simp)
        rw [← HLB.out] at HA0
        clear q3 r1 hmb hi
        by_cases h1 : task < 0
        · have HAE := Lib.hid (HA0.out.trans (if_pos (.inl h1)))
          have HS := Lib.hid (show s.told k task (text, es) = s from by rw [HTD.out, HAE.out]; rfl)
          clear HA0
          go_wp2
          have r1 := store5_block HF2.out.rs (.int .i64 s.tasks) (.int .i64 s.most) (.int .i64 s.keep) (.int .i64 ((s.last : Int) + 1)) (.slice (some ⟨b, o, none⟩) s.all.length ca)
          have hBz := store5_below HF2.out.bl (Nat.le_succ _) (.int .i64 s.tasks) (.int .i64 s.most) (.int .i64 s.keep) (.int .i64 ((s.last : Int) + 1)) (.slice (some ⟨b, o, none⟩) s.all.length ca)
          have hnz : (nw W w2).le (nw W (store5 w2 (W.heap.size + 1) (.int .i64 s.tasks) (.int .i64 s.most) (.int .i64 s.keep) (.int .i64 ((s.last : Int) + 1)) (.slice (some ⟨b, o, none⟩) s.all.length ca))) := nw_store5 (.int .i64 s.tasks) (.int .i64 s.most) (.int .i64 s.keep) (.int .i64 ((s.last : Int) + 1)) (.slice (some ⟨b, o, none⟩) s.all.length ca)
          show bodyPost _ _ _ _ _ (store5 w2 (W.heap.size + 1) (.int .i64 s.tasks) (.int .i64 s.most) (.int .i64 s.keep) (.int .i64 ((s.last : Int) + 1)) (.slice (some ⟨b, o, none⟩) s.all.length ca))
          generalize store5 w2 (W.heap.size + 1) (.int .i64 s.tasks) (.int .i64 s.most) (.int .i64 s.keep) (.int .i64 ((s.last : Int) + 1)) (.slice (some ⟨b, o, none⟩) s.all.length ca) = wz at r1 hBz hnz ⊢
          have g0 : wz.cell? ⟨W.heap.size + 1, 0, none⟩ = some (.int .i64 s.tasks) := mem_cells r1 0
          have g1 : wz.cell? ⟨W.heap.size + 1, 1, none⟩ = some (.int .i64 s.most) := mem_cells r1 1
          have g2 : wz.cell? ⟨W.heap.size + 1, 2, none⟩ = some (.int .i64 s.keep) := mem_cells r1 2
          have g3 : wz.cell? ⟨W.heap.size + 1, 3, none⟩ = some (.int .i64 ((s.last : Int) + 1)) := mem_cells r1 3
          have g4 : wz.cell? ⟨W.heap.size + 1, 4, none⟩ = some (.slice (some ⟨b, o, none⟩) s.all.length ca) := mem_cells r1 4
          exact bodyPost_ret (v := .tuple #[.agg #[.int .i64 s.tasks, .int .i64 s.most, .int .i64 s.keep, .int .i64 ((s.last : Int) + 1), .slice (some ⟨b, o, none⟩) s.all.length ca], .bool false, .int .i64 7]) (by simp [results, Tryz.results25, go_sem, g0, g1, g2, g3, g4]) rfl ⟨.slice (some ⟨b, o, none⟩) s.all.length ca, hBz, by rw [HS.out, HAE.out], by rw [HS.out]; exact HRS.out.mono (joinM_le HM.out)⟩
        by_cases h2 : (t.bits.length : Int) ≤ task
        · have HAE := Lib.hid (HA0.out.trans (if_pos (.inr h2)))
          have HS := Lib.hid (show s.told k task (text, es) = s from by rw [HTD.out, HAE.out]; rfl)
          clear HA0
          go_wp2
          have r1 := store5_block HF2.out.rs (.int .i64 s.tasks) (.int .i64 s.most) (.int .i64 s.keep) (.int .i64 ((s.last : Int) + 1)) (.slice (some ⟨b, o, none⟩) s.all.length ca)
          have hBz := store5_below HF2.out.bl (Nat.le_succ _) (.int .i64 s.tasks) (.int .i64 s.most) (.int .i64 s.keep) (.int .i64 ((s.last : Int) + 1)) (.slice (some ⟨b, o, none⟩) s.all.length ca)
          have hnz : (nw W w2).le (nw W (store5 w2 (W.heap.size + 1) (.int .i64 s.tasks) (.int .i64 s.most) (.int .i64 s.keep) (.int .i64 ((s.last : Int) + 1)) (.slice (some ⟨b, o, none⟩) s.all.length ca))) := nw_store5 (.int .i64 s.tasks) (.int .i64 s.most) (.int .i64 s.keep) (.int .i64 ((s.last : Int) + 1)) (.slice (some ⟨b, o, none⟩) s.all.length ca)
          show bodyPost _ _ _ _ _ (store5 w2 (W.heap.size + 1) (.int .i64 s.tasks) (.int .i64 s.most) (.int .i64 s.keep) (.int .i64 ((s.last : Int) + 1)) (.slice (some ⟨b, o, none⟩) s.all.length ca))
          generalize store5 w2 (W.heap.size + 1) (.int .i64 s.tasks) (.int .i64 s.most) (.int .i64 s.keep) (.int .i64 ((s.last : Int) + 1)) (.slice (some ⟨b, o, none⟩) s.all.length ca) = wz at r1 hBz hnz ⊢
          have g0 : wz.cell? ⟨W.heap.size + 1, 0, none⟩ = some (.int .i64 s.tasks) := mem_cells r1 0
          have g1 : wz.cell? ⟨W.heap.size + 1, 1, none⟩ = some (.int .i64 s.most) := mem_cells r1 1
          have g2 : wz.cell? ⟨W.heap.size + 1, 2, none⟩ = some (.int .i64 s.keep) := mem_cells r1 2
          have g3 : wz.cell? ⟨W.heap.size + 1, 3, none⟩ = some (.int .i64 ((s.last : Int) + 1)) := mem_cells r1 3
          have g4 : wz.cell? ⟨W.heap.size + 1, 4, none⟩ = some (.slice (some ⟨b, o, none⟩) s.all.length ca) := mem_cells r1 4
          exact bodyPost_ret (v := .tuple #[.agg #[.int .i64 s.tasks, .int .i64 s.most, .int .i64 s.keep, .int .i64 ((s.last : Int) + 1), .slice (some ⟨b, o, none⟩) s.all.length ca], .bool false, .int .i64 7]) (by simp [results, Tryz.results25, go_sem, g0, g1, g2, g3, g4]) rfl ⟨.slice (some ⟨b, o, none⟩) s.all.length ca, hBz, by rw [HS.out, HAE.out], by rw [HS.out]; exact HRS.out.mono (joinM_le HM.out)⟩
        rw [if_neg (by omega)] at HA0
        obtain ⟨u, rfl⟩ : ∃ u : Nat, task = u := ⟨task.toNat, by omega⟩
        have hu : u < t.bits.length := by omega
        obtain ⟨bb, ob, rfl, cs, hat, hcs⟩ := slice_at hrb hu
        have hcs : cs = [.bool t.bits[u]] := hcs
        subst hcs
        have gb : w2.cell? ⟨bb, ob + u, none⟩ = some (.bool t.bits[u]) := by
          have := hat 0 _ rfl
          simpa [tBool, mem] using this
        have HGD := Lib.hid (show t.bits.getD (u : Int).toNat false = t.bits[u] from by rw [Int.toNat_natCast]; simp [List.getD, hu])
        rw [HGD.out] at HA0
        cases hbu : t.bits[u] with
        | true =>
          rw [hbu] at gb HA0
          have HAE := Lib.hid (HA0.out.trans (if_pos rfl))
          have HS := Lib.hid (show s.told k u (text, es) = s from by rw [HTD.out, HAE.out]; rfl)
          clear HA0 hat
          go_wp2
          have r1 := store5_block HF2.out.rs (.int .i64 s.tasks) (.int .i64 s.most) (.int .i64 s.keep) (.int .i64 ((s.last : Int) + 1)) (.slice (some ⟨b, o, none⟩) s.all.length ca)
          have hBz := store5_below HF2.out.bl (Nat.le_succ _) (.int .i64 s.tasks) (.int .i64 s.most) (.int .i64 s.keep) (.int .i64 ((s.last : Int) + 1)) (.slice (some ⟨b, o, none⟩) s.all.length ca)
          have hnz : (nw W w2).le (nw W (store5 w2 (W.heap.size + 1) (.int .i64 s.tasks) (.int .i64 s.most) (.int .i64 s.keep) (.int .i64 ((s.last : Int) + 1)) (.slice (some ⟨b, o, none⟩) s.all.length ca))) := nw_store5 (.int .i64 s.tasks) (.int .i64 s.most) (.int .i64 s.keep) (.int .i64 ((s.last : Int) + 1)) (.slice (some ⟨b, o, none⟩) s.all.length ca)
          show bodyPost _ _ _ _ _ (store5 w2 (W.heap.size + 1) (.int .i64 s.tasks) (.int .i64 s.most) (.int .i64 s.keep) (.int .i64 ((s.last : Int) + 1)) (.slice (some ⟨b, o, none⟩) s.all.length ca))
          generalize store5 w2 (W.heap.size + 1) (.int .i64 s.tasks) (.int .i64 s.most) (.int .i64 s.keep) (.int .i64 ((s.last : Int) + 1)) (.slice (some ⟨b, o, none⟩) s.all.length ca) = wz at r1 hBz hnz ⊢
          have g0 : wz.cell? ⟨W.heap.size + 1, 0, none⟩ = some (.int .i64 s.tasks) := mem_cells r1 0
          have g1 : wz.cell? ⟨W.heap.size + 1, 1, none⟩ = some (.int .i64 s.most) := mem_cells r1 1
          have g2 : wz.cell? ⟨W.heap.size + 1, 2, none⟩ = some (.int .i64 s.keep) := mem_cells r1 2
          have g3 : wz.cell? ⟨W.heap.size + 1, 3, none⟩ = some (.int .i64 ((s.last : Int) + 1)) := mem_cells r1 3
          have g4 : wz.cell? ⟨W.heap.size + 1, 4, none⟩ = some (.slice (some ⟨b, o, none⟩) s.all.length ca) := mem_cells r1 4
          exact bodyPost_ret (v := .tuple #[.agg #[.int .i64 s.tasks, .int .i64 s.most, .int .i64 s.keep, .int .i64 ((s.last : Int) + 1), .slice (some ⟨b, o, none⟩) s.all.length ca], .bool false, .int .i64 6]) (by simp [results, Tryz.results25, go_sem, g0, g1, g2, g3, g4]) rfl ⟨.slice (some ⟨b, o, none⟩) s.all.length ca, hBz, by rw [HS.out, HAE.out], by rw [HS.out]; exact HRS.out.mono (joinM_le HM.out)⟩
        | false =>
          rw [hbu] at gb HA0
          rw [if_neg (by simp)] at HA0
          clear hat
          have hz2 := HF2.out.sz
          have HLT := Lib.hid (show t.texts.length = t.bits.length from by simp [Sn.texts, Sn.bits])
          have HLE := Lib.hid (show t.rents.length = t.bits.length from by simp [Sn.rents, Sn.bits])
          have hs40 := (HOK.out.tk _ (List.mem_of_getElem? HJ.out)).2.1
          have HSOg := Lib.hid (show (tSlice (tIn M tRSn)).rv (mem (w2.alloc (.cells #[] 102))) [.slice (some ⟨b, o, none⟩) s.all.length ca] s.all from (tSlice (tIn M tRSn)).mono _ _ _ _ (below_mem (box_below w2 _)) (slice_to HQ.out (Mem.le_trans HM.out (below_mem HF2.out.bl))))
          have HOOg := Lib.hid (show Owns (tIn M tRSn) (w2.alloc (.cells #[] 102)) w2.heap.size 102 (.slice (some ⟨w2.heap.size, 0, none⟩) 0 0) [] from ⟨[], rfl, World.ownsRow_lit w2 #[] 0 (Nat.le_refl _) (Nat.zero_le _) (by simp), fun c h => absurd h (by simp), fun k h => absurd h (by simp)⟩)
          have hx4 : (w2.alloc (.cells #[] 102)).cell? ⟨W.heap.size, 4, none⟩ = some (.slice (some ⟨b, o, none⟩) s.all.length ca) := (HF2.out.pure (box_below w2 _)).cells.2.2.2.2
          go_wp2_with (at_builtin; refine wpList_append_flat rfl _ _ 29 rfl (tIn_flat M tRSn) (tRSn_one M) Tryz.underlying29 infoRSn rfl (Nat.succ_pos 5) w2.heap.size _ [] s.all rfl (HOOg.out) _ _ _ rfl rfl (HSOg.out) ?c1 ?c2 ?c3 ?_)
          case c1 => have := (show s.all.length ≤ 1000 ∧ 0 < s.all.length from ⟨hl, Nat.lt_of_le_of_lt (Nat.zero_le _) hil⟩); simp; unfold maxLen; omega
          case c2 => have := (show s.all.length ≤ 1000 ∧ 0 < s.all.length from ⟨hl, Nat.lt_of_le_of_lt (Nat.zero_le _) hil⟩); simp; omega
          case c3 => simp
          intro v' w6 owng hgrow
          have HBg := Lib.hid (show Below w2.heap.size w2 w6 from (box_below w2 _).grown hgrow (by simp) (fun k hk => (HOOg.out.lt k hk).1))
          obtain ⟨g, c6, curg, rfl, hlg, hhg⟩ : ∃ g c cur, v' = .slice (some ⟨g, 0, none⟩) s.all.length c ∧ w2.heap.size ≤ g ∧ w6.heap[g]? = some (.cells cur 102 (0, 0)) := by
            have h0 : (s.all).length ≠ 0 := by have := (show s.all.length ≤ 1000 ∧ 0 < s.all.length from ⟨hl, Nat.lt_of_le_of_lt (Nat.zero_le _) hil⟩); omega
            obtain ⟨css, g1, ⟨g2, g3⟩, g4, g5⟩ := owng
            rcases g3 with ⟨rfl, h6⟩ | ⟨g, cap, cur, rfl, hg, hh, -⟩
            · omega
            · exact ⟨g, cap, cur, rfl, hg, hh⟩
          have HRg := Lib.hid (show (tSlice (tIn M tRSn)).rv (mem w6) [.slice (some ⟨g, 0, none⟩) s.all.length c6] s.all from owng.rv')
          clear owng hgrow HOOg HSOg
          have HF6 := Lib.hid (HF2.out.pure HBg.out)
          have hgW : W.heap.size + 2 ≤ g := Nat.le_trans hz2 hlg
          clear c0 c1 c2 c3 c4 cz d0 d1 d2 d3 d4 dz
          have HR7 := Lib.hid (row_block (w' := w6.setCell ⟨W.heap.size, 4, none⟩ (.slice (some ⟨g, 0, none⟩) s.all.length c6)) (tIn_flat M tRSn) HRg.out (set_block_other (by show g ≠ W.heap.size; omega)))
          have hh7 : (w6.setCell ⟨W.heap.size, 4, none⟩ (.slice (some ⟨g, 0, none⟩) s.all.length c6)).heap[g]? = some (.cells curg 102 (0, 0)) := (set_block_other (by show g ≠ W.heap.size; omega)).trans hhg
          have HF7 := Lib.hid (HF6.out.set4 (.slice (some ⟨g, 0, none⟩) s.all.length c6))
          have c0 : w6.cell? ⟨W.heap.size, 0, none⟩ = some (.int .i64 s.tasks) := HF6.out.cells.1
          have c1 : w6.cell? ⟨W.heap.size, 1, none⟩ = some (.int .i64 s.most) := HF6.out.cells.2.1
          have c2 : w6.cell? ⟨W.heap.size, 2, none⟩ = some (.int .i64 s.keep) := HF6.out.cells.2.2.1
          have c3 : w6.cell? ⟨W.heap.size, 3, none⟩ = some (.int .i64 ((s.last : Int) + 1)) := HF6.out.cells.2.2.2.1
          have c4 : w6.cell? ⟨W.heap.size, 4, none⟩ = some (.slice (some ⟨b, o, none⟩) s.all.length ca) := HF6.out.cells.2.2.2.2
          have d0 : w6.cell? ⟨W.heap.size + 1, 0, none⟩ = some (.int .i64 0) := HF6.out.res.1
          have d1 : w6.cell? ⟨W.heap.size + 1, 1, none⟩ = some (.int .i64 0) := HF6.out.res.2.1
          have d2 : w6.cell? ⟨W.heap.size + 1, 2, none⟩ = some (.int .i64 0) := HF6.out.res.2.2.1
          have d3 : w6.cell? ⟨W.heap.size + 1, 3, none⟩ = some (.int .i64 0) := HF6.out.res.2.2.2.1
          have d4 : w6.cell? ⟨W.heap.size + 1, 4, none⟩ = some (.slice none 0 0) := HF6.out.res.2.2.2.2.1
          have dz : ∀ o, w6.frozen? ⟨W.heap.size + 1, o, none⟩ = false := HF6.out.res.2.2.2.2.2
          have bz : ∀ o, w6.frozen? ⟨W.heap.size, o, none⟩ = false := HF6.out.thaw
          have x4 : (w6.setCell ⟨W.heap.size, 4, none⟩ (.slice (some ⟨g, 0, none⟩) s.all.length c6)).cell? ⟨W.heap.size, 4, none⟩ = some (.slice (some ⟨g, 0, none⟩) s.all.length c6) := HF7.out.cells.2.2.2.2
          obtain ⟨t1, t2, t3, hat7, hrv7⟩ : ∃ t1 t2 t3, (∀ j v, [(.int .i64 k : Value), .string t.name, .bool t.done, t1, t2, t3][j]? = some v → mem (w6.setCell ⟨W.heap.size, 4, none⟩ (.slice (some ⟨g, 0, none⟩) s.all.length c6)) g (i * 6 + j) = some v) ∧ tRSn.rv M [.int .i64 k, .string t.name, .bool t.done, t1, t2, t3] (k, t) := by
            obtain ⟨b', o', e, cs, h1, h2⟩ := slice_at HR7.out hil
            simp only [Option.some.injEq, Addr.mk.injEq, and_true] at e
            obtain ⟨rfl, rfl⟩ := e
            rw [hie] at h2
            obtain ⟨s1', s2', s3', rfl, hh, r1, r2, r3⟩ := h2
            exact ⟨s1', s2', s3', fun j v hj => by have := h1 j v hj; rw [Nat.zero_add] at this; exact this, s1', s2', s3', rfl, hh, r1, r2, r3⟩
          have e0 : (w6.setCell ⟨W.heap.size, 4, none⟩ (.slice (some ⟨g, 0, none⟩) s.all.length c6)).cell? ⟨g, i * 6, none⟩ = some (.int .i64 k) := hat7 0 _ rfl
          have e1 : (w6.setCell ⟨W.heap.size, 4, none⟩ (.slice (some ⟨g, 0, none⟩) s.all.length c6)).cell? ⟨g, i * 6 + 1, none⟩ = some (.string t.name) := hat7 1 _ rfl
          have e2 : (w6.setCell ⟨W.heap.size, 4, none⟩ (.slice (some ⟨g, 0, none⟩) s.all.length c6)).cell? ⟨g, i * 6 + 2, none⟩ = some (.bool t.done) := hat7 2 _ rfl
          have e3 : (w6.setCell ⟨W.heap.size, 4, none⟩ (.slice (some ⟨g, 0, none⟩) s.all.length c6)).cell? ⟨g, i * 6 + 3, none⟩ = some t1 := hat7 3 _ rfl
          have e4 : (w6.setCell ⟨W.heap.size, 4, none⟩ (.slice (some ⟨g, 0, none⟩) s.all.length c6)).cell? ⟨g, i * 6 + 4, none⟩ = some t2 := hat7 4 _ rfl
          have e5 : (w6.setCell ⟨W.heap.size, 4, none⟩ (.slice (some ⟨g, 0, none⟩) s.all.length c6)).cell? ⟨g, i * 6 + 5, none⟩ = some t3 := hat7 5 _ rfl
          obtain ⟨t1, t2, t3, e, hh, r1, r2, r3⟩ := hrv7
          simp only [List.cons.injEq, true_and, and_true] at e
          obtain ⟨rfl, rfl, rfl⟩ := e
          obtain ⟨a1, k1, rfl, -, hk1, r1⟩ := slice_form r1
          obtain ⟨a2, k2, rfl, -, hk2, r2⟩ := slice_form r2
          obtain ⟨a3, k3, rfl, -, hk3, r3⟩ := slice_form r3
          have HQ1 := Lib.hid r1
          have HQ2 := Lib.hid r2
          have HQ3 := Lib.hid r3
          clear r1 r2 r3 hat7 hx4 g3 gb
          obtain ⟨w8, hW8⟩ : ∃ w8, w8 = (w6.setCell ⟨W.heap.size, 4, none⟩ (.slice (some ⟨g, 0, none⟩) s.all.length c6)).alloc (.cells #[.int .i64 k, .string t.name, .bool t.done, .slice a1 t.bits.length k1, .slice a2 t.texts.length k2, .slice a3 t.rents.length k3] 102) := ⟨_, rfl⟩
          have HW8 := Lib.hid hW8
          have hs7 : (w6.setCell ⟨W.heap.size, 4, none⟩ (.slice (some ⟨g, 0, none⟩) s.all.length c6)).heap.size = w6.heap.size := by simp [World.setCell]
          have hs8 : w8.heap.size = w6.heap.size + 1 := by rw [hW8, World.size_alloc, hs7]
          have hq8 : w8.heap[w6.heap.size]? = some (.cells #[.int .i64 k, .string t.name, .bool t.done, .slice a1 t.bits.length k1, .slice a2 t.texts.length k2, .slice a3 t.rents.length k3] 102 (0, 0)) := by rw [hW8, ← hs7]; exact heap_alloc_new _ _
          have HB8 := Lib.hid (show Below (w6.setCell ⟨W.heap.size, 4, none⟩ (.slice (some ⟨g, 0, none⟩) s.all.length c6)).heap.size (w6.setCell ⟨W.heap.size, 4, none⟩ (.slice (some ⟨g, 0, none⟩) s.all.length c6)) w8 from by rw [hW8]; exact box_below _ _)
          have HF8 := Lib.hid (HF7.out.pure HB8.out)
          have hqW : W.heap.size + 2 ≤ w6.heap.size := HF6.out.sz
          have hgq : g < w6.heap.size := (Array.getElem?_eq_some_iff.1 hhg).1
          have hh8 : w8.heap[g]? = some (.cells curg 102 (0, 0)) := (HB8.out.block _ (Array.getElem?_eq_some_iff.1 hh7).1).trans hh7
          have HR8 := Lib.hid (row_block (tIn_flat M tRSn) HR7.out (HB8.out.block _ (Array.getElem?_eq_some_iff.1 hh7).1))
          clear hW8
          have HSO := Lib.hid (show (tSlice tBool).rv (mem (w8.alloc (.cells #[] 4))) [.slice a1 t.bits.length k1] t.bits from (tSlice tBool).mono _ _ _ _ (below_mem ((HF8.out.pure (box_below w8 _)).bl)) ((tSlice tBool).mono _ _ _ _ HM.out HQ1.out))
          have HOO := Lib.hid (show Owns tBool (w8.alloc (.cells #[] 4)) w8.heap.size 4 (.slice (some ⟨w6.heap.size + 1, 0, none⟩) 0 0) [] from by
            rw [← hs8]
            exact ⟨[], rfl, World.ownsRow_lit w8 #[] 0 (Nat.le_refl _) (Nat.zero_le _) (by simp), fun c h => absurd h (by simp), fun k h => absurd h (by simp)⟩)
          go_wp2_with (at_builtin; (try rw [← HW8.out]); go_loud (refine wpList_append_flat rfl _ _ 100 rfl tBool_flat tBool_one Tryz.underlying100 infoBool1 rfl (Nat.succ_pos 0) w8.heap.size _ [] t.bits rfl (HOO.out) _ _ _ rfl rfl (HSO.out) ?ca3 ?cb3 ?cc3 ?_))
          case ca3 => have := HLB.out; have := HLB.out; have := hs40; simp at this ⊢; unfold maxLen; omega
          case cb3 => have := HLB.out; have := HLB.out; have := hs40; simp at this ⊢; omega
          try (case cc3 => simp)
          intro v' w9 own hgrow
          have HB9 := Lib.hid (show Below w8.heap.size w8 w9 from (box_below w8 _).grown hgrow (by simp) (fun k hk => (HOO.out.lt k hk).1))
          obtain ⟨g3, c3, cur3, rfl, hl3, hh3⟩ : ∃ g c cur, v' = .slice (some ⟨g, 0, none⟩) t.bits.length c ∧ w6.heap.size + 1 ≤ g ∧ w9.heap[g]? = some (.cells cur 4 (0, 0)) := by
            have h0 : (t.bits).length ≠ 0 := by have := HLB.out; omega
            obtain ⟨css, g1, ⟨g2, g3⟩, g4, g5⟩ := own
            rcases g3 with ⟨rfl, h6⟩ | ⟨g, cap, cur, rfl, hg, hh, -⟩
            · omega
            · exact ⟨g, cap, cur, rfl, hg, hh⟩
          have HRW3 := Lib.hid (show (tSlice tBool).rv (mem w9) [.slice (some ⟨g3, 0, none⟩) t.bits.length c3] t.bits from own.rv')
          clear own hgrow HOO HSO
          have HF9 := Lib.hid (HF8.out.pure HB9.out)
          have hq9 : w9.heap[w6.heap.size]? = some (.cells #[.int .i64 k, .string t.name, .bool t.done, .slice a1 t.bits.length k1, .slice a2 t.texts.length k2, .slice a3 t.rents.length k3] 102 (0, 0)) := (HB9.out.block _ (Array.getElem?_eq_some_iff.1 hq8).1).trans hq8
          generalize w6.heap.size = q at *
          have hqc := mem_cells hq9 3
          simp only [mem] at hqc
          have hqc : w9.cell? ⟨q, 3, none⟩ = some (.slice a1 t.bits.length k1) := hqc
          have hqz : ∀ o, w9.frozen? ⟨q, o, none⟩ = false := frozen_cells hq9
          obtain ⟨w10, hW10⟩ : ∃ w10, w10 = w9.setCell ⟨q, 3, none⟩ (.slice (some ⟨g3, 0, none⟩) t.bits.length c3) := ⟨_, rfl⟩
          have HW10 := Lib.hid hW10
          have hs10 : w10.heap.size = w9.heap.size := by rw [hW10]; simp [World.setCell]
          have hq10l : (w9.setCell ⟨q, 3, none⟩ (.slice (some ⟨g3, 0, none⟩) t.bits.length c3)).heap[q]? = some (.cells #[.int .i64 k, .string t.name, .bool t.done, .slice (some ⟨g3, 0, none⟩) t.bits.length c3, .slice a2 t.texts.length k2, .slice a3 t.rents.length k3] 102 (0, 0)) := set_block hq9
          have hq10 : w10.heap[q]? = some (.cells #[.int .i64 k, .string t.name, .bool t.done, .slice (some ⟨g3, 0, none⟩) t.bits.length c3, .slice a2 t.texts.length k2, .slice a3 t.rents.length k3] 102 (0, 0)) := by rw [hW10]; exact hq10l
          have ho10 : ∀ b, b ≠ q → w10.heap[b]? = w9.heap[b]? := fun b hb => by rw [hW10]; exact set_block_other hb
          have HF10 := Lib.hid (show Fr W w10 (.int .i64 s.tasks) (.int .i64 s.most) (.int .i64 s.keep) (.int .i64 ((s.last : Int) + 1)) (.slice (some ⟨g, 0, none⟩) s.all.length c6) from by rw [hW10]; exact HF9.out.other hqW _)
          clear hW10
          have hx := mem_cells (((box_below (w9.setCell ⟨q, 3, none⟩ (.slice (some ⟨g3, 0, none⟩) t.bits.length c3)) (.cells #[] 9)).block _ (Array.getElem?_eq_some_iff.1 hq10l).1).trans hq10l) 4
          simp only [mem] at hx
          have hx : ((w9.setCell ⟨q, 3, none⟩ (.slice (some ⟨g3, 0, none⟩) t.bits.length c3)).alloc (.cells #[] 9)).cell? ⟨q, 4, none⟩ = some (.slice a2 t.texts.length k2) := hx
          have hsl : (w9.setCell ⟨q, 3, none⟩ (.slice (some ⟨g3, 0, none⟩) t.bits.length c3)).heap.size = w9.heap.size := by simp [World.setCell]
          have HSO := Lib.hid (show (tSlice tStr).rv (mem (w10.alloc (.cells #[] 9))) [.slice a2 t.texts.length k2] t.texts from (tSlice tStr).mono _ _ _ _ (below_mem ((HF10.out.pure (box_below w10 _)).bl)) ((tSlice tStr).mono _ _ _ _ HM.out HQ2.out))
          have HOO := Lib.hid (show Owns tStr (w10.alloc (.cells #[] 9)) w10.heap.size 9 (.slice (some ⟨w9.heap.size, 0, none⟩) 0 0) [] from by
            rw [← hs10]
            exact ⟨[], rfl, World.ownsRow_lit w10 #[] 0 (Nat.le_refl _) (Nat.zero_le _) (by simp), fun c h => absurd h (by simp), fun k h => absurd h (by simp)⟩)
          go_wp2_with (at_builtin; (try rw [← HW10.out]); go_loud (refine wpList_append_flat rfl _ _ 71 rfl tStr_flat tStr_one Tryz.underlying71 infoStr1 rfl (Nat.succ_pos 0) w10.heap.size _ [] t.texts rfl (HOO.out) _ _ _ rfl rfl (HSO.out) ?ca4 ?cb4 ?cc4 ?_))
          case ca4 => have := HLT.out; have := HLB.out; have := hs40; simp at this ⊢; unfold maxLen; omega
          case cb4 => have := HLT.out; have := HLB.out; have := hs40; simp at this ⊢; omega
          try (case cc4 => simp)
          intro v' w11 own hgrow
          have HB11 := Lib.hid (show Below w10.heap.size w10 w11 from (box_below w10 _).grown hgrow (by simp) (fun k hk => (HOO.out.lt k hk).1))
          obtain ⟨g4, c4, cur4, rfl, hl4, hh4⟩ : ∃ g c cur, v' = .slice (some ⟨g, 0, none⟩) t.texts.length c ∧ w9.heap.size ≤ g ∧ w11.heap[g]? = some (.cells cur 9 (0, 0)) := by
            have h0 : (t.texts).length ≠ 0 := by have := HLT.out; omega
            obtain ⟨css, g1, ⟨g2, g3⟩, g4, g5⟩ := own
            rcases g3 with ⟨rfl, h6⟩ | ⟨g, cap, cur, rfl, hg, hh, -⟩
            · omega
            · exact ⟨g, cap, cur, rfl, hg, hh⟩
          have HRW4 := Lib.hid (show (tSlice tStr).rv (mem w11) [.slice (some ⟨g4, 0, none⟩) t.texts.length c4] t.texts from own.rv')
          clear own hgrow HOO HSO
          have HF11 := Lib.hid (HF10.out.pure HB11.out)
          have hq11 : w11.heap[q]? = some (.cells #[.int .i64 k, .string t.name, .bool t.done, .slice (some ⟨g3, 0, none⟩) t.bits.length c3, .slice a2 t.texts.length k2, .slice a3 t.rents.length k3] 102 (0, 0)) := (HB11.out.block _ (Array.getElem?_eq_some_iff.1 hq10).1).trans hq10
          have hqc := mem_cells hq11 4
          simp only [mem] at hqc
          have hqc : w11.cell? ⟨q, 4, none⟩ = some (.slice a2 t.texts.length k2) := hqc
          have hqz : ∀ o, w11.frozen? ⟨q, o, none⟩ = false := frozen_cells hq11
          obtain ⟨w12, hW12⟩ : ∃ w12, w12 = w11.setCell ⟨q, 4, none⟩ (.slice (some ⟨g4, 0, none⟩) t.texts.length c4) := ⟨_, rfl⟩
          have HW12 := Lib.hid hW12
          have hs12 : w12.heap.size = w11.heap.size := by rw [hW12]; simp [World.setCell]
          have hq12l : (w11.setCell ⟨q, 4, none⟩ (.slice (some ⟨g4, 0, none⟩) t.texts.length c4)).heap[q]? = some (.cells #[.int .i64 k, .string t.name, .bool t.done, .slice (some ⟨g3, 0, none⟩) t.bits.length c3, .slice (some ⟨g4, 0, none⟩) t.texts.length c4, .slice a3 t.rents.length k3] 102 (0, 0)) := set_block hq11
          have hq12 : w12.heap[q]? = some (.cells #[.int .i64 k, .string t.name, .bool t.done, .slice (some ⟨g3, 0, none⟩) t.bits.length c3, .slice (some ⟨g4, 0, none⟩) t.texts.length c4, .slice a3 t.rents.length k3] 102 (0, 0)) := by rw [hW12]; exact hq12l
          have ho12 : ∀ b, b ≠ q → w12.heap[b]? = w11.heap[b]? := fun b hb => by rw [hW12]; exact set_block_other hb
          have HF12 := Lib.hid (show Fr W w12 (.int .i64 s.tasks) (.int .i64 s.most) (.int .i64 s.keep) (.int .i64 ((s.last : Int) + 1)) (.slice (some ⟨g, 0, none⟩) s.all.length c6) from by rw [hW12]; exact HF11.out.other hqW _)
          clear hW12
          have hx := mem_cells (((box_below (w11.setCell ⟨q, 4, none⟩ (.slice (some ⟨g4, 0, none⟩) t.texts.length c4)) (.cells #[] 34)).block _ (Array.getElem?_eq_some_iff.1 hq12l).1).trans hq12l) 5
          simp only [mem] at hx
          have hx : ((w11.setCell ⟨q, 4, none⟩ (.slice (some ⟨g4, 0, none⟩) t.texts.length c4)).alloc (.cells #[] 34)).cell? ⟨q, 5, none⟩ = some (.slice a3 t.rents.length k3) := hx
          have hsl : (w11.setCell ⟨q, 4, none⟩ (.slice (some ⟨g4, 0, none⟩) t.texts.length c4)).heap.size = w11.heap.size := by simp [World.setCell]
          have HSO := Lib.hid (show (tSlice (tIn M tEnts)).rv (mem (w12.alloc (.cells #[] 34))) [.slice a3 t.rents.length k3] t.rents from slice_to HQ3.out (Mem.le_trans HM.out (below_mem ((HF12.out.pure (box_below w12 _)).bl))))
          have HOO := Lib.hid (show Owns (tIn M tEnts) (w12.alloc (.cells #[] 34)) w12.heap.size 34 (.slice (some ⟨w11.heap.size, 0, none⟩) 0 0) [] from by
            rw [← hs12]
            exact ⟨[], rfl, World.ownsRow_lit w12 #[] 0 (Nat.le_refl _) (Nat.zero_le _) (by simp), fun c h => absurd h (by simp), fun k h => absurd h (by simp)⟩)
          go_wp2_with (at_builtin; (try rw [← HW12.out]); go_loud (refine wpList_append_flat rfl _ _ 66 rfl (tIn_flat M tEnts) (tEnts_one M) Tryz.underlying66 infoEs1 rfl (Nat.succ_pos 0) w12.heap.size _ [] t.rents rfl (HOO.out) _ _ _ rfl rfl (HSO.out) ?ca5 ?cb5 ?cc5 ?_))
          case ca5 => have := HLE.out; have := HLB.out; have := hs40; simp at this ⊢; unfold maxLen; omega
          case cb5 => have := HLE.out; have := HLB.out; have := hs40; simp at this ⊢; omega
          try (case cc5 => simp)
          intro v' w13 own hgrow
          have HB13 := Lib.hid (show Below w12.heap.size w12 w13 from (box_below w12 _).grown hgrow (by simp) (fun k hk => (HOO.out.lt k hk).1))
          obtain ⟨g5, c5, cur5, rfl, hl5, hh5⟩ : ∃ g c cur, v' = .slice (some ⟨g, 0, none⟩) t.rents.length c ∧ w11.heap.size ≤ g ∧ w13.heap[g]? = some (.cells cur 34 (0, 0)) := by
            have h0 : (t.rents).length ≠ 0 := by have := HLE.out; omega
            obtain ⟨css, g1, ⟨g2, g3⟩, g4, g5⟩ := own
            rcases g3 with ⟨rfl, h6⟩ | ⟨g, cap, cur, rfl, hg, hh, -⟩
            · omega
            · exact ⟨g, cap, cur, rfl, hg, hh⟩
          have HRW5 := Lib.hid (show (tSlice (tIn M tEnts)).rv (mem w13) [.slice (some ⟨g5, 0, none⟩) t.rents.length c5] t.rents from own.rv')
          clear own hgrow HOO HSO
          have HF13 := Lib.hid (HF12.out.pure HB13.out)
          have hq13 : w13.heap[q]? = some (.cells #[.int .i64 k, .string t.name, .bool t.done, .slice (some ⟨g3, 0, none⟩) t.bits.length c3, .slice (some ⟨g4, 0, none⟩) t.texts.length c4, .slice a3 t.rents.length k3] 102 (0, 0)) := (HB13.out.block _ (Array.getElem?_eq_some_iff.1 hq12).1).trans hq12
          have hqc := mem_cells hq13 5
          simp only [mem] at hqc
          have hqc : w13.cell? ⟨q, 5, none⟩ = some (.slice a3 t.rents.length k3) := hqc
          have hqz : ∀ o, w13.frozen? ⟨q, o, none⟩ = false := frozen_cells hq13
          obtain ⟨w14, hW14⟩ : ∃ w14, w14 = w13.setCell ⟨q, 5, none⟩ (.slice (some ⟨g5, 0, none⟩) t.rents.length c5) := ⟨_, rfl⟩
          have HW14 := Lib.hid hW14
          have hs14 : w14.heap.size = w13.heap.size := by rw [hW14]; simp [World.setCell]
          have hq14l : (w13.setCell ⟨q, 5, none⟩ (.slice (some ⟨g5, 0, none⟩) t.rents.length c5)).heap[q]? = some (.cells #[.int .i64 k, .string t.name, .bool t.done, .slice (some ⟨g3, 0, none⟩) t.bits.length c3, .slice (some ⟨g4, 0, none⟩) t.texts.length c4, .slice (some ⟨g5, 0, none⟩) t.rents.length c5] 102 (0, 0)) := set_block hq13
          have hq14 : w14.heap[q]? = some (.cells #[.int .i64 k, .string t.name, .bool t.done, .slice (some ⟨g3, 0, none⟩) t.bits.length c3, .slice (some ⟨g4, 0, none⟩) t.texts.length c4, .slice (some ⟨g5, 0, none⟩) t.rents.length c5] 102 (0, 0)) := by rw [hW14]; exact hq14l
          have ho14 : ∀ b, b ≠ q → w14.heap[b]? = w13.heap[b]? := fun b hb => by rw [hW14]; exact set_block_other hb
          have HF14 := Lib.hid (show Fr W w14 (.int .i64 s.tasks) (.int .i64 s.most) (.int .i64 s.keep) (.int .i64 ((s.last : Int) + 1)) (.slice (some ⟨g, 0, none⟩) s.all.length c6) from by rw [hW14]; exact HF13.out.other hqW _)
          clear hW14
          go_upto_region 23 with fail
          rw [← HW14.out]
          have hgw : g < w8.heap.size := (Array.getElem?_eq_some_iff.1 hh8).1
          have hN0 : q ≠ g3 ∧ q ≠ g4 ∧ q ≠ g5 ∧ g3 ≠ g4 ∧ g3 ≠ g5 ∧ g4 ≠ g5 := tell_apart hgq hq9 hh3 hh4 hh5 hl3 hl4 hl5 hs10 hs12 HB11.out.size HB13.out.size (fun b => HB11.out.block b) (fun b => HB13.out.block b) ho10 ho12
          have HN := Lib.hid hN0
          have hb3 : w14.heap[g3]? = w9.heap[g3]? := (ho14 _ (Ne.symm hN0.1)).trans ((HB13.out.block _ (by rw [hs12]; have := HB11.out.size; have := (Array.getElem?_eq_some_iff.1 hh3).1; omega)).trans ((ho12 _ (Ne.symm hN0.1)).trans ((HB11.out.block _ (by rw [hs10]; exact (Array.getElem?_eq_some_iff.1 hh3).1)).trans (ho10 _ (Ne.symm hN0.1)))))
          have hb4 : w14.heap[g4]? = w11.heap[g4]? := (ho14 _ (Ne.symm hN0.2.1)).trans ((HB13.out.block _ (by rw [hs12]; exact (Array.getElem?_eq_some_iff.1 hh4).1)).trans (ho12 _ (Ne.symm hN0.2.1)))
          have hb5 : w14.heap[g5]? = w13.heap[g5]? := ho14 _ (Ne.symm hN0.2.2.1)
          have hgne : g ≠ q := by omega
          have hbg : w14.heap[g]? = w8.heap[g]? := (ho14 _ hgne).trans ((HB13.out.block _ (by have := HB9.out.size; have := HB11.out.size; omega)).trans ((ho12 _ hgne).trans ((HB11.out.block _ (by have := HB9.out.size; omega)).trans ((ho10 _ hgne).trans (HB9.out.block _ hgw)))))
          have HS14 := Lib.hid (show W.heap.size + 2 ≤ q ∧ W.heap.size + 2 ≤ g3 ∧ W.heap.size + 2 ≤ g4 ∧ W.heap.size + 2 ≤ g5 ∧ q + 1 ≤ g3 ∧ q + 1 ≤ g4 ∧ q + 1 ≤ g5 from ⟨hqW, by omega, by have := HB9.out.size; omega, by have := HB9.out.size; have := HB11.out.size; omega, hl3, by have := HB9.out.size; omega, by have := HB9.out.size; have := HB11.out.size; omega⟩)
          have HJ0 := Lib.hid (show J23 M q g3 t.bits.length c3 g4 t.texts.length c4 g5 t.rents.length c5 u text (.slice ae es.length ke) w14 t.bits t.texts t.rents es (fun _ => false) (fun _ => undef) w14.drew from
            ⟨(Keeps.refl _ w14).drewN 1, (row_block tBool_flat HRW3.out hb3), (row_block tStr_flat HRW4.out hb4), (row_block (tIn_flat M tEnts) HRW5.out hb5), ⟨_, hb3.trans hh3⟩, ⟨_, hb4.trans hh4⟩, ⟨_, hb5.trans hh5⟩, fun k e => by cases e⟩)
          have HH14 := Lib.hid (hbg.trans hh8)
          have HR14 := Lib.hid (row_block (tIn_flat M tRSn) HR8.out hbg)
          have hu4 : u < t.texts.length := by rw [HLT.out]; exact hu
          have hu5 : u < t.rents.length := by rw [HLE.out]; exact hu
          have htx : text.size ≤ maxLen := by unfold maxLen; omega
          clear hb3 hb4 hb5 hbg hh3 hh4 hh5 hl3 hl4 hl5 hh8 HR8 HRW3 HRW4 HRW5 HW8 HW10 HW12 HW14 ho10 ho12 ho14 HB9 HB11 HB13 HF8 HF9 HF10 HF11 HF12 HF13 hq8 hq9 hq10 hq10l hq11 hq12 hq12l hq13 hq14l hqc hqz hx hs10 hs12 hs14 hsl HQ1 HQ2 HQ3 hN0 HR7 hh7 HF7 HF6 HRg hhg hlg HBg HB8 hs7 hs8 e0 e1 e2 e3 e4 e5 x4 bz d0 d1 d2 d3 d4 dz c0 c1 c2 hgw
          refine wp_region_inv (by kernel_rfl) (by kernel_rfl) (by kernel_rfl) (J23 M q g3 t.bits.length c3 g4 t.texts.length c4 g5 t.rents.length c5 u text (.slice ae es.length ke) w14 t.bits t.texts t.rents es) HJ0.out (AllAt.all ?steps) ?ends
          case steps =>
            refine AllAt.cons 1 ?s0 (AllAt.cons 2 ?s1 (AllAt.cons 3 ?s2 (AllAt.cons 4 ?s3 (AllAt.cons 5 ?s4 (AllAt.cons 6 ?s5 (AllAt.cons 7 ?s6 (AllAt.cons 8 ?s7 (AllAt.cons 9 ?s8 (AllAt.cons 10 ?s9 (AllAt.cons 11 ?s10 (AllAt.cons 12 ?s11 (AllAt.cons 13 ?s12 (AllAt.cons 14 ?s13 (AllAt.cons 15 ?s14 (AllAt.cons 16 ?s15 (AllAt.cons 17 ?s16 (AllAt.nil) rfl) rfl) rfl) rfl) rfl) rfl) rfl) rfl) rfl) rfl) rfl) rfl) rfl) rfl) rfl) rfl) rfl
            case s0 =>
              intro L f a wz hJ hLi hdep hv h0 K hK
              have e16 : a.eval (.tmp 16) = .pointer (some ⟨q, 0, none⟩) := (h0 16 (noDst_spec (by kernel_rfl))).trans rfl
              refine step_val rfl (v := .pointer (some ⟨q, 3, none⟩)) (w' := wz) ?_ (hK _ _ (hJ.add (by decide) (by decide) (by decide) rfl))
              clear hJ hdep hv h0 hK
              generalize a.eval = ρ at *
              simp [go_sem, execOp, *]
            case s1 =>
              intro L f a wz hJ hLi hdep hv h0 K hK
              have hL0 := hdep 0 (List.mem_of_elem_eq_true (by kernel_rfl))
              have e101 : a.eval (.tmp 101) = .pointer (some ⟨q, 3, none⟩) := (hv 0 101 rfl hL0).trans (hJ.vs 0 hL0)
              have cq : wz.cell? ⟨q, 3, none⟩ = some (.slice (some ⟨g3, 0, none⟩) t.bits.length c3) := mem_cells ((hJ.kq HN.out.1 HN.out.2.1 HN.out.2.2.1 (Array.getElem?_eq_some_iff.1 hq14).1).trans hq14) 3
              refine step_val rfl (v := .slice (some ⟨g3, 0, none⟩) t.bits.length c3) (w' := wz) ?_ (hK _ _ (hJ.add (by decide) (by decide) (by decide) rfl))
              clear hJ hdep hv h0 hK
              generalize a.eval = ρ at *
              simp [go_sem, execOp, *]
            case s2 =>
              intro L f a wz hJ hLi hdep hv h0 K hK
              have e2 : a.eval (.tmp 2) = .int .i64 (u : Int) := (h0 2 (noDst_spec (by kernel_rfl))).trans rfl
              refine step_val rfl (v := .int .i64 u) (w' := wz) ?_ (hK _ _ (hJ.add (by decide) (by decide) (by decide) rfl))
              clear hJ hdep hv h0 hK
              generalize a.eval = ρ at *
              simp [go_sem, execOp, *]
            case s3 =>
              intro L f a wz hJ hLi hdep hv h0 K hK
              have e16 : a.eval (.tmp 16) = .pointer (some ⟨q, 0, none⟩) := (h0 16 (noDst_spec (by kernel_rfl))).trans rfl
              refine step_val rfl (v := .pointer (some ⟨q, 4, none⟩)) (w' := wz) ?_ (hK _ _ (hJ.add (by decide) (by decide) (by decide) rfl))
              clear hJ hdep hv h0 hK
              generalize a.eval = ρ at *
              simp [go_sem, execOp, *]
            case s4 =>
              intro L f a wz hJ hLi hdep hv h0 K hK
              have hL3 := hdep 3 (List.mem_of_elem_eq_true (by kernel_rfl))
              have e104 : a.eval (.tmp 104) = .pointer (some ⟨q, 4, none⟩) := (hv 3 104 rfl hL3).trans (hJ.vs 3 hL3)
              have cq : wz.cell? ⟨q, 4, none⟩ = some (.slice (some ⟨g4, 0, none⟩) t.texts.length c4) := mem_cells ((hJ.kq HN.out.1 HN.out.2.1 HN.out.2.2.1 (Array.getElem?_eq_some_iff.1 hq14).1).trans hq14) 4
              refine step_val rfl (v := .slice (some ⟨g4, 0, none⟩) t.texts.length c4) (w' := wz) ?_ (hK _ _ (hJ.add (by decide) (by decide) (by decide) rfl))
              clear hJ hdep hv h0 hK
              generalize a.eval = ρ at *
              simp [go_sem, execOp, *]
            case s5 =>
              intro L f a wz hJ hLi hdep hv h0 K hK
              have e2 : a.eval (.tmp 2) = .int .i64 (u : Int) := (h0 2 (noDst_spec (by kernel_rfl))).trans rfl
              refine step_val rfl (v := .int .i64 u) (w' := wz) ?_ (hK _ _ (hJ.add (by decide) (by decide) (by decide) rfl))
              clear hJ hdep hv h0 hK
              generalize a.eval = ρ at *
              simp [go_sem, execOp, *]
            case s6 =>
              intro L f a wz hJ hLi hdep hv h0 K hK
              have e16 : a.eval (.tmp 16) = .pointer (some ⟨q, 0, none⟩) := (h0 16 (noDst_spec (by kernel_rfl))).trans rfl
              refine step_val rfl (v := .pointer (some ⟨q, 5, none⟩)) (w' := wz) ?_ (hK _ _ (hJ.add (by decide) (by decide) (by decide) rfl))
              clear hJ hdep hv h0 hK
              generalize a.eval = ρ at *
              simp [go_sem, execOp, *]
            case s7 =>
              intro L f a wz hJ hLi hdep hv h0 K hK
              have hL6 := hdep 6 (List.mem_of_elem_eq_true (by kernel_rfl))
              have e107 : a.eval (.tmp 107) = .pointer (some ⟨q, 5, none⟩) := (hv 6 107 rfl hL6).trans (hJ.vs 6 hL6)
              have cq : wz.cell? ⟨q, 5, none⟩ = some (.slice (some ⟨g5, 0, none⟩) t.rents.length c5) := mem_cells ((hJ.kq HN.out.1 HN.out.2.1 HN.out.2.2.1 (Array.getElem?_eq_some_iff.1 hq14).1).trans hq14) 5
              refine step_val rfl (v := .slice (some ⟨g5, 0, none⟩) t.rents.length c5) (w' := wz) ?_ (hK _ _ (hJ.add (by decide) (by decide) (by decide) rfl))
              clear hJ hdep hv h0 hK
              generalize a.eval = ρ at *
              simp [go_sem, execOp, *]
            case s8 =>
              intro L f a wz hJ hLi hdep hv h0 K hK
              have e2 : a.eval (.tmp 2) = .int .i64 (u : Int) := (h0 2 (noDst_spec (by kernel_rfl))).trans rfl
              refine step_val rfl (v := .int .i64 u) (w' := wz) ?_ (hK _ _ (hJ.add (by decide) (by decide) (by decide) rfl))
              clear hJ hdep hv h0 hK
              generalize a.eval = ρ at *
              simp [go_sem, execOp, *]
            case s9 =>
              intro L f a wz hJ hLi hdep hv h0 K hK
              have e3 : a.eval (.tmp 3) = .string text := (h0 3 (noDst_spec (by kernel_rfl))).trans rfl
              refine step_val rfl (v := .string text) (w' := wz) ?_ (hK _ _ (hJ.add (by decide) (by decide) (by decide) rfl))
              clear hJ hdep hv h0 hK
              generalize a.eval = ρ at *
              simp [go_sem, execOp, *]
            case s10 =>
              intro L f a wz hJ hLi hdep hv h0 K hK
              have e4 : a.eval (.tmp 4) = .slice ae es.length ke := (h0 4 (noDst_spec (by kernel_rfl))).trans rfl
              refine step_val rfl (v := .slice ae es.length ke) (w' := wz) ?_ (hK _ _ (hJ.add (by decide) (by decide) (by decide) rfl))
              clear hJ hdep hv h0 hK
              generalize a.eval = ρ at *
              simp [go_sem, execOp, *]
            case s11 =>
              intro L f a wz hJ hLi hdep hv h0 K hK
              have hL1 := hdep 1 (List.mem_of_elem_eq_true (by kernel_rfl))
              have hL2 := hdep 2 (List.mem_of_elem_eq_true (by kernel_rfl))
              have e102 : a.eval (.tmp 102) = .slice (some ⟨g3, 0, none⟩) t.bits.length c3 := (hv 1 102 rfl hL1).trans (hJ.vs 1 hL1)
              have e103 : a.eval (.tmp 103) = .int .i64 u := (hv 2 103 rfl hL2).trans (hJ.vs 2 hL2)
              have hix := run_index1 (P := Tryz.prog) (T := 100) (e := 4) rfl (by kernel_rfl) g3 t.bits.length c3 u hu wz
              refine step_val rfl (v := .pointer (some ⟨g3, u, none⟩)) (w' := wz) ?_ (hK _ _ (hJ.add (by decide) (by decide) (by decide) rfl))
              clear hJ hdep hv h0 hK
              generalize a.eval = ρ at *
              simp [go_sem, execOp, e102, e103, hix]
            case s12 =>
              intro L f a wz hJ hLi hdep hv h0 K hK
              have eT : a.eval (.const (.bool true)) = .bool true := rfl
              have hL11 := hdep 11 (List.mem_of_elem_eq_true (by kernel_rfl))
              have e112 : a.eval (.tmp 112) = .pointer (some ⟨g3, u, none⟩) := (hv 11 112 rfl hL11).trans (hJ.vs 11 hL11)
              obtain ⟨⟨v4, c4'⟩, z4⟩ := hJ.kc3 hu
              have hk := hK undef _ (hJ.add12 hLi HN.out.2.2.2.1 HN.out.2.2.2.2.1 hu)
              refine step_skip rfl ?_ hk
              clear hJ hdep hv h0 hK hk
              generalize a.eval = ρ at *
              simp [go_sem, execOp, e112, eT, c4', z4]
            case s13 =>
              intro L f a wz hJ hLi hdep hv h0 K hK
              have hL4 := hdep 4 (List.mem_of_elem_eq_true (by kernel_rfl))
              have hL5 := hdep 5 (List.mem_of_elem_eq_true (by kernel_rfl))
              have e105 : a.eval (.tmp 105) = .slice (some ⟨g4, 0, none⟩) t.texts.length c4 := (hv 4 105 rfl hL4).trans (hJ.vs 4 hL4)
              have e106 : a.eval (.tmp 106) = .int .i64 u := (hv 5 106 rfl hL5).trans (hJ.vs 5 hL5)
              have hix := run_index1 (P := Tryz.prog) (T := 71) (e := 9) rfl (by kernel_rfl) g4 t.texts.length c4 u hu4 wz
              refine step_val rfl (v := .pointer (some ⟨g4, u, none⟩)) (w' := wz) ?_ (hK _ _ (hJ.add (by decide) (by decide) (by decide) rfl))
              clear hJ hdep hv h0 hK
              generalize a.eval = ρ at *
              simp [go_sem, execOp, e105, e106, hix]
            case s14 =>
              intro L f a wz hJ hLi hdep hv h0 K hK
              have hL13 := hdep 13 (List.mem_of_elem_eq_true (by kernel_rfl))
              have e113 : a.eval (.tmp 113) = .pointer (some ⟨g4, u, none⟩) := (hv 13 113 rfl hL13).trans (hJ.vs 13 hL13)
              have hL9 := hdep 9 (List.mem_of_elem_eq_true (by kernel_rfl))
              have e110 : a.eval (.tmp 110) = .string text := (hv 9 110 rfl hL9).trans (hJ.vs 9 hL9)
              obtain ⟨⟨v4, c4'⟩, z4⟩ := hJ.kc4 hu4
              have hk := hK undef _ (hJ.add14 hLi HN.out.2.2.2.1 HN.out.2.2.2.2.2 hu4 htx)
              refine step_skip rfl ?_ hk
              clear hJ hdep hv h0 hK hk
              generalize a.eval = ρ at *
              simp [go_sem, execOp, e113, e110, c4', z4]
            case s15 =>
              intro L f a wz hJ hLi hdep hv h0 K hK
              have hL7 := hdep 7 (List.mem_of_elem_eq_true (by kernel_rfl))
              have hL8 := hdep 8 (List.mem_of_elem_eq_true (by kernel_rfl))
              have e108 : a.eval (.tmp 108) = .slice (some ⟨g5, 0, none⟩) t.rents.length c5 := (hv 7 108 rfl hL7).trans (hJ.vs 7 hL7)
              have e109 : a.eval (.tmp 109) = .int .i64 u := (hv 8 109 rfl hL8).trans (hJ.vs 8 hL8)
              have hix := run_index1 (P := Tryz.prog) (T := 66) (e := 34) rfl (by kernel_rfl) g5 t.rents.length c5 u hu5 wz
              refine step_val rfl (v := .pointer (some ⟨g5, u, none⟩)) (w' := wz) ?_ (hK _ _ (hJ.add (by decide) (by decide) (by decide) rfl))
              clear hJ hdep hv h0 hK
              generalize a.eval = ρ at *
              simp [go_sem, execOp, e108, e109, hix]
            case s16 =>
              intro L f a wz hJ hLi hdep hv h0 K hK
              have hL15 := hdep 15 (List.mem_of_elem_eq_true (by kernel_rfl))
              have e114 : a.eval (.tmp 114) = .pointer (some ⟨g5, u, none⟩) := (hv 15 114 rfl hL15).trans (hJ.vs 15 hL15)
              have hL10 := hdep 10 (List.mem_of_elem_eq_true (by kernel_rfl))
              have e111 : a.eval (.tmp 111) = .slice ae es.length ke := (hv 10 111 rfl hL10).trans (hJ.vs 10 hL10)
              obtain ⟨⟨v4, c4'⟩, z4⟩ := hJ.kc5 hu5
              have hk := hK undef _ (hJ.add16 hLi HN.out.2.2.2.2.1 HN.out.2.2.2.2.2 hu5 HVE.out)
              refine step_skip rfl ?_ hk
              clear hJ hdep hv h0 hK hk
              generalize a.eval = ρ at *
              simp [go_sem, execOp, e114, e111, c4', z4]
          case ends =>
            intro L f w15 hJ hall
            simp only [putAll, Exit.then]
            clear HE hti hli hno1 hno2 hva HFD HRS HA HRW HQ HF2 hrb hcs HGD hbu hz2 hlb hcb hle hke hla hca hxl htk hk hie HLT HLE h1 h2
            have HK15 := Lib.hid hJ.kp
            have HGE := Lib.hid (tell_ge HS14.out hgq)
            have hq15 := (hJ.kq HN.out.1 HN.out.2.1 HN.out.2.2.1 (Array.getElem?_eq_some_iff.1 hq14).1).trans hq14
            have hr3 := hJ.r3
            have hr4 := hJ.r4
            have hr5 := hJ.r5
            rw [if_pos (hall 12 (by decide))] at hr3
            rw [if_pos (hall 14 (by decide))] at hr4
            rw [if_pos (hall 16 (by decide))] at hr5
            obtain ⟨cu3, hb3⟩ := hJ.h3
            obtain ⟨cu4, hb4⟩ := hJ.h4
            obtain ⟨cu5, hb5⟩ := hJ.h5
            have HR3 := Lib.hid hr3
            have HR4 := Lib.hid hr4
            have HR5 := Lib.hid hr5
            have HB3 := Lib.hid (Array.getElem?_eq_some_iff.1 hb3).1
            have HB4 := Lib.hid (Array.getElem?_eq_some_iff.1 hb4).1
            have HB5 := Lib.hid (Array.getElem?_eq_some_iff.1 hb5).1
            have HF15 := Lib.hid (HF14.out.keeps HK15.out HGE.out.1)
            have hgt := HGE.out.2
            have hh15 : w15.heap[g]? = some (.cells curg 102 (0, 0)) := (HK15.out.block g (Array.getElem?_eq_some_iff.1 HH14.out).1 (fun e => by obtain ⟨h1, h2, h3⟩ := hgt; rcases e with e | e | e <;> contradiction)).trans HH14.out
            have HR15 := Lib.hid (row_block (tIn_flat M tRSn) HR14.out (hh15.trans HH14.out.symm))
            clear hr3 hr4 hr5 hb3 hb4 hb5 hJ HJ0 HF14 HH14 HR14 hq14 HK15
            have x0 : w15.cell? ⟨q, 0, none⟩ = some (.int .i64 k) := mem_cells hq15 0
            have x1 : w15.cell? ⟨q, 1, none⟩ = some (.string t.name) := mem_cells hq15 1
            have x2 : w15.cell? ⟨q, 2, none⟩ = some (.bool t.done) := mem_cells hq15 2
            have x3 : w15.cell? ⟨q, 3, none⟩ = some (.slice (some ⟨g3, 0, none⟩) t.bits.length c3) := mem_cells hq15 3
            have x4 : w15.cell? ⟨q, 4, none⟩ = some (.slice (some ⟨g4, 0, none⟩) t.texts.length c4) := mem_cells hq15 4
            have x5 : w15.cell? ⟨q, 5, none⟩ = some (.slice (some ⟨g5, 0, none⟩) t.rents.length c5) := mem_cells hq15 5
            have hbl : (t.bits.set u true).length ≤ 1000 := bits_le HLB.out hs40 u
            have HMI := Lib.hid (refMissing_any k t.name t.done (.slice (some ⟨g3, 0, none⟩) t.bits.length c3) (.slice (some ⟨g4, 0, none⟩) t.texts.length c4) (.slice (some ⟨g5, 0, none⟩) t.rents.length c5) (t.bits.set u true) w15 HR3.out hbl ⟨_, _, _, rfl⟩ ⟨_, _, _, rfl⟩)
            rw [Int.toNat_natCast] at HA0
            have hml := miss_done t u (text, es)
            generalize hmo : missOf (t.bits.set u true) = mo at *
            have HMO := Lib.hid hmo
            clear hmo
            have hmb : mo.length ≤ 1000000000 := by rw [← HMO.out]; exact Nat.le_trans (miss_len _) (Nat.le_trans hbl (by decide))
            generalize mo.length = ml at *
            have HDN : ∃ dn, dn = (t.tell u (text, es)).done := ⟨_, rfl⟩
            obtain ⟨dn, hdn⟩ := HDN
            rw [← hdn] at hml HA0
            have HDN := Lib.hid hdn
            clear hdn
            go_at_K
            go_wp2_with fail
            refine HMI.out.mono ?_
            rintro e w16 ⟨mb, mc, rfl, -, hb16⟩
            have hq16 := (hb16.block _ (Array.getElem?_eq_some_iff.1 hq15).1).trans hq15
            have hh16 := (hb16.block _ (Array.getElem?_eq_some_iff.1 hh15).1).trans hh15
            have HF16 := Lib.hid (HF15.out.pure hb16)
            have HR16 := Lib.hid (row_block (tIn_flat M tRSn) HR15.out (hh16.trans hh15.symm))
            have HB16 := Lib.hid hb16
            clear x0 x1 x2 x3 x4 x5 HMI HF15 hb16 HR15
            have x0 : w16.cell? ⟨q, 0, none⟩ = some (.int .i64 k) := mem_cells hq16 0
            have x1 : w16.cell? ⟨q, 1, none⟩ = some (.string t.name) := mem_cells hq16 1
            have x2 : w16.cell? ⟨q, 2, none⟩ = some (.bool t.done) := mem_cells hq16 2
            have x3 : w16.cell? ⟨q, 3, none⟩ = some (.slice (some ⟨g3, 0, none⟩) t.bits.length c3) := mem_cells hq16 3
            have x4 : w16.cell? ⟨q, 4, none⟩ = some (.slice (some ⟨g4, 0, none⟩) t.texts.length c4) := mem_cells hq16 4
            have x5 : w16.cell? ⟨q, 5, none⟩ = some (.slice (some ⟨g5, 0, none⟩) t.rents.length c5) := mem_cells hq16 5
            have hqz : ∀ o, w16.frozen? ⟨q, o, none⟩ = false := frozen_cells hq16
            go_upto_region 25 with fail
            obtain ⟨w17, hW17⟩ : ∃ w17, w17 = w16.setCell ⟨q, 2, none⟩ (.bool dn) := ⟨_, rfl⟩
            have HW17 := Lib.hid hW17
            have hq17 : w17.heap[q]? = some (.cells #[.int .i64 k, .string t.name, .bool dn, .slice (some ⟨g3, 0, none⟩) t.bits.length c3, .slice (some ⟨g4, 0, none⟩) t.texts.length c4, .slice (some ⟨g5, 0, none⟩) t.rents.length c5] 102 (0, 0)) := by rw [hW17]; exact set_block hq16
            have ho17 : ∀ b, b ≠ q → w17.heap[b]? = w16.heap[b]? := fun b hb => by rw [hW17]; exact set_block_other hb
            have HF17 := Lib.hid (show Fr W w17 (.int .i64 s.tasks) (.int .i64 s.most) (.int .i64 s.keep) (.int .i64 ((s.last : Int) + 1)) (.slice (some ⟨g, 0, none⟩) s.all.length c6) from by rw [hW17]; exact HF16.out.other HS14.out.1 _)
            have hh17 := (ho17 g hgne).trans hh16
            have HR17 := Lib.hid (row_block (tIn_flat M tRSn) HR16.out (ho17 g hgne))
            clear hW17 x0 x1 x2 x3 x4 x5 hqz
            rw [← HW17.out]
            have x0 : w17.cell? ⟨q, 0, none⟩ = some (.int .i64 k) := mem_cells hq17 0
            have x1 : w17.cell? ⟨q, 1, none⟩ = some (.string t.name) := mem_cells hq17 1
            have x2 : w17.cell? ⟨q, 2, none⟩ = some (.bool dn) := mem_cells hq17 2
            have x3 : w17.cell? ⟨q, 3, none⟩ = some (.slice (some ⟨g3, 0, none⟩) t.bits.length c3) := mem_cells hq17 3
            have x4 : w17.cell? ⟨q, 4, none⟩ = some (.slice (some ⟨g4, 0, none⟩) t.texts.length c4) := mem_cells hq17 4
            have x5 : w17.cell? ⟨q, 5, none⟩ = some (.slice (some ⟨g5, 0, none⟩) t.rents.length c5) := mem_cells hq17 5
            have hcz : i * 6 + 6 ≤ curg.size := rsn_size HR17.out hh17 hil
            obtain ⟨y0, hy0⟩ : ∃ v, w17.cell? ⟨g, i * 6, none⟩ = some v := cell_some hh17 (by omega)
            obtain ⟨y1, hy1⟩ : ∃ v, w17.cell? ⟨g, i * 6 + 1, none⟩ = some v := cell_some hh17 (by omega)
            obtain ⟨y2, hy2⟩ : ∃ v, w17.cell? ⟨g, i * 6 + 2, none⟩ = some v := cell_some hh17 (by omega)
            obtain ⟨y3, hy3⟩ : ∃ v, w17.cell? ⟨g, i * 6 + 3, none⟩ = some v := cell_some hh17 (by omega)
            obtain ⟨y4, hy4⟩ : ∃ v, w17.cell? ⟨g, i * 6 + 4, none⟩ = some v := cell_some hh17 (by omega)
            obtain ⟨y5, hy5⟩ : ∃ v, w17.cell? ⟨g, i * 6 + 5, none⟩ = some v := cell_some hh17 (by omega)
            have hgz : ∀ o, w17.frozen? ⟨g, o, none⟩ = false := frozen_cells hh17
            have bx4 : w17.cell? ⟨W.heap.size, 4, none⟩ = some (.slice (some ⟨g, 0, none⟩) s.all.length c6) := HF17.out.cells.2.2.2.2
            have bxz : ∀ o, w17.frozen? ⟨W.heap.size, o, none⟩ = false := HF17.out.thaw
            go_upto_region 26 with fail
            show Code.wp _ _ _ _ (store6 w17 g (i * 6) (.int .i64 k) (.string t.name) (.bool dn) (.slice (some ⟨g3, 0, none⟩) t.bits.length c3) (.slice (some ⟨g4, 0, none⟩) t.texts.length c4) (.slice (some ⟨g5, 0, none⟩) t.rents.length c5))
            obtain ⟨curw, hh18, hat18, hoth18⟩ := store6_at hh17 hcz (.int .i64 k) (.string t.name) (.bool dn) (.slice (some ⟨g3, 0, none⟩) t.bits.length c3) (.slice (some ⟨g4, 0, none⟩) t.texts.length c4) (.slice (some ⟨g5, 0, none⟩) t.rents.length c5)
            have hq18 := (store6_other (w := w17) (b := g) (o := i * 6) (Ne.symm hgne) (.int .i64 k) (.string t.name) (.bool dn) (.slice (some ⟨g3, 0, none⟩) t.bits.length c3) (.slice (some ⟨g4, 0, none⟩) t.texts.length c4) (.slice (some ⟨g5, 0, none⟩) t.rents.length c5)).trans hq17
            have HF18 := Lib.hid (HF17.out.st6 (g := g) (o := i * 6) (by omega) (.int .i64 k) (.string t.name) (.bool dn) (.slice (some ⟨g3, 0, none⟩) t.bits.length c3) (.slice (some ⟨g4, 0, none⟩) t.texts.length c4) (.slice (some ⟨g5, 0, none⟩) t.rents.length c5))
            have h3x := (store6_other (w := w17) (b := g) (o := i * 6) (Ne.symm hgt.1) (.int .i64 k) (.string t.name) (.bool dn) (.slice (some ⟨g3, 0, none⟩) t.bits.length c3) (.slice (some ⟨g4, 0, none⟩) t.texts.length c4) (.slice (some ⟨g5, 0, none⟩) t.rents.length c5)).trans ((ho17 _ (Ne.symm HN.out.1)).trans (HB16.out.block _ HB3.out))
            have h4x := (store6_other (w := w17) (b := g) (o := i * 6) (Ne.symm hgt.2.1) (.int .i64 k) (.string t.name) (.bool dn) (.slice (some ⟨g3, 0, none⟩) t.bits.length c3) (.slice (some ⟨g4, 0, none⟩) t.texts.length c4) (.slice (some ⟨g5, 0, none⟩) t.rents.length c5)).trans ((ho17 _ (Ne.symm HN.out.2.1)).trans (HB16.out.block _ HB4.out))
            have h5x := (store6_other (w := w17) (b := g) (o := i * 6) (Ne.symm hgt.2.2) (.int .i64 k) (.string t.name) (.bool dn) (.slice (some ⟨g3, 0, none⟩) t.bits.length c3) (.slice (some ⟨g4, 0, none⟩) t.texts.length c4) (.slice (some ⟨g5, 0, none⟩) t.rents.length c5)).trans ((ho17 _ (Ne.symm HN.out.2.2.1)).trans (HB16.out.block _ HB5.out))
            generalize store6 w17 g (i * 6) (.int .i64 k) (.string t.name) (.bool dn) (.slice (some ⟨g3, 0, none⟩) t.bits.length c3) (.slice (some ⟨g4, 0, none⟩) t.texts.length c4) (.slice (some ⟨g5, 0, none⟩) t.rents.length c5) = w18 at *
            
            have HV18 := Lib.hid (rows_tell (M := M) (W := W) (w := w17) (w' := w18) (u := u) (x := (text, es)) (s1 := .slice (some ⟨g3, 0, none⟩) t.bits.length c3) (s2 := .slice (some ⟨g4, 0, none⟩) t.texts.length c4) (s3 := .slice (some ⟨g5, 0, none⟩) t.rents.length c5) HOK.out HJ.out HM.out HR17.out (by omega)
              (fun j v hj e => by rw [mem_cells hh18, hoth18 j hj, ← mem_cells hh17]; exact e) (fun j v e => by rw [mem_cells hh18]; rw [← HDN.out] at e; exact hat18 j v e)
              (row_mem tBool_flat HR3.out (fun j v e => by unfold jn; rw [if_pos HS14.out.2.1]; exact (mem_of_block h3x _).trans e))
              (row_mem tStr_flat HR4.out (fun j v e => by unfold jn; rw [if_pos HS14.out.2.2.1]; exact (mem_of_block h4x _).trans e))
              (slice_in (row_mem (tIn_flat M tEnts) HR5.out (fun j v e => by unfold jn; rw [if_pos HS14.out.2.2.2.1]; exact (mem_of_block h5x _).trans e)) (jn_of HM.out)))
            clear y0 hy0 y1 hy1 y2 hy2 y3 hy3 y4 hy4 y5 hy5 hgz hcz hh17 hq17 HF17 HR17 ho17 HW17 bx4 bxz x0 x1 x2 x3 x4 x5 h3x h4x h5x hh16 hq16 HF16 HR16 HB16 HR3 HR4 HR5 HB3 HB4 HB5 hh15 hq15 hat18 hoth18 hh18 hgt HN hgq hgne
            have x2 : w18.cell? ⟨q, 2, none⟩ = some (.bool dn) := mem_cells hq18 2
            clear hq18
            cases hd : dn with
            | false =>
              subst hd
              have HAE := Lib.hid (show tellAns s k u (text, es) = (false, 0) from by rw [HA0.out])
              have HS := Lib.hid (show s.told k u (text, es) = s.upd k (fun t => t.tell u (text, es)) from by rw [HTD.out, HAE.out]; rfl)
              have c0 : w18.cell? ⟨W.heap.size, 0, none⟩ = some (.int .i64 s.tasks) := HF18.out.cells.1
              have c1 : w18.cell? ⟨W.heap.size, 1, none⟩ = some (.int .i64 s.most) := HF18.out.cells.2.1
              have c2 : w18.cell? ⟨W.heap.size, 2, none⟩ = some (.int .i64 s.keep) := HF18.out.cells.2.2.1
              have c3 : w18.cell? ⟨W.heap.size, 3, none⟩ = some (.int .i64 ((s.last : Int) + 1)) := HF18.out.cells.2.2.2.1
              have c4 : w18.cell? ⟨W.heap.size, 4, none⟩ = some (.slice (some ⟨g, 0, none⟩) s.all.length c6) := HF18.out.cells.2.2.2.2
              have cz : ∀ o, w18.frozen? ⟨W.heap.size, o, none⟩ = false := HF18.out.thaw
              have d0 : w18.cell? ⟨W.heap.size + 1, 0, none⟩ = some (.int .i64 0) := HF18.out.res.1
              have d1 : w18.cell? ⟨W.heap.size + 1, 1, none⟩ = some (.int .i64 0) := HF18.out.res.2.1
              have d2 : w18.cell? ⟨W.heap.size + 1, 2, none⟩ = some (.int .i64 0) := HF18.out.res.2.2.1
              have d3 : w18.cell? ⟨W.heap.size + 1, 3, none⟩ = some (.int .i64 0) := HF18.out.res.2.2.2.1
              have d4 : w18.cell? ⟨W.heap.size + 1, 4, none⟩ = some (.slice none 0 0) := HF18.out.res.2.2.2.2.1
              have dz : ∀ o, w18.frozen? ⟨W.heap.size + 1, o, none⟩ = false := HF18.out.res.2.2.2.2.2
              go_wp2
              have r1 := store5_block HF18.out.rs (.int .i64 s.tasks) (.int .i64 s.most) (.int .i64 s.keep) (.int .i64 ((s.last : Int) + 1)) (.slice (some ⟨g, 0, none⟩) s.all.length c6)
              have hBz := store5_below HF18.out.bl (Nat.le_succ _) (.int .i64 s.tasks) (.int .i64 s.most) (.int .i64 s.keep) (.int .i64 ((s.last : Int) + 1)) (.slice (some ⟨g, 0, none⟩) s.all.length c6)
              have hnz : (nw W w18).le (nw W (store5 w18 (W.heap.size + 1) (.int .i64 s.tasks) (.int .i64 s.most) (.int .i64 s.keep) (.int .i64 ((s.last : Int) + 1)) (.slice (some ⟨g, 0, none⟩) s.all.length c6))) := nw_store5 (.int .i64 s.tasks) (.int .i64 s.most) (.int .i64 s.keep) (.int .i64 ((s.last : Int) + 1)) (.slice (some ⟨g, 0, none⟩) s.all.length c6)
              show bodyPost _ _ _ _ _ (store5 w18 (W.heap.size + 1) (.int .i64 s.tasks) (.int .i64 s.most) (.int .i64 s.keep) (.int .i64 ((s.last : Int) + 1)) (.slice (some ⟨g, 0, none⟩) s.all.length c6))
              generalize store5 w18 (W.heap.size + 1) (.int .i64 s.tasks) (.int .i64 s.most) (.int .i64 s.keep) (.int .i64 ((s.last : Int) + 1)) (.slice (some ⟨g, 0, none⟩) s.all.length c6) = wz at r1 hBz hnz ⊢
              have g0 : wz.cell? ⟨W.heap.size + 1, 0, none⟩ = some (.int .i64 s.tasks) := mem_cells r1 0
              have g1 : wz.cell? ⟨W.heap.size + 1, 1, none⟩ = some (.int .i64 s.most) := mem_cells r1 1
              have g2 : wz.cell? ⟨W.heap.size + 1, 2, none⟩ = some (.int .i64 s.keep) := mem_cells r1 2
              have g3 : wz.cell? ⟨W.heap.size + 1, 3, none⟩ = some (.int .i64 ((s.last : Int) + 1)) := mem_cells r1 3
              have g4 : wz.cell? ⟨W.heap.size + 1, 4, none⟩ = some (.slice (some ⟨g, 0, none⟩) s.all.length c6) := mem_cells r1 4
              exact bodyPost_ret (v := .tuple #[.agg #[.int .i64 s.tasks, .int .i64 s.most, .int .i64 s.keep, .int .i64 ((s.last : Int) + 1), .slice (some ⟨g, 0, none⟩) s.all.length c6], .bool false, .int .i64 0]) (by simp [results, Tryz.results25, go_sem, g0, g1, g2, g3, g4]) rfl ⟨.slice (some ⟨g, 0, none⟩) s.all.length c6, hBz, by rw [HS.out, HAE.out]; rfl, by rw [HS.out]; exact HV18.out.mono (jn_join HM.out hnz)⟩
            | true =>
              subst hd
              have HAE := Lib.hid (show tellAns s k u (text, es) = (true, 0) from by rw [HA0.out])
              have HS := Lib.hid (show s.told k u (text, es) = ((s.upd k (fun t => t.tell u (text, es))).dels ((s.upd k (fun t => t.tell u (text, es))).pend.filter (fun j => decide (j < k)))).dropped from by rw [HTD.out, HAE.out]; rfl)
              have hal : (s.upd k (fun t => t.tell u (text, es))).all.length = s.all.length := by unfold VS.upd; simp
              have HOK1 := Lib.hid HV18.out.ok
              have hra1 := HV18.out.ha
              have HKX := Lib.hid (tell_keep HOK1.out (k := k) (fun y hy e => tell_done HOK.out HJ.out HDN.out hy e))
              have HMJ := Lib.hid (show (jn M W w18).le (mem w18) from jn_le HM.out HF18.out.bl)
              have HNM := Lib.hid (show ∀ s', s' = s.upd k (fun t => t.tell u (text, es)) → s'.tasks = s.tasks ∧ s'.most = s.most ∧ s'.keep = s.keep ∧ s'.last = s.last from fun s' e => by subst e; exact ⟨rfl, rfl, rfl, rfl⟩)
              generalize hs1 : s.upd k (fun t => t.tell u (text, es)) = s1 at *
              have HN1 := Lib.hid (HNM.out s1 rfl)
              clear HNM HDN hs1 HOK HJ
              have HRA := Lib.hid hra1
              have HX := Lib.hid (fun w' (hb : Below w18.heap.size w18 w') => (show tRSns.rv (mem w') [.slice (some ⟨g, 0, none⟩) s.all.length c6] s1.all from tRSns.mono _ _ _ _ (Mem.le_trans HMJ.out (below_mem hb)) hra1))
              clear hra1 hu hu4 hu5 hil hml
              have c0 : w18.cell? ⟨W.heap.size, 0, none⟩ = some (.int .i64 s.tasks) := HF18.out.cells.1
              have c1 : w18.cell? ⟨W.heap.size, 1, none⟩ = some (.int .i64 s.most) := HF18.out.cells.2.1
              have c2 : w18.cell? ⟨W.heap.size, 2, none⟩ = some (.int .i64 s.keep) := HF18.out.cells.2.2.1
              have c3 : w18.cell? ⟨W.heap.size, 3, none⟩ = some (.int .i64 ((s.last : Int) + 1)) := HF18.out.cells.2.2.2.1
              have c4 : w18.cell? ⟨W.heap.size, 4, none⟩ = some (.slice (some ⟨g, 0, none⟩) s.all.length c6) := HF18.out.cells.2.2.2.2
              have cz : ∀ o, w18.frozen? ⟨W.heap.size, o, none⟩ = false := HF18.out.thaw
              have d0 : w18.cell? ⟨W.heap.size + 1, 0, none⟩ = some (.int .i64 0) := HF18.out.res.1
              have d1 : w18.cell? ⟨W.heap.size + 1, 1, none⟩ = some (.int .i64 0) := HF18.out.res.2.1
              have d2 : w18.cell? ⟨W.heap.size + 1, 2, none⟩ = some (.int .i64 0) := HF18.out.res.2.2.1
              have d3 : w18.cell? ⟨W.heap.size + 1, 3, none⟩ = some (.int .i64 0) := HF18.out.res.2.2.2.1
              have d4 : w18.cell? ⟨W.heap.size + 1, 4, none⟩ = some (.slice none 0 0) := HF18.out.res.2.2.2.2.1
              have dz : ∀ o, w18.frozen? ⟨W.heap.size + 1, o, none⟩ = false := HF18.out.res.2.2.2.2.2
              go_wp2_with fail
              clear x2
              go_loopw [17, 18] (fun ov nv wr => ∃ j : Nat, j ≤ s.all.length ∧ nv = .int .i64 j ∧ Hid (Owns (tIn (jn M W w18) tRSn) wr w18.heap.size 102 ov ((s1.all.take j).filter (keepT k))) ∧ Hid (Below w18.heap.size w18 wr)) (fun _ nv _ => s.all.length - (intOf nv).toNat)
              case atStart => exact ⟨0, by omega, rfl, Lib.hid (Owns.nil _ _ _ _), Lib.hid (Below.refl _ _)⟩
              case round =>
                obtain ⟨j, hj, rfl, HO, HBR⟩ := hrel
                have HF := Lib.hid (HF18.out.pure HBR.out)
                clear c0 c1 c2 c3 c4 cz d0 d1 d2 d3 d4 dz
                have c0 : wr.cell? ⟨W.heap.size, 0, none⟩ = some (.int .i64 s.tasks) := HF.out.cells.1
                have c1 : wr.cell? ⟨W.heap.size, 1, none⟩ = some (.int .i64 s.most) := HF.out.cells.2.1
                have c2 : wr.cell? ⟨W.heap.size, 2, none⟩ = some (.int .i64 s.keep) := HF.out.cells.2.2.1
                have c3 : wr.cell? ⟨W.heap.size, 3, none⟩ = some (.int .i64 ((s.last : Int) + 1)) := HF.out.cells.2.2.2.1
                have c4 : wr.cell? ⟨W.heap.size, 4, none⟩ = some (.slice (some ⟨g, 0, none⟩) s.all.length c6) := HF.out.cells.2.2.2.2
                have cz : ∀ o, wr.frozen? ⟨W.heap.size, o, none⟩ = false := HF.out.thaw
                have d0 : wr.cell? ⟨W.heap.size + 1, 0, none⟩ = some (.int .i64 0) := HF.out.res.1
                have d1 : wr.cell? ⟨W.heap.size + 1, 1, none⟩ = some (.int .i64 0) := HF.out.res.2.1
                have d2 : wr.cell? ⟨W.heap.size + 1, 2, none⟩ = some (.int .i64 0) := HF.out.res.2.2.1
                have d3 : wr.cell? ⟨W.heap.size + 1, 3, none⟩ = some (.int .i64 0) := HF.out.res.2.2.2.1
                have d4 : wr.cell? ⟨W.heap.size + 1, 4, none⟩ = some (.slice none 0 0) := HF.out.res.2.2.2.2.1
                have dz : ∀ o, wr.frozen? ⟨W.heap.size + 1, o, none⟩ = false := HF.out.res.2.2.2.2.2
                by_cases hlt : j < s.all.length
                · have hlt1 : j < s1.all.length := by rw [hal]; exact hlt
                  obtain ⟨b', o', s1', s2', s3', e, -, hi1, -⟩ := rsn_at (HX.out _ HBR.out) hlt1
                  simp only [Option.some.injEq, Addr.mk.injEq, and_true] at e
                  obtain ⟨rfl, rfl⟩ := e
                  obtain ⟨cs, hat, hrvM⟩ : ∃ cs, (∀ j' v, cs[j']? = some v → mem wr g (0 + j * 6 + j') = some v) ∧ tRSn.rv (jn M W w18) cs s1.all[j] := by
                    obtain ⟨b', o', e', cs, h1, h2⟩ := slice_at HRA.out hlt1
                    simp only [Option.some.injEq, Addr.mk.injEq, and_true] at e'
                    obtain ⟨rfl, rfl⟩ := e'
                    exact ⟨cs, fun j' v hv => below_mem HBR.out _ _ _ (HMJ.out _ _ _ (h1 j' v hv)), h2⟩
                  obtain ⟨t1, t2, t3, rfl, hok12, r1, r2, r3⟩ := hrvM
                  rw [Nat.zero_add] at hat
                  have e0 : wr.cell? ⟨g, j * 6, none⟩ = some (.int .i64 s1.all[j].1) := hat 0 _ rfl
                  have e1 : wr.cell? ⟨g, j * 6 + 1, none⟩ = some (.string s1.all[j].2.name) := hat 1 _ rfl
                  have e2 : wr.cell? ⟨g, j * 6 + 2, none⟩ = some (.bool s1.all[j].2.done) := hat 2 _ rfl
                  have e3 : wr.cell? ⟨g, j * 6 + 3, none⟩ = some t1 := hat 3 _ rfl
                  have e4 : wr.cell? ⟨g, j * 6 + 4, none⟩ = some t2 := hat 4 _ rfl
                  have e5 : wr.cell? ⟨g, j * 6 + 5, none⟩ = some t3 := hat 5 _ rfl
                  obtain ⟨u1, q1, rfl, -⟩ := slice_form r1
                  obtain ⟨u2, q2, rfl, -⟩ := slice_form r2
                  obtain ⟨u3, q3, rfl, -⟩ := slice_form r3
                  have HRV := Lib.hid (show tRSn.rv (jn M W w18) [.int .i64 s1.all[j].1, .string s1.all[j].2.name, .bool s1.all[j].2.done, .slice u1 s1.all[j].2.bits.length q1, .slice u2 s1.all[j].2.texts.length q2, .slice u3 s1.all[j].2.rents.length q3] s1.all[j] from ⟨_, _, _, rfl, hok12, r1, r2, r3⟩)
                  have HTK := Lib.hid (show (s1.all.take (j + 1)).filter (keepT k) = (s1.all.take j).filter (keepT k) ++ (if keepT k s1.all[j] = true then [s1.all[j]] else []) from by
                    rw [List.take_succ_eq_append_getElem hlt1, List.filter_append, List.filter_cons, List.filter_nil])
                  have HKD := Lib.hid (show keepT k s1.all[j] = (s1.all[j].2.done || decide (k < s1.all[j].1)) from rfl)
                  have HLL := Lib.hid (show ((s1.all.take j).filter (keepT k)).length ≤ 1000 from Nat.le_trans (List.length_filter_le _ _) (by rw [List.length_take]; omega))
                  clear hat hok12 r1 r2 r3
                  generalize ((s1.all.take j).filter (keepT k)) = l at *
                  generalize s1.all[j] = y at *
                  obtain ⟨yk, yn, yt⟩ := y
                  simp only at e0 e1 e2 e3 e4 e5 HRV HKD hi1
                  generalize (Sn.mk yn yt).done = yd at *
                  generalize (Sn.mk yn yt).bits.length = m1 at *
                  generalize (Sn.mk yn yt).texts.length = m2 at *
                  generalize (Sn.mk yn yt).rents.length = m3 at *
                  obtain ⟨al, cl, hvl, _⟩ := HO.out.len
                  subst hvl
                  have HSZ := Lib.hid HBR.out.size
                  generalize hkk : keepT k (yk, ⟨yn, yt⟩) = kk at *
                  cases kk with
                  | false =>
                    have hkd := HKD.out
                    have hyd : yd = false := by cases yd; rfl; simp at hkd
                    subst hyd
                    have hny : ¬ (k < yk) := by simpa using hkd.symm
                    have HO4 := Lib.hid (show Owns (tIn (jn M W w18) tRSn) wr w18.heap.size 102 (.slice al l.length cl) ((s1.all.take (j + 1)).filter (keepT k)) by rw [HTK.out, if_neg (by simp), List.append_nil]; exact HO.out)
                    clear HKD HTK HRV hkd hkk HO
                    go_wp2
                    go_roundw
                    case rel => exact ⟨j + 1, by omega, by go_num, HO4, HBR⟩
                    case measure => simp [intOf]; omega
                  | true =>
                    have HTL := Lib.hid (show l ++ [(yk, ⟨yn, yt⟩)] = (s1.all.take (j + 1)).filter (keepT k) by rw [HTK.out, if_pos rfl])
                    have HOO := Lib.hid (own_one (M := jn M W w18) wr (B := w18.heap.size) HSZ.out HRV.out)
                    have HSR := Lib.hid (show (tSlice (tIn (jn M W w18) tRSn)).rv (mem (wr.alloc (.cells #[.int .i64 yk, .string yn, .bool yd, .slice u1 m1 q1, .slice u2 m2 q2, .slice u3 m3 q3] 102))) [.slice (some ⟨wr.heap.size, 0, none⟩) 1 1] [(yk, ⟨yn, yt⟩)] from HOO.out.rv')
                    clear HTK HRV hkk HOO
                    have hkd := HKD.out
                    clear HKD
                    rcases (show yd = true ∨ (yd = false ∧ k < yk) from by cases yd; right; exact ⟨rfl, by simpa using hkd.symm⟩; left; rfl) with rfl | ⟨rfl, hky⟩
                    all_goals
                      clear hkd
                      go_wp2_with (at_builtin; refine wpList_append_flat rfl _ _ 29 rfl (tIn_flat (jn M W w18) tRSn) (tRSn_one (jn M W w18)) Tryz.underlying29 infoRSn rfl (Nat.succ_pos 5) w18.heap.size _ l [(yk, ⟨yn, yt⟩)] rfl (HO.out.alloc _) _ _ _ rfl rfl (HSR.out) ?c1 ?c2 ?c3 ?_)
                      case c1 => have := HLL.out; simp; unfold maxLen; omega
                      case c2 => have := HLL.out; simp; omega
                      case c3 => have := HSZ.out; simp; omega
                      intro v' w6x own6 hgrow
                      have HB6 := Lib.hid (show Below w18.heap.size w18 w6x from (HBR.out.alloc HBR.out.size _).grown hgrow (by have := HSZ.out; simp; omega) (fun k hk => ((HO.out).lt k hk).1))
                      obtain ⟨a6, cap6, rfl, _⟩ := own6.len
                      have HO6 := Lib.hid (show Owns (tIn (jn M W w18) tRSn) w6x w18.heap.size 102 (.slice a6 (l ++ [(yk, (⟨yn, yt⟩ : Sn))]).length cap6) ((s1.all.take (j + 1)).filter (keepT k)) by rw [← HTL.out]; exact own6)
                      clear own6 hgrow HO HSR
                      go_wp2
                      go_roundw
                      case rel => exact ⟨j + 1, by omega, by go_num, HO6, HB6⟩
                      case measure => simp [intOf]; omega
                · obtain rfl : j = s.all.length := by omega
                  rw [← hal, List.take_length, ← HKX.out] at HO
                  generalize hs3 : s1.dels (s1.pend.filter (fun j => decide (j < k))) = S3 at *
                  obtain ⟨a7, c7, hv7, _⟩ := HO.out.len
                  subst hv7
                  have HR7 := Lib.hid (show tRSns.rv (jn M W wr) [.slice a7 S3.all.length c7] S3.all from slice_in ((tSlice (tIn (jn M W w18) tRSn)).mono _ _ _ _ nw_jn (show (tSlice (tIn (jn M W w18) tRSn)).rv (nw W wr) [.slice a7 S3.all.length c7] S3.all from HO.out.rv (S := (W.heap.size + 2 ≤ ·)) (fun k e => Nat.le_trans HF18.out.sz e) (fun _ _ _ h => h))) (jn_grow HBR.out))
                  have HOK3 := Lib.hid (show VOk S3 from by rw [← hs3]; exact HOK1.out.dels _)
                  have HN3 := Lib.hid (show S3.tasks = s.tasks ∧ S3.most = s.most ∧ S3.keep = s.keep ∧ S3.last = s.last from by rw [← hs3]; exact HN1.out)
                  have hl3 : S3.all.length ≤ 1000 := by rw [← hs3]; exact Nat.le_trans (List.length_filter_le _ _) (by rw [hal]; exact hl)
                  have HF8 := Lib.hid (HF.out.set4 (.slice a7 S3.all.length c7))
                  have HN8 := Lib.hid (jn_set (M := M) (W := W) (w := wr) (b := W.heap.size) (o := 4) (u := .slice a7 S3.all.length c7) (by omega))
                  have HV8 := Lib.hid (show RV (jn M W (wr.setCell ⟨W.heap.size, 4, none⟩ (.slice a7 S3.all.length c7))) S3 (.slice a7 S3.all.length c7) from ⟨tRSns.mono _ _ _ _ HN8.out HR7.out, HOK3.out⟩)
                  have HVW := Lib.hid (show rvV S3 (.slice a7 S3.all.length c7) = .agg #[.int .i64 s.tasks, .int .i64 s.most, .int .i64 s.keep, .int .i64 ((s.last : Int) + 1), .slice a7 S3.all.length c7] from by obtain ⟨h1, h2, h3, h4⟩ := HN3.out; simp only [rvV, h1, h2, h3, h4])
                  have HTD3 := Lib.hid (refTidy_any S3 _ _ (wr.setCell ⟨W.heap.size, 4, none⟩ (.slice a7 S3.all.length c7)) (jn_le HM.out HF8.out.bl) HV8.out hl3)
                  rw [HVW.out] at HTD3
                  have hz8 := HF8.out.sz
                  have x4 : (wr.setCell ⟨W.heap.size, 4, none⟩ (.slice a7 S3.all.length c7)).cell? ⟨W.heap.size, 4, none⟩ = some (.slice a7 S3.all.length c7) := HF8.out.cells.2.2.2.2
                  clear HO HX HRA HR7 HN8 HV8 HF hs3 HKX
                  go_wp2_with fail
                  refine HTD3.out.mono ?_
                  rintro e w8x ⟨a8, hb8, rfl, hv8⟩
                  have HF9 := Lib.hid (HF8.out.pure hb8)
                  obtain ⟨a9, c9, rfl, -⟩ := slice_form hv8.ha
                  have HV9 := Lib.hid (hv8.mono (jn_step hb8 hz8))
                  clear hb8 hv8 HTD3 x4
                  have HVV := Lib.hid (show rvV S3.dropped (.slice a9 S3.dropped.all.length c9) = .agg #[.int .i64 s.tasks, .int .i64 s.most, .int .i64 s.keep, .int .i64 ((s.last : Int) + 1), .slice a9 S3.dropped.all.length c9] from by
                    obtain ⟨h1, h2, h3, h4⟩ := HN3.out
                    show Value.agg #[.int .i64 S3.tasks, .int .i64 S3.most, .int .i64 S3.keep, .int .i64 ((S3.last : Int) + 1), .slice a9 S3.dropped.all.length c9] = _
                    rw [h1, h2, h3, h4])
                  generalize hn9 : S3.dropped.all.length = n9 at *
                  rw [HVV.out]
                  clear c0 c1 c2 c3 c4 cz d0 d1 d2 d3 d4 dz
                  have c0 : w8x.cell? ⟨W.heap.size, 0, none⟩ = some (.int .i64 s.tasks) := HF9.out.cells.1
                  have c1 : w8x.cell? ⟨W.heap.size, 1, none⟩ = some (.int .i64 s.most) := HF9.out.cells.2.1
                  have c2 : w8x.cell? ⟨W.heap.size, 2, none⟩ = some (.int .i64 s.keep) := HF9.out.cells.2.2.1
                  have c3 : w8x.cell? ⟨W.heap.size, 3, none⟩ = some (.int .i64 ((s.last : Int) + 1)) := HF9.out.cells.2.2.2.1
                  have c4 : w8x.cell? ⟨W.heap.size, 4, none⟩ = some (.slice a7 S3.all.length c7) := HF9.out.cells.2.2.2.2
                  have cz : ∀ o, w8x.frozen? ⟨W.heap.size, o, none⟩ = false := HF9.out.thaw
                  have d0 : w8x.cell? ⟨W.heap.size + 1, 0, none⟩ = some (.int .i64 0) := HF9.out.res.1
                  have d1 : w8x.cell? ⟨W.heap.size + 1, 1, none⟩ = some (.int .i64 0) := HF9.out.res.2.1
                  have d2 : w8x.cell? ⟨W.heap.size + 1, 2, none⟩ = some (.int .i64 0) := HF9.out.res.2.2.1
                  have d3 : w8x.cell? ⟨W.heap.size + 1, 3, none⟩ = some (.int .i64 0) := HF9.out.res.2.2.2.1
                  have d4 : w8x.cell? ⟨W.heap.size + 1, 4, none⟩ = some (.slice none 0 0) := HF9.out.res.2.2.2.2.1
                  have dz : ∀ o, w8x.frozen? ⟨W.heap.size + 1, o, none⟩ = false := HF9.out.res.2.2.2.2.2
                  go_wp2
                  have r1 := store5_block HF9.out.rs (.int .i64 s.tasks) (.int .i64 s.most) (.int .i64 s.keep) (.int .i64 ((s.last : Int) + 1)) (.slice a9 n9 c9)
                  have hBz := store5_below HF9.out.bl (Nat.le_succ _) (.int .i64 s.tasks) (.int .i64 s.most) (.int .i64 s.keep) (.int .i64 ((s.last : Int) + 1)) (.slice a9 n9 c9)
                  have hnz : (nw W w8x).le (nw W (store5 w8x (W.heap.size + 1) (.int .i64 s.tasks) (.int .i64 s.most) (.int .i64 s.keep) (.int .i64 ((s.last : Int) + 1)) (.slice a9 n9 c9))) := nw_store5 (.int .i64 s.tasks) (.int .i64 s.most) (.int .i64 s.keep) (.int .i64 ((s.last : Int) + 1)) (.slice a9 n9 c9)
                  show bodyPost _ _ _ _ _ (store5 w8x (W.heap.size + 1) (.int .i64 s.tasks) (.int .i64 s.most) (.int .i64 s.keep) (.int .i64 ((s.last : Int) + 1)) (.slice a9 n9 c9))
                  generalize store5 w8x (W.heap.size + 1) (.int .i64 s.tasks) (.int .i64 s.most) (.int .i64 s.keep) (.int .i64 ((s.last : Int) + 1)) (.slice a9 n9 c9) = wz at r1 hBz hnz ⊢
                  have g0 : wz.cell? ⟨W.heap.size + 1, 0, none⟩ = some (.int .i64 s.tasks) := mem_cells r1 0
                  have g1 : wz.cell? ⟨W.heap.size + 1, 1, none⟩ = some (.int .i64 s.most) := mem_cells r1 1
                  have g2 : wz.cell? ⟨W.heap.size + 1, 2, none⟩ = some (.int .i64 s.keep) := mem_cells r1 2
                  have g3 : wz.cell? ⟨W.heap.size + 1, 3, none⟩ = some (.int .i64 ((s.last : Int) + 1)) := mem_cells r1 3
                  have g4 : wz.cell? ⟨W.heap.size + 1, 4, none⟩ = some (.slice a9 n9 c9) := mem_cells r1 4
                  exact bodyPost_ret (v := .tuple #[.agg #[.int .i64 s.tasks, .int .i64 s.most, .int .i64 s.keep, .int .i64 ((s.last : Int) + 1), .slice a9 n9 c9], .bool true, .int .i64 0]) (by simp [results, Tryz.results25, go_sem, g0, g1, g2, g3, g4]) rfl ⟨.slice a9 n9 c9, hBz, by rw [HS.out, HAE.out, HVV.out], by rw [HS.out]; exact HV9.out.mono (jn_join HM.out hnz)⟩
end Go.Proofs.YtnfolemblnnejaaGreat
/- does, Tell (printed by gen_vdoes.py). -/
namespace Go.Proofs.YtnfolemblnnejaaGreat
open Go.RowKit Go.Maps
set_option maxRecDepth 100000 in
set_option maxHeartbeats 16000000 in
theorem does_tell (base p N : Nat) (M : Mem) (W : World) (r : HV) (a : Value) (xk xn xt : Int) (nm tx : ByteArray) (es : List Ent) (ve : Value) (c : VRun base p N M W r a) (hx : (⟨xk, xn, xt, nm, tx, es⟩ : VAct).okA) (hsm : (⟨xk, xn, xt, nm, tx, es⟩ : VAct).small) (hve : tEnts.rv M [ve] es) (hN : N ≤ 900) (h40 : xk % 10 = 9 → xt ≤ 40 ∨ 400 < xt) (hkd : ¬ xk % 10 = 0 ∧ ¬ xk % 10 = 6 ∧ ¬ xk % 10 = 7 ∧ ¬ xk % 10 = 8 ∧ ¬ xk % 10 = 9) :
    Calls Tryz.prog 8 #[ptrTo p, rvV r.vs a, .agg #[.int .u8 xk, .int .i64 xn, .int .i64 xt, .string nm, .string tx, ve]] W (DoesOut base p N M W r ⟨xk, xn, xt, nm, tx, es⟩) := by
  obtain ⟨⟨hk0, hk2⟩, hxn, hxt, hnm, htx⟩ := hx
  obtain ⟨hs1, hs2, hs3⟩ := hsm
  simp only at hk0 hk2 hxn hxt hnm htx hs1 hs2 hs3
  have HAV := Lib.hid (show actVS r.vs ⟨xk, xn, xt, nm, tx, es⟩ = r.vs.told xn xt (tx, es) from by unfold actVS; simp only; obtain ⟨q0, q6, q7, q8, q9⟩ := hkd; rw [if_neg (by omega)]; rw [if_neg (by omega)]; rw [if_neg (by omega)]; rw [if_neg (by omega)]; rw [if_neg (by omega)])
  have hkt0 : xk.tmod 10 ≠ 0 := by rw [Int.tmod_eq_emod_of_nonneg hk0]; exact hkd.1
  have hkt6 : xk.tmod 10 ≠ 6 := by rw [Int.tmod_eq_emod_of_nonneg hk0]; exact hkd.2.1
  have hkt7 : xk.tmod 10 ≠ 7 := by rw [Int.tmod_eq_emod_of_nonneg hk0]; exact hkd.2.2.1
  have hkt8 : xk.tmod 10 ≠ 8 := by rw [Int.tmod_eq_emod_of_nonneg hk0]; exact hkd.2.2.2.1
  have hkt9 : xk.tmod 10 ≠ 9 := by rw [Int.tmod_eq_emod_of_nonneg hk0]; exact hkd.2.2.2.2
  clear hk0 hk2 h40
  have HVE := Lib.hid hve
  obtain ⟨aa, ca, rfl, hla, hma, hra⟩ := slice_form c.rat.ha
  obtain ⟨ae, ke, rfl, hle, hme, -⟩ := slice_form hve
  have hca : ca ≤ 9223372036854775807 := by unfold maxLen at hma; exact hma
  have hke : ke ≤ 9223372036854775807 := by unfold maxLen at hme; exact hme
  have HB := Lib.hid (show Below W.heap.size W (((W.alloc (.cells #[.int .i64 r.vs.tasks, .int .i64 r.vs.most, .int .i64 r.vs.keep, .int .i64 ((r.vs.last : Int) + 1), .slice aa r.vs.all.length ca] 31)).alloc (.cells #[.int .u8 xk, .int .i64 xn, .int .i64 xt, .string nm, .string tx, .slice ae es.length ke] 36)).alloc (.cells #[.int .i64 0, .int .i64 0, .int .i64 0, .int .i64 0, .slice none 0 0] 31)) from (((Below.refl W.heap.size W).alloc (Nat.le_refl _) _).alloc (by simp) _).alloc (by simp; omega) _)
  have hY : ∀ (b : Nat) (o o' : Obj) (w : World), w.heap[b]? = some o → (w.alloc o').heap[b]? = some o := fun b o o' w e => (Below.heap_alloc _ _ _ (Array.getElem?_eq_some_iff.1 e).1).trans e
  have y4 : (((W.alloc (.cells #[.int .i64 r.vs.tasks, .int .i64 r.vs.most, .int .i64 r.vs.keep, .int .i64 ((r.vs.last : Int) + 1), .slice aa r.vs.all.length ca] 31)).alloc (.cells #[.int .u8 xk, .int .i64 xn, .int .i64 xt, .string nm, .string tx, .slice ae es.length ke] 36)).alloc (.cells #[.int .i64 0, .int .i64 0, .int .i64 0, .int .i64 0, .slice none 0 0] 31)).heap[W.heap.size]? = some (.cells #[.int .i64 r.vs.tasks, .int .i64 r.vs.most, .int .i64 r.vs.keep, .int .i64 ((r.vs.last : Int) + 1), .slice aa r.vs.all.length ca] 31 (0, 0)) := hY _ _ _ _ (hY _ _ _ _ (heap_alloc_new W _))
  have y5 : (((W.alloc (.cells #[.int .i64 r.vs.tasks, .int .i64 r.vs.most, .int .i64 r.vs.keep, .int .i64 ((r.vs.last : Int) + 1), .slice aa r.vs.all.length ca] 31)).alloc (.cells #[.int .u8 xk, .int .i64 xn, .int .i64 xt, .string nm, .string tx, .slice ae es.length ke] 36)).alloc (.cells #[.int .i64 0, .int .i64 0, .int .i64 0, .int .i64 0, .slice none 0 0] 31)).heap[W.heap.size + 1]? = some (.cells #[.int .u8 xk, .int .i64 xn, .int .i64 xt, .string nm, .string tx, .slice ae es.length ke] 36 (0, 0)) := hY _ _ _ _ (by have h := heap_alloc_new (W.alloc (.cells #[.int .i64 r.vs.tasks, .int .i64 r.vs.most, .int .i64 r.vs.keep, .int .i64 ((r.vs.last : Int) + 1), .slice aa r.vs.all.length ca] 31)) (.cells #[.int .u8 xk, .int .i64 xn, .int .i64 xt, .string nm, .string tx, .slice ae es.length ke] 36); rw [World.size_alloc] at h; exact h)
  have yR : (((W.alloc (.cells #[.int .i64 r.vs.tasks, .int .i64 r.vs.most, .int .i64 r.vs.keep, .int .i64 ((r.vs.last : Int) + 1), .slice aa r.vs.all.length ca] 31)).alloc (.cells #[.int .u8 xk, .int .i64 xn, .int .i64 xt, .string nm, .string tx, .slice ae es.length ke] 36)).alloc (.cells #[.int .i64 0, .int .i64 0, .int .i64 0, .int .i64 0, .slice none 0 0] 31)).heap[W.heap.size + 1 + 1]? = some (.cells #[.int .i64 0, .int .i64 0, .int .i64 0, .int .i64 0, .slice none 0 0] 31 (0, 0)) := by have h := heap_alloc_new ((W.alloc (.cells #[.int .i64 r.vs.tasks, .int .i64 r.vs.most, .int .i64 r.vs.keep, .int .i64 ((r.vs.last : Int) + 1), .slice aa r.vs.all.length ca] 31)).alloc (.cells #[.int .u8 xk, .int .i64 xn, .int .i64 xt, .string nm, .string tx, .slice ae es.length ke] 36)) (.cells #[.int .i64 0, .int .i64 0, .int .i64 0, .int .i64 0, .slice none 0 0] 31); rw [World.size_alloc, World.size_alloc] at h; exact h
  obtain ⟨M1, hMid, hM1, hnew1, hrat⟩ := c.start HB.out (R := W.heap.size + 1 + 1) yR (by omega)
  have HRAT := Lib.hid hrat
  have HM1 := Lib.hid hM1
  have hbR : W.heap.size ≤ W.heap.size + 1 + 1 := by omega
  have hlast := c.last
  have HLN := Lib.hid c.len
  have HOK := Lib.hid c.inv.ok
  have HC4 := Lib.hid (fun (wq : World) (hq : M1.le (mem wq)) => (show wq.cell? ⟨W.heap.size, 0, none⟩ = some (.int .i64 r.vs.tasks) ∧ wq.cell? ⟨W.heap.size, 1, none⟩ = some (.int .i64 r.vs.most) ∧ wq.cell? ⟨W.heap.size, 2, none⟩ = some (.int .i64 r.vs.keep) ∧ wq.cell? ⟨W.heap.size, 3, none⟩ = some (.int .i64 ((r.vs.last : Int) + 1)) ∧ wq.cell? ⟨W.heap.size, 4, none⟩ = some (.slice aa r.vs.all.length ca) from ⟨hq _ _ _ (hnew1 _ _ _ (Mem.on_some (mem_cells y4 0) ⟨by omega, by omega⟩)), hq _ _ _ (hnew1 _ _ _ (Mem.on_some (mem_cells y4 1) ⟨by omega, by omega⟩)), hq _ _ _ (hnew1 _ _ _ (Mem.on_some (mem_cells y4 2) ⟨by omega, by omega⟩)), hq _ _ _ (hnew1 _ _ _ (Mem.on_some (mem_cells y4 3) ⟨by omega, by omega⟩)), hq _ _ _ (hnew1 _ _ _ (Mem.on_some (mem_cells y4 4) ⟨by omega, by omega⟩))⟩))
  have HC5 := Lib.hid (fun (wq : World) (hq : M1.le (mem wq)) => (show wq.cell? ⟨W.heap.size + 1, 0, none⟩ = some (.int .u8 xk) ∧ wq.cell? ⟨W.heap.size + 1, 1, none⟩ = some (.int .i64 xn) ∧ wq.cell? ⟨W.heap.size + 1, 2, none⟩ = some (.int .i64 xt) ∧ wq.cell? ⟨W.heap.size + 1, 3, none⟩ = some (.string nm) ∧ wq.cell? ⟨W.heap.size + 1, 4, none⟩ = some (.string tx) ∧ wq.cell? ⟨W.heap.size + 1, 5, none⟩ = some (.slice ae es.length ke) from ⟨hq _ _ _ (hnew1 _ _ _ (Mem.on_some (mem_cells y5 0) ⟨by omega, by omega⟩)), hq _ _ _ (hnew1 _ _ _ (Mem.on_some (mem_cells y5 1) ⟨by omega, by omega⟩)), hq _ _ _ (hnew1 _ _ _ (Mem.on_some (mem_cells y5 2) ⟨by omega, by omega⟩)), hq _ _ _ (hnew1 _ _ _ (Mem.on_some (mem_cells y5 3) ⟨by omega, by omega⟩)), hq _ _ _ (hnew1 _ _ _ (Mem.on_some (mem_cells y5 4) ⟨by omega, by omega⟩)), hq _ _ _ (hnew1 _ _ _ (Mem.on_some (mem_cells y5 5) ⟨by omega, by omega⟩))⟩))
  clear hY y4 y5 yR hnew1 hra hma hme hM1 hrat c hve
  go_enter Tryz.func8, Tryz.ntmps8
  go_upto_region 1 with fail
  generalize ((W.alloc (.cells #[.int .i64 r.vs.tasks, .int .i64 r.vs.most, .int .i64 r.vs.keep, .int .i64 ((r.vs.last : Int) + 1), .slice aa r.vs.all.length ca] 31)).alloc (.cells #[.int .u8 xk, .int .i64 xn, .int .i64 xt, .string nm, .string tx, .slice ae es.length ke] 36)).alloc (.cells #[.int .i64 0, .int .i64 0, .int .i64 0, .int .i64 0, .slice none 0 0] 31) = Y at HB hMid ⊢
  have HMI := Lib.hid hMid
  obtain ⟨c0, c1, c2, c3, c4⟩ := HC4.out Y hMid.le
  obtain ⟨d0, d1, d2, d3, d4, d5⟩ := HC5.out Y hMid.le
  clear hMid
  go_upto_region 2 with fail
  have q0 : (xk.tmod 10 == 0) = false := by rw [beq_eq_false_iff_ne]; exact hkt0
  have q6 : (xk.tmod 10 == 6) = false := by rw [beq_eq_false_iff_ne]; exact hkt6
  have q7 : (xk.tmod 10 == 7) = false := by rw [beq_eq_false_iff_ne]; exact hkt7
  have q8 : (xk.tmod 10 == 8) = false := by rw [beq_eq_false_iff_ne]; exact hkt8
  have q9 : (xk.tmod 10 == 9) = false := by rw [beq_eq_false_iff_ne]; exact hkt9
  generalize xk.tmod 10 = xr at *
  have HSL := Lib.hid (show (r.vs.told xn xt (tx, es)).last ≤ N + 1 from by have := last_told r.vs xn xt (tx, es); omega)
  go_wp2_with fail
  refine (vTell_any xn xt (tx, es) (.slice ae es.length ke) Y HMI.out.inv hxn hxt (by simp only; omega) (tEnts.mono _ _ _ _ (Mem.le_trans HM1.out (Mem.le_trans HMI.out.mem (Mem.on_le _ _))) HVE.out) (by simp only; omega)).mono ?_
  rintro e w0 ⟨rfl, r5, st, hv5⟩
  have HV5 := Lib.hid (show r5.vs = r.vs.told xn xt (tx, es) from hv5)
  have HMid1 := Lib.hid (show VMid base p (N + 1) M1 (W.heap.size + 1 + 1) (W, r, M) w0 r5 from HMI.out.step st (by rw [HV5.out]; exact HSL.out))
  clear st hv5 c0 c1 c2 c3 c4 d0 d1 d2 d3 d4 d5
  obtain ⟨c0, c1, c2, c3, c4⟩ := HC4.out w0 HMid1.out.le
  obtain ⟨d0, d1, d2, d3, d4, d5⟩ := HC5.out w0 HMid1.out.le
  go_wp2_with fail
  refine (refTell_any r.vs _ M1 w0 HMid1.out.le HRAT.out (by have := HLN.out; omega) xn xt hxn hxt (tx, es) _ (tEnts.mono _ _ _ _ HM1.out HVE.out) (by simp only; omega) (by simp only; omega)).mono ?_
  rintro e w1 ⟨a', hb1, rfl, hr1⟩
  generalize r.vs.told xn xt (tx, es) = s2 at *
  generalize tellAns r.vs xn xt (tx, es) = ta at *
  obtain ⟨t1, t2⟩ := ta
  obtain ⟨a2, k2, rfl, hl2, hm2, -⟩ := slice_form hr1.ha
  have hk2 : k2 ≤ 9223372036854775807 := by unfold maxLen at hm2; exact hm2
  clear hm2
  have hc1 : (t1 == t1) = true := by simp
  have hc2 : (t2 == t2) = true := by simp
  have hbA := hb1.alloc hb1.size (.cells #[.int .i64 s2.tasks, .int .i64 s2.most, .int .i64 s2.keep, .int .i64 ((s2.last : Int) + 1), .slice a2 s2.all.length k2] 31)
  have HMid2 := Lib.hid (HMid1.out.grow hbA)
  have HMM := Lib.hid (joinM_le (W' := w1.alloc (.cells #[.int .i64 s2.tasks, .int .i64 s2.most, .int .i64 s2.keep, .int .i64 ((s2.last : Int) + 1), .slice a2 s2.all.length k2] 31)) HMid1.out.le)
  have HC8 := Lib.hid (fun (wq : World) (hq : (joinM M1 w0 (w1.alloc (.cells #[.int .i64 s2.tasks, .int .i64 s2.most, .int .i64 s2.keep, .int .i64 ((s2.last : Int) + 1), .slice a2 s2.all.length k2] 31))).le (mem wq)) => (show wq.cell? ⟨w1.heap.size, 0, none⟩ = some (.int .i64 s2.tasks) ∧ wq.cell? ⟨w1.heap.size, 1, none⟩ = some (.int .i64 s2.most) ∧ wq.cell? ⟨w1.heap.size, 2, none⟩ = some (.int .i64 s2.keep) ∧ wq.cell? ⟨w1.heap.size, 3, none⟩ = some (.int .i64 ((s2.last : Int) + 1)) ∧ wq.cell? ⟨w1.heap.size, 4, none⟩ = some (.slice a2 s2.all.length k2) from ⟨hq _ _ _ (joinM_new _ _ _ (Mem.on_some (cell_new 0 rfl) hb1.size)), hq _ _ _ (joinM_new _ _ _ (Mem.on_some (cell_new 1 rfl) hb1.size)), hq _ _ _ (joinM_new _ _ _ (Mem.on_some (cell_new 2 rfl) hb1.size)), hq _ _ _ (joinM_new _ _ _ (Mem.on_some (cell_new 3 rfl) hb1.size)), hq _ _ _ (joinM_new _ _ _ (Mem.on_some (cell_new 4 rfl) hb1.size))⟩))
  have HRF2 := Lib.hid (hr1.mono (show (joinM M1 w0 w1).le (joinM M1 w0 (w1.alloc (.cells #[.int .i64 s2.tasks, .int .i64 s2.most, .int .i64 s2.keep, .int .i64 ((s2.last : Int) + 1), .slice a2 s2.all.length k2] 31))) from joinM_mono ((Below.refl _ _).alloc (Nat.le_refl _) _)))
  clear hbA hb1 hr1 c0 c1 c2 c3 c4 d0 d1 d2 d3 d4 d5
  go_upto_region 21 with fail
  generalize w1.alloc (.cells #[.int .i64 s2.tasks, .int .i64 s2.most, .int .i64 s2.keep, .int .i64 ((s2.last : Int) + 1), .slice a2 s2.all.length k2] 31) = X at *
  generalize w1.heap.size = nb at *
  generalize joinM M1 w0 X = M2 at *
  obtain ⟨c0, c1, c2, c3, c4⟩ := HC4.out X (Mem.le_trans HMM.out HMid2.out.le)
  obtain ⟨d0, d1, d2, d3, d4, d5⟩ := HC5.out X (Mem.le_trans HMM.out HMid2.out.le)
  obtain ⟨n0, n1, n2, n3, n4⟩ := HC8.out X HMid2.out.le
  obtain ⟨z0, z1, z2, z3, z4, zz⟩ := HMid2.out.res; have zz0 := zz 0; have zz1 := zz 1; have zz2 := zz 2; have zz3 := zz 3; have zz4 := zz 4; clear zz
  go_wp2
  have r1 := store5_block (HMid2.out.hR) (.int .i64 s2.tasks) (.int .i64 s2.most) (.int .i64 s2.keep) (.int .i64 ((s2.last : Int) + 1)) (.slice a2 s2.all.length k2)
  have hk := store5_keeps (X) (W.heap.size + 1 + 1) (.int .i64 s2.tasks) (.int .i64 s2.most) (.int .i64 s2.keep) (.int .i64 ((s2.last : Int) + 1)) (.slice a2 s2.all.length k2)
  show bodyPost _ _ _ _ _ (store5 (X) (W.heap.size + 1 + 1) (.int .i64 s2.tasks) (.int .i64 s2.most) (.int .i64 s2.keep) (.int .i64 ((s2.last : Int) + 1)) (.slice a2 s2.all.length k2))
  generalize store5 (X) (W.heap.size + 1 + 1) (.int .i64 s2.tasks) (.int .i64 s2.most) (.int .i64 s2.keep) (.int .i64 ((s2.last : Int) + 1)) (.slice a2 s2.all.length k2) = wz at r1 hk ⊢
  have g0 : wz.cell? ⟨W.heap.size + 1 + 1, 0, none⟩ = some (.int .i64 s2.tasks) := mem_cells r1 0
  have g1 : wz.cell? ⟨W.heap.size + 1 + 1, 1, none⟩ = some (.int .i64 s2.most) := mem_cells r1 1
  have g2 : wz.cell? ⟨W.heap.size + 1 + 1, 2, none⟩ = some (.int .i64 s2.keep) := mem_cells r1 2
  have g3 : wz.cell? ⟨W.heap.size + 1 + 1, 3, none⟩ = some (.int .i64 ((s2.last : Int) + 1)) := mem_cells r1 3
  have g4 : wz.cell? ⟨W.heap.size + 1 + 1, 4, none⟩ = some (.slice a2 s2.all.length k2) := mem_cells r1 4
  refine bodyPost_ret (v := .tuple #[.agg #[.int .i64 s2.tasks, .int .i64 s2.most, .int .i64 s2.keep, .int .i64 ((s2.last : Int) + 1), .slice a2 s2.all.length k2], .bool true]) (by simp [results, Tryz.results8, go_sem, g0, g1, g2, g3, g4]) rfl ?_
  have hf := HMid2.out.finish hk hbR (by rw [HV5.out]; exact HRF2.out)
  exact ⟨_, _, M2, by rw [HV5.out] <;> rfl, hf.1, Mem.le_trans HM1.out HMM.out, hf.2, by rw [HV5.out, HAV.out]⟩
end Go.Proofs.YtnfolemblnnejaaGreat
/- does: all kinds of acts; the law's steps, told plainly. -/
namespace Go.Proofs.YtnfolemblnnejaaGreat
open Go.RowKit Go.Maps

@[reducible] def VAct.v (x : VAct) (ve : Value) : Value := .agg #[.int .u8 x.k, .int .i64 x.n, .int .i64 x.t, .string x.nm, .string x.tx, ve]
theorem does_any (base p N : Nat) (M : Mem) (W : World) (r : HV) (a : Value) (x : VAct) (ve : Value) (c : VRun base p N M W r a) (hx : x.okA) (hsm : x.small) (hve : tEnts.rv M [ve] x.es) (hN : N ≤ 900) (h40 : x.k % 10 = 9 → x.t ≤ 40 ∨ 400 < x.t) :
    Calls Tryz.prog 8 #[ptrTo p, rvV r.vs a, x.v ve] W (DoesOut base p N M W r x) := by
  obtain ⟨xk, xn, xt, nm, tx, es⟩ := x
  by_cases e0 : xk % 10 = 0
  · exact does_trigger base p N M W r a xk xn xt nm tx es ve c hx hsm hve hN h40 e0
  by_cases e6 : xk % 10 = 6
  · exact does_decline base p N M W r a xk xn xt nm tx es ve c hx hsm hve hN h40 e6
  by_cases e7 : xk % 10 = 7
  · exact does_fall base p N M W r a xk xn xt nm tx es ve c hx hsm hve hN h40 e7
  by_cases e8 : xk % 10 = 8
  · exact does_forget base p N M W r a xk xn xt nm tx es ve c hx hsm hve hN h40 e8
  by_cases e9 : xk % 10 = 9
  · exact does_retask base p N M W r a xk xn xt nm tx es ve c hx hsm hve hN h40 e9
  · exact does_tell base p N M W r a xk xn xt nm tx es ve c hx hsm hve hN h40 ⟨e0, e6, e7, e8, e9⟩
theorem VLaw.more {base p N R : Nat} {M : Mem} {o W : World} {r : HV} {a : Value} {arr : Array Value} (c : VLaw base p N M R o W r a arr) : VLaw base p (N + 1) M R o W r a arr := ⟨c.inv, c.mem, Nat.le_succ_of_le c.last, c.rat, c.hR, c.hz, c.nR, c.bl, c.ob, c.oR⟩
end Go.Proofs.YtnfolemblnnejaaGreat
