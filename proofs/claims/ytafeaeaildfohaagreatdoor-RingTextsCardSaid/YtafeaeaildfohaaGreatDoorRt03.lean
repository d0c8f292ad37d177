/- Part 3 of the texts that the law's proof stands on, merged. -/
import Derived.Deep.Cut
import Derived.Lib.IndexMore
import Derived.Test.YtafeaeaildfohaaGreatDoorRt02
set_option linter.unusedVariables false
set_option linter.unusedSimpArgs false
/- ring.follow: what stands between two rounds of its loops. -/
namespace Go.Proofs.YtafeaeaildfohaaGreatDoor
open Go.RowKit Go.Maps

def FolOut (W : World) (rules : List Rul) (facts : List Fct) (e : Ending) (w' : World) : Prop :=
  Below W.heap.size W w' ∧ ((followR rules facts = none ∧ e = .returned (.tuple #[.map none, .int .i64 4])) ∨
    ∃ M mb, followR rules facts = some M ∧ e = .returned (.tuple #[.map (some mb), .int .i64 0]) ∧ W.heap.size ≤ mb ∧ FM w' mb M.length (lkR M) ∧ (keysR M).Nodup ∧ ∀ x ∈ keysR M, okF x)
theorem start_zero (l : List Fct) : ∀ y i, lkR (startR l) y = some i → i = 0 := fun y i h => by
  have hy : y ∈ l := (keys_start l y).1 (lkR_some.1 (by rw [h]; rfl))
  have := lkR_adds_new (k := 0) (M := []) l (g := y) (by simp [keysR]) hy
  rw [show lkR (startR l) y = lkR (addsR 0 [] l) y from rfl, this] at h
  injection h with h
  exact h.symm
theorem start_take (l : List Fct) {k : Nat} (h : k < l.length) : startR (l.take (k + 1)) = addR 0 (startR (l.take k)) l[k] := by
  unfold startR
  rw [List.take_succ_eq_append_getElem h, addsR_append]
  rfl
theorem FM.lenRun {W : World} {b : Nat} {M : Rnds} (h : FM W b M.length (lkR M)) (hn : (keysR M).Nodup) (ho : ∀ x ∈ keysR M, okF x) : (Builtin.len_ #[63] 3 #[.map (some b)]).run Tryz.prog W = .ok (.int .i64 M.length) W := by
  obtain ⟨D, hown, hs⟩ := h
  have := hown.len Tryz.underlying63 3
  rwa [FM.size ⟨D, hown, hs⟩ hn ho hown hs] at this
theorem Marks.len0 {base : Nat} {ds : List Deferred} {w : World} (h : Marks base ds w) : ∃ Ds : List Nat, ds = Ds.map (fun D => { target := .collected D, args := #[] }) ∧ Ds.Nodup ∧ ∀ D ∈ Ds, base ≤ D ∧ w.heap[D]? = some (.deferred (some [])) := h

theorem setC_other {w : World} {b q : Nat} {v : Value} (h : q ≠ b) : (w.setCell ⟨b, 0, none⟩ v).heap[q]? = w.heap[q]? := by
  simp [World.setCell, Array.getElem?_modify, Ne.symm h]
/-- Between two rounds. -/
structure R2 (W : World) (rules : List Rul) (facts : List Fct) (ds : List Deferred) (j : Nat) (M : Rnds) (news : Bool) (gj gn : Nat) (w : World) : Prop where
  fst : FSt W w M
  mks : Marks (W.heap.size + 4) ds w
  cj : w.heap[gj]? = some (.cells #[.int .i64 j] 3 (0, 0))
  cn : w.heap[gn]? = some (.cells #[.bool news] 4 (0, 0))
  gj : W.heap.size + 4 ≤ gj
  gn : W.heap.size + 4 ≤ gn
  run : followR rules facts = if news then runR rules (501 - j) j M else some M
  le : M.length ≤ 400
  j1 : 1 ≤ j
  j2 : news = true → j ≤ M.length + 1
/-- What a round of the rules may change. -/
def F3 (W : World) (gn : Nat) (X : World) (q : Nat) : Prop := q = W.heap.size + 2 ∨ q = gn ∨ X.heap.size ≤ q
/-- Between two rules. -/
structure R3 (W We : World) (rules : List Rul) (L : List Fct) (M : Rnds) (j gn i : Nat) (ds : List Deferred) (w : World) : Prop where
  fst : FSt W w (addsR j M (headsAll (rules.take i) L))
  le : (addsR j M (headsAll (rules.take i) L)).length ≤ 400
  mks : Marks (W.heap.size + 4) ds w
  cn : w.heap[gn]? = some (.cells #[.bool (decide (M.length < (addsR j M (headsAll (rules.take i) L)).length))] 4 (0, 0))
  kp : Keeps (F3 W gn We) We w
/-- Between two ways of one rule. -/
structure RI (W X : World) (M N : Rnds) (r : Rul) (j gn : Nat) (pre : List (Bnd × List Fct)) (w : World) : Prop where
  fst : FSt W w (addsR j N (pre.map fun x => headF r x.1))
  le : (addsR j N (pre.map fun x => headF r x.1)).length ≤ 400
  cn : w.heap[gn]? = some (.cells #[.bool (decide (M.length < (addsR j N (pre.map fun x => headF r x.1)).length))] 4 (0, 0))
  kp : Keeps (F3 W gn X) X w
/-- A round left because it is too much. -/
structure RL (W X : World) (N : Rnds) (r : Rul) (j gn : Nat) (pre : List (Bnd × List Fct)) (x : Bnd × List Fct) (w : World) : Prop where
  r4 : w.heap[W.heap.size]? = some (.cells #[.map none] 63 (0, 0))
  r5 : w.heap[W.heap.size + 1]? = some (.cells #[.int .i64 4] 31 (0, 0))
  bl : Below W.heap.size W w
  kp : Keeps (fun q => F3 W gn X q ∨ q = W.heap.size ∨ q = W.heap.size + 1) X w
  big : 400 < (addsR j N ((pre ++ [x]).map fun x => headF r x.1)).length
section
variable {W We X A B : World} {rules : List Rul} {facts L : List Fct} {M N : Rnds} {r : Rul} {j gj gn i : Nat} {ds : List Deferred} {pre : List (Bnd × List Fct)} {x : Bnd × List Fct} {news : Bool}
theorem FSt.low {w w' : World} {M : Rnds} (h : FSt W w M) {F : Nat → Prop} (hk : Keeps F w w') (hF : ∀ q, F q → q = W.heap.size + 2 ∨ W.heap.size + 4 ≤ q) {N : Rnds} (hm : FM w' (W.heap.size + 2) N.length (lkR N)) (hn : (keysR N).Nodup) (ho : ∀ y ∈ keysR N, okF y) : FSt W w' N := by
  have hl := h.lt
  have hb : ∀ q, q < W.heap.size + 4 → q ≠ W.heap.size + 2 → w'.heap[q]? = w.heap[q]? := fun q hq h2 => hk.block q (by omega) (fun e => by rcases hF q e with e | e <;> omega)
  exact ⟨(hb _ (by omega) (by omega)).trans h.r4, (hb _ (by omega) (by omega)).trans h.r5, hm, (hb _ (by omega) (by omega)).trans h.c6, h.bl.trans (hk.below (B := W.heap.size) (by omega) (fun q e => by rcases hF q e with e | e <;> omega)), hn, ho⟩
theorem RI.keeps {F : Nat → Prop} (h : RI W X M N r j gn pre A) (hg : gn < X.heap.size) (hX : W.heap.size + 4 ≤ X.heap.size) (hk : Keeps F A B) (hF : ∀ q, F q → X.heap.size ≤ q) : RI W X M N r j gn pre B :=
  ⟨h.fst.keeps hk (fun q e => Nat.le_trans hX (hF q e)), h.le, (hk.block gn (by have := h.kp.size; omega) (fun e => by have := hF gn e; omega)).trans h.cn, h.kp.trans (hk.wide (fun q _ e => .inr (.inr (hF q e))))⟩
theorem RL.keeps {F : Nat → Prop} (h : RL W X N r j gn pre x A) (hX : W.heap.size + 4 ≤ X.heap.size) (hk : Keeps F A B) (hF : ∀ q, F q → X.heap.size ≤ q) : RL W X N r j gn pre x B :=
  ⟨(hk.block _ (Array.getElem?_eq_some_iff.1 h.r4).1 (fun e => by have := hF _ e; omega)).trans h.r4, (hk.block _ (Array.getElem?_eq_some_iff.1 h.r5).1 (fun e => by have := hF _ e; omega)).trans h.r5,
    h.bl.trans (hk.below (B := W.heap.size) (by have := h.kp.size; omega) (fun q e => by have := hF q e; omega)), h.kp.trans (hk.wide (fun q _ e => .inl (.inr (.inr (hF q e))))), h.big⟩
theorem addsR_snoc (j : Int) (N : Rnds) (l : List Fct) (f : Fct) : addsR j N (l ++ [f]) = addR j (addsR j N l) f := addsR_append j N l [f]
theorem RI.stay (h : RI W X M N r j gn pre A) (hm : headF r x.1 ∈ keysR (addsR j N (pre.map fun x => headF r x.1))) : RI W X M N r j gn (pre ++ [x]) A := by
  have e : addsR j N ((pre ++ [x]).map fun x => headF r x.1) = addsR j N (pre.map fun x => headF r x.1) := by
    rw [List.map_append, List.map_singleton, addsR_snoc]
    unfold addR
    rw [if_pos hm]
  exact ⟨by rw [e]; exact h.fst, by rw [e]; exact h.le, by rw [e]; exact h.cn, h.kp⟩
theorem adds_new (hm : headF r x.1 ∉ keysR (addsR j N (pre.map fun x => headF r x.1))) : addsR j N ((pre ++ [x]).map fun x => headF r x.1) = addsR j N (pre.map fun x => headF r x.1) ++ [(headF r x.1, (j : Int))] := by
  rw [List.map_append, List.map_singleton, addsR_snoc]
  unfold addR
  rw [if_neg hm]
/-- The leftover of a list of rules, too much. -/
theorem headsAll_split (hi : i < rules.length) {y : Bnd × List Fct} {post : List (Bnd × List Fct)} (hw : ways rules[i].bd L [] [] = pre ++ y :: post) :
    ∃ rest, headsAll rules L = headsAll (rules.take i) L ++ ((pre ++ [y]).map (fun x => headF rules[i] x.1) ++ rest) := by
  refine ⟨post.map (fun x => headF rules[i] x.1) ++ headsAll (rules.drop (i + 1)) L, ?_⟩
  have h1 : rules = rules.take i ++ rules[i] :: rules.drop (i + 1) := by rw [List.getElem_cons_drop, List.take_append_drop]
  have h2 : headsAll rules L = headsAll (rules.take i) L ++ (heads rules[i] L ++ headsAll (rules.drop (i + 1)) L) := by
    conv => lhs; rw [h1]
    unfold headsAll
    rw [List.flatMap_append, List.flatMap_cons]
  rw [h2]
  unfold heads
  rw [hw]
  simp
theorem headsAll_take (hi : i < rules.length) : headsAll (rules.take (i + 1)) L = headsAll (rules.take i) L ++ (ways rules[i].bd L [] []).map (fun x => headF rules[i] x.1) := by
  rw [List.take_succ_eq_append_getElem hi]
  unfold headsAll
  rw [List.flatMap_append]
  simp [heads]
theorem round_big (hi : i < rules.length) {y : Bnd × List Fct} {post : List (Bnd × List Fct)} (hw : ways rules[i].bd (srt (keysR M)) [] [] = pre ++ y :: post)
    (hb : 400 < (addsR j (addsR j M (headsAll (rules.take i) (srt (keysR M)))) ((pre ++ [y]).map fun x => headF rules[i] x.1)).length) : 400 < (roundR rules j M).length := by
  obtain ⟨rest, e⟩ := headsAll_split hi hw
  unfold roundR
  rw [e, addsR_append, addsR_append]
  exact Nat.lt_of_lt_of_le hb (addsR_len _ _ _)
theorem runR_big {n : Nat} {k : Int} (h : 400 < (roundR rules k M).length) : runR rules (n + 1) k M = none := by unfold runR; rw [if_pos h]
theorem runR_small {n : Nat} {k : Int} (h : (roundR rules k M).length ≤ 400) : runR rules (n + 1) k M = if (roundR rules k M).length = M.length then some M else runR rules n (k + 1) (roundR rules k M) := by
  conv => lhs; unfold runR
  rw [if_neg (by omega)]
theorem R2.left (h : R2 W rules facts ds j M true gj gn A) (hb : 400 < (roundR rules j M).length) : followR rules facts = none := by
  rw [h.run, if_pos rfl, show 501 - j = (500 - j) + 1 by have := h.j2 rfl; have := h.le; omega]
  exact runR_big hb
/-- The next round. -/
theorem R2.next (h : R2 W rules facts ds j M true gj gn A) (hle : (roundR rules j M).length ≤ 400) : followR rules facts = if decide (M.length < (roundR rules j M).length) = true then runR rules (501 - (j + 1)) ((j + 1 : Nat) : Int) (roundR rules j M) else some (roundR rules j M) := by
  rw [h.run, if_pos rfl, show 501 - j = (500 - j) + 1 by have := h.j2 rfl; have := h.le; omega]
  rw [runR_small hle]
  have hl := round_len rules j M
  by_cases e : (roundR rules j M).length = M.length
  · rw [if_pos e, if_neg (by simp; omega)]
    rw [show roundR rules j M = M from addsR_same _ e]
  · rw [if_neg e, if_pos (by simp; omega)]
    rw [show 501 - (j + 1) = 500 - j by omega]
    rfl
end
theorem fol_leave {W w : World} {rules : List Rul} {facts : List Fct} {ds : List Deferred} {tm : Array Value} {mbo : Option Nat} {e : Int} (h4 : tm.getD 4 undef = .pointer (some ⟨W.heap.size, 0, none⟩)) (h5 : tm.getD 5 undef = .pointer (some ⟨W.heap.size + 1, 0, none⟩))
    (hm : Marks (W.heap.size + 4) ds w) (c4 : w.heap[W.heap.size]? = some (.cells #[.map mbo] 63 (0, 0))) (c5 : w.heap[W.heap.size + 1]? = some (.cells #[.int .i64 e] 31 (0, 0))) (hbl : Below W.heap.size W w)
    (hR : ∀ WF, Below W.heap.size W WF → (∀ q o, q < W.heap.size + 4 → w.heap[q]? = some o → WF.heap[q]? = some o) → FolOut W rules facts (.returned (.tuple #[.map mbo, .int .i64 e])) WF) :
    bodyPostM Fence.wide 0 Tryz.prog Tryz.f30 (FolOut W rules facts) .ret { tmps := tm, defers := ds } w := by
  obtain ⟨Ds, rfl, hnd, hds⟩ := hm
  show LeavesInM Fence.wide 0 _ _ _ _ _ .returning _
  refine leaves_marks (v := .tuple #[.map mbo, .int .i64 e]) Ds _ hnd (fun D hD => (hds D hD).2) (fun WF hk => ?_)
  have hq : ∀ q o, q < W.heap.size + 4 → w.heap[q]? = some o → WF.heap[q]? = some o := fun q o h1 h2 => (hk.block q (Array.getElem?_eq_some_iff.1 h2).1 (fun e => by have := (hds q e).1; omega)).trans h2
  have g4 := hq _ _ (by omega) c4
  have g5 := hq _ _ (by omega) c5
  refine ⟨?_, hR WF (hbl.trans (hk.below hbl.size (fun q e => by have := (hds q e).1; omega))) hq⟩
  · have m4 : WF.cell? ⟨W.heap.size, 0, none⟩ = some (.map mbo) := mem_cells g4 0
    have m5 : WF.cell? ⟨W.heap.size + 1, 0, none⟩ = some (.int .i64 e) := mem_cells g5 0
    simp only [Array.getD_eq_getD_getElem?] at h4 h5
    simp [results, Tryz.results30, go_sem, h4, h5, m4, m5]

/-- The end, when nothing is new. -/
theorem fol_end {W w : World} {rules : List Rul} {facts : List Fct} {ds : List Deferred} {tm : Array Value} {j gj gn : Nat} {M : Rnds} (H : R2 W rules facts ds j M false gj gn w) (h4 : tm.getD 4 undef = .pointer (some ⟨W.heap.size, 0, none⟩)) (h5 : tm.getD 5 undef = .pointer (some ⟨W.heap.size + 1, 0, none⟩)) :
    bodyPostM Fence.wide 0 Tryz.prog Tryz.f30 (FolOut W rules facts) .ret { tmps := tm, defers := ds } ((w.setCell ⟨W.heap.size, 0, none⟩ (.map (some (W.heap.size + 2)))).setCell ⟨W.heap.size + 1, 0, none⟩ (.int .i64 0)) := by
  have hl := H.fst.lt
  have hk : Keeps (fun q => q = W.heap.size ∨ q = W.heap.size + 1) w ((w.setCell ⟨W.heap.size, 0, none⟩ (.map (some (W.heap.size + 2)))).setCell ⟨W.heap.size + 1, 0, none⟩ (.int .i64 0)) :=
    ((Keeps.refl _ w).setCell (p := ⟨W.heap.size, 0, none⟩) (fun _ => .inl rfl) _).setCell (p := ⟨W.heap.size + 1, 0, none⟩) (fun _ => .inr rfl) _
  have e4 : ((w.setCell ⟨W.heap.size, 0, none⟩ (.map (some (W.heap.size + 2)))).setCell ⟨W.heap.size + 1, 0, none⟩ (.int .i64 0)).heap[W.heap.size]? = some (.cells #[.map (some (W.heap.size + 2))] 63 (0, 0)) := by
    rw [setC_other (by omega)]
    exact setC_block H.fst.r4
  have e5 : ((w.setCell ⟨W.heap.size, 0, none⟩ (.map (some (W.heap.size + 2)))).setCell ⟨W.heap.size + 1, 0, none⟩ (.int .i64 0)).heap[W.heap.size + 1]? = some (.cells #[.int .i64 0] 31 (0, 0)) := by
    refine setC_block (u := .int .i64 0) ?_
    rw [setC_other (by omega)]
    exact H.fst.r5
  have hm : FM ((w.setCell ⟨W.heap.size, 0, none⟩ (.map (some (W.heap.size + 2)))).setCell ⟨W.heap.size + 1, 0, none⟩ (.int .i64 0)) (W.heap.size + 2) M.length (lkR M) := H.fst.mm.at (hk.block _ (by omega) (fun e => by omega))
  refine fol_leave h4 h5 (H.mks.keeps hk (fun q o e ho => ?_)) e4 e5 (H.fst.bl.trans (hk.below (by omega) (fun q e => by omega))) (fun WF hb hq => ⟨hb, .inr ⟨M, W.heap.size + 2, ?_, rfl, by omega, hm.at ?_, H.fst.nd, H.fst.ok⟩⟩)
  · rcases e with rfl | rfl
    · rw [H.fst.r4] at ho; cases ho; simp
    · rw [H.fst.r5] at ho; cases ho; simp
  · rw [H.run]; rfl
  · obtain ⟨es, c, hc⟩ := hm.obj
    rw [hc]; exact hq _ _ (by omega) hc
/-- The end, when it is too much. -/
theorem fol_too {W X w : World} {rules : List Rul} {facts : List Fct} {ds : List Deferred} {tm : Array Value} {j gn : Nat} {N : Rnds} {r : Rul} {pre : List (Bnd × List Fct)} {x : Bnd × List Fct} (H : RL W X N r j gn pre x w) (hm : Marks (W.heap.size + 4) ds w) (hf : followR rules facts = none)
    (h4 : tm.getD 4 undef = .pointer (some ⟨W.heap.size, 0, none⟩)) (h5 : tm.getD 5 undef = .pointer (some ⟨W.heap.size + 1, 0, none⟩)) :
    bodyPostM Fence.wide 0 Tryz.prog Tryz.f30 (FolOut W rules facts) .ret { tmps := tm, defers := ds } w :=
  fol_leave h4 h5 hm H.r4 H.r5 H.bl (fun WF hb hq => ⟨hb, .inl ⟨hf, rfl⟩⟩)
/-- At the start of a round of all rules: the index is there. -/
structure RE (W : World) (rules : List Rul) (ds : List Deferred) (j : Nat) (M : Rnds) (gj gn ib n : Nat) (f : ByteArray → Option Value) (We : World) : Prop where
  fst : FSt W We M
  mks : Marks (W.heap.size + 4) ds We
  cj : We.heap[gj]? = some (.cells #[.int .i64 j] 3 (0, 0))
  cn : We.heap[gn]? = some (.cells #[.bool false] 4 (0, 0))
  im : IM We ib n f
  row : ∀ k, tFcts.rv ((mem We).on (fun q => W.heap.size + 4 ≤ q ∧ q ≠ gn)) [sliceOr (f k)] (byName (srt (keysR M)) k)
  ibs : W.heap.size + 4 ≤ ib ∧ ib ≠ gn ∧ ib < We.heap.size
  gns : W.heap.size + 4 ≤ gn ∧ gn < We.heap.size
  gjs : W.heap.size + 4 ≤ gj ∧ gj ≠ gn ∧ gj < We.heap.size
  le : M.length ≤ 400
theorem cells_ne {w : World} {a b : Nat} {u v : Value} {s t : TypeId} {f g : Nat × Nat} (h : w.heap[a]? = some (.cells #[u] s f)) (k : w.heap[b]? = some (.cells #[v] t g)) (e : s ≠ t) : a ≠ b := fun h' => by
  subst h'; rw [h] at k; cases k; exact e rfl
theorem R2.enter {W w1 w3 w4 : World} {rules : List Rul} {facts : List Fct} {ds : List Deferred} {j gj gn ib : Nat} {M : Rnds} {f : ByteArray → Option Value} (H : R2 W rules facts ds j M true gj gn w1)
    (h3 : Below (w1.setCell ⟨gn, 0, none⟩ (.bool false)).heap.size (w1.setCell ⟨gn, 0, none⟩ (.bool false)) w3) (h4 : Below w3.heap.size w3 w4) (hI : Idx w4 w3.heap.size ib (srt (keysR M)).length (srt (keysR M)) f) : RE W rules ds j M gj gn ib (srt (keysR M)).length f w4 := by
  have hne := cells_ne H.cj H.cn (by decide)
  have hk2 : Keeps (fun q => q = gn) w1 (w1.setCell ⟨gn, 0, none⟩ (.bool false)) := (Keeps.refl (fun q => q = gn) w1).setCell (p := ⟨gn, 0, none⟩) (fun _ => rfl) _
  have hk3 : Below (w1.setCell ⟨gn, 0, none⟩ (.bool false)).heap.size (w1.setCell ⟨gn, 0, none⟩ (.bool false)) w4 := pure_trans h3 h4
  have hk : Keeps (fun q => q = gn) w1 w4 := hk2.pure hk3
  have lj := (Array.getElem?_eq_some_iff.1 H.cj).1
  have ln := (Array.getElem?_eq_some_iff.1 H.cn).1
  have hz : w1.heap.size ≤ w3.heap.size := Nat.le_trans hk2.size h3.size
  have hg := H.gn
  have hib := hI.ge
  refine ⟨H.fst.keeps hk (fun q e => by omega), H.mks.keeps hk (fun q o e ho => ?_), (hk.block gj lj hne).trans H.cj, (hk3.block gn (Nat.lt_of_lt_of_le ln hk2.size)).trans (setC_block H.cn), hI.im, fun k => (hI.row k).rv (fun q e => ⟨by omega, by omega⟩) (fun i cs _ h => h),
    ⟨by omega, by omega, hI.im.lt⟩, ⟨H.gn, by have := h4.size; omega⟩, ⟨H.gj, hne, by have := h4.size; omega⟩, H.le⟩
  subst e; rw [H.cn] at ho; cases ho; simp
theorem RE.start {W We : World} {rules : List Rul} {ds : List Deferred} {j gj gn ib n : Nat} {M : Rnds} {f : ByteArray → Option Value} (H : RE W rules ds j M gj gn ib n f We) : R3 W We rules (srt (keysR M)) M j gn 0 ds We :=
  ⟨H.fst, H.le, H.mks, by have := H.cn; simpa [headsAll, addsR_nil] using this, Keeps.refl _ _⟩
/-- What the iterator of a rule's body reads. -/
def SR (W : World) (gn : Nat) (X : World) (q : Nat) : Prop := q < X.heap.size ∧ q ≠ W.heap.size + 2 ∧ q ≠ gn ∧ q ≠ W.heap.size ∧ q ≠ W.heap.size + 1
theorem RE.env {W We wr X : World} {rules : List Rul} {ds ds' : List Deferred} {j gj gn ib n i bb bx : Nat} {M : Rnds} {f : ByteArray → Option Value} (H : RE W rules ds j M gj gn ib n f We) (h3 : R3 W We rules (srt (keysR M)) M j gn i ds' wr) (hX : Below wr.heap.size wr X)
    {bv : Value} {bd : List Fct} (hbd : tFcts.rv ((mem wr).on (· < W.heap.size)) [bv] bd) (hl : bd.length ≤ 3) (cb : X.cell? ⟨bb, 0, none⟩ = some bv) (cx : X.cell? ⟨bx, 0, none⟩ = some (.map (some ib))) (hb : wr.heap.size ≤ bb) (hx : wr.heap.size ≤ bx) :
    MEnv X (SR W gn X) bb bx ib n bv bd (srt (keysR M)) f := by
  have hs := h3.kp.size
  have hg := H.gns
  have hi := H.ibs
  have hlt := H.fst.lt
  have hxs := hX.size
  have hblk : ∀ q, q < We.heap.size → W.heap.size + 4 ≤ q → q ≠ gn → X.heap[q]? = We.heap[q]? := fun q h1 h2 h4 => (hX.block q (by omega)).trans (h3.kp.block q h1 (fun e => by rcases e with e | e | e <;> omega))
  refine ⟨cb, tFcts.mono _ _ _ _ (fun b o u e => ?_) hbd, cx, H.im.at (hblk ib hi.2.2 hi.1 hi.2.1), fun k => tFcts.mono _ _ _ _ (fun b o u e => ?_) (H.row k), ⟨⟨mem_lt cb, by omega, by omega, by omega, by omega⟩, ⟨mem_lt cx, by omega, by omega, by omega, by omega⟩, ⟨by omega, by omega, by omega, by omega, by omega⟩⟩, fun k hk => hk.1, hl⟩
  · obtain ⟨e1, e2⟩ := Mem.of_on e
    have hb' := mem_lt e2
    exact Mem.on_some ((mem_of_block (hX.block b hb') o).trans e2) ⟨by omega, by omega, by omega, by omega, by omega⟩
  · obtain ⟨⟨e1, e3⟩, e2⟩ := Mem.of_on e
    have hb' := mem_lt e2
    exact Mem.on_some ((mem_of_block (hblk b hb' e1 e3) o).trans e2) ⟨by omega, by omega, by omega, by omega, by omega⟩
section
variable {W We X A : World} {M N : Rnds} {r : Rul} {j gn : Nat} {pre : List (Bnd × List Fct)} {x : Bnd × List Fct}
/-- A new fact. -/
theorem RI.grow (h : RI W X M N r j gn pre A) (hm : headF r x.1 ∉ keysR (addsR j N (pre.map fun x => headF r x.1))) (ho : okF (headF r x.1)) (hgn : W.heap.size + 4 ≤ gn) (hMN : M.length ≤ N.length) {w6 : World}
    (hfm : FM w6 (W.heap.size + 2) (addsR j N (pre.map fun x => headF r x.1) ++ [(headF r x.1, (j : Int))]).length (lkR (addsR j N (pre.map fun x => headF r x.1) ++ [(headF r x.1, (j : Int))]))) (hgr : A.grownBy w6 (some (W.heap.size + 2))) :
    FSt W (w6.setCell ⟨gn, 0, none⟩ (.bool true)) (addsR j N ((pre ++ [x]).map fun x => headF r x.1)) ∧ (w6.setCell ⟨gn, 0, none⟩ (.bool true)).heap[gn]? = some (.cells #[.bool true] 4 (0, 0)) ∧
    Keeps (fun q => q = W.heap.size + 2 ∨ q = gn) A (w6.setCell ⟨gn, 0, none⟩ (.bool true)) ∧ M.length < (addsR j N ((pre ++ [x]).map fun x => headF r x.1)).length := by
  have hk : Keeps (fun q => q = W.heap.size + 2 ∨ q = gn) A (w6.setCell ⟨gn, 0, none⟩ (.bool true)) :=
    ((grown_keeps hgr).wide (fun k _ e => .inl (by cases e; rfl))).setCell (p := ⟨gn, 0, none⟩) (fun _ => .inr rfl) _
  have hl := (Array.getElem?_eq_some_iff.1 h.cn).1
  have g1 : w6.heap[gn]? = A.heap[gn]? := hgr.block gn hl (fun e => by cases e; omega)
  have hlt : (addsR j N ((pre ++ [x]).map fun x => headF r x.1)).length = (addsR j N (pre.map fun x => headF r x.1)).length + 1 := by rw [adds_new hm]; simp
  have hll := addsR_len j (pre.map fun x => headF r x.1) N
  rw [adds_new hm] at hlt ⊢
  refine ⟨h.fst.low hk (fun q e => by rcases e with e | e <;> omega) (hfm.at (setC_other (by omega))) ?_ (fun y hy => ?_), setC_block (g1.trans h.cn), hk, by omega⟩
  · rw [show keysR (addsR j N (pre.map fun x => headF r x.1) ++ [(headF r x.1, (j : Int))]) = keysR (addsR j N (pre.map fun x => headF r x.1)) ++ [headF r x.1] by simp [keysR]]
    exact List.nodup_append.2 ⟨h.fst.nd, by simp, fun a ha c hc e => by simp at hc; subst hc; subst e; exact hm ha⟩
  · rw [show keysR (addsR j N (pre.map fun x => headF r x.1) ++ [(headF r x.1, (j : Int))]) = keysR (addsR j N (pre.map fun x => headF r x.1)) ++ [headF r x.1] by simp [keysR]] at hy
    rcases List.mem_append.1 hy with e | e
    · exact h.fst.ok y e
    · simp at e; subst e; exact ho
theorem RI.more (h : RI W X M N r j gn pre A) {w7 : World} (h1 : FSt W w7 (addsR j N ((pre ++ [x]).map fun x => headF r x.1))) (h2 : w7.heap[gn]? = some (.cells #[.bool true] 4 (0, 0)))
    (h3 : Keeps (fun q => q = W.heap.size + 2 ∨ q = gn) A w7) (h4 : M.length < (addsR j N ((pre ++ [x]).map fun x => headF r x.1)).length) (h5 : (addsR j N ((pre ++ [x]).map fun x => headF r x.1)).length ≤ 400) : RI W X M N r j gn (pre ++ [x]) w7 :=
  ⟨h1, h5, by rw [h2, decide_eq_true h4], h.kp.trans (h3.wide (fun q _ e => by rcases e with e | e; exact .inl e; exact .inr (.inl e)))⟩
theorem RI.too (h : RI W X M N r j gn pre A) {w7 : World} (h1 : FSt W w7 (addsR j N ((pre ++ [x]).map fun x => headF r x.1)))
    (h3 : Keeps (fun q => q = W.heap.size + 2 ∨ q = gn) A w7) (h5 : 400 < (addsR j N ((pre ++ [x]).map fun x => headF r x.1)).length) : RL W X N r j gn pre x ((w7.setCell ⟨W.heap.size, 0, none⟩ (.map none)).setCell ⟨W.heap.size + 1, 0, none⟩ (.int .i64 4)) := by
  have hk : Keeps (fun q => q = W.heap.size ∨ q = W.heap.size + 1) w7 ((w7.setCell ⟨W.heap.size, 0, none⟩ (.map none)).setCell ⟨W.heap.size + 1, 0, none⟩ (.int .i64 4)) :=
    ((Keeps.refl (fun q => q = W.heap.size ∨ q = W.heap.size + 1) w7).setCell (p := ⟨W.heap.size, 0, none⟩) (fun _ => .inl rfl) _).setCell (p := ⟨W.heap.size + 1, 0, none⟩) (fun _ => .inr rfl) _
  have hl := h1.lt
  refine ⟨(setC_other (by omega)).trans (setC_block h1.r4), setC_block ((setC_other (by omega)).trans h1.r5), h1.bl.trans (hk.below (by omega) (fun q e => by omega)), ?_, h5⟩
  exact (h.kp.wide (fun q _ e => .inl e)).trans ((h3.wide (fun q _ e => .inl (by rcases e with e | e; exact .inl e; exact .inr (.inl e)))).trans (hk.wide (fun q _ e => .inr e)))
/-- What stands when all ways of a rule are through. -/
theorem RI.all {rules : List Rul} {ds ds' : List Deferred} {i : Nat} {wr w : World} {L : List Fct} (h3 : R3 W We rules L M j gn i ds wr) (hX : Below wr.heap.size wr X) (hgn : W.heap.size + 4 ≤ gn) (h : RI W X M (addsR j M (headsAll (rules.take i) L)) r j gn pre w)
    (hh : headsAll (rules.take (i + 1)) L = headsAll (rules.take i) L ++ pre.map fun x => headF r x.1) (hm : Marks (W.heap.size + 4) ds' w) : R3 W We rules L M j gn (i + 1) ds' w := by
  have e : addsR j M (headsAll (rules.take (i + 1)) L) = addsR j (addsR j M (headsAll (rules.take i) L)) (pre.map fun x => headF r x.1) := by rw [hh, addsR_append]
  have hs := h3.kp.size
  have hx := hX.size
  refine ⟨by rw [e]; exact h.fst, by rw [e]; exact h.le, hm, by rw [e]; exact h.cn, h3.kp.trans (((below_keeps hX).wide (fun q _ e => .inr (.inr (Nat.le_trans hs e)))).trans (h.kp.wide (fun q _ e => ?_)))⟩
  rcases e with e | e | e
  · exact .inl e
  · exact .inr (.inl e)
  · exact .inr (.inr (by omega))
theorem RI.init {rules : List Rul} {ds : List Deferred} {i : Nat} {wr : World} {L : List Fct} (h3 : R3 W We rules L M j gn i ds wr) (hX : Below wr.heap.size wr X) (hgn : gn < We.heap.size) (hW : W.heap.size + 4 ≤ We.heap.size) : RI W X M (addsR j M (headsAll (rules.take i) L)) r j gn [] X := by
  have hs := h3.kp.size
  exact ⟨h3.fst.keeps (below_keeps hX) (fun q e => by omega), h3.le, (hX.block gn (by omega)).trans h3.cn, Keeps.refl _ _⟩
/-- The marks stay. -/
theorem marks_on {ds : List Deferred} {w w' : World} {D : Nat} (hm : Marks (W.heap.size + 4) ds w) (hX : Below w.heap.size w X) (hk : Keeps (fun q => F3 W gn X q ∨ q = W.heap.size ∨ q = W.heap.size + 1) X w') (hD : D = X.heap.size) (hd : w'.heap[D]? = some (.deferred (some [])))
    {v : Array Value} {t : TypeId} (hgn : w.heap[gn]? = some (.cells v t (0, 0))) (hf : FSt W w N) : Marks (W.heap.size + 4) ({ target := .collected D, args := #[] } :: ds) w' := by
  have hx := hX.size
  have hW := hf.lt
  refine Marks.cons (n := w.heap.size) (Marks.keeps (F := fun q => q = W.heap.size + 2 ∨ q = gn ∨ w.heap.size ≤ q ∨ q = W.heap.size ∨ q = W.heap.size + 1) hm (((below_keeps hX).wide (fun q _ e => .inr (.inr (.inl e)))).trans (hk.wide (fun q _ e => ?_))) (fun q o e ho => ?_)) (by omega) hd (hm.lt) (by omega)
  · rcases e with (e | e | e) | e | e
    · exact .inl e
    · exact .inr (.inl e)
    · exact .inr (.inr (.inl (by omega)))
    · exact .inr (.inr (.inr (.inl e)))
    · exact .inr (.inr (.inr (.inr e)))
  · rcases e with e | e | e | e | e
    · subst e; obtain ⟨es, c, hc⟩ := hf.mm.obj; rw [hc] at ho; cases ho; simp
    · subst e; rw [hgn] at ho; cases ho; simp
    · have := (Array.getElem?_eq_some_iff.1 ho).1; omega
    · subst e; rw [hf.r4] at ho; cases ho; simp
    · subst e; rw [hf.r5] at ho; cases ho; simp
end
theorem three_alloc {w X : World} {c1 c2 c3 : Array Value} {t1 t2 t3 : TypeId} (hX : X = ((w.alloc (.cells c1 t1)).alloc (.cells c2 t2)).alloc (.cells c3 t3)) :
    Below w.heap.size w X ∧ X.heap.size = w.heap.size + 3 ∧ X.heap[w.heap.size]? = some (.cells c1 t1 (0, 0)) ∧ X.heap[w.heap.size + 1]? = some (.cells c2 t2 (0, 0)) ∧ X.heap[w.heap.size + 2]? = some (.cells c3 t3 (0, 0)) := by
  subst hX
  refine ⟨(((Below.refl _ _).alloc (Nat.le_refl _) _).alloc (by simp) _).alloc (by simp <;> omega) _, by simp, (Below.heap_alloc _ _ _ (by simp <;> omega)).trans ((Below.heap_alloc _ _ _ (by simp <;> omega)).trans (heap_alloc_new w _)), ?_, ?_⟩
  · have := heap_alloc_new (w.alloc (.cells c1 t1)) (.cells c2 t2)
    rw [World.size_alloc] at this
    exact (Below.heap_alloc _ _ _ (by simp <;> omega)).trans this
  · have := heap_alloc_new ((w.alloc (.cells c1 t1)).alloc (.cells c2 t2)) (.cells c3 t3)
    rwa [World.size_alloc, World.size_alloc] at this
end Go.Proofs.YtafeaeaildfohaaGreatDoor
/- ring.follow, walked (printed by gen_rfollow.py). -/
namespace Go.Proofs.YtafeaeaildfohaaGreatDoor
open Go.RowKit Go.Maps Go.Shelf
attribute [local go_sem] Oper.semAt_some

def slotInt (a : Act) (k : Nat) : Nat := match a.tmps[k]? with
  | some v => (intOf v).toNat
  | none => 0
/-- An int behind a pointer in a frame. -/
def ptrInt (a : Act) (k : Nat) (w : World) : Nat := match a.tmps[k]? with
  | some (.pointer (some p)) => (match w.cell? p with | some v => (intOf v).toNat | none => 0)
  | _ => 0
set_option maxRecDepth 100000 in
set_option maxHeartbeats 8000000 in
theorem follow_any (rules : List Rul) (facts : List Fct) (rv fv : Value) (W : World) (hr : tRuls.rv (mem W) [rv] rules) (hf : tFcts.rv (mem W) [fv] facts) (hn : facts.length ≤ 400) (hb : ∀ r ∈ rules, r.bd.length ≤ 3) :
    Calls Tryz.prog 30 #[rv, fv] W (FolOut W rules facts) := by
  obtain ⟨ar, cr, rfl, hr1, hr2, hr⟩ := slice_form hr
  obtain ⟨af, cf, rfl, hf1, hf2, hf⟩ := slice_form hf
  have hcr : cr ≤ 9223372036854775807 := by unfold maxLen at hr2; exact hr2
  have hcf : cf ≤ 9223372036854775807 := by unfold maxLen at hf2; exact hf2
  have HR := Lib.hid hr
  have HF := Lib.hid hf
  have HN := Lib.hid hn
  have HBD := Lib.hid hb
  generalize hW0 : (((W.alloc (.cells #[.map none] 63)).alloc (.cells #[.int .i64 0] 31)).alloc (.map #[] 0)).alloc (.cells #[.map (some (W.heap.size + 2))] 63) = W0
  have hst : FSt W W0 (startR []) := by
    rw [← hW0]
    have q1 := heap_alloc_new (W.alloc (.cells #[.map none] 63)) (.cells #[.int .i64 0] 31)
    have q2 := heap_alloc_new ((W.alloc (.cells #[.map none] 63)).alloc (.cells #[.int .i64 0] 31)) (.map #[] 0)
    have q3 := heap_alloc_new (((W.alloc (.cells #[.map none] 63)).alloc (.cells #[.int .i64 0] 31)).alloc (.map #[] 0)) (.cells #[.map (some (W.heap.size + 2))] 63)
    simp only [World.size_alloc] at q1 q2 q3
    have h1 := MapOf.made (P := Tryz.prog) (k := 43) (lk := lkF) (vr := vInt) ((W.alloc (.cells #[.map none] 63)).alloc (.cells #[.int .i64 0] 31))
    simp only [World.size_alloc] at h1
    refine ⟨(Below.heap_alloc _ _ _ (by simp <;> omega)).trans ((Below.heap_alloc _ _ _ (by simp <;> omega)).trans ((Below.heap_alloc _ _ _ (by simp <;> omega)).trans (heap_alloc_new W _))), (Below.heap_alloc _ _ _ (by simp <;> omega)).trans ((Below.heap_alloc _ _ _ (by simp <;> omega)).trans q1), ?_, q3,
      ((((Below.refl _ _).alloc (Nat.le_refl _) _).alloc (by simp <;> omega) _).alloc (by simp <;> omega) _).alloc (by simp <;> omega) _, by simp [startR, addsR, keysR], by simp [startR, addsR, keysR]⟩
    have h2 : FM (((W.alloc (.cells #[.map none] 63)).alloc (.cells #[.int .i64 0] 31)).alloc (.map #[] 0)) (W.heap.size + 2) 0 (fun _ => none) := h1
    exact h2.at (Below.heap_alloc _ _ _ (by simp <;> omega))
  have HST := Lib.hid hst
  have HW0 := Lib.hid hW0
  clear hr hf hn hb hr2 hf2 hst hW0
  refine (callsIn_wide (n := 0)).1 (callsIn_of_wp_marks Tryz.func30 rfl trivial ?_ rfl)
  simp only [Tryz.ntmps30, List.size_toArray, List.length_cons, List.length_nil, Nat.reduceAdd, Nat.reduceSub, Array.replicate_succ, Array.replicate_zero, List.push_toArray, List.append_toArray, List.nil_append, List.cons_append]
  refine (wpIn_wide (n := 0)).2 ?_
  have hmm := @run_makeMap Tryz.prog
  go_wp2_with fail
  clear hmm
  rw [HW0.out]
  go_loopw [22] (fun i wr => ∃ k : Nat, k ≤ facts.length ∧ i = .int .i64 k ∧ Hid (FSt W wr (startR (facts.take k)))) (fun i _ => facts.length - (intOf i).toNat)
  case atStart => exact ⟨0, by omega, rfl, Lib.hid (by rw [List.take_zero]; exact HST.out)⟩
  case round =>
    clear HST
    obtain ⟨k, hk, rfl, HI⟩ := hrel
    by_cases hlt : k < facts.length
    · obtain ⟨b, o, rfl, ⟨q0, q1, q2⟩, hok⟩ := fcts_at (tFcts.mono _ _ _ _ (below_mem HI.out.bl) HF.out) hlt
      have c0 : wr.cell? ⟨b, o + k * 3, none⟩ = some (.string facts[k].n) := q0
      have c1 : wr.cell? ⟨b, o + k * 3 + 1, none⟩ = some (.string facts[k].a) := q1
      have c2 : wr.cell? ⟨b, o + k * 3 + 2, none⟩ = some (.string facts[k].b) := q2
      have HT := Lib.hid (start_take facts hlt)
      have HOK := Lib.hid hok
      have HKF := Lib.hid hlt
      clear q0 q1 q2 hok
      generalize facts[k] = x at *
      obtain ⟨x1, x2, x3⟩ := x
      generalize hX : wr.alloc (.cells #[.string x1, .string x2, .string x3] 43) = X
      have HX := Lib.hid hX
      have HIX := Lib.hid (show FSt W X (startR (facts.take k)) by rw [← hX]; exact HI.out.keeps (F := fun _ => False) ((Keeps.refl _ _).alloc _) (fun _ h => h.elim))
      have n0 : X.cell? ⟨W.heap.size + 3, 0, none⟩ = some (.map (some (W.heap.size + 2))) := mem_cells HIX.out.c6 0
      have hvb : X.heap[wr.heap.size]? = some (.cells #[.string x1, .string x2, .string x3] 43 (0, 0)) := by rw [← hX]; exact heap_alloc_new wr _
      have n1 : X.cell? ⟨wr.heap.size, 0, none⟩ = some (.string x1) := mem_cells hvb 0
      have n2 : X.cell? ⟨wr.heap.size, 1, none⟩ = some (.string x2) := mem_cells hvb 1
      have n3 : X.cell? ⟨wr.heap.size, 2, none⟩ = some (.string x3) := mem_cells hvb 2
      obtain ⟨w6, hput, hfm, hgr⟩ := FM.put0 HIX.out.mm HIX.out.nd HIX.out.ok (by have := start_len (facts.take k); rw [List.length_take] at this; have := HN.out; omega) (x := ⟨x1, x2, x3⟩) HOK.out (start_zero _)
      have HNX := Lib.hid (show FSt W w6 (startR (facts.take (k + 1))) by
        rw [HT.out]
        have h6 : ∀ q, q < W.heap.size + 4 → q ≠ W.heap.size + 2 → w6.heap[q]? = X.heap[q]? := fun q h1 h2 => hgr.block q (by have := HIX.out.lt; omega) (fun e => h2 (by cases e; rfl))
        exact ⟨(h6 _ (by omega) (by omega)).trans HIX.out.r4, (h6 _ (by omega) (by omega)).trans HIX.out.r5, hfm, (h6 _ (by omega) (by omega)).trans HIX.out.c6, Below.grown HIX.out.bl hgr (by have := HIX.out.lt; omega) (fun j hj => by cases hj; omega),
          addR_nodup HIX.out.nd _, fun y hy => by rcases (keys_addR _ _ _ _).1 hy with e | e; exact HIX.out.ok y e; rw [e]; exact HOK.out⟩)
      clear hX hvb hfm hgr HIX HI HT
      have hsz : wr.heap.size < X.heap.size := by rw [← HX.out]; simp
      go_upto_region 5 with fail
      rw [HX.out]
      generalize wr.heap.size = vb at *
      go_wp2_with fail
      go_roundw
      case rel => exact ⟨k + 1, by omega, by go_num, HNX⟩
      case measure => simp [intOf]; omega
    · obtain rfl : k = facts.length := by omega
      have HI2 := Lib.hid (show FSt W wr (startR facts) by have := HI.out; rwa [List.take_length] at this)
      clear HI
      go_wp2_with fail

      have HRUN := Lib.hid (show followR rules facts = runR rules 500 1 (startR facts) from rfl)
      have HSF := HI2
      have HB0 := Lib.hid (show ∀ o1 o2, Keeps (fun _ => False) wr ((wr.alloc o1).alloc o2) from fun o1 o2 => ((Keeps.refl _ wr).alloc _).alloc _)
      have HC1 := Lib.hid (show ∀ (c1 c2 : Array Value) (t1 t2 : TypeId), ((wr.alloc (.cells c1 t1)).alloc (.cells c2 t2)).heap[wr.heap.size]? = some (.cells c1 t1 (0, 0)) from fun c1 c2 t1 t2 => (Below.heap_alloc _ _ _ (by simp)).trans (heap_alloc_new wr _))
      have HC2 := Lib.hid (show ∀ (c1 c2 : Array Value) (t1 t2 : TypeId), ((wr.alloc (.cells c1 t1)).alloc (.cells c2 t2)).heap[wr.heap.size + 1]? = some (.cells c2 t2 (0, 0)) from fun c1 c2 t1 t2 => by have := heap_alloc_new (wr.alloc (.cells c1 t1)) (.cells c2 t2); rwa [World.size_alloc] at this)
      obtain ⟨I2, hI2⟩ : ∃ I : Act → World → Prop, I = fun a w => ∃ (u2 u3 u7 u8 u11 u12 u13 u14 u15 u16 u17 u18 u19 u20 u21 u22 u23 u24 u25 u26 u27 u28 u29 u30 u31 u32 u33 u34 u35 u36 u37 u38 u39 u40 u41 u42 u43 u44 u45 u46 u47 u48 u49 u50 u51 u52 u53 u54 u55 u56 u57 u58 u59 u60 u61 u62 u63 u64 u65 u66 : Value) (ds : List Deferred) (j gj gn : Nat) (M : Rnds) (news : Bool), a = { tmps := #[.slice ar rules.length cr, .slice af facts.length cf, u2, u3, .pointer (some ⟨W.heap.size, 0, none⟩), .pointer (some ⟨W.heap.size + 1, 0, none⟩), .pointer (some ⟨W.heap.size + 3, 0, none⟩), u7, u8, .pointer (some ⟨gj, 0, none⟩), .pointer (some ⟨gn, 0, none⟩), u11, u12, u13, u14, u15, u16, u17, u18, u19, u20, u21, u22, u23, u24, u25, u26, u27, u28, u29, u30, u31, u32, u33, u34, u35, u36, u37, u38, u39, u40, u41, u42, u43, u44, u45, u46, u47, u48, u49, u50, u51, u52, u53, u54, u55, u56, u57, u58, u59, u60, u61, u62, u63, u64, u65, u66], defers := ds } ∧ Hid (R2 W rules facts ds j M news gj gn w) := ⟨_, rfl⟩
      obtain ⟨μ2, hμ2⟩ : ∃ μ : Act → World → Nat, μ = fun a w => 1000 - ptrInt a 9 w := ⟨_, rfl⟩
      have HI := Lib.hid hI2
      have HM := Lib.hid hμ2
      refine wp_loop I2 μ2 ?_ ?_
      · rw [hI2]
        refine ⟨_, _, _, _, _, _, _, _, _, _, _, _, _, _, _, _, _, _, _, _, _, _, _, _, _, _, _, _, _, _, _, _, _, _, _, _, _, _, _, _, _, _, _, _, _, _, _, _, _, _, _, _, _, _, _, _, _, _, _, _, [], 1, wr.heap.size, wr.heap.size + 1, startR facts, true, rfl, Lib.hid ⟨HSF.out.keeps (HB0.out _ _) (fun _ h => h.elim), Marks.nil _ _, HC1.out _ _ _ _, HC2.out _ _ _ _, HSF.out.lt, by have := HSF.out.lt; omega, by rw [HRUN.out]; rfl, Nat.le_trans (start_len _) HN.out, by omega, fun _ => by omega⟩⟩
      clear HRUN HSF HB0 HC1 HC2 HI2 hI2 hμ2 hlt hk
      intro a w1 h1
      have h1 := (congrFun (congrFun HI.out a) w1).mp h1
      obtain ⟨u2, u3, u7, u8, u11, u12, u13, u14, u15, u16, u17, u18, u19, u20, u21, u22, u23, u24, u25, u26, u27, u28, u29, u30, u31, u32, u33, u34, u35, u36, u37, u38, u39, u40, u41, u42, u43, u44, u45, u46, u47, u48, u49, u50, u51, u52, u53, u54, u55, u56, u57, u58, u59, u60, u61, u62, u63, u64, u65, u66, ds, j, gj, gn, M, news, rfl, H2⟩ := h1
      have cn : w1.cell? ⟨gn, 0, none⟩ = some (.bool news) := mem_cells H2.out.cn 0
      cases news with
      | false =>
        have c6 : w1.cell? ⟨W.heap.size + 3, 0, none⟩ = some (.map (some (W.heap.size + 2))) := mem_cells H2.out.fst.c6 0
        have f4 : w1.frozen? ⟨W.heap.size, 0, none⟩ = false := frozen_cells H2.out.fst.r4 0
        have f5 : w1.frozen? ⟨W.heap.size + 1, 0, none⟩ = false := frozen_cells H2.out.fst.r5 0
        have k4 : w1.cell? ⟨W.heap.size, 0, none⟩ = some (.map none) := mem_cells H2.out.fst.r4 0
        have k5 : w1.cell? ⟨W.heap.size + 1, 0, none⟩ = some (.int .i64 0) := mem_cells H2.out.fst.r5 0
        go_wp2_with fail

        exact fol_end H2.out rfl rfl

      | true =>
        have fn0 : w1.frozen? ⟨gn, 0, none⟩ = false := frozen_cells H2.out.cn 0
        have HK2 := Lib.hid (show Keeps (fun q => q = gn) w1 (w1.setCell ⟨gn, 0, none⟩ (.bool false)) from (Keeps.refl (fun q => q = gn) w1).setCell (p := ⟨gn, 0, none⟩) (fun _ => rfl) _)
        have c6 : (w1.setCell ⟨gn, 0, none⟩ (.bool false)).cell? ⟨W.heap.size + 3, 0, none⟩ = some (.map (some (W.heap.size + 2))) := mem_cells (H2.out.fst.keeps HK2.out (fun q e => by have := H2.out.gn; omega)).c6 0
        have HFM := Lib.hid (show FM (w1.setCell ⟨gn, 0, none⟩ (.bool false)) (W.heap.size + 2) M.length (lkR M) from (H2.out.fst.keeps HK2.out (fun q e => by have := H2.out.gn; omega)).mm)
        have HEN := Lib.hid (fun w3 h3 w4 h4 ib f hI => H2.out.enter (w3 := w3) (w4 := w4) (ib := ib) (f := f) h3 h4 hI)
        have HSL := Lib.hid (show (srt (keysR M)).length ≤ 400 from Nat.le_trans (srt_len_le _) (by rw [keys_len]; exact H2.out.le))
        go_upto_region 11 with fail
        generalize hw2 : w1.setCell ⟨gn, 0, none⟩ (.bool false) = w2 at *
        clear hw2
        go_wp2_with fail
        refine (ringSorted_any (W.heap.size + 2) M.length (lkR M) w2 HFM.out (by have := H2.out.le; omega)).mono ?_
        rintro e w3 ⟨v, ss, rfl, k1, -, -, k4, k5⟩
        obtain rfl : srt (keysR M) = ss := srt_eq k1.up (fun x => (k1.mem x).trans lkR_some)
        have K5 := Lib.hid k5
        have K4 := Lib.hid (tFcts.mono _ _ _ _ (Mem.on_le _ _) k4)
        clear k1 k4 k5
        go_wp2_with fail
        refine (indexed_any _ v w3 K4.out (by have := HSL.out; omega)).mono ?_
        rintro e We ⟨ib, f, rfl, i1, i2⟩
        have HE := Lib.hid (HEN.out w3 K5.out We i2 ib f i1)
        clear i1 i2 K4 K5 HEN HFM HK2 c6 cn fn0
        go_wp2_with fail

        obtain ⟨I3, hI3⟩ : ∃ I : Act → World → Prop, I = fun a w => ∃ (u2 u3 u7 u8 u12 u13 u14 u15 u16 u17 u18 u19 u20 u21 u22 u23 u24 u25 u26 u27 u28 u29 u30 u31 u32 u33 u34 u38 u39 u40 u41 u42 u43 u44 u45 u46 u47 u48 u49 u50 u51 u52 u53 u54 u55 u56 u57 u58 u59 u60 u61 u62 u63 u64 u65 u66 : Value) (ds' : List Deferred) (i : Nat), a = { tmps := #[.slice ar rules.length cr, .slice af facts.length cf, u2, u3, .pointer (some ⟨W.heap.size, 0, none⟩), .pointer (some ⟨W.heap.size + 1, 0, none⟩), .pointer (some ⟨W.heap.size + 3, 0, none⟩), u7, u8, .pointer (some ⟨gj, 0, none⟩), .pointer (some ⟨gn, 0, none⟩), .map (some ib), u12, u13, u14, u15, u16, u17, u18, u19, u20, u21, u22, u23, u24, u25, u26, u27, u28, u29, u30, u31, u32, u33, u34, .slice ar rules.length cr, .int .i64 rules.length, .int .i64 i, u38, u39, u40, u41, u42, u43, u44, u45, u46, u47, u48, u49, u50, u51, u52, u53, u54, u55, u56, u57, u58, u59, u60, u61, u62, u63, u64, u65, u66], defers := ds' } ∧ i ≤ rules.length ∧ Hid (R3 W We rules (srt (keysR M)) M j gn i ds' w) := ⟨_, rfl⟩
        obtain ⟨μ3, hμ3⟩ : ∃ μ : Act → World → Nat, μ = fun a w => rules.length - slotInt a 37 := ⟨_, rfl⟩
        have HI3 := Lib.hid hI3
        have HM3 := Lib.hid hμ3
        refine wp_loop I3 μ3 ?_ ?_
        · rw [hI3]
          exact ⟨_, _, _, _, _, _, _, _, _, _, _, _, _, _, _, _, _, _, _, _, _, _, _, _, _, _, _, _, _, _, _, _, _, _, _, _, _, _, _, _, _, _, _, _, _, _, _, _, _, _, _, _, _, _, _, _, ds, 0, rfl, Nat.zero_le _, Lib.hid HE.out.start⟩
        clear hI3 hμ3
        intro a wr h3
        have h3 := (congrFun (congrFun HI3.out a) wr).mp h3
        obtain ⟨u2, u3, u7, u8, u12, u13, u14, u15, u16, u17, u18, u19, u20, u21, u22, u23, u24, u25, u26, u27, u28, u29, u30, u31, u32, u33, u34, u38, u39, u40, u41, u42, u43, u44, u45, u46, u47, u48, u49, u50, u51, u52, u53, u54, u55, u56, u57, u58, u59, u60, u61, u62, u63, u64, u65, u66, ds', i, rfl, hile, H3⟩ := h3
        by_cases hlt : i < rules.length
        · obtain ⟨b, o, bv, rfl, ⟨q0, q1, q2, q3⟩, hok, hbd⟩ := ruls_at (tRuls.mono _ _ _ _ (show (mem W).le ((mem wr).on (· < W.heap.size)) from fun b o u e => Mem.on_some (below_mem H3.out.fst.bl _ _ _ e) (mem_lt e)) HR.out) hlt
          have c0 : wr.cell? ⟨b, o + i * 4, none⟩ = some (.string rules[i].hd.n) := (Mem.of_on q0).2
          have c1 : wr.cell? ⟨b, o + i * 4 + 1, none⟩ = some (.string rules[i].hd.a) := (Mem.of_on q1).2
          have c2 : wr.cell? ⟨b, o + i * 4 + 2, none⟩ = some (.string rules[i].hd.b) := (Mem.of_on q2).2
          have c3 : wr.cell? ⟨b, o + i * 4 + 3, none⟩ = some bv := (Mem.of_on q3).2
          obtain ⟨ab, cb, rfl, -, -, -⟩ := slice_form hbd
          have HBDV := Lib.hid hbd
          have HOKR := Lib.hid hok
          have HB3 := Lib.hid (HBD.out rules[i] (List.getElem_mem hlt))
          have HTK := Lib.hid (headsAll_take (L := srt (keysR M)) hlt)
          have HBG := Lib.hid (fun pre y post hw hb => H2.out.left (round_big (j := j) (M := M) hlt (pre := pre) (y := y) (post := post) hw hb))
          have HILT := Lib.hid hlt
          clear q0 q1 q2 q3 hbd hok
          generalize rules[i] = r at *
          obtain ⟨⟨r1, r2, r3⟩, bd⟩ := r
          obtain ⟨X, hX⟩ : ∃ X, X = ((wr.alloc (.cells #[.string r1, .string r2, .string r3, .slice ab bd.length cb] 28)).alloc (.cells #[.map (some ib)] 77)).alloc (.cells #[.slice ab bd.length cb] 26) := ⟨_, rfl⟩
          have HX := Lib.hid hX
          clear hX
          go_wp2_with fail

          refine (matchesCall_any ib _ _ _ _ _ rfl).mono ?_
          rintro e w5 ⟨rfl, rfl⟩
          obtain ⟨hxb, hxs, x1, x2, x3⟩ := three_alloc HX.out
          have HXB := Lib.hid hxb
          have HXS := Lib.hid hxs
          have HX1 := Lib.hid x1
          have HGV := Lib.hid (matches_gives (SR W gn X) (wr.heap.size + 2) (wr.heap.size + 1) ib _ (.slice ab bd.length cb) bd (srt (keysR M)) f X (HE.out.env H3.out hxb HBDV.out HB3.out (mem_cells x3 0) (mem_cells x2 0) (by omega) (by omega)) HSL.out)
          have HRI0 := Lib.hid (RI.init (r := ⟨⟨r1, r2, r3⟩, bd⟩) H3.out hxb HE.out.gns.2 HE.out.fst.lt)
          have HFG := Lib.hid (show ∀ (pre : List (Bnd × List Fct)) w', RI W X M (addsR j M (headsAll (rules.take i) (srt (keysR M)))) ⟨⟨r1, r2, r3⟩, bd⟩ j gn pre w' → ∀ q o, (q = wr.heap.size ∨ q = gj) → X.heap[q]? = some o → w'.heap[q]? = some o from fun pre w' h q o hq ho => by
            refine (h.kp.block q (Array.getElem?_eq_some_iff.1 ho).1 (fun e => ?_)).trans ho
            have h1 := HE.out.gns
            have h2 := HE.out.gjs
            have h3 := H3.out.kp.size
            have h4 := HE.out.fst.lt
            rcases hq with rfl | rfl <;> rcases e with e | e | e <;> omega)
          have HXJ := Lib.hid (show X.heap[gj]? = some (.cells #[.int .i64 j] 3 (0, 0)) from by
            have h2 := HE.out.gjs
            have h3 := H3.out.kp.size
            refine (hxb.block gj (by omega)).trans ((H3.out.kp.block gj h2.2.2 (fun e => ?_)).trans HE.out.cj)
            rcases e with e | e | e <;> omega)
          have HML := Lib.hid (show M.length ≤ (addsR j M (headsAll (rules.take i) (srt (keysR M)))).length from addsR_len _ _ _)
          have HXG := Lib.hid (show gn < X.heap.size ∧ W.heap.size + 4 ≤ X.heap.size ∧ W.heap.size + 4 ≤ gn from by
            have h1 := HE.out.gns
            have h3 := H3.out.kp.size
            have h4 := HE.out.fst.lt
            have h5 := hxb.size
            omega)
          have HKO := Lib.hid (show (∀ x ∈ srt (keysR M), okF x) from fun x hx => HE.out.fst.ok x ((srt_mem _ _).1 hx))
          have HJI := Lib.hid (show inI64 (j : Int) from by have := H2.out.j2 rfl; have := H2.out.le; unfold inI64; omega)
          clear hxb hxs x1 x2 x3 c0 c1 c2 c3
          go_wp2_with fail

          rw [← HX.out]
          refine wp_rangeM (gf := 73) (lb := #[ptr0 (wr.heap.size + 2), ptr0 (wr.heap.size + 1)]) (by first | rfl | simp) (fun _ _ => rfl) HGV.out (Below.refl _ _) (fun k hk => hk.1) (fun x vs n W' hE => by obtain ⟨lv, mb, rfl, -⟩ := hE; rfl)
            (fun pre W1 => RI W X M (addsR j M (headsAll (rules.take i) (srt (keysR M)))) ⟨⟨r1, r2, r3⟩, bd⟩ j gn pre W1) (fun pre x W1 => RL W X (addsR j M (headsAll (rules.take i) (srt (keysR M)))) ⟨⟨r1, r2, r3⟩, bd⟩ j gn pre x W1) ?cI ?cL ?c0 ?cr ?cd ?cl
          case cI => exact fun s A B hI hk => hI.keeps HXG.out.1 HXG.out.2.1 (below_keeps hk) (fun q e => e)
          case cL => exact fun s x A B hL hk => hL.keeps HXG.out.2.1 (below_keeps hk) (fun q e => e)
          case c0 => exact HRI0.out
          case cd =>
            clear HGV HRI0 HBG HX1 HXJ HFG
            intro D W6 hD hsz hI hd
            have H6 := Lib.hid (hI.all H3.out HXB.out HXG.out.2.2 HTK.out (marks_on H3.out.mks HXB.out (hI.kp.wide (fun q _ e => .inl e)) hD hd H3.out.cn H3.out.fst))
            clear hI hd hsz hD
            go_wp2_with fail
            rw [HI3.out, HM3.out]
            exact ⟨⟨_, _, _, _, _, _, _, _, _, _, _, _, _, _, _, _, _, _, _, _, _, _, _, _, _, _, _, _, _, _, _, _, _, _, _, _, _, _, _, _, _, _, _, _, _, _, _, _, _, _, _, _, _, _, _, _, _, i + 1, rfl, by omega, H6⟩, by simp [slotInt, intOf]; omega⟩
          case cl =>
            clear HGV HRI0 HX1 HXJ HFG
            intro D W6 pre x post hD hsz hx hL hd
            have H6 := Lib.hid hL
            have H7 := Lib.hid (marks_on H3.out.mks HXB.out hL.kp hD hd H3.out.cn H3.out.fst)
            have H8 := Lib.hid (HBG.out pre x post hx hL.big)
            clear hL hd hsz hD hx
            go_wp2_with fail
            exact fol_too H6.out H7.out H8.out rfl rfl
          case cr =>
            intro l pre x post W1 vs hl hx hI hE hsz
            obtain ⟨lv, mb, rfl, hmb, hB, hlv⟩ := hE
            have HOKF := Lib.hid (headF_ok (r := ⟨⟨r1, r2, r3⟩, bd⟩) HOKR.out HKO.out (w := x) (by rw [hx]; simp))
            have HI1 := Lib.hid hI
            have HBM := Lib.hid hB
            clear hI hB hlv HGV HRI0 HBG hx HTK
            gi_wp2_with fail

            refine ⟨Keeps.refl _ _, fun W3 hk hs3 => ?_⟩
            have hlt3 : X.heap.size + 1 < W3.heap.size := by omega
            have HI3 := Lib.hid (HI1.out.keeps HXG.out.1 HXG.out.2.1 hk (fun q e => by omega))
            have HBM3 := Lib.hid (show BMB W3 mb x.1 from HBM.out.at (hk.block mb (MapOf.lt HBM.out.1) (fun e => by omega)))
            have hr0 := HFG.out pre W3 HI3.out wr.heap.size _ (.inl rfl) HX1.out
            have n0 : W3.cell? ⟨wr.heap.size, 0, none⟩ = some (.string r1) := mem_cells hr0 0
            have n1 : W3.cell? ⟨wr.heap.size, 1, none⟩ = some (.string r2) := mem_cells hr0 1
            have n2 : W3.cell? ⟨wr.heap.size, 2, none⟩ = some (.string r3) := mem_cells hr0 2
            have n3 : W3.cell? ⟨wr.heap.size, 3, none⟩ = some (.slice ab bd.length cb) := mem_cells hr0 3
            have HCALL := Lib.hid (headed_any ⟨⟨r1, r2, r3⟩, bd⟩ (.slice ab bd.length cb) mb x.1 W3 HBM3.out HOKR.out ab bd.length cb rfl)
            clear hr0 hk
            gi_wp2_with fail

            refine ⟨trivial, rfl, CallsIn.mono (show CallsIn (Fence.wide.inRound (X.heap.size + 1)) 0 _ _ _ _ _ from (callsIn_wide (n := 0)).2 HCALL.out) ?_⟩
            rintro e W4 ⟨rfl, hb4⟩
            have hI4 := HI3.out.keeps HXG.out.1 HXG.out.2.1 (below_keeps hb4) (fun q e => by omega)
            have hs4 := hb4.size
            obtain ⟨W5, hW5⟩ : ∃ W5, W5 = W4.alloc (.cells #[.string (headF ⟨⟨r1, r2, r3⟩, bd⟩ x.1).n, .string (headF ⟨⟨r1, r2, r3⟩, bd⟩ x.1).a, .string (headF ⟨⟨r1, r2, r3⟩, bd⟩ x.1).b] 43) := ⟨_, rfl⟩
            have hk45 : Keeps (fun _ => False) W4 W5 := by rw [hW5]; exact (Keeps.refl _ _).alloc _
            have HI5 := Lib.hid (hI4.keeps HXG.out.1 HXG.out.2.1 hk45 (fun _ h => h.elim))
            have HK35 := Lib.hid (show Keeps (fun q => W3.heap.size ≤ q) W3 W5 from (below_keeps hb4).trans (hk45.wide (fun _ _ h => h.elim)))
            have hv5 : W5.heap[W4.heap.size]? = some (.cells #[.string (headF ⟨⟨r1, r2, r3⟩, bd⟩ x.1).n, .string (headF ⟨⟨r1, r2, r3⟩, bd⟩ x.1).a, .string (headF ⟨⟨r1, r2, r3⟩, bd⟩ x.1).b] 43 (0, 0)) := by rw [hW5]; exact heap_alloc_new _ _
            have HKR := Lib.hid (show ∀ w', Keeps (fun q => q = W.heap.size + 2 ∨ q = gn ∨ q = W.heap.size ∨ q = W.heap.size + 1) W5 w' → Keeps (fun k => (k < X.heap.size ∧ ¬ SR W gn X k) ∨ W1.heap.size ≤ k) W3 w' from fun w' h => (HK35.out.wide (fun q _ e => .inr (by omega))).trans (h.wide (fun q _ e => .inl ⟨by have := HXG.out; omega, fun hs => by obtain ⟨_, h1, h2, h3, h4⟩ := hs; omega⟩)))
            have HSTAY := Lib.hid (fun hm => HI5.out.stay (x := x) hm)
            have HGROW := Lib.hid (fun hm w6 => HI5.out.grow (x := x) hm HOKF.out HXG.out.2.2 HML.out (w6 := w6))
            have HMORE := Lib.hid (fun w7 => HI5.out.more (x := x) (w7 := w7))
            have HTOO := Lib.hid (fun w7 => HI5.out.too (x := x) (w7 := w7))
            have HPUT := Lib.hid (fun hm => FM.putN HI5.out.fst.mm HI5.out.fst.nd HI5.out.fst.ok (by have := HI5.out.le; omega) HOKF.out hm (j : Int) HJI.out)
            have HLOOK := Lib.hid (HI5.out.fst.mm.lookOk HOKF.out)
            have HNK := Lib.hid (fun h => lkR_none (M := addsR j (addsR j M (headsAll (rules.take i) (srt (keysR M)))) (pre.map fun x => headF ⟨⟨r1, r2, r3⟩, bd⟩ x.1)) (f := headF ⟨⟨r1, r2, r3⟩, bd⟩ x.1) h)
            have HKK := Lib.hid (fun h => (lkR_some (M := addsR j (addsR j M (headsAll (rules.take i) (srt (keysR M)))) (pre.map fun x => headF ⟨⟨r1, r2, r3⟩, bd⟩ x.1)) (f := headF ⟨⟨r1, r2, r3⟩, bd⟩ x.1)).2 h)
            have HWV := Lib.hid hW5
            generalize hhf : headF ⟨⟨r1, r2, r3⟩, bd⟩ x.1 = hf at *
            obtain ⟨g1, g2, g3⟩ := hf
            have n0 : W5.cell? ⟨W4.heap.size, 0, none⟩ = some (.string g1) := mem_cells hv5 0
            have n1 : W5.cell? ⟨W4.heap.size, 1, none⟩ = some (.string g2) := mem_cells hv5 1
            have n2 : W5.cell? ⟨W4.heap.size, 2, none⟩ = some (.string g3) := mem_cells hv5 2
            have n6 : W5.cell? ⟨W.heap.size + 3, 0, none⟩ = some (.map (some (W.heap.size + 2))) := mem_cells HI5.out.fst.c6 0
            have n9 : W5.cell? ⟨gj, 0, none⟩ = some (.int .i64 j) := mem_cells (HFG.out pre W5 HI5.out gj _ (.inr rfl) HXJ.out) 0
            clear hW5 hv5 hk45 hI4 hb4 hhf
            by_cases hmem : (⟨g1, g2, g3⟩ : Fct) ∈ keysR (addsR j (addsR j M (headsAll (rules.take i) (srt (keysR M)))) (pre.map fun x => headF ⟨⟨r1, r2, r3⟩, bd⟩ x.1))
            · have hlk := HLOOK.out
              rw [HKK.out hmem] at hlk
              have HS := Lib.hid (HSTAY.out hmem)
              clear hmem HKK HNK HLOOK HSTAY HGROW HMORE HTOO HPUT
              obtain rfl := HWV.out
              gi_wp2_with fail
              exact ⟨HKR.out _ (Keeps.refl _ _), HS.out⟩
            · have hlk := HLOOK.out
              rw [HNK.out hmem] at hlk
              simp only [intOr, Option.isSome] at hlk
              obtain ⟨w6, hput, hfm, hgr⟩ := HPUT.out hmem
              obtain ⟨d1, d2, d3, d4⟩ := HGROW.out hmem w6 hfm hgr
              have hlen := d1.mm.lenRun d1.nd d1.ok
              have m6 : w6.cell? ⟨W.heap.size + 3, 0, none⟩ = some (.map (some (W.heap.size + 2))) := (mem_of_block (hgr.block _ (mem_lt n6) (fun e => by injection e with e; omega)) 0).trans n6
              have hcg := (hgr.block gn (by have := (Array.getElem?_eq_some_iff.1 HI5.out.cn).1; omega) (fun e => by have := HXG.out.2.2; injection e with e; omega)).trans HI5.out.cn
              have mg : w6.frozen? ⟨gn, 0, none⟩ = false := frozen_cells hcg 0
              obtain ⟨vg, mc⟩ : ∃ v, w6.cell? ⟨gn, 0, none⟩ = some v := ⟨_, mem_cells hcg 0⟩
              clear hcg
              have D1 := Lib.hid d1
              have D3 := Lib.hid d3
              have D4 := Lib.hid d4
              have D2 := Lib.hid d2
              have r6 : (w6.setCell ⟨gn, 0, none⟩ (.bool true)).cell? ⟨W.heap.size + 3, 0, none⟩ = some (.map (some (W.heap.size + 2))) := mem_cells d1.c6 0
              have r4 : (w6.setCell ⟨gn, 0, none⟩ (.bool true)).frozen? ⟨W.heap.size, 0, none⟩ = false := frozen_cells d1.r4 0
              have r5 : (w6.setCell ⟨gn, 0, none⟩ (.bool true)).frozen? ⟨W.heap.size + 1, 0, none⟩ = false := frozen_cells d1.r5 0
              have r9 : (w6.setCell ⟨gn, 0, none⟩ (.bool true)).cell? ⟨W.heap.size, 0, none⟩ = some (.map none) := mem_cells d1.r4 0
              have r10 : (w6.setCell ⟨gn, 0, none⟩ (.bool true)).cell? ⟨W.heap.size + 1, 0, none⟩ = some (.int .i64 0) := mem_cells d1.r5 0
              obtain ⟨LN, hLN⟩ : ∃ LN, LN = (addsR j (addsR j M (headsAll (rules.take i) (srt (keysR M)))) ((pre ++ [x]).map fun x => headF ⟨⟨r1, r2, r3⟩, bd⟩ x.1)).length := ⟨_, rfl⟩
              rw [← hLN] at hlen
              have HLN := Lib.hid hLN
              have HW6 := Lib.hid hgr
              clear hmem HKK HNK HLOOK HSTAY HGROW HPUT hfm hgr d1 d2 d3 d4 hLN
              obtain rfl := HWV.out
              by_cases hbig : 400 < LN
              · gi_wp2_with fail
                refine ⟨HKR.out _ (((D3.out.wide (fun q _ e => by rcases e with e | e; exact .inl e; exact .inr (.inl e))).setCell (p := ⟨W.heap.size, 0, none⟩) (fun _ => .inr (.inr (.inl rfl))) _).setCell (p := ⟨W.heap.size + 1, 0, none⟩) (fun _ => .inr (.inr (.inr rfl))) _), HTOO.out _ D1.out D3.out (by rw [← HLN.out]; exact hbig)⟩
              · gi_wp2_with fail
                refine ⟨HKR.out _ (D3.out.wide (fun q _ e => by rcases e with e | e; exact .inl e; exact .inr (.inl e))), HMORE.out _ D1.out D2.out D3.out D4.out (by rw [← HLN.out]; omega)⟩

        · obtain rfl : i = rules.length := by omega
          have H4 := Lib.hid (show R3 W We rules (srt (keysR M)) M j gn rules.length ds' wr from H3.out)
          have hfs : FSt W wr (roundR rules j M) := by have := H3.out.fst; rwa [List.take_length] at this
          have hle : (roundR rules j M).length ≤ 400 := by have := H3.out.le; rwa [List.take_length] at this
          have hcn : wr.heap[gn]? = some (.cells #[.bool (decide (M.length < (roundR rules j M).length))] 4 (0, 0)) := by have := H3.out.cn; rwa [List.take_length] at this
          have hcj : wr.heap[gj]? = some (.cells #[.int .i64 j] 3 (0, 0)) := by
            have h2 := HE.out.gjs
            have h3 := H3.out.kp.size
            have h4 := HE.out.fst.lt
            refine (H3.out.kp.block gj h2.2.2 (fun e => ?_)).trans HE.out.cj
            rcases e with e | e | e <;> omega
          have c9 : wr.cell? ⟨gj, 0, none⟩ = some (.int .i64 j) := mem_cells hcj 0
          have c10 : wr.cell? ⟨gn, 0, none⟩ = some (.bool (decide (M.length < (roundR rules j M).length))) := mem_cells hcn 0
          have HNX := Lib.hid (H2.out.next hle)
          have HFS := Lib.hid hfs
          have HLE := Lib.hid hle
          have HRL := Lib.hid (round_len rules j M)
          have hjn : j ≤ 401 := by have := H2.out.j2 rfl; have := H2.out.le; omega
          have HJ2 := Lib.hid (H2.out.j2 rfl)
          have HCJ1 := Lib.hid (show w1.cell? ⟨gj, 0, none⟩ = some (.int .i64 j) from mem_cells H2.out.cj 0)
          generalize hnw : decide (M.length < (roundR rules j M).length) = nw at *
          have HNW := Lib.hid hnw
          clear hfs hle hcn hcj H3 hnw
          go_wp2_with fail
          rw [HI.out, HM.out]
          have g1 : ∀ o1 o2, Keeps (fun _ => False) wr ((wr.alloc o1).alloc o2) := fun o1 o2 => ((Keeps.refl _ wr).alloc _).alloc _
          have g2 : ∀ (c1 c2 : Array Value) (t1 t2 : TypeId), ((wr.alloc (.cells c1 t1)).alloc (.cells c2 t2)).heap[wr.heap.size]? = some (.cells c1 t1 (0, 0)) := fun c1 c2 t1 t2 => (Below.heap_alloc _ _ _ (by simp)).trans (heap_alloc_new wr _)
          have g3 : ∀ (c1 c2 : Array Value) (t1 t2 : TypeId), ((wr.alloc (.cells c1 t1)).alloc (.cells c2 t2)).heap[wr.heap.size + 1]? = some (.cells c2 t2 (0, 0)) := fun c1 c2 t1 t2 => by have := heap_alloc_new (wr.alloc (.cells c1 t1)) (.cells c2 t2); rwa [World.size_alloc] at this
          have hw := HFS.out.lt
          refine ⟨⟨_, _, _, _, _, _, _, _, _, _, _, _, _, _, _, _, _, _, _, _, _, _, _, _, _, _, _, _, _, _, _, _, _, _, _, _, _, _, _, _, _, _, _, _, _, _, _, _, _, _, _, _, _, _, _, _, _, _, _, _, ds', j + 1, wr.heap.size, wr.heap.size + 1, roundR rules j M, nw, rfl, Lib.hid ⟨HFS.out.keeps (g1 _ _) (fun _ h => h.elim), H4.out.mks.keeps (g1 _ _) (fun _ _ h => h.elim), g2 _ _ _ _, g3 _ _ _ _, hw, by omega, by rw [HNX.out], HLE.out, by omega, fun e => ?_⟩⟩, ?_⟩
          · rw [← HNW.out] at e
            have := of_decide_eq_true e
            have := HJ2.out
            omega
          · have e1 := mem_cells (g2 #[.int .i64 (↑j + 1)] #[.bool nw] 3 4) 0
            have e2 : ((wr.alloc (.cells #[.int .i64 (↑j + 1)] 3)).alloc (.cells #[.bool nw] 4)).cell? ⟨wr.heap.size, 0, none⟩ = some (.int .i64 (↑j + 1)) := e1
            have e3 := HCJ1.out
            simp only [ptrInt, List.getElem?_toArray, List.getElem?_cons_succ, List.getElem?_cons_zero, e2, e3, intOf]
            omega

end Go.Proofs.YtafeaeaildfohaaGreatDoor
/- Valid facts, atoms, rules, programs (printed by gen_rvalid.py). -/
namespace Go.Proofs.YtafeaeaildfohaaGreatDoor
open Go.RowKit Go.Maps

def validF (f : Fct) : Bool := isName f.n && (decide (f.a.size ≤ 16) && decide (f.b.size ≤ 16))
def validA (f : Fct) : Bool := isName f.n && (isName f.a && isName f.b)
def hasV (bd : List Fct) (k : ByteArray) : Bool := bd.any fun a => decide (a.a = k ∨ a.b = k)
def validR (r : Rul) : Bool := decide (1 ≤ r.bd.length ∧ r.bd.length ≤ 3) && (validA r.hd && (!(r.bd.any fun a => !validA a) && (hasV r.bd r.hd.a && hasV r.bd r.hd.b)))
def validP (l : List Rul) : Bool := decide (l.length ≤ 12) && !(l.any fun r => !validR r)
def validG (l : List Fct) : Bool := decide (l.length ≤ 60) && !(l.any fun f => !validF f)
theorem tl_inj {a b : ByteArray} (e : a.toList = b.toList) : a = b := bytes_eq0 (by rw [e]; exact cmpBytes_good.refl _)
theorem strEqB (a k : ByteArray) : (a.toList == k.toList) = decide (a = k) := by
  by_cases h : a = k
  · subst h; simp
  · rw [decide_eq_false h, beq_eq_false_iff_ne]; exact fun e => h (tl_inj e)
theorem boxB (w : World) : ∀ o, Below w.heap.size w (w.alloc o) := fun o => (Below.refl _ _).alloc (Nat.le_refl _) o
set_option maxHeartbeats 4000000 in
theorem ringFact_any (x : Fct) (w : World) (hok : okF x) :
    Calls Tryz.prog 50 #[x.v] w fun e w' => e = .returned (.bool (validF x)) ∧ Below w.heap.size w w' := by
  obtain ⟨n, a, b⟩ := x
  obtain ⟨s1, s2, s3⟩ := hok
  have HB0 := Lib.hid (boxB w)
  have HV := Lib.hid (show validF ⟨n, a, b⟩ = (isName n && (decide (a.size ≤ 16) && decide (b.size ≤ 16))) from rfl)
  have HN := Lib.hid (fun w => ringName_any n w s1)
  have hk1 : (a.size : Int) ≤ 9223372036854775807 := by have s2' : a.size ≤ maxLen := s2; unfold maxLen at s2'; omega
  have hv1 : (b.size : Int) ≤ 9223372036854775807 := by have s3' : b.size ≤ maxLen := s3; unfold maxLen at s3'; omega
  generalize validF ⟨n, a, b⟩ = r at *
  clear s1 s2 s3
  generalize isName n = b1 at *
  go_enter Tryz.func50, Tryz.ntmps50
  go_wp2_with fail
  refine (HN.out _).mono ?_
  rintro e w1 ⟨rfl, rfl⟩
  cases b1 with
  | false =>
    have HR := Lib.hid (show r = false by rw [HV.out]; rfl)
    clear HV
    go_wp2
    go_ret
    exact ⟨by rw [HR.out] <;> rfl, HB0.out _⟩
  | true =>
  by_cases h2 : (a.size : Int) ≤ 16
  case neg =>
    have HR := Lib.hid (show r = false by rw [HV.out, decide_eq_false (p := a.size ≤ 16) (by omega)]; rfl)
    clear HV
    go_wp2
    go_ret
    exact ⟨by rw [HR.out] <;> rfl, HB0.out _⟩
  have HR := Lib.hid (show r = decide ((b.size : Int) ≤ 16) by rw [HV.out, decide_eq_true (p := a.size ≤ 16) (by omega)]; simp only [Bool.true_and]; exact decide_eq_decide.2 (by omega))
  clear HV
  go_wp2
  go_ret
  exact ⟨by rw [HR.out] <;> rfl, HB0.out _⟩
set_option maxHeartbeats 4000000 in
theorem ringAtom_any (x : Fct) (w : World) (hok : okF x) :
    Calls Tryz.prog 43 #[x.v] w fun e w' => e = .returned (.bool (validA x)) ∧ Below w.heap.size w w' := by
  obtain ⟨n, a, b⟩ := x
  obtain ⟨s1, s2, s3⟩ := hok
  have HB0 := Lib.hid (boxB w)
  have HV := Lib.hid (show validA ⟨n, a, b⟩ = (isName n && (isName a && isName b)) from rfl)
  have HN := Lib.hid (fun w => ringName_any n w s1)
  have HA := Lib.hid (fun w => ringName_any a w s2)
  have HC := Lib.hid (fun w => ringName_any b w s3)
  generalize validA ⟨n, a, b⟩ = r at *
  clear s1 s2 s3
  generalize isName n = b1 at *
  generalize isName a = b2 at *
  generalize isName b = b3 at *
  go_enter Tryz.func43, Tryz.ntmps43
  go_wp2_with fail
  refine (HN.out _).mono ?_
  rintro e w1 ⟨rfl, rfl⟩
  cases b1 with
  | false =>
    have HR := Lib.hid (show r = false by rw [HV.out]; rfl)
    clear HV
    go_wp2
    go_ret
    exact ⟨by rw [HR.out] <;> rfl, HB0.out _⟩
  | true =>
  go_wp2_with fail
  refine (HA.out _).mono ?_
  rintro e w1 ⟨rfl, rfl⟩
  cases b2 with
  | false =>
    have HR := Lib.hid (show r = false by rw [HV.out]; rfl)
    clear HV
    go_wp2
    go_ret
    exact ⟨by rw [HR.out] <;> rfl, HB0.out _⟩
  | true =>
  go_wp2_with fail
  refine (HC.out _).mono ?_
  rintro e w1 ⟨rfl, rfl⟩
  have HR := Lib.hid (show r = b3 by rw [HV.out]; rfl)
  clear HV
  go_wp2
  go_ret
  exact ⟨by rw [HR.out] <;> rfl, HB0.out _⟩
set_option maxHeartbeats 4000000 in
theorem refAtom_any (x : Fct) (w : World) (hok : okF x) :
    Calls Tryz.prog 61 #[x.v] w fun e w' => e = .returned (.bool (validA x)) ∧ Below w.heap.size w w' := by
  obtain ⟨n, a, b⟩ := x
  obtain ⟨s1, s2, s3⟩ := hok
  have HB0 := Lib.hid (boxB w)
  have HV := Lib.hid (show validA ⟨n, a, b⟩ = (isName n && (isName a && isName b)) from rfl)
  have HN := Lib.hid (fun w => refName_any n w s1)
  have HA := Lib.hid (fun w => refName_any a w s2)
  have HC := Lib.hid (fun w => refName_any b w s3)
  generalize validA ⟨n, a, b⟩ = r at *
  clear s1 s2 s3
  generalize isName n = b1 at *
  generalize isName a = b2 at *
  generalize isName b = b3 at *
  go_enter Tryz.func61, Tryz.ntmps61
  go_wp2_with fail
  refine (HN.out _).mono ?_
  rintro e w1 ⟨rfl, rfl⟩
  cases b1 with
  | false =>
    have HR := Lib.hid (show r = false by rw [HV.out]; rfl)
    clear HV
    go_wp2
    go_ret
    exact ⟨by rw [HR.out] <;> rfl, HB0.out _⟩
  | true =>
  go_wp2_with fail
  refine (HA.out _).mono ?_
  rintro e w1 ⟨rfl, rfl⟩
  cases b2 with
  | false =>
    have HR := Lib.hid (show r = false by rw [HV.out]; rfl)
    clear HV
    go_wp2
    go_ret
    exact ⟨by rw [HR.out] <;> rfl, HB0.out _⟩
  | true =>
  go_wp2_with fail
  refine (HC.out _).mono ?_
  rintro e w1 ⟨rfl, rfl⟩
  have HR := Lib.hid (show r = b3 by rw [HV.out]; rfl)
  clear HV
  go_wp2
  go_ret
  exact ⟨by rw [HR.out] <;> rfl, HB0.out _⟩
set_option maxHeartbeats 1000000 in
theorem ring1_any (x : Fct) (w : World) (hok : okF x) :
    Calls Tryz.prog 45 #[x.v] w fun e w' => e = .returned (.bool (!validA x)) ∧ Below w.heap.size w w' := by
  have HB0 := Lib.hid (boxB w)
  have HV := Lib.hid (fun w => ringAtom_any x w hok)
  obtain ⟨n, a, b⟩ := x
  generalize validA ⟨n, a, b⟩ = r at *
  go_enter Tryz.func45, Tryz.ntmps45
  go_wp2_with fail
  refine (HV.out _).mono ?_
  rintro e w1 ⟨rfl, hb⟩
  have HB := Lib.hid (pure_trans (HB0.out _) hb)
  clear hb HB0 HV
  go_wp2
  go_ret
  exact ⟨rfl, HB.out⟩
set_option maxHeartbeats 1000000 in
theorem given1_any (x : Fct) (w : World) (hok : okF x) :
    Calls Tryz.prog 49 #[x.v] w fun e w' => e = .returned (.bool (!validF x)) ∧ Below w.heap.size w w' := by
  have HB0 := Lib.hid (boxB w)
  have HV := Lib.hid (fun w => ringFact_any x w hok)
  obtain ⟨n, a, b⟩ := x
  generalize validF ⟨n, a, b⟩ = r at *
  go_enter Tryz.func49, Tryz.ntmps49
  go_wp2_with fail
  refine (HV.out _).mono ?_
  rintro e w1 ⟨rfl, hb⟩
  have HB := Lib.hid (pure_trans (HB0.out _) hb)
  clear hb HB0 HV
  go_wp2
  go_ret
  exact ⟨rfl, HB.out⟩
set_option maxHeartbeats 1000000 in
theorem has1_any (x : Fct) (bk : Nat) (k : ByteArray) (w : World) (hk : w.cell? ⟨bk, 0, none⟩ = some (.string k)) :
    Calls Tryz.prog 47 #[x.v, ptr0 bk] w fun e w' => e = .returned (.bool (decide (x.a = k ∨ x.b = k))) ∧ Below w.heap.size w w' := by
  have HB0 := Lib.hid (boxB w)
  obtain ⟨n, a, b⟩ := x
  have hn1 : ∀ o, (w.alloc o).cell? ⟨bk, 0, none⟩ = some (.string k) := fun o => below_mem (HB0.out o) _ _ _ hk
  have hlt : bk < w.heap.size := mem_lt hk
  have hne : ¬ bk = w.heap.size := by omega
  have HR0 := Lib.hid (show (a.toList == k.toList || b.toList == k.toList) = decide (a = k ∨ b = k) from by rw [strEqB, strEqB, Bool.decide_or])
  cases h1 : (a.toList == k.toList)
  all_goals
    rw [h1] at HR0
    have HR := Lib.hid HR0.out
    simp only [Bool.true_or, Bool.false_or] at HR
    clear HR0
    go_enter Tryz.func47, Tryz.ntmps47
    go_wp2
    go_ret
    exact ⟨by rw [← HR.out] <;> rfl, HB0.out _⟩
set_option maxRecDepth 100000 in
set_option maxHeartbeats 1000000 in
theorem has_any (bd : List Fct) (v : Value) (bx : Nat) (k : ByteArray) (w : World) (hc : w.cell? ⟨bx, 3, none⟩ = some v) (hv : tFcts.rv (mem w) [v] bd) :
    Calls Tryz.prog 46 #[.string k, ptr0 bx] w fun e w' => e = .returned (.bool (hasV bd k)) ∧ Below w.heap.size w w' := by
  have HB0 := Lib.hid (boxB w)
  have HC := Lib.hid (fun (w' : World) (hb : Below w.heap.size w w') (hk : w'.cell? ⟨w.heap.size, 0, none⟩ = some (.string k)) => containsFuncAtm 47 #[ptr0 w.heap.size] (fun a => decide (a.a = k ∨ a.b = k)) bd v w' (tFcts.mono _ _ _ _ (below_mem hb) hv) (fun _ _ => rfl)
    (fun x _ wr hb => has1_any x w.heap.size k wr (below_mem hb _ _ _ hk)))
  obtain ⟨av, cv, rfl, -⟩ := slice_form hv
  have hn1 : ∀ o, (w.alloc o).cell? ⟨bx, 3, none⟩ = some (.slice av bd.length cv) := fun o => below_mem (HB0.out o) _ _ _ hc
  have hlt : bx < w.heap.size := mem_lt hc
  have hne : ¬ bx = w.heap.size := by omega
  have HH := Lib.hid (show (bd.any fun a => decide (a.a = k ∨ a.b = k)) = hasV bd k from rfl)
  generalize (bd.any fun a => decide (a.a = k ∨ a.b = k)) = r at *
  clear hv
  go_enter Tryz.func46, Tryz.ntmps46
  go_wp2_with fail
  refine (HC.out (w.alloc (.cells #[.string k] 9)) (HB0.out _) (mem_cells (heap_alloc_new w (.cells #[.string k] 9)) 0)).mono ?_
  rintro e w1 ⟨rfl, hb⟩
  have HB := Lib.hid (pure_trans (HB0.out _) hb)
  clear hb HB0 HC
  go_wp2
  go_ret
  exact ⟨by rw [← HH.out] <;> rfl, HB.out⟩
set_option maxRecDepth 100000 in
set_option maxHeartbeats 4000000 in
theorem ringRule_any (r : Rul) (v : Value) (w : World) (hok : okF r.hd) (hv : tFcts.rv (mem w) [v] r.bd) :
    Calls Tryz.prog 27 #[r.v v] w fun e w' => e = .returned (.bool (validR r)) ∧ Below w.heap.size w w' := by
  obtain ⟨⟨n, a, b⟩, bd⟩ := r
  have HB0 := Lib.hid (boxB w)
  have HV := Lib.hid (show validR ⟨⟨n, a, b⟩, bd⟩ = (decide (1 ≤ bd.length ∧ bd.length ≤ 3) && (validA ⟨n, a, b⟩ && (!(bd.any fun a => !validA a) && (hasV bd a && hasV bd b)))) from rfl)
  have HA := Lib.hid (fun w => ringAtom_any ⟨n, a, b⟩ w hok)
  have HC := Lib.hid (fun (w' : World) (hb : Below w.heap.size w w') => containsFuncAtm 45 #[] (fun a => !validA a) bd v w' (tFcts.mono _ _ _ _ (below_mem hb) hv) (fun _ _ => rfl) (fun x hx wr _ => ring1_any x wr hx))
  have HH := Lib.hid (fun (w' : World) (k : ByteArray) (hb : Below w.heap.size w w') (hc : w'.cell? ⟨w.heap.size, 3, none⟩ = some v) => has_any bd v w.heap.size k w' hc (tFcts.mono _ _ _ _ (below_mem hb) hv))
  obtain ⟨av, cv, rfl, hl1, hl2, -⟩ := slice_form hv
  have hcv : cv ≤ 9223372036854775807 := by unfold maxLen at hl2; exact hl2
  have hcell := mem_cells (heap_alloc_new w (.cells #[.string n, .string a, .string b, .slice av bd.length cv] 28))
  have HCL := Lib.hid hcell
  generalize validR ⟨⟨n, a, b⟩, bd⟩ = r at *
  generalize validA ⟨n, a, b⟩ = b1 at *
  generalize (bd.any fun a => !validA a) = b2 at *
  generalize hbl : bd.length = m at *
  clear hv hcell hl2 hok hbl
  by_cases h0 : m = 0
  · have HR := Lib.hid (show r = false by rw [HV.out, decide_eq_false (by omega)]; rfl)
    clear HV HA HC HH HCL
    subst h0
    go_enter Tryz.func27, Tryz.ntmps27
    go_wp2
    go_ret
    exact ⟨by rw [HR.out] <;> rfl, HB0.out _⟩
  by_cases h3 : 3 < m
  · have HR := Lib.hid (show r = false by rw [HV.out, decide_eq_false (by omega)]; rfl)
    clear HV HA HC HH HCL
    go_enter Tryz.func27, Tryz.ntmps27
    go_wp2
    go_ret
    exact ⟨by rw [HR.out] <;> rfl, HB0.out _⟩
  have HV2 := Lib.hid (show r = (b1 && (!b2 && (hasV bd a && hasV bd b))) by rw [HV.out, decide_eq_true (by omega)]; rfl)
  clear HV
  have e0 : ((m : Int) == 0) = false := by simp; omega
  have e3 : ¬ (3 < (m : Int)) := by omega
  go_enter Tryz.func27, Tryz.ntmps27
  go_wp2_with fail
  refine (HA.out _).mono ?_
  rintro e w1 ⟨rfl, hb1⟩
  have HB1 := Lib.hid (pure_trans (HB0.out _) hb1)
  have HC1 := Lib.hid (show ∀ k u, _ → w1.cell? ⟨w.heap.size, k, none⟩ = some u from fun k u h => below_mem hb1 _ _ _ ((HCL.out k).trans h))
  have n1 := HC1.out 1 (.string a) rfl
  have n2 := HC1.out 2 (.string b) rfl
  have n3 := HC1.out 3 (.slice av m cv) rfl
  clear hb1 HA HCL
  cases b1 with
  | false =>
    have HR := Lib.hid (show r = false by rw [HV2.out]; rfl)
    clear HV2 HC HH
    go_wp2
    go_ret
    exact ⟨by rw [HR.out] <;> rfl, HB1.out⟩
  | true =>
  go_wp2_with fail
  refine (HC.out _ HB1.out).mono ?_
  rintro e w2 ⟨rfl, hb2⟩
  have HB2 := Lib.hid (pure_trans HB1.out hb2)
  have m1 : w2.cell? ⟨w.heap.size, 1, none⟩ = some (.string a) := below_mem hb2 _ _ _ n1
  have m2 : w2.cell? ⟨w.heap.size, 2, none⟩ = some (.string b) := below_mem hb2 _ _ _ n2
  have m3 : w2.cell? ⟨w.heap.size, 3, none⟩ = some (.slice av m cv) := below_mem hb2 _ _ _ n3
  clear hb2 HC n1 n2 n3 HC1 HB1
  cases b2 with
  | true =>
    have HR := Lib.hid (show r = false by rw [HV2.out]; rfl)
    clear HV2 HH
    go_wp2
    go_ret
    exact ⟨by rw [HR.out] <;> rfl, HB2.out⟩
  | false =>
  have HM2 := Lib.hid m2
  have HM3 := Lib.hid m3
  go_wp2_with fail
  refine (HH.out _ a HB2.out HM3.out).mono ?_
  rintro e w3 ⟨rfl, hb3⟩
  have HB3 := Lib.hid (pure_trans HB2.out hb3)
  have k2 : w3.cell? ⟨w.heap.size, 2, none⟩ = some (.string b) := below_mem hb3 _ _ _ HM2.out
  have K3 := Lib.hid (show w3.cell? ⟨w.heap.size, 3, none⟩ = some (.slice av m cv) from below_mem hb3 _ _ _ HM3.out)
  clear hb3 m1 m2 m3 HM2 HM3
  generalize hasV bd a = b3 at *
  cases b3 with
  | false =>
    have HR := Lib.hid (show r = false by rw [HV2.out]; rfl)
    clear HV2 HH
    go_wp2
    go_ret
    exact ⟨by rw [HR.out] <;> rfl, HB3.out⟩
  | true =>
  go_wp2_with fail
  refine (HH.out _ b HB3.out K3.out).mono ?_
  rintro e w4 ⟨rfl, hb4⟩
  have HB4 := Lib.hid (pure_trans HB3.out hb4)
  have HR := Lib.hid (show r = hasV bd b by rw [HV2.out]; rfl)
  clear HV2 HH hb4
  go_wp2
  go_ret
  exact ⟨by rw [HR.out] <;> rfl, HB4.out⟩
set_option maxHeartbeats 1000000 in
theorem program1_any (r : Rul) (v : Value) (w : World) (hok : okF r.hd) (hv : tFcts.rv (mem w) [v] r.bd) :
    Calls Tryz.prog 33 #[r.v v] w fun e w' => e = .returned (.bool (!validR r)) ∧ Below w.heap.size w w' := by
  have HB0 := Lib.hid (boxB w)
  have HV := Lib.hid (fun (w' : World) (hb : Below w.heap.size w w') => ringRule_any r v w' hok (tFcts.mono _ _ _ _ (below_mem hb) hv))
  obtain ⟨⟨n, a, b⟩, bd⟩ := r
  obtain ⟨av, cv, rfl, -⟩ := slice_form hv
  generalize validR ⟨⟨n, a, b⟩, bd⟩ = r at *
  clear hv
  go_enter Tryz.func33, Tryz.ntmps33
  go_wp2_with fail
  refine (HV.out _ (HB0.out _)).mono ?_
  rintro e w1 ⟨rfl, hb⟩
  have HB := Lib.hid (pure_trans (HB0.out _) hb)
  clear hb HB0 HV
  go_wp2
  go_ret
  exact ⟨rfl, HB.out⟩
end Go.Proofs.YtafeaeaildfohaaGreatDoor
/- ring.program, given, Follows, walked. -/
namespace Go.Proofs.YtafeaeaildfohaaGreatDoor
open Go.RowKit Go.Maps

set_option maxRecDepth 100000 in
set_option maxHeartbeats 1000000 in
theorem ringProgram_any (l : List Rul) (v : Value) (w : World) (hv : tRuls.rv (mem w) [v] l) :
    Calls Tryz.prog 15 #[v] w fun e w' => e = .returned (.bool (validP l)) ∧ Below w.heap.size w w' := by
  have HC := Lib.hid (containsFuncRul 33 #[] (fun r => !validR r) l v w hv (fun _ _ => rfl) (fun x bv h1 h2 wr hb => program1_any x bv wr h1 (tFcts.mono _ _ _ _ (below_mem hb) h2)))
  have HV := Lib.hid (show validP l = (decide (l.length ≤ 12) && !(l.any fun r => !validR r)) from rfl)
  obtain ⟨a, cap, rfl, hlc, hm, hv⟩ := slice_form hv
  have hcap : cap ≤ 9223372036854775807 := by unfold maxLen at hm; exact hm
  generalize (l.any fun r => !validR r) = b at *
  generalize validP l = r at *
  generalize hn : l.length = n at *
  clear hm hv hn
  by_cases h : (n : Int) ≤ 12
  · have HR := Lib.hid (show r = !b by rw [HV.out, decide_eq_true (by omega)]; rfl)
    clear HV
    go_enter Tryz.func15, Tryz.ntmps15
    go_wp2_with fail
    refine HC.out.mono ?_
    rintro e w1 ⟨rfl, hb⟩
    go_wp2
    go_ret
    exact ⟨by rw [HR.out] <;> rfl, hb⟩
  · have HR := Lib.hid (show r = false by rw [HV.out, decide_eq_false (by omega)]; rfl)
    clear HV
    go_enter Tryz.func15, Tryz.ntmps15
    go_wp2
    go_ret
    exact ⟨by rw [HR.out] <;> rfl, Below.refl _ _⟩
set_option maxRecDepth 100000 in
set_option maxHeartbeats 1000000 in
theorem ringGiven_any (l : List Fct) (v : Value) (w : World) (hv : tFcts.rv (mem w) [v] l) :
    Calls Tryz.prog 29 #[v] w fun e w' => e = .returned (.bool (validG l)) ∧ Below w.heap.size w w' := by
  have HC := Lib.hid (containsFuncFct 49 #[] (fun r => !validF r) l v w hv (fun _ _ => rfl) (fun x h1 wr hb => given1_any x wr h1))
  have HV := Lib.hid (show validG l = (decide (l.length ≤ 60) && !(l.any fun r => !validF r)) from rfl)
  obtain ⟨a, cap, rfl, hlc, hm, hv⟩ := slice_form hv
  have hcap : cap ≤ 9223372036854775807 := by unfold maxLen at hm; exact hm
  generalize (l.any fun r => !validF r) = b at *
  generalize validG l = r at *
  generalize hn : l.length = n at *
  clear hm hv hn
  by_cases h : (n : Int) ≤ 60
  · have HR := Lib.hid (show r = !b by rw [HV.out, decide_eq_true (by omega)]; rfl)
    clear HV
    go_enter Tryz.func29, Tryz.ntmps29
    go_wp2_with fail
    refine HC.out.mono ?_
    rintro e w1 ⟨rfl, hb⟩
    go_wp2
    go_ret
    exact ⟨by rw [HR.out] <;> rfl, hb⟩
  · have HR := Lib.hid (show r = false by rw [HV.out, decide_eq_false (by omega)]; rfl)
    clear HV
    go_enter Tryz.func29, Tryz.ntmps29
    go_wp2
    go_ret
    exact ⟨by rw [HR.out] <;> rfl, Below.refl _ _⟩
theorem validP_body {l : List Rul} (h : validP l = true) : ∀ r ∈ l, r.bd.length ≤ 3 := fun r hr => by
  unfold validP at h
  rw [Bool.and_eq_true] at h
  have h2 := h.2
  rw [Bool.not_eq_true', List.any_eq_false] at h2
  have := h2 r hr
  simp [validR] at this
  omega
theorem validG_len {l : List Fct} (h : validG l = true) : l.length ≤ 60 := by
  unfold validG at h
  rw [Bool.and_eq_true] at h
  exact of_decide_eq_true h.1
/-- What Follows answers. -/
def FollowsAns (rules : List Rul) (l : List Fct) (W w' : World) (e : Ending) : Prop :=
  Below W.heap.size W w' ∧ (((validP rules && validG l) = false ∧ e = .returned (.tuple #[.slice none 0 0, .int .i64 1])) ∨
    ((validP rules && validG l) = true ∧ followR rules l = none ∧ e = .returned (.tuple #[.slice none 0 0, .int .i64 4])) ∨
    ∃ M v, (validP rules && validG l) = true ∧ followR rules l = some M ∧ e = .returned (.tuple #[v, .int .i64 0]) ∧ tFcts.rv ((mem w').on (W.heap.size ≤ ·)) [v] (srt (keysR M)))
set_option maxRecDepth 100000 in
set_option maxHeartbeats 2000000 in
theorem ringFollows_any (rules : List Rul) (l : List Fct) (rv fv : Value) (w : World) (hr : tRuls.rv (mem w) [rv] rules) (hf : tFcts.rv (mem w) [fv] l) :
    Calls Tryz.prog 13 #[rv, fv] w fun e w' => FollowsAns rules l w w' e := by
  have HP := Lib.hid (fun w' (hb : Below w.heap.size w w') => ringProgram_any rules rv w' (tRuls.mono _ _ _ _ (below_mem hb) hr))
  have HG := Lib.hid (fun w' (hb : Below w.heap.size w w') => ringGiven_any l fv w' (tFcts.mono _ _ _ _ (below_mem hb) hf))
  have HF := Lib.hid (fun w' (hb : Below w.heap.size w w') (h1 : validP rules = true) (h2 : validG l = true) => follow_any rules l rv fv w' (tRuls.mono _ _ _ _ (below_mem hb) hr) (tFcts.mono _ _ _ _ (below_mem hb) hf) (by have := validG_len h2; omega) (validP_body h1))
  obtain ⟨ar, cr, rfl, -⟩ := slice_form hr
  obtain ⟨af, cf, rfl, -⟩ := slice_form hf
  clear hr hf
  go_enter Tryz.func13, Tryz.ntmps13
  go_wp2_with fail
  refine (HP.out w (Below.refl _ _)).mono ?_
  rintro e w1 ⟨rfl, hb1⟩
  cases hp : validP rules with
  | false =>
    clear HP HG HF
    go_wp2
    go_ret2
    exact ⟨hb1, .inl ⟨by rw [hp]; rfl, rfl⟩⟩
  | true =>
  go_wp2_with fail
  refine (HG.out w1 hb1).mono ?_
  rintro e w2 ⟨rfl, hb2⟩
  have hb2 := pure_trans hb1 hb2
  cases hg : validG l with
  | false =>
    clear HP HG HF
    go_wp2
    go_ret2
    exact ⟨hb2, .inl ⟨by rw [hp, hg]; rfl, rfl⟩⟩
  | true =>
  go_wp2_with fail
  refine (HF.out w2 hb2 hp hg).mono ?_
  rintro e w3 ⟨hb3, h⟩
  have HB3 := Lib.hid (pure_trans hb2 hb3)
  have HVV := Lib.hid (show (validP rules && validG l) = true by rw [hp, hg]; rfl)
  clear hb1 HP HG HF
  rcases h with ⟨h0, rfl⟩ | ⟨M, mb, h0, rfl, h1, h2, h3, h4⟩
  · have H0 := Lib.hid h0
    clear h0 hp hg hb2 hb3
    go_wp2
    go_ret2
    exact ⟨HB3.out, .inr (.inl ⟨HVV.out, H0.out, rfl⟩)⟩
  · have H0 := Lib.hid h0
    have HS := Lib.hid (ringSorted_any mb M.length (lkR M) w3 h2 (by have := (follow_fin h0).le; omega))
    have HW := Lib.hid (show w.heap.size ≤ w3.heap.size from HB3.out.size)
    clear h0 h1 h2 h3 h4 hp hg hb2 hb3
    go_wp2_with fail
    refine HS.out.mono ?_
    rintro e w4 ⟨v, ss, rfl, k1, -, -, k4, k5⟩
    obtain rfl : srt (keysR M) = ss := srt_eq k1.up (fun x => (k1.mem x).trans lkR_some)
    have K4 := Lib.hid (tFcts.mono _ _ _ _ (Mem.on_mono (mem w4) (S' := (w.heap.size ≤ ·)) (fun k hk => Nat.le_trans HW.out hk)) k4)
    have K5 := Lib.hid (pure_trans HB3.out k5)
    clear k1 k4 k5 HS
    go_wp2
    go_ret2
    exact ⟨K5.out, .inr (.inr ⟨M, v, HVV.out, H0.out, rfl, K4.out⟩)⟩
end Go.Proofs.YtafeaeaildfohaaGreatDoor
/- The chapter's example. -/
namespace Go.Proofs.YtafeaeaildfohaaGreatDoor
open Go.RowKit Go.Maps

def reachR : List Rul := [⟨⟨⟨#[114, 101, 97, 99, 104]⟩, ⟨#[120]⟩, ⟨#[121]⟩⟩, [⟨⟨#[101, 100, 103, 101]⟩, ⟨#[120]⟩, ⟨#[121]⟩⟩]⟩,
  ⟨⟨⟨#[114, 101, 97, 99, 104]⟩, ⟨#[120]⟩, ⟨#[122]⟩⟩, [⟨⟨#[114, 101, 97, 99, 104]⟩, ⟨#[120]⟩, ⟨#[121]⟩⟩, ⟨⟨#[101, 100, 103, 101]⟩, ⟨#[121]⟩, ⟨#[122]⟩⟩]⟩]
def edgeL : List Fct := [⟨⟨#[101, 100, 103, 101]⟩, ⟨#[97]⟩, ⟨#[98]⟩⟩, ⟨⟨#[101, 100, 103, 101]⟩, ⟨#[98]⟩, ⟨#[97]⟩⟩]
set_option maxRecDepth 100000 in
theorem awake_len : (followR reachR edgeL).map (fun M => M.length) = some 6 := by decide +kernel
set_option maxRecDepth 100000 in
theorem awake_valid : (validP reachR && validG edgeL) = true := by decide +kernel
theorem at_cells {w : World} {b : Nat} {arr : Array Value} {t : TypeId} {f : Nat × Nat} (h : w.heap[b]? = some (.cells arr t f)) {o : Nat} {cs : List Value} (h2 : ∀ j u, cs[j]? = some u → arr[o + j]? = some u) : At (mem w) b o cs :=
  fun j u hj => (mem_cells h (o + j)).trans (h2 j u hj)
theorem small_ok {b : ByteArray} (h : b.size ≤ 1000) : b.size ≤ maxLen := by unfold maxLen; omega
theorem at3 {w : World} {b : Nat} {arr : Array Value} {t : TypeId} {f : Nat × Nat} (h : w.heap[b]? = some (.cells arr t f)) {o : Nat} {x : Fct} (h0 : arr[o]? = some (.string x.n)) (h1 : arr[o + 1]? = some (.string x.a)) (h2 : arr[o + 2]? = some (.string x.b)) : At (mem w) b o [.string x.n, .string x.a, .string x.b] :=
  at_cells h (fun j u hj => by match j, hj with | 0, hj => simp at hj; subst hj; exact h0 | 1, hj => simp at hj; subst hj; exact h1 | 2, hj => simp at hj; subst hj; exact h2)
set_option maxRecDepth 100000 in
set_option maxHeartbeats 4000000 in
theorem reach_any (w : World) :
    Calls Tryz.prog 14 #[] w fun e w' => ∃ v, e = .returned v ∧ tRuls.rv (mem w') [v] reachR ∧ Below w.heap.size w w' := by
  go_enter Tryz.func14, Tryz.ntmps14
  go_wp2
  go_ret
  refine ⟨_, rfl, ?_, (((Below.refl _ w).alloc (Nat.le_refl _) _).alloc (by simp) _).alloc (by simp <;> omega) _⟩
  generalize hX : ((w.alloc _).alloc _).alloc _ = X
  obtain ⟨-, -, x1, x2, x3⟩ := three_alloc hX.symm
  refine ⟨some ⟨w.heap.size + 2, 0, none⟩, 2, rfl, Nat.le_of_ble_eq_true rfl, by unfold maxLen; omega, fun _ => ⟨_, _, rfl, fun k hk => ?_⟩⟩
  match k, hk with
  | 0, _ =>
    refine ⟨[.string ⟨#[114, 101, 97, 99, 104]⟩, .string ⟨#[120]⟩, .string ⟨#[121]⟩, .slice (some ⟨w.heap.size, 0, none⟩) 1 1], at_cells x3 (fun j u hj => ?_), _, rfl, ⟨small_ok (Nat.le_of_ble_eq_true rfl), small_ok (Nat.le_of_ble_eq_true rfl), small_ok (Nat.le_of_ble_eq_true rfl)⟩, ?_⟩
    · match j, hj with
      | 0, hj => simp at hj; subst hj; rfl
      | 1, hj => simp at hj; subst hj; rfl
      | 2, hj => simp at hj; subst hj; rfl
      | 3, hj => simp at hj; subst hj; rfl
    · refine ⟨some ⟨w.heap.size, 0, none⟩, 1, rfl, Nat.le_of_ble_eq_true rfl, by unfold maxLen; omega, fun _ => ⟨_, _, rfl, fun k hk => ?_⟩⟩
      match k, hk with
      | 0, _ => exact ⟨_, at3 x1 rfl rfl rfl, rfl, small_ok (Nat.le_of_ble_eq_true rfl), small_ok (Nat.le_of_ble_eq_true rfl), small_ok (Nat.le_of_ble_eq_true rfl)⟩
  | 1, _ =>
    refine ⟨[.string ⟨#[114, 101, 97, 99, 104]⟩, .string ⟨#[120]⟩, .string ⟨#[122]⟩, .slice (some ⟨w.heap.size + 1, 0, none⟩) 2 2], at_cells x3 (fun j u hj => ?_), _, rfl, ⟨small_ok (Nat.le_of_ble_eq_true rfl), small_ok (Nat.le_of_ble_eq_true rfl), small_ok (Nat.le_of_ble_eq_true rfl)⟩, ?_⟩
    · match j, hj with
      | 0, hj => simp at hj; subst hj; rfl
      | 1, hj => simp at hj; subst hj; rfl
      | 2, hj => simp at hj; subst hj; rfl
      | 3, hj => simp at hj; subst hj; rfl
    · refine ⟨some ⟨w.heap.size + 1, 0, none⟩, 2, rfl, Nat.le_of_ble_eq_true rfl, by unfold maxLen; omega, fun _ => ⟨_, _, rfl, fun k hk => ?_⟩⟩
      match k, hk with
      | 0, _ => exact ⟨_, at3 x2 rfl rfl rfl, rfl, small_ok (Nat.le_of_ble_eq_true rfl), small_ok (Nat.le_of_ble_eq_true rfl), small_ok (Nat.le_of_ble_eq_true rfl)⟩
      | 1, _ => exact ⟨_, at3 x2 rfl rfl rfl, rfl, small_ok (Nat.le_of_ble_eq_true rfl), small_ok (Nat.le_of_ble_eq_true rfl), small_ok (Nat.le_of_ble_eq_true rfl)⟩
set_option maxRecDepth 100000 in
set_option maxHeartbeats 4000000 in
theorem awake_any (w : World) :
    Calls Tryz.prog 4 #[] w fun e w' => e = .returned (.bool true) ∧ Below w.heap.size w w' := by
  go_enter Tryz.func4, Tryz.ntmps4
  go_wp2_with fail
  refine (reach_any w).mono ?_
  rintro e w1 ⟨rv, rfl, hr, hb1⟩
  obtain ⟨X, hX⟩ : ∃ X, X = w1.alloc (.cells #[.string ⟨#[101, 100, 103, 101]⟩, .string ⟨#[97]⟩, .string ⟨#[98]⟩, .string ⟨#[101, 100, 103, 101]⟩, .string ⟨#[98]⟩, .string ⟨#[97]⟩] 43) := ⟨_, rfl⟩
  have hbX : Below w1.heap.size w1 X := by rw [hX]; exact (Below.refl _ _).alloc (Nat.le_refl _) _
  have hx : X.heap[w1.heap.size]? = some (.cells #[.string ⟨#[101, 100, 103, 101]⟩, .string ⟨#[97]⟩, .string ⟨#[98]⟩, .string ⟨#[101, 100, 103, 101]⟩, .string ⟨#[98]⟩, .string ⟨#[97]⟩] 43 (0, 0)) := by rw [hX]; exact heap_alloc_new _ _
  have hl : tFcts.rv (mem X) [.slice (some ⟨w1.heap.size, 0, none⟩) 2 2] edgeL := by
    refine ⟨some ⟨w1.heap.size, 0, none⟩, 2, rfl, Nat.le_of_ble_eq_true rfl, by unfold maxLen; omega, fun _ => ⟨_, _, rfl, fun k hk => ?_⟩⟩
    match k, hk with
    | 0, _ => exact ⟨_, at3 hx rfl rfl rfl, rfl, small_ok (Nat.le_of_ble_eq_true rfl), small_ok (Nat.le_of_ble_eq_true rfl), small_ok (Nat.le_of_ble_eq_true rfl)⟩
    | 1, _ => exact ⟨_, at3 hx rfl rfl rfl, rfl, small_ok (Nat.le_of_ble_eq_true rfl), small_ok (Nat.le_of_ble_eq_true rfl), small_ok (Nat.le_of_ble_eq_true rfl)⟩
  have HF := Lib.hid (ringFollows_any reachR edgeL rv (.slice (some ⟨w1.heap.size, 0, none⟩) 2 2) X (tRuls.mono _ _ _ _ (below_mem hbX) hr) hl)
  have HB := Lib.hid (pure_trans hb1 hbX)
  have HX := Lib.hid hX
  clear hr hb1 hbX hx hl hX
  go_wp2_with fail
  rw [← HX.out]
  refine HF.out.mono ?_
  rintro e w2 ⟨hb, h⟩
  have hB := Lib.hid (pure_trans HB.out hb)
  rcases h with ⟨h, -⟩ | ⟨-, h, -⟩ | ⟨M, v, -, h, rfl, hv⟩
  · rw [awake_valid] at h; cases h
  · have := awake_len
    rw [h] at this; cases this
  · have h6 : (srt (keysR M)).length = 6 := by
      have := awake_len
      rw [h] at this
      simp only [Option.map_some, Option.some.injEq] at this
      rw [srt_len (follow_fin h).nd, keys_len]; exact this
    obtain ⟨a, c, rfl, -, -, -⟩ := slice_form hv
    rw [h6]
    clear hb h hv h6 HF HX HB
    go_wp2
    go_ret
    exact ⟨rfl, hB.out⟩
end Go.Proofs.YtafeaeaildfohaaGreatDoor
/- What stands ahead of the reference's validity. -/
namespace Go.Proofs.YtafeaeaildfohaaGreatDoor
open Go.RowKit Go.Maps
end Go.Proofs.YtafeaeaildfohaaGreatDoor
/- The reference's ValidRule, program, facts. -/
namespace Go.Proofs.YtafeaeaildfohaaGreatDoor
open Go.RowKit Go.Maps

theorem any_take {α : Type} {p : α → Bool} {l : List α} {k : Nat} (h : k < l.length) : (l.take (k + 1)).any p = ((l.take k).any p || p l[k]) := by
  rw [List.take_succ_eq_append_getElem h, List.any_append]; simp
theorem any_false_of {α : Type} {p : α → Bool} {l : List α} {k : Nat} (h : k < l.length) (e : p l[k] = true) : l.any p = true := List.any_eq_true.2 ⟨_, List.getElem_mem h, e⟩
theorem hasP (x : Fct) (k : ByteArray) : decide (x.a = k ∨ x.b = k) = ((x.a.toList == k.toList) || (x.b.toList == k.toList)) := by rw [strEqB, strEqB, Bool.decide_or]
set_option maxRecDepth 100000 in
set_option maxHeartbeats 8000000 in
theorem refRule_any (r : Rul) (v : Value) (w : World) (hok : okF r.hd) (hv : tFcts.rv (mem w) [v] r.bd) :
    Calls Tryz.prog 36 #[r.v v] w fun e w' => e = .returned (.bool (validR r)) ∧ Below w.heap.size w w' := by
  obtain ⟨⟨n, a, b⟩, bd⟩ := r
  have HB0 := Lib.hid (boxB w)
  have HV := Lib.hid (show validR ⟨⟨n, a, b⟩, bd⟩ = (decide (1 ≤ bd.length ∧ bd.length ≤ 3) && (validA ⟨n, a, b⟩ && (!(bd.any fun a => !validA a) && (hasV bd a && hasV bd b)))) from rfl)
  have HA := Lib.hid (fun w => refAtom_any ⟨n, a, b⟩ w hok)
  have HD := Lib.hid (fun (w' : World) (hb : Below w.heap.size w w') => tFcts.mono _ _ _ _ (below_mem hb) hv)
  obtain ⟨av, cv, rfl, hl1, hl2, -⟩ := slice_form hv
  have hcv : cv ≤ 9223372036854775807 := by unfold maxLen at hl2; exact hl2
  have hcell := mem_cells (heap_alloc_new w (.cells #[.string n, .string a, .string b, .slice av bd.length cv] 28))
  have HCL := Lib.hid hcell
  generalize validR ⟨⟨n, a, b⟩, bd⟩ = r at *
  generalize validA ⟨n, a, b⟩ = b1 at *
  clear hv hcell hl2 hok
  by_cases h0 : bd.length = 0
  · have HR := Lib.hid (show r = false by rw [HV.out, decide_eq_false (by omega)]; rfl)
    clear HV HA HD HCL
    generalize bd.length = m at *
    subst h0
    go_enter Tryz.func36, Tryz.ntmps36
    go_wp2
    go_ret
    exact ⟨by rw [HR.out] <;> rfl, HB0.out _⟩
  by_cases h3 : 3 < bd.length
  · have HR := Lib.hid (show r = false by rw [HV.out, decide_eq_false (by omega)]; rfl)
    clear HV HA HD HCL
    generalize bd.length = m at *
    go_enter Tryz.func36, Tryz.ntmps36
    go_wp2
    go_ret
    exact ⟨by rw [HR.out] <;> rfl, HB0.out _⟩
  have HV2 := Lib.hid (show r = (b1 && (!(bd.any fun a => !validA a) && (hasV bd a && hasV bd b))) by rw [HV.out, decide_eq_true (by omega)]; rfl)
  clear HV
  have e0 : ¬ ((bd.length : Int) < 1) := by omega
  have e3 : ¬ (3 < (bd.length : Int)) := by omega
  go_enter Tryz.func36, Tryz.ntmps36
  go_wp2_with fail
  refine (HA.out _).mono ?_
  rintro e w1 ⟨rfl, hb1⟩
  have HB1 := Lib.hid (pure_trans (HB0.out _) hb1)
  have HC1 := Lib.hid (show ∀ (w' : World), Below w1.heap.size w1 w' → w'.cell? ⟨w.heap.size, 1, none⟩ = some (.string a) ∧ w'.cell? ⟨w.heap.size, 2, none⟩ = some (.string b) ∧ w'.cell? ⟨w.heap.size, 3, none⟩ = some (.slice av bd.length cv) from fun w' hb =>
    ⟨below_mem hb _ _ _ (below_mem hb1 _ _ _ ((HCL.out 1).trans rfl)), below_mem hb _ _ _ (below_mem hb1 _ _ _ ((HCL.out 2).trans rfl)), below_mem hb _ _ _ (below_mem hb1 _ _ _ ((HCL.out 3).trans rfl))⟩)
  have HD1 := Lib.hid (fun (w' : World) (hb : Below w1.heap.size w1 w') => HD.out w' (pure_trans HB1.out hb))
  clear hb1 HA HCL HD HB0
  cases b1 with
  | false =>
    have HR := Lib.hid (show r = false by rw [HV2.out]; rfl)
    clear HV2 HC1 HD1
    go_wp2
    go_ret
    exact ⟨by rw [HR.out] <;> rfl, HB1.out⟩
  | true =>
  have HV3 := Lib.hid (show r = (!(bd.any fun a => !validA a) && (hasV bd a && hasV bd b)) by rw [HV2.out]; rfl)
  clear HV2
  go_wp2_with fail
  go_loopw [3, 4, 5] (fun t1 t2 i wr => ∃ k : Nat, k ≤ bd.length ∧ i = .int .i64 k ∧ t1 = .bool (hasV (bd.take k) a) ∧ t2 = .bool (hasV (bd.take k) b) ∧ Hid ((bd.take k).any (fun a => !validA a) = false) ∧ Hid (Below w1.heap.size w1 wr)) (fun _ _ i _ => bd.length - (intOf i).toNat)
  case atStart => exact ⟨0, by omega, rfl, rfl, rfl, Lib.hid rfl, Lib.hid (Below.refl _ _)⟩
  case round =>
    obtain ⟨k, hk, rfl, rfl, rfl, HN, HB⟩ := hrel
    obtain ⟨d1, d2, d3⟩ := HC1.out _ HB.out
    by_cases hlt : k < bd.length
    · obtain ⟨bb, o, rfl, ⟨q0, q1, q2⟩, hok⟩ := fcts_at (HD1.out _ HB.out) hlt
      have c0 : wr.cell? ⟨bb, o + k * 3, none⟩ = some (.string bd[k].n) := q0
      have c1 : wr.cell? ⟨bb, o + k * 3 + 1, none⟩ = some (.string bd[k].a) := q1
      have c2 : wr.cell? ⟨bb, o + k * 3 + 2, none⟩ = some (.string bd[k].b) := q2
      have HBAD := Lib.hid (show validA bd[k] = false → r = false from fun e => by rw [HV3.out, any_false_of (p := fun a => !validA a) hlt (by simp [e])]; rfl)
      have HNX := Lib.hid (show validA bd[k] = true → (bd.take (k + 1)).any (fun a => !validA a) = false from fun e => by rw [any_take hlt, HN.out]; simp [e])
      have HHA := Lib.hid (show hasV (bd.take (k + 1)) a = (hasV (bd.take k) a || decide (bd[k].a = a ∨ bd[k].b = a)) from any_take hlt)
      have HHB := Lib.hid (show hasV (bd.take (k + 1)) b = (hasV (bd.take k) b || decide (bd[k].a = b ∨ bd[k].b = b)) from any_take hlt)
      have HAT := Lib.hid (fun w => refAtom_any bd[k] w hok)
      clear q0 q1 q2 hok HN
      generalize hasV (bd.take k) a = u1 at *
      generalize hasV (bd.take k) b = u2 at *
      generalize bd[k] = x at *
      rw [hasP] at HHA HHB
      obtain ⟨x1, x2, x3⟩ := x
      simp only at c0 c1 c2 HHA HHB
      have hbx : Below w1.heap.size w1 (wr.alloc (.cells #[.string x1, .string x2, .string x3] 25)) := HB.out.alloc HB.out.size _
      obtain ⟨d1', d2', d3'⟩ := HC1.out _ hbx
      have hxn := heap_alloc_new wr (.cells #[.string x1, .string x2, .string x3] 25)
      have HXN := Lib.hid hxn
      have HBX := Lib.hid hbx
      clear hxn hbx
      go_wp2_with fail
      refine (HAT.out _).mono ?_
      rintro e w3 ⟨rfl, hb3⟩
      have HB3 := Lib.hid (HBX.out.trans (hb3.mono HBX.out.size))
      obtain ⟨s1, s2, s3⟩ := HC1.out _ HB3.out
      have g1 : w3.cell? ⟨wr.heap.size, 1, none⟩ = some (.string x2) := below_mem hb3 _ _ _ (mem_cells HXN.out 1)
      have g2 : w3.cell? ⟨wr.heap.size, 2, none⟩ = some (.string x3) := below_mem hb3 _ _ _ (mem_cells HXN.out 2)
      clear hb3 HAT d1 d2 d3 d1' d2' d3' c0 c1 c2 HXN HBX
      cases hva : validA ⟨x1, x2, x3⟩ with
      | false =>
        have HR := Lib.hid (HBAD.out hva)
        have HBE := Lib.hid (pure_trans HB1.out HB3.out)
        clear HBAD HNX HHA HHB
        go_wp2
        go_ret
        exact ⟨by rw [HR.out] <;> rfl, HBE.out⟩
      | true =>
        have HN2 := Lib.hid (HNX.out hva)
        clear HBAD HNX hva
        cases h1 : (x2.toList == a.toList) <;> cases h2 : (x3.toList == a.toList) <;> cases h4 : (x2.toList == b.toList) <;> cases h5 : (x3.toList == b.toList) <;> cases u1 <;> cases u2
        all_goals
          rw [h1, h2] at HHA
          rw [h4, h5] at HHB
          have HQA := Lib.hid HHA.out
          have HQB := Lib.hid HHB.out
          clear HHA HHB
          go_wp2
          exact ⟨⟨k + 1, by omega, by go_num, by rw [HQA.out]; rfl, by rw [HQB.out]; rfl, HN2, HB3⟩, by simp [intOf]; omega⟩
    · obtain rfl : k = bd.length := by omega
      have HR := Lib.hid (show r = (hasV (bd.take bd.length) a && hasV (bd.take bd.length) b) from by
        have := HN.out
        rw [List.take_length] at this ⊢
        rw [HV3.out, this]; rfl)
      have HBE := Lib.hid (pure_trans HB1.out HB.out)
      clear HN HV3 hk
      generalize hasV (bd.take bd.length) a = u1 at *
      generalize hasV (bd.take bd.length) b = u2 at *
      cases u1 <;> cases u2
      all_goals
        go_wp2
        go_ret
        exact ⟨by rw [HR.out] <;> rfl, HBE.out⟩
end Go.Proofs.YtafeaeaildfohaaGreatDoor
/- The reference's program, facts; Compare. -/
namespace Go.Proofs.YtafeaeaildfohaaGreatDoor
open Go.RowKit Go.Maps

theorem validP_bad {l : List Rul} {k : Nat} (h : k < l.length) (e : validR l[k] = false) : validP l = false := by
  unfold validP
  rw [any_false_of (p := fun r => !validR r) h (by simp [e])]
  simp
theorem validP_end {l : List Rul} (h : l.any (fun r => !validR r) = false) : validP l = decide ((l.length : Int) ≤ 12) := by
  unfold validP
  rw [h]
  simp only [Bool.not_false, Bool.and_true]
  exact decide_eq_decide.2 (by omega)
theorem validG_bad {l : List Fct} {k : Nat} (h : k < l.length) (e : validF l[k] = false) : validG l = false := by
  unfold validG
  rw [any_false_of (p := fun r => !validF r) h (by simp [e])]
  simp
theorem validG_end {l : List Fct} (h : l.any (fun r => !validF r) = false) : validG l = decide ((l.length : Int) ≤ 60) := by
  unfold validG
  rw [h]
  simp only [Bool.not_false, Bool.and_true]
  exact decide_eq_decide.2 (by omega)
set_option maxRecDepth 100000 in
set_option maxHeartbeats 4000000 in
theorem refProgram_any (l : List Rul) (v : Value) (w : World) (hv : tRuls.rv (mem w) [v] l) :
    Calls Tryz.prog 17 #[v] w fun e w' => e = .returned (.bool (validP l)) ∧ Below w.heap.size w w' := by
  obtain ⟨a, cap, rfl, hlc, hm, hv⟩ := slice_form hv
  have hcap : cap ≤ 9223372036854775807 := by unfold maxLen at hm; exact hm
  have HV := Lib.hid (fun wr (hb : Below w.heap.size w wr) => tRuls.mono _ _ _ _ (below_mem hb) hv)
  clear hm hv
  go_enter Tryz.func17, Tryz.ntmps17
  go_wp2
  go_loopw [3] (fun i wr => ∃ k : Nat, k ≤ l.length ∧ i = .int .i64 k ∧ Hid ((l.take k).any (fun r => !validR r) = false) ∧ Hid (Below w.heap.size w wr)) (fun i _ => l.length - (intOf i).toNat)
  case atStart => exact ⟨0, by omega, rfl, Lib.hid rfl, Lib.hid (Below.refl _ _)⟩
  case round =>
    obtain ⟨k, hk, rfl, HN, HB⟩ := hrel
    by_cases hlt : k < l.length
    · obtain ⟨b, o, bv, rfl, ⟨q0, q1, q2, q3⟩, hok, hbd⟩ := ruls_at (HV.out _ HB.out) hlt
      have c0 : wr.cell? ⟨b, o + k * 4, none⟩ = some (.string l[k].hd.n) := q0
      have c1 : wr.cell? ⟨b, o + k * 4 + 1, none⟩ = some (.string l[k].hd.a) := q1
      have c2 : wr.cell? ⟨b, o + k * 4 + 2, none⟩ = some (.string l[k].hd.b) := q2
      have c3 : wr.cell? ⟨b, o + k * 4 + 3, none⟩ = some bv := q3
      have HCALL := Lib.hid (refRule_any l[k] bv wr hok hbd)
      have HBAD := Lib.hid (fun e => validP_bad hlt e)
      have HNX := Lib.hid (show validR l[k] = true → (l.take (k + 1)).any (fun r => !validR r) = false from fun e => by rw [any_take hlt, HN.out]; simp [e])
      obtain ⟨ab, cb, rfl, -, -, -⟩ := slice_form hbd
      clear q0 q1 q2 q3 hok hbd HN
      generalize l[k] = r at *
      obtain ⟨⟨r1, r2, r3⟩, bd⟩ := r
      simp only at c0 c1 c2 c3
      go_wp2_with fail
      refine HCALL.out.mono ?_
      rintro e w3 ⟨rfl, hb3⟩
      have HB3 := Lib.hid (pure_trans HB.out hb3)
      clear hb3 HCALL
      cases hva : validR ⟨⟨r1, r2, r3⟩, bd⟩ with
      | false =>
        have HR := Lib.hid (HBAD.out hva)
        go_wp2
        go_ret
        exact ⟨by rw [HR.out] <;> rfl, HB3.out⟩
      | true =>
        have HN2 := Lib.hid (HNX.out hva)
        clear HNX HBAD
        go_wp2
        go_roundw
        case rel => exact ⟨k + 1, by omega, by go_num, HN2, HB3⟩
        case measure => simp [intOf]; omega
    · obtain rfl : k = l.length := by omega
      have HR := Lib.hid (validP_end (by have := HN.out; rwa [List.take_length] at this))
      go_wp2
      go_ret
      exact ⟨by rw [HR.out] <;> rfl, HB.out⟩
end Go.Proofs.YtafeaeaildfohaaGreatDoor
/- The texts of rules, their words: plain (for RingTexts). -/
namespace Go.Proofs.YtafeaeaildfohaaGreatDoor
open Go.RowKit Go.Maps

def nameB (c : UInt8) : Bool := decide (97 ≤ c.toNat ∧ c.toNat ≤ 122) || (decide (48 ≤ c.toNat ∧ c.toNat ≤ 57) || decide (c.toNat = 95))
theorem name_bytes {s : ByteArray} (h : isName s = true) : ∀ c ∈ bl s, nameB c = true := fun c hc => by
  obtain ⟨i, hi, rfl⟩ := List.getElem_of_mem hc
  have hs : i < s.size := hi
  unfold isName at h
  rw [Bool.and_eq_true, List.all_eq_true] at h
  have h1 := h.1 i (by simpa using hs)
  rw [← byteAt_get s i hs] at h1
  show nameB s[i] = true
  unfold nameOk lowC at h1
  simp only [Bool.or_eq_true, Bool.and_eq_true, decide_eq_true_eq] at h1
  unfold nameB
  simp only [Bool.or_eq_true, decide_eq_true_eq]
  omega
theorem name_some {s : ByteArray} (h : isName s = true) : bl s ≠ [] := fun e => by
  have h1 := (isName_size h).1
  have : (bl s).length = s.size := rfl
  rw [e] at this
  simp at this
  omega
/-- An atom, a body, a rule, a program as they are written. -/
def atomL (a : Fct) : List UInt8 := bl a.n ++ (40 :: (bl a.a ++ (44 :: 32 :: (bl a.b ++ [41]))))
def bodyL : List Fct → List UInt8
  | [] => []
  | [a] => atomL a
  | a :: b :: t => atomL a ++ (44 :: 32 :: bodyL (b :: t))
def ruleL (r : Rul) : List UInt8 := atomL r.hd ++ (32 :: 60 :: 45 :: 32 :: bodyL r.bd)
def progL (l : List Rul) : List UInt8 := l.flatMap fun r => ruleL r ++ [10]
/-- The runs of names' bytes, byte by byte. -/
def wordsF (st : List (List UInt8) × Bool) (c : UInt8) : List (List UInt8) × Bool :=
  if nameB c then ((if st.2 then st.1.dropLast ++ [st.1.getLast?.getD [] ++ [c]] else st.1 ++ [[c]]), true) else (st.1, false)
def wordsL (l : List UInt8) : List (List UInt8) := (l.foldl wordsF ([], false)).1
theorem words_on (l : List UInt8) : ∀ (out : List (List UInt8)) (w : List UInt8), (∀ c ∈ l, nameB c = true) → l.foldl wordsF (out ++ [w], true) = (out ++ [w ++ l], true) := by
  induction l with
  | nil => intro out w _; simp
  | cons c l ih =>
    intro out w h
    have hc := h c List.mem_cons_self
    have : wordsF (out ++ [w], true) c = (out ++ [w ++ [c]], true) := by
      unfold wordsF
      rw [if_pos hc]
      simp
    rw [List.foldl_cons, this, ih out (w ++ [c]) (fun x hx => h x (List.mem_cons_of_mem _ hx))]
    simp
theorem words_name {l : List UInt8} (h0 : l ≠ []) (h : ∀ c ∈ l, nameB c = true) (out : List (List UInt8)) : l.foldl wordsF (out, false) = (out ++ [l], true) := by
  cases l with
  | nil => exact absurd rfl h0
  | cons c l =>
    have hc := h c List.mem_cons_self
    have : wordsF (out, false) c = (out ++ [[c]], true) := by
      unfold wordsF
      rw [if_pos hc]
      simp
    rw [List.foldl_cons, this, words_on l out [c] (fun x hx => h x (List.mem_cons_of_mem _ hx))]
    simp
theorem words_off (c : UInt8) (h : nameB c = false) (st : List (List UInt8) × Bool) : wordsF st c = (st.1, false) := by
  unfold wordsF
  rw [if_neg (by rw [h]; simp)]
theorem validA_iff {a : Fct} : validA a = true ↔ isName a.n = true ∧ isName a.a = true ∧ isName a.b = true := by
  unfold validA
  simp [Bool.and_eq_true]
def namesA (a : Fct) : List (List UInt8) := [bl a.n, bl a.a, bl a.b]
theorem words_atom {a : Fct} (h : validA a = true) (out : List (List UInt8)) (rest : List UInt8) : (atomL a ++ rest).foldl wordsF (out, false) = rest.foldl wordsF (out ++ namesA a, false) := by
  obtain ⟨h1, h2, h3⟩ := validA_iff.1 h
  have q1 := words_name (name_some h1) (name_bytes h1) out
  have q2 := words_name (name_some h2) (name_bytes h2) (out ++ [bl a.n])
  have q3 := words_name (name_some h3) (name_bytes h3) (out ++ [bl a.n] ++ [bl a.a])
  unfold atomL namesA
  simp only [List.append_assoc, List.cons_append, List.nil_append, List.foldl_append, List.foldl_cons, List.foldl_nil] at q1 q2 q3 ⊢
  rw [q1, words_off 40 (by decide)]
  simp only
  rw [q2, words_off 44 (by decide)]
  simp only
  rw [words_off 32 (by decide)]
  simp only
  rw [q3, words_off 41 (by decide)]
  try simp
def namesL (l : List Fct) : List (List UInt8) := l.flatMap namesA
theorem words_body : ∀ (l : List Fct) (out : List (List UInt8)), (∀ a ∈ l, validA a = true) → (bodyL l).foldl wordsF (out, false) = (out ++ namesL l, false)
  | [], out, _ => by simp [bodyL, namesL]
  | [a], out, h => by
    have := words_atom (h a List.mem_cons_self) out []
    rw [List.append_nil] at this
    show (atomL a).foldl wordsF (out, false) = _
    rw [this]
    simp [namesL]
  | a :: b :: t, out, h => by
    show (atomL a ++ (44 :: 32 :: bodyL (b :: t))).foldl wordsF (out, false) = _
    rw [words_atom (h a List.mem_cons_self) out, List.foldl_cons, words_off 44 (by decide), List.foldl_cons, words_off 32 (by decide)]
    simp only
    rw [words_body (b :: t) (out ++ namesA a) (fun x hx => h x (List.mem_cons_of_mem _ hx))]
    simp [namesL]
theorem validR_atoms {r : Rul} (h : validR r = true) : validA r.hd = true ∧ (∀ a ∈ r.bd, validA a = true) ∧ 1 ≤ r.bd.length ∧ r.bd.length ≤ 3 := by
  unfold validR at h
  simp only [Bool.and_eq_true, decide_eq_true_eq, Bool.not_eq_true', List.any_eq_false] at h
  obtain ⟨h1, h2, h3, -⟩ := h
  exact ⟨h2, fun a ha => by simpa using h3 a ha, h1.1, h1.2⟩
/-- The words of a rule's line are its names. -/
theorem words_rule {r : Rul} (h : validR r = true) : wordsL (ruleL r) = namesL (r.hd :: r.bd) := by
  obtain ⟨h1, h2, -⟩ := validR_atoms h
  unfold wordsL ruleL
  rw [words_atom h1 []]
  try simp only [List.foldl_cons]
  rw [words_off 32 (by decide)]
  try simp only
  rw [words_off 60 (by decide)]
  try simp only
  rw [words_off 45 (by decide)]
  try simp only
  rw [words_off 32 (by decide)]
  try simp only
  rw [words_body _ _ h2]
  simp [namesL]
/-- The rule of a line's words. -/
def atomsW : List (List UInt8) → List Fct
  | n :: a :: b :: t => ⟨⟨n.toArray⟩, ⟨a.toArray⟩, ⟨b.toArray⟩⟩ :: atomsW t
  | _ => []
theorem bl_back (s : ByteArray) : (⟨(bl s).toArray⟩ : ByteArray) = s := bl_inj rfl
theorem atomsW_names : ∀ l : List Fct, atomsW (namesL l) = l
  | [] => rfl
  | a :: l => by
    show (⟨⟨(bl a.n).toArray⟩, ⟨(bl a.a).toArray⟩, ⟨(bl a.b).toArray⟩⟩ : Fct) :: atomsW (namesL l) = _
    rw [atomsW_names l, bl_back, bl_back, bl_back]
theorem names_len : ∀ l : List Fct, (namesL l).length = 3 * l.length
  | [] => rfl
  | a :: l => by
    show (namesA a ++ namesL l).length = _
    rw [List.length_append, names_len l]
    simp [namesA]
    omega
def ruleW (ws : List (List UInt8)) : Rul := ⟨(atomsW ws).headD ⟨.empty, .empty, .empty⟩, (atomsW ws).tail⟩
theorem ruleW_rule {r : Rul} (h : validR r = true) : ruleW (wordsL (ruleL r)) = r := by
  unfold ruleW
  rw [words_rule h, atomsW_names]
  rfl
theorem atomL_len {a : Fct} (h : validA a = true) : (atomL a).length ≤ 52 := by
  obtain ⟨h1, h2, h3⟩ := validA_iff.1 h
  have q1 : (bl a.n).length = a.n.size := rfl
  have q2 : (bl a.a).length = a.a.size := rfl
  have q3 : (bl a.b).length = a.b.size := rfl
  have := (isName_size h1).2
  have := (isName_size h2).2
  have := (isName_size h3).2
  unfold atomL
  simp only [List.length_append, List.length_cons, List.length_nil]
  omega
theorem bodyL_len : ∀ (l : List Fct), (∀ a ∈ l, validA a = true) → (bodyL l).length ≤ 54 * l.length
  | [], _ => by simp [bodyL]
  | [a], h => by have := atomL_len (h a List.mem_cons_self); simp [bodyL]; omega
  | a :: b :: t, h => by
    have h1 := atomL_len (h a List.mem_cons_self)
    have h2 := bodyL_len (b :: t) (fun x hx => h x (List.mem_cons_of_mem _ hx))
    simp only [bodyL, List.length_append, List.length_cons] at h2 ⊢
    omega
theorem ruleL_len {r : Rul} (h : validR r = true) : (ruleL r).length ≤ 218 := by
  obtain ⟨h1, h2, -, h3⟩ := validR_atoms h
  have q1 := atomL_len h1
  have q2 := bodyL_len r.bd h2
  unfold ruleL
  simp only [List.length_append, List.length_cons]
  omega
/-- What a line is read as: of either reader. -/
def lineR (L : List UInt8) : Option Rul := if validR (ruleW (wordsL L)) = true ∧ ruleL (ruleW (wordsL L)) = L then some (ruleW (wordsL L)) else none
theorem lineR_some {L : List UInt8} {r : Rul} : lineR L = some r ↔ validR r = true ∧ ruleL r = L := by
  unfold lineR
  constructor
  · intro h
    split at h
    · next hh => cases h; exact hh
    · cases h
  · rintro ⟨h1, rfl⟩
    rw [ruleW_rule h1, if_pos ⟨h1, rfl⟩]
/-- Whoever reads a rule right reads what lineR says. -/
theorem lineR_by {L : List UInt8} {r : Rul} (h : ∀ q, validR q = true → ruleL q = L → r = q) : lineR L = if validR r = true ∧ ruleL r = L then some r else none := by
  split
  · next hh => exact lineR_some.2 hh
  · next hh =>
    cases hl : lineR L with
    | none => rfl
    | some q =>
      obtain ⟨h1, h2⟩ := lineR_some.1 hl
      rw [h q h1 h2] at hh
      exact absurd ⟨h1, h2⟩ hh
end Go.Proofs.YtafeaeaildfohaaGreatDoor
/- How ring reads a rule's line: plain (for RingTexts). -/
namespace Go.Proofs.YtafeaeaildfohaaGreatDoor
open Go.RowKit Go.Maps

theorem beq_no {c x : UInt8} (h : x ≠ c) : (c == x) = false := beq_eq_false_iff_ne.2 (fun e => h e.symm)
theorem occ_no (c : UInt8) (t : List UInt8) {l : List UInt8} (h : ∀ x ∈ l, x ≠ c) (r : List UInt8) {j : Nat} (hj : j < l.length) : Lib.occAt (l ++ r) (c :: t) j = false := by
  unfold Lib.occAt
  rw [List.drop_append_of_le_length (by omega), List.drop_eq_getElem_cons hj, List.cons_append]
  simp only [List.isPrefixOf, beq_no (h _ (List.getElem_mem hj)), Bool.false_and]
theorem occ_no2 (c d : UInt8) (t : List UInt8) {l : List UInt8} (h : ∀ x ∈ l, x ≠ d) (hcd : c ≠ d) (r : List UInt8) {j : Nat} (hj : j < l.length) : Lib.occAt (l ++ c :: r) (c :: d :: t) j = false := by
  unfold Lib.occAt
  rw [List.drop_append_of_le_length (by omega), List.drop_eq_getElem_cons hj, List.cons_append]
  by_cases h2 : j + 1 < l.length
  · rw [List.drop_eq_getElem_cons h2, List.cons_append]
    simp only [List.isPrefixOf, beq_no (h _ (List.getElem_mem h2)), Bool.false_and, Bool.and_false]
  · rw [List.drop_eq_nil_of_le (by omega), List.nil_append]
    simp only [List.isPrefixOf, beq_no hcd, Bool.false_and, Bool.and_false]
theorem occ_here (sep l r : List UInt8) : Lib.occAt (l ++ (sep ++ r)) sep l.length = true := by
  unfold Lib.occAt
  rw [List.drop_left]
  exact List.isPrefixOf_iff_prefix.2 (List.prefix_append sep r)
theorem index_at (c : UInt8) (t : List UInt8) {l : List UInt8} (h : ∀ x ∈ l, x ≠ c) (r : List UInt8) : Lib.index (l ++ ((c :: t) ++ r)) (c :: t) = l.length :=
  Lib.index_first (by simp) (occ_here _ _ _) (fun j hj => occ_no c t h _ hj)
theorem index_at2 (c d : UInt8) (t : List UInt8) {l : List UInt8} (h : ∀ x ∈ l, x ≠ d) (hcd : c ≠ d) (r : List UInt8) : Lib.index (l ++ ((c :: d :: t) ++ r)) (c :: d :: t) = l.length :=
  Lib.index_first (by simp) (occ_here _ _ _) (fun j hj => occ_no2 c d t h hcd _ hj)
theorem index_no (c : UInt8) (t : List UInt8) {l : List UInt8} (h : ∀ x ∈ l, x ≠ c) : Lib.index l (c :: t) = -1 := by
  refine Lib.index_none fun j hj => ?_
  by_cases hlt : j < l.length
  · have := occ_no c t h [] hlt
    rwa [List.append_nil] at this
  · unfold Lib.occAt
    rw [List.drop_eq_nil_of_le (by omega)]; rfl
theorem cut_of {sep l r : List UInt8} (h : Lib.index (l ++ (sep ++ r)) sep = l.length) : Lib.cut (l ++ (sep ++ r)) sep = (l, r, true) := by
  unfold Lib.cut
  rw [if_pos (by omega), h, Int.toNat_natCast, List.take_left, ← List.drop_drop, List.drop_left, List.drop_left]
theorem name_no {s : ByteArray} (h : isName s = true) (c : UInt8) (hc : nameB c = false) : ∀ x ∈ bl s, x ≠ c := fun x hx e => by
  have := name_bytes h x hx
  rw [e, hc] at this
  cases this
def trim41 (l : List UInt8) : List UInt8 := if l.getLast? = some 41 then l.dropLast else l
theorem trim41_snoc (l : List UInt8) : trim41 (l ++ [41]) = l := by unfold trim41; simp
/-- An atom as ring reads it. -/
def readA (s : List UInt8) : Fct :=
  ⟨⟨(Lib.cut s [40]).1.toArray⟩, ⟨(Lib.cut (trim41 (Lib.cut s [40]).2.1) [44, 32]).1.toArray⟩, ⟨(Lib.cut (trim41 (Lib.cut s [40]).2.1) [44, 32]).2.1.toArray⟩⟩
theorem readA_atom {a : Fct} (h : validA a = true) : readA (atomL a) = a := by
  obtain ⟨h1, h2, h3⟩ := validA_iff.1 h
  have e1 : atomL a = bl a.n ++ ([40] ++ ((bl a.a ++ ([44, 32] ++ bl a.b)) ++ [41])) := by unfold atomL; simp
  have c1 : Lib.cut (atomL a) [40] = (bl a.n, (bl a.a ++ ([44, 32] ++ bl a.b)) ++ [41], true) := by
    rw [e1]
    exact cut_of (index_at 40 [] (name_no h1 40 (by decide)) _)
  have c2 : Lib.cut (bl a.a ++ ([44, 32] ++ bl a.b)) [44, 32] = (bl a.a, bl a.b, true) := cut_of (index_at 44 [32] (name_no h2 44 (by decide)) _)
  unfold readA
  rw [c1]
  simp only [trim41_snoc]
  rw [c2]
  simp only [bl_back]
/-- An atom's text ahead of its end. -/
def atom0 (a : Fct) : List UInt8 := bl a.n ++ (40 :: (bl a.a ++ (44 :: 32 :: bl a.b)))
theorem atomL_snoc (a : Fct) : atomL a = atom0 a ++ [41] := by unfold atomL atom0; simp
theorem atom0_no {a : Fct} (h : validA a = true) : ∀ x ∈ atom0 a, x ≠ 41 ∧ x ≠ 60 := fun x hx => by
  obtain ⟨h1, h2, h3⟩ := validA_iff.1 h
  unfold atom0 at hx
  simp only [List.mem_append, List.mem_cons] at hx
  rcases hx with hx | rfl | hx | rfl | rfl | hx
  · exact ⟨name_no h1 41 (by decide) x hx, name_no h1 60 (by decide) x hx⟩
  · decide
  · exact ⟨name_no h2 41 (by decide) x hx, name_no h2 60 (by decide) x hx⟩
  · decide
  · decide
  · exact ⟨name_no h3 41 (by decide) x hx, name_no h3 60 (by decide) x hx⟩
/-- Splitting at "), ". -/
def splitL : Nat → List UInt8 → List (List UInt8)
  | 0, s => [s]
  | n + 1, s => if 0 ≤ Lib.index s [41, 44, 32] then s.take (Lib.index s [41, 44, 32]).toNat :: splitL n (s.drop ((Lib.index s [41, 44, 32]).toNat + 3)) else [s]
def readB (g : Nat) (s : List UInt8) : List Fct := (splitL g s).map fun p => readA (trim41 p ++ [41])
theorem last_no {a : Fct} (h : validA a = true) : Lib.index (atomL a) [41, 44, 32] = -1 := by
  refine Lib.index_none fun j hj => ?_
  rw [atomL_snoc] at hj ⊢
  by_cases hlt : j < (atom0 a).length
  · exact occ_no 41 [44, 32] (fun x hx => (atom0_no h x hx).1) [41] hlt
  · unfold Lib.occAt
    rw [List.length_append, List.length_singleton] at hj
    by_cases he : j = (atom0 a).length
    · subst he
      rw [List.drop_left]
      rfl
    · rw [List.drop_eq_nil_of_le (by simp; omega)]; rfl
theorem readB_body : ∀ (l : List Fct) (g : Nat), l ≠ [] → l.length ≤ g → (∀ a ∈ l, validA a = true) → readB g (bodyL l) = l
  | [], _, h, _, _ => absurd rfl h
  | [a], g, _, hg, h => by
    have ha := h a List.mem_cons_self
    show (splitL g (atomL a)).map _ = _
    have e : splitL g (atomL a) = [atomL a] := by
      cases g with
      | zero => rfl
      | succ g => unfold splitL; rw [if_neg (by rw [last_no ha]; omega)]
    rw [e]
    simp only [List.map_cons, List.map_nil]
    rw [atomL_snoc, trim41_snoc, ← atomL_snoc, readA_atom ha]
  | a :: b :: t, g, _, hg, h => by
    have ha := h a List.mem_cons_self
    obtain ⟨g', rfl⟩ : ∃ g', g = g' + 1 := ⟨g - 1, by simp at hg; omega⟩
    have e : bodyL (a :: b :: t) = atom0 a ++ ([41, 44, 32] ++ bodyL (b :: t)) := by
      show atomL a ++ (44 :: 32 :: bodyL (b :: t)) = _
      rw [atomL_snoc]
      simp
    have hi := index_at 41 [44, 32] (l := atom0 a) (fun x hx => (atom0_no ha x hx).1) (bodyL (b :: t))
    have ih := readB_body (b :: t) g' (by simp) (by simp at hg ⊢; omega) (fun x hx => h x (List.mem_cons_of_mem _ hx))
    unfold readB at ih ⊢
    rw [e]
    unfold splitL
    rw [if_pos (by rw [hi]; omega), hi, Int.toNat_natCast, List.take_left]
    have hd : (atom0 a ++ ([41, 44, 32] ++ bodyL (b :: t))).drop ((atom0 a).length + 3) = bodyL (b :: t) := by
      rw [← List.drop_drop, List.drop_left]
      rfl
    rw [hd, List.map_cons, ih]
    congr 1
    have ht : trim41 (atom0 a) = atom0 a := by
      unfold trim41
      rw [if_neg]
      intro hh
      exact (atom0_no ha 41 (List.mem_of_getLast? hh)).1 rfl
    rw [ht, ← atomL_snoc, readA_atom ha]
/-- A line as ring reads it. -/
def readR (g : Nat) (L : List UInt8) : Rul := ⟨readA (Lib.cut L [32, 60, 45, 32]).1, readB g (Lib.cut L [32, 60, 45, 32]).2.1⟩
theorem readR_rule {r : Rul} (h : validR r = true) {g : Nat} (hg : 3 ≤ g) : readR g (ruleL r) = r := by
  obtain ⟨h1, h2, h3, h4⟩ := validR_atoms h
  have hn : ∀ x ∈ atomL r.hd, x ≠ 60 := fun x hx => by
    rw [atomL_snoc] at hx
    rcases List.mem_append.1 hx with hx | hx
    · exact (atom0_no h1 x hx).2
    · simp at hx; subst hx; decide
  have hc : Lib.cut (ruleL r) [32, 60, 45, 32] = (atomL r.hd, bodyL r.bd, true) := cut_of (index_at2 32 60 [45, 32] hn (by decide) (bodyL r.bd))
  unfold readR
  rw [hc]
  simp only
  rw [readA_atom h1, readB_body r.bd g (fun e => by rw [e] at h3; simp at h3) (by omega) h2]
/-- Both readers read the same. -/
theorem lineR_ring (L : List UInt8) {g : Nat} (hg : 3 ≤ g) : lineR L = if validR (readR g L) = true ∧ ruleL (readR g L) = L then some (readR g L) else none :=
  lineR_by (fun q h1 h2 => by rw [← h2]; exact readR_rule h1 hg)
end Go.Proofs.YtafeaeaildfohaaGreatDoor
