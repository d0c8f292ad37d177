/- The statement HeapDiffersSaid: for every input the law HeapDiffers returns true and leaves its arguments as they were. -/
import Derived.Shelf.SlSortCmp.WholeK
import Derived.Ground.SlsfProg
import Derived.Test.YtbmpoecmjmmngaaGreatProg
import Derived.Deep.RegionHeld3
import Derived.BigQuiet
import Derived.Test.YtbmpoecmjmmngaaGreatHr07
set_option linter.unusedVariables false
set_option linter.unusedSimpArgs false
/-
  DERIVED: THE SHELF's CONTRACTS AT THIS DUMP, IN PLAIN WORDS (tools/lay-plain.mjs out of 'TryShelfZ3.lean', which tools/lay-shelf.mjs wrote): THE SAME DECLARATIONS UNDER THE SAME NAMES: 'import', 'namespace', 'open', 'def', 'theorem' AND NOTHING ELSE: no command of the shelf's: FOR A HAND-IN. Each laying: the table of numbers ('.._ren') and one theorem, a field a fact of the dump's own or the kernel's comparison; each contract: ONE APPLICATION.
-/
namespace Go.Proofs
open Go.Shelf
def Tryz.sort28_ren : Go.Shelf.Ren := ⟨fun | 6 => 28 | 15 => 63 | 14 => 62 | 28 => 91 | 29 => 92 | 20 => 83 | 21 => 84 | 22 => 85 | 23 => 86 | 24 => 87 | 25 => 88 | 26 => 89 | 27 => 90 | 46 => 111 | 47 => 112 | 48 => 113 | 49 => 114 | 50 => 115 | 57 => 124 | n => n, fun | 22 => 22 | 24 => 34 | 25 => 67 | 3 => 3 | 39 => 111 | 0 => 0 | 53 => 142 | 55 => 144 | 4 => 4 | 46 => 136 | 45 => 135 | 50 => 68 | 5 => 5 | 9 => 9 | 66 => 159 | 70 => 163 | 76 => 171 | 77 => 172 | n => n, fun | n => n⟩
theorem Tryz.sort28 : Go.Proofs.SlLaysF0.n6 Tryz.prog Tryz.sort28_ren := {
  mixed := by kernel_rfl
  f6 := ⟨Tryz.f28.name, by decide, Tryz.func28.trans (congrArg some (by kernel_rfl))⟩
  f14 := ⟨Tryz.f62.name, by decide, Tryz.func62.trans (congrArg some (by kernel_rfl))⟩
  f15 := Tryz.func63.trans (congrArg some (by kernel_rfl))
  f20 := ⟨Tryz.f83.name, by decide, Tryz.func83.trans (congrArg some (by kernel_rfl))⟩
  f21 := ⟨Tryz.f84.name, by decide, Tryz.func84.trans (congrArg some (by kernel_rfl))⟩
  f22 := ⟨Tryz.f85.name, by decide, Tryz.func85.trans (congrArg some (by kernel_rfl))⟩
  f23 := ⟨Tryz.f86.name, by decide, Tryz.func86.trans (congrArg some (by kernel_rfl))⟩
  f24 := ⟨Tryz.f87.name, by decide, Tryz.func87.trans (congrArg some (by kernel_rfl))⟩
  f25 := ⟨Tryz.f88.name, by decide, Tryz.func88.trans (congrArg some (by kernel_rfl))⟩
  f26 := ⟨Tryz.f89.name, by decide, Tryz.func89.trans (congrArg some (by kernel_rfl))⟩
  f27 := ⟨Tryz.f90.name, by decide, Tryz.func90.trans (congrArg some (by kernel_rfl))⟩
  f28 := Tryz.func91.trans (congrArg some (by kernel_rfl))
  f29 := Tryz.func92.trans (congrArg some (by kernel_rfl))
  f46 := ⟨Tryz.f111.name, by decide, Tryz.func111.trans (congrArg some (by kernel_rfl))⟩
  f47 := Tryz.func112.trans (congrArg some (by kernel_rfl))
  f48 := Tryz.func113.trans (congrArg some (by kernel_rfl))
  f49 := ⟨Tryz.f114.name, by decide, Tryz.func114.trans (congrArg some (by kernel_rfl))⟩
  f50 := ⟨Tryz.f115.name, by decide, Tryz.func115.trans (congrArg some (by kernel_rfl))⟩
  f57 := ⟨Tryz.f124.name, by decide, Tryz.func124.trans (congrArg some (by kernel_rfl))⟩
  t0 := Tryz.underlying0
  a0 := Tryz.isAgg0
  z0 := Tryz.sizeOf0
  v0 := Tryz.zeroValue0
  t3 := Tryz.underlying3
  a3 := Tryz.isAgg3
  z3 := Tryz.sizeOf3
  v3 := Tryz.zeroValue3
  t4 := Tryz.underlying4
  a4 := Tryz.isAgg4
  z4 := Tryz.sizeOf4
  v4 := Tryz.zeroValue4
  t5 := Tryz.underlying5
  a5 := Tryz.isAgg5
  z5 := Tryz.sizeOf5
  v5 := Tryz.zeroValue5
  t9 := Tryz.underlying9
  a9 := Tryz.isAgg9
  z9 := Tryz.sizeOf9
  v9 := Tryz.zeroValue9
  t22 := Tryz.underlying22
  a22 := Tryz.isAgg22
  z22 := Tryz.sizeOf22
  v22 := Tryz.zeroValue22
  t25 := Tryz.underlying67
  a25 := Tryz.isAgg67
  z25 := Tryz.sizeOf67
  v25 := Tryz.zeroValue67
  t39 := Tryz.underlying111
  a39 := Tryz.isAgg111
  z39 := Tryz.sizeOf111
  v39 := Tryz.zeroValue111
  t45 := Tryz.underlying135
  a45 := Tryz.isAgg135
  z45 := Tryz.sizeOf135
  v45 := Tryz.zeroValue135
  t46 := Tryz.underlying136
  a46 := Tryz.isAgg136
  z46 := Tryz.sizeOf136
  v46 := Tryz.zeroValue136
  t50 := Tryz.underlying68
  a50 := Tryz.isAgg68
  z50 := Tryz.sizeOf68
  v50 := Tryz.zeroValue68
  t53 := Tryz.underlying142
  a53 := Tryz.isAgg142
  z53 := Tryz.sizeOf142
  v53 := Tryz.zeroValue142
  t55 := Tryz.underlying144
  a55 := Tryz.isAgg144
  z55 := Tryz.sizeOf144
  v55 := Tryz.zeroValue144
  t66 := Tryz.underlying159
  a66 := Tryz.isAgg159
  z66 := Tryz.sizeOf159
  v66 := Tryz.zeroValue159
  t70 := Tryz.underlying163
  a70 := Tryz.isAgg163
  z70 := Tryz.sizeOf163
  v70 := Tryz.zeroValue163
  t76 := Tryz.underlying171
  a76 := Tryz.isAgg171
  z76 := Tryz.sizeOf171
  v76 := Tryz.zeroValue171
  t77 := Tryz.underlying172
  a77 := Tryz.isAgg172
  z77 := Tryz.sizeOf172
  v77 := Tryz.zeroValue172 }
end Go.Proofs
/- The reference's SortedEntries (insertion sort): plain. -/
namespace Go.Proofs.YtbmpoecmjmmngaaGreat
open Go.RowKit Go.Maps

theorem entC_good : Good entC := lex_good (cmpInt_good.pull (fun a : Ent => a.g)) (lex_good (cmpBytes_good.pull (fun a : Ent => a.nm.toList)) (lex_good (cmpBytes_good.pull (fun a : Ent => a.key.toList)) (cmpBytes_good.pull (fun a : Ent => a.val.toList))))
def swapE (ys : List Ent) (j : Nat) : List Ent := (ys.set j (ys.getD (j + 1) default)).set (j + 1) (ys.getD j default)
theorem swapE_len (ys : List Ent) (j : Nat) : (swapE ys j).length = ys.length := by simp [swapE]
theorem swapE_perm {ys : List Ent} {j : Nat} (h : j + 1 < ys.length) : (swapE ys j).Perm ys := by
  have := List.set_set_perm (i := j) (j := j + 1) (show j < ys.length by omega) h
  unfold swapE
  rw [show ys.getD (j + 1) default = ys[j + 1] by simp [List.getD, h], show ys.getD j default = ys[j] by simp [List.getD, show j < ys.length by omega]]
  exact this
theorem swapE_get {ys : List Ent} {j : Nat} (h : j + 1 < ys.length) (k : Nat) : (swapE ys j).getD k default = if k = j then ys.getD (j + 1) default else if k = j + 1 then ys.getD j default else ys.getD k default := by
  unfold swapE
  simp only [List.getD_eq_getElem?_getD, List.getElem?_set]
  by_cases h1 : k = j + 1
  · subst h1; simp [h]
  · by_cases h2 : k = j
    · subst h2; simp [show ¬ k + 1 = k by omega]; simp [show k < ys.length by omega]
    · simp [Ne.symm h1, Ne.symm h2, h1, h2]
/-- In order up to i, but for the place j. -/
def ButE (ys : List Ent) (i j : Nat) : Prop := ∀ a b, a < b → b ≤ i → b ≠ j → entC (ys.getD a default) (ys.getD b default) ≤ 0
def ToE (ys : List Ent) (k : Nat) : Prop := ∀ a b, a < b → b < k → entC (ys.getD a default) (ys.getD b default) ≤ 0
theorem ToE.but {ys : List Ent} {k : Nat} (h : ToE ys k) : ButE ys k k := fun a b h1 h2 h3 => h a b h1 (by omega)
theorem ButE.swap {ys : List Ent} {i j : Nat} (h : ButE ys i (j + 1)) (hj : j + 1 ≤ i) (hi : i < ys.length) (hlt : 0 < entC (ys.getD j default) (ys.getD (j + 1) default)) : ButE (swapE ys j) i j := fun a b h1 h2 h3 => by
  rw [swapE_get (by omega), swapE_get (by omega), if_neg h3]
  by_cases hb : b = j + 1
  · rw [if_pos hb]
    by_cases ha : a = j
    · rw [if_pos ha]; have := entC_good.anti (ys.getD j default) (ys.getD (j + 1) default); omega
    · rw [if_neg ha, if_neg (by omega)]
      exact h a j (by omega) (by omega) (by omega)
  · rw [if_neg hb]
    by_cases ha : a = j
    · rw [if_pos ha]; exact h (j + 1) b (by omega) h2 hb
    · rw [if_neg ha]
      by_cases ha2 : a = j + 1
      · rw [if_pos ha2]; exact h j b (by omega) h2 hb
      · rw [if_neg ha2]; exact h a b h1 h2 hb
theorem ButE.done {ys : List Ent} {i j : Nat} (h : ButE ys i (j + 1)) (hj : j + 1 ≤ i) (hle : entC (ys.getD j default) (ys.getD (j + 1) default) ≤ 0) : ToE ys (i + 1) := fun a b h1 h2 => by
  by_cases hb : b = j + 1
  · subst hb
    by_cases ha : a = j
    · subst ha; exact hle
    · exact (entC_good.trans _ _ _ (h a j (by omega) (by omega) (by omega)) hle).1
  · exact h a b h1 (by omega) hb
theorem ButE.zero {ys : List Ent} {i : Nat} (h : ButE ys i 0) : ToE ys (i + 1) := fun a b h1 h2 => h a b h1 (by omega) (by omega)
theorem ToE.pairwise {ys : List Ent} {k : Nat} (h : ToE ys k) (hk : ys.length ≤ k) : ys.Pairwise (fun a b => entC a b ≤ 0) := by
  refine List.pairwise_iff_getElem.2 fun a b ha hb hab => ?_
  have := h a b hab (by omega)
  simpa [List.getD, ha, hb] using this
/-- A block's entries. -/
structure EntsC (W : World) (g o : Nat) (ys : List Ent) : Prop where
  cell : ∀ k (h : k < ys.length), W.cell? ⟨g, o + k * 4, none⟩ = some (.int .i64 ys[k].g) ∧ W.cell? ⟨g, o + k * 4 + 1, none⟩ = some (.string ys[k].nm) ∧ W.cell? ⟨g, o + k * 4 + 2, none⟩ = some (.string ys[k].key) ∧ W.cell? ⟨g, o + k * 4 + 3, none⟩ = some (.string ys[k].val)
  free : ∀ j, W.frozen? ⟨g, j, none⟩ = false
  ok : ∀ y ∈ ys, y.okE
def set4 (W : World) (g o : Nat) (x : Ent) : World := (((W.setCell ⟨g, o, none⟩ (.int .i64 x.g)).setCell ⟨g, o + 1, none⟩ (.string x.nm)).setCell ⟨g, o + 2, none⟩ (.string x.key)).setCell ⟨g, o + 3, none⟩ (.string x.val)
theorem set4_other {W : World} {g o : Nat} {x : Ent} {j : Nat} (h : j < o ∨ o + 4 ≤ j) : (set4 W g o x).cell? ⟨g, j, none⟩ = W.cell? ⟨g, j, none⟩ := by
  unfold set4
  rw [World.cell?_setCell_other _ _ _ _ (by intro e; injection e with e1 e2 e3; omega), World.cell?_setCell_other _ _ _ _ (by intro e; injection e with e1 e2 e3; omega), World.cell?_setCell_other _ _ _ _ (by intro e; injection e with e1 e2 e3; omega), World.cell?_setCell_other _ _ _ _ (by intro e; injection e with e1 e2 e3; omega)]
theorem set4_same {W : World} {g o : Nat} {x : Ent} {u0 u1 u2 u3 : Value} (h0 : W.cell? ⟨g, o, none⟩ = some u0) (h1 : W.cell? ⟨g, o + 1, none⟩ = some u1) (h2 : W.cell? ⟨g, o + 2, none⟩ = some u2) (h3 : W.cell? ⟨g, o + 3, none⟩ = some u3) :
    (set4 W g o x).cell? ⟨g, o, none⟩ = some (.int .i64 x.g) ∧ (set4 W g o x).cell? ⟨g, o + 1, none⟩ = some (.string x.nm) ∧ (set4 W g o x).cell? ⟨g, o + 2, none⟩ = some (.string x.key) ∧ (set4 W g o x).cell? ⟨g, o + 3, none⟩ = some (.string x.val) := by
  have n01 : ∀ (w : World) (i j : Nat) (v : Value), i ≠ j → (w.setCell ⟨g, o + i, none⟩ v).cell? ⟨g, o + j, none⟩ = w.cell? ⟨g, o + j, none⟩ := fun w i j v hij => World.cell?_setCell_other _ _ _ _ (by intro e; injection e with e1 e2 e3; omega)
  unfold set4
  refine ⟨?_, ?_, ?_, ?_⟩
  · have a3 := fun w v => n01 w 3 0 v (by decide)
    have a2 := fun w v => n01 w 2 0 v (by decide)
    have a1 := fun w v => n01 w 1 0 v (by decide)
    simp only [Nat.add_zero] at a1 a2 a3
    rw [a3, a2, a1, World.cell?_setCell_same _ _ _ h0]
  · rw [n01 _ 3 1 _ (by decide), n01 _ 2 1 _ (by decide)]
    refine World.cell?_setCell_same _ _ _ (u := u1) ?_
    have a0 := n01 W 0 1 (.int .i64 x.g) (by decide)
    simp only [Nat.add_zero] at a0
    rw [a0]; exact h1
  · rw [n01 _ 3 2 _ (by decide)]
    refine World.cell?_setCell_same _ _ _ (u := u2) ?_
    have a0 := n01 W 0 2 (.int .i64 x.g) (by decide)
    simp only [Nat.add_zero] at a0
    rw [n01 _ 1 2 _ (by decide), a0]; exact h2
  · refine World.cell?_setCell_same _ _ _ (u := u3) ?_
    have a0 := n01 W 0 3 (.int .i64 x.g) (by decide)
    simp only [Nat.add_zero] at a0
    rw [n01 _ 2 3 _ (by decide), n01 _ 1 3 _ (by decide), a0]; exact h3
theorem EntsC.set {W : World} {g o : Nat} {ys : List Ent} (h : EntsC W g o ys) {k : Nat} (hk : k < ys.length) {x : Ent} (hx : x.okE) : EntsC (set4 W g (o + k * 4) x) g o (ys.set k x) := by
  refine ⟨fun j hj0 => ?_, fun j => ?_, fun z hz => ?_⟩
  · have hj : j < ys.length := by simpa using hj0
    by_cases e : j = k
    · subst e
      obtain ⟨h0, h1, h2, h3⟩ := h.cell j hj
      rw [List.getElem_set_self]
      exact set4_same h0 h1 h2 h3
    · obtain ⟨h0, h1, h2, h3⟩ := h.cell j hj
      have hne : j * 4 + 4 ≤ k * 4 ∨ k * 4 + 4 ≤ j * 4 := by omega
      rw [List.getElem_set_ne (Ne.symm e)]
      rw [set4_other (by omega), set4_other (by omega), set4_other (by omega), set4_other (by omega)]
      exact ⟨h0, h1, h2, h3⟩
  · unfold set4
    rw [World.frozen?_setCell, World.frozen?_setCell, World.frozen?_setCell, World.frozen?_setCell]
    exact h.free j
  · rcases List.mem_or_eq_of_mem_set hz with e | e
    · exact h.ok z e
    · rw [e]; exact hx
theorem EntsC.below {W W' : World} {g o : Nat} {ys : List Ent} (h : EntsC W g o ys) (hg : g < W.heap.size) (hb : Below W.heap.size W W') : EntsC W' g o ys := by
  have hc : ∀ j, W'.cell? ⟨g, j, none⟩ = W.cell? ⟨g, j, none⟩ := fun j => mem_of_block (hb.block g hg) j
  refine ⟨fun k hk => ?_, fun j => ?_, h.ok⟩
  · rw [hc, hc, hc, hc]; exact h.cell k hk
  · have := h.free j
    unfold World.frozen? at this ⊢
    rw [hb.block g hg]; exact this
theorem set4_keeps (W : World) (g o : Nat) (x : Ent) : Keeps (· = g) W (set4 W g o x) := by
  unfold set4
  exact ((((Keeps.refl (· = g) W).setCell (p := ⟨g, o, none⟩) (fun _ => rfl) _).setCell (p := ⟨g, o + 1, none⟩) (fun _ => rfl) _).setCell (p := ⟨g, o + 2, none⟩) (fun _ => rfl) _).setCell (p := ⟨g, o + 3, none⟩) (fun _ => rfl) _
end Go.Proofs.YtbmpoecmjmmngaaGreat
/- The reference's SortedEntries: the walk. -/
namespace Go.Proofs.YtbmpoecmjmmngaaGreat
open Go.RowKit Go.Maps

theorem Owns.entsC {w : World} {B : Nat} {v : Value} {xs : List Ent} (h : Owns tEnt w B 34 v xs) : (xs = [] ∧ v = .slice none 0 0) ∨ ∃ g o c, v = .slice (some ⟨g, o, none⟩) xs.length c ∧ xs.length ≤ c ∧ c ≤ maxLen ∧ B ≤ g ∧ g < w.heap.size ∧ EntsC w g o xs := by
  have hrv := h.rv'
  obtain ⟨css, _, ⟨_, h3⟩, _, _⟩ := h
  rcases h3 with ⟨rfl, h6⟩ | ⟨g, cap, cur, rfl, hg, hh, hn, hm, hc, ht⟩
  · exact .inl ⟨List.eq_nil_of_length_eq_zero h6, rfl⟩
  · have hat : ∀ k (hk : k < xs.length), (∀ j v, xs[k].cs[j]? = some v → mem w g (0 + k * 4 + j) = some v) ∧ xs[k].okE := fun k hk => by
      obtain ⟨b, o, e, hat, hok⟩ := ents_at hrv hk
      simp only [Option.some.injEq, Addr.mk.injEq] at e
      obtain ⟨rfl, rfl, _⟩ := e
      exact ⟨hat, hok⟩
    refine .inr ⟨g, 0, cap, rfl, hn, hm, hg, (Array.getElem?_eq_some_iff.1 hh).1, ⟨fun k hk => ⟨(hat k hk).1 0 _ rfl, (hat k hk).1 1 _ rfl, (hat k hk).1 2 _ rfl, (hat k hk).1 3 _ rfl⟩, fun j => frozen_cells hh _, fun y hy => ?_⟩⟩
    obtain ⟨k, hk, rfl⟩ := List.mem_iff_getElem.1 hy
    exact (hat k hk).2
theorem EntsC.rv {w : World} {g o c B : Nat} {ys : List Ent} (h : EntsC w g o ys) (h1 : ys.length ≤ c) (h2 : c ≤ maxLen) (hg : B ≤ g) : tEnts.rv ((mem w).on (B ≤ ·)) [.slice (some ⟨g, o, none⟩) ys.length c] ys :=
  ⟨some ⟨g, o, none⟩, c, rfl, h1, h2, fun _ => ⟨g, o, rfl, fun k hk => ⟨ys[k].cs, fun j u hu => by
    obtain ⟨h0, h1, h2, h3⟩ := h.cell k hk
    refine Mem.on_some ?_ hg
    show mem w g (o + k * 4 + j) = some u
    match j, hu with
    | 0, hu => simp at hu; subst hu; exact h0
    | 1, hu => simp at hu; subst hu; exact h1
    | 2, hu => simp at hu; subst hu; exact h2
    | 3, hu => simp at hu; subst hu; exact h3, rfl, h.ok _ (List.getElem_mem hk)⟩⟩⟩
theorem srt_keeps (w5 : World) (g o p : Nat) (x y : Ent) : Keeps (· = g) w5 (set4 (set4 w5 g o y) g p x) := (set4_keeps w5 g o y).trans (set4_keeps _ g p x)
theorem srt_swap0 {w w5 w7 : World} {g o : Nat} {zs : List Ent} (kk : Keeps (· = g) w5 w7) (hg5 : g < w5.heap.size) (HB : Below w.heap.size w w5) (hg : w.heap.size ≤ g) (HS : EntsC w7 g o zs) :
    EntsC w7.drew g o zs ∧ Below w.heap.size w w7.drew ∧ w5.heap.size ≤ w7.drew.heap.size := by
  have hz := kk.size
  refine ⟨HS.below (Nat.lt_of_lt_of_le hg5 hz) (Below.refl _ _).drew, (Keeps.belowStep HB kk (fun k hk => ?_) HB.size).drew, hz⟩
  exact Nat.le_trans hg (Nat.le_of_eq hk.symm)
theorem srt_swap {w w5 w8 : World} {g o : Nat} {zs : List Ent} {x y : Ent} {j : Nat} (e8 : (set4 (set4 w5 g (o + j * 4) y) g (o + (j + 1) * 4) x).drew = w8) (hg5 : g < w5.heap.size) (HB : Below w.heap.size w w5) (hg : w.heap.size ≤ g)
    (HS : EntsC (set4 (set4 w5 g (o + j * 4) y) g (o + (j + 1) * 4) x) g o (swapE zs j)) :
    EntsC w8 g o (swapE zs j) ∧ Below w.heap.size w w8 ∧ w5.heap.size ≤ w8.heap.size := by
  have kk := srt_keeps w5 g (o + j * 4) (o + (j + 1) * 4) x y
  generalize set4 (set4 w5 g (o + j * 4) y) g (o + (j + 1) * 4) x = w7 at kk HS e8
  rw [← e8]
  exact srt_swap0 kk hg5 HB hg HS
set_option maxRecDepth 100000 in
set_option maxHeartbeats 8000000 in
theorem sortEnts_any (xs : List Ent) (v : Value) (w : World) (hv : tEnts.rv (mem w) [v] xs) (h8 : xs.length ≤ 100000) :
    Calls Tryz.prog 15 #[v] w fun e w' => ∃ x S, e = .returned x ∧ tEnts.rv ((mem w').on (w.heap.size ≤ ·)) [x] S ∧ S.Perm xs ∧ S.Pairwise (fun a b => entC a b ≤ 0) ∧ Below w.heap.size w w' := by
  have hb0 : ∀ o, Below w.heap.size w (w.alloc o) := fun o => (Below.refl _ _).alloc (Nat.le_refl _) o
  have hown : ∀ T, T = 34 → Owns tEnt (w.alloc (.cells #[] T)) w.heap.size 34 (.slice (some ⟨w.heap.size, 0, none⟩) 0 0) [] := fun T hT => by
    subst hT
    exact ⟨[], rfl, World.ownsRow_lit w #[] 0 (Nat.le_refl _) (Nat.zero_le _) (by simp), fun c h => absurd h (by simp), fun k h => absurd h (by simp)⟩
  obtain ⟨a1, cap1, rfl, hl1, hm1, hv⟩ := slice_form hv
  have HV := Lib.hid (fun o => (tEnts.mono _ _ _ _ (below_mem (hb0 o)) hv : tEnts.rv (mem (w.alloc o)) _ xs))
  clear hm1 hv
  go_enter Tryz.func15, Tryz.ntmps15
  go_wp2_with (at_builtin; refine wpList_append_flat rfl _ _ 22 rfl tEnt_flat tEnt_one Tryz.underlying22 infoEnt rfl (by decide) w.heap.size _ [] xs rfl (hown _ rfl) _ _ _ rfl rfl (HV.out _) ?c1 ?c2 ?c3 ?_)
  case c1 => simp; unfold maxLen; omega
  case c2 => simp; omega
  case c3 => simp
  intro v' w2 hown' hgrow
  have HB := Lib.hid (show Below w.heap.size w w2 from (hb0 _).grown hgrow (by simp) (fun k hk => by simp [Value.ownBlock] at hk; omega))
  clear hown hgrow HV
  rcases hown'.entsC with ⟨rfl, rfl⟩ | ⟨g, o, c, rfl, hlc, hcm, hg, hgw, hints⟩
  · clear hown'
    go_wp2
    go_loopw [4] (fun i wr => i = .int .i64 1 ∧ wr = w2) (fun _ _ => 0)
    case atStart => exact ⟨rfl, rfl⟩
    case round =>
      obtain ⟨rfl, rfl⟩ := hrel
      go_wp2
      go_ret
      exact ⟨_, [], rfl, slice_nil _ _, List.Perm.refl _, List.Pairwise.nil, HB.out⟩
  · clear hown'
    have hcm2 : c ≤ 9223372036854775807 := by unfold maxLen at hcm; exact hcm
    have HM := Lib.hid hcm
    have HI0 := Lib.hid hints
    clear hcm hints
    go_wp2
    go_loopw [4] (fun i wr => ∃ k : Nat, 1 ≤ k ∧ (k ≤ xs.length ∨ k = 1) ∧ i = .int .i64 k ∧ ∃ ys, Hid (EntsC wr g o ys) ∧ ys.length = xs.length ∧ Hid (ys.Perm xs) ∧ Hid (ToE ys k) ∧ Hid (Below w.heap.size w wr) ∧ w2.heap.size ≤ wr.heap.size) (fun i _ => xs.length - (intOf i).toNat)
    case atStart => exact ⟨1, by omega, .inr rfl, rfl, xs, HI0, rfl, Lib.hid (List.Perm.refl _), Lib.hid (fun a b h1 h2 => by omega), HB, Nat.le_refl _⟩
    case round =>
      clear HI0 HB
      obtain ⟨k, hk1, hk, rfl, ys, HI, hly, HP, HS, HB, hsz⟩ := hrel
      by_cases hlt : k < xs.length
      · go_wp2
        go_loopw [5] (fun i wx => ∃ j : Nat, j ≤ k ∧ i = .int .i64 j ∧ ∃ zs, Hid (EntsC wx g o zs) ∧ zs.length = xs.length ∧ Hid (zs.Perm xs) ∧ Hid (ButE zs k j) ∧ Hid (Below w.heap.size w wx) ∧ w2.heap.size ≤ wx.heap.size) (fun i _ => (intOf i).toNat)
        case atStart => exact ⟨k, by omega, rfl, ys, HI, hly, HP, Lib.hid HS.out.but, HB, hsz⟩
        case round =>
          clear HI HP HS HB hly hsz
          obtain ⟨j, hj, rfl, zs, HI, hlz, HP, HS, HB, hsz⟩ := hrel
          have hgr : g < wr.heap.size := by omega
          cases j with
          | zero =>
            go_wp2_with fail
            go_quiet (fail)
            all_goals
              have hbq : ∀ n, Below wr.heap.size wr (wr.drewN n) := fun n => ⟨rfl, rfl, rfl, Nat.le_refl _, fun _ _ => rfl⟩
              go_wp2
              go_roundw
              case rel => exact ⟨k + 1, by omega, .inl (by omega), by go_num, zs, Lib.hid (HI.out.below hgr (hbq _)), hlz, HP, Lib.hid HS.out.zero, Lib.hid (HB.out.trans ((hbq _).mono HB.out.size)), hsz⟩
              case measure => simp [intOf]; omega
          | succ j =>
            have hjl : j < zs.length := by omega
            have hjl2 : j + 1 < zs.length := by omega
            have HC1 := Lib.hid (fun (w' : World) (h : EntsC w' g o zs) => h.cell j hjl)
            have HC2 := Lib.hid (fun (w' : World) (h : EntsC w' g o zs) => h.cell (j + 1) hjl2)
            have HE1 := Lib.hid (show zs.getD j default = zs[j] by simp [List.getD, hjl])
            have HE2 := Lib.hid (show zs.getD (j + 1) default = zs[j + 1] by simp [List.getD, hjl2])
            have HO1 := Lib.hid (HI.out.ok _ (List.getElem_mem hjl))
            have HO2 := Lib.hid (HI.out.ok _ (List.getElem_mem hjl2))
            have HSET := Lib.hid (fun (w' : World) (h : EntsC w' g o zs) => (show EntsC (set4 (set4 w' g (o + j * 4) zs[j + 1]) g (o + (j + 1) * 4) zs[j]) g o (swapE zs j) from by
              unfold swapE
              rw [HE1.out, HE2.out]
              exact (h.set hjl HO2.out).set (by rw [List.length_set]; exact hjl2) HO1.out))
            have HSW := Lib.hid (fun (h : 0 < entC zs[j] zs[j + 1]) => (show ButE (swapE zs j) k j from HS.out.swap (by omega) (by omega) (by rw [HE1.out, HE2.out]; exact h)))
            have HDN := Lib.hid (fun (h : entC zs[j] zs[j + 1] ≤ 0) => (show ToE zs (k + 1) from HS.out.done (by omega) (by rw [HE1.out, HE2.out]; exact h)))
            have HCM := Lib.hid (fun w' => refCmp_any zs[j] zs[j + 1] w')
            have hrng := entC_good.range zs[j] zs[j + 1]
            clear HE1 HE2
            generalize hcc : entC zs[j] zs[j + 1] = cc at *
            clear hcc
            generalize zs[j + 1] = y at *
            generalize zs[j] = x at *
            obtain ⟨xg, x1, x2, x3⟩ := x
            obtain ⟨yg, y1, y2, y3⟩ := y
            have HSS := Lib.hid (fun (w' : World) (h : EntsC w' g o zs) => (show w'.cell? ⟨g, o + j * 4, none⟩ = some (.int .i64 xg) ∧ w'.cell? ⟨g, o + j * 4 + 1, none⟩ = some (.string x1) ∧ w'.cell? ⟨g, o + j * 4 + 2, none⟩ = some (.string x2) ∧ w'.cell? ⟨g, o + j * 4 + 3, none⟩ = some (.string x3) ∧ w'.cell? ⟨g, o + (j + 1) * 4, none⟩ = some (.int .i64 yg) ∧ w'.cell? ⟨g, o + (j + 1) * 4 + 1, none⟩ = some (.string y1) ∧ w'.cell? ⟨g, o + (j + 1) * 4 + 2, none⟩ = some (.string y2) ∧ w'.cell? ⟨g, o + (j + 1) * 4 + 3, none⟩ = some (.string y3) from
              ⟨(HC1.out w' h).1, (HC1.out w' h).2.1, (HC1.out w' h).2.2.1, (HC1.out w' h).2.2.2, (HC2.out w' h).1, (HC2.out w' h).2.1, (HC2.out w' h).2.2.1, (HC2.out w' h).2.2.2⟩))
            have hI0 := HI.out.below hgr (Below.refl wr.heap.size wr).drew
            have hsub : ((j + 1 : Nat) : Int) - 1 = (j : Int) := by omega
            have hwr : IntKind.i64.wrap (((j + 1 : Nat) : Int) - 1) = (j : Int) := by rw [hsub]; exact IntWalk.i64_in _ (by omega)
            have hj0 : (0 : Int) ≤ (j : Int) := by omega
            have hj1 : (j : Int) < (xs.length : Int) := by omega
            have hj2 : (0 : Int) ≤ (j : Int) + 1 := by omega
            have hj3 : (j : Int) + 1 < (xs.length : Int) := by omega
            have hs2 : (j : Int) + 1 - 1 = (j : Int) := by omega
            have hw2' : IntKind.i64.wrap ((j : Int) + 1 - 1) = (j : Int) := by rw [hs2]; exact IntWalk.i64_in _ (by omega)
            have hw3 : IntKind.i64.wrap (j : Int) = (j : Int) := IntWalk.i64_in _ (by omega)
            clear HC1 HC2
            go_wp2_with fail
            go_region_held3 (fun w' => w'.cell? ⟨g, o + j * 4, none⟩ = some (.int .i64 xg) ∧ w'.cell? ⟨g, o + j * 4 + 1, none⟩ = some (.string x1) ∧ w'.cell? ⟨g, o + j * 4 + 2, none⟩ = some (.string x2) ∧ w'.cell? ⟨g, o + j * 4 + 3, none⟩ = some (.string x3) ∧ w'.cell? ⟨g, o + (j + 1) * 4, none⟩ = some (.int .i64 yg) ∧ w'.cell? ⟨g, o + (j + 1) * 4 + 1, none⟩ = some (.string y1) ∧ w'.cell? ⟨g, o + (j + 1) * 4 + 2, none⟩ = some (.string y2) ∧ w'.cell? ⟨g, o + (j + 1) * 4 + 3, none⟩ = some (.string y3))
              (first | with_reducible exact HSS.out _ hI0 | with_reducible exact HSS.out _ hI5)
              ((first
                | (go_at_call 37; refine (HCM.out _).mono ?_; rintro e w5 ⟨rfl, hb5⟩; have hb55 := pure_trans (Below.refl wr.heap.size wr).drew hb5; have hI5 := HI.out.below hgr hb55; have HI5 := Lib.hid hI5; have HB5 := Lib.hid (HB.out.trans (hb55.mono HB.out.size)); have hz5 := hb55.size; clear hb5 hb55)))
            all_goals
              obtain ⟨c0, c1, c2, c3, c4, c5, c6, c7⟩ := HSS.out _ HI5.out
              have f0 : w5.frozen? ⟨g, o + j * 4, none⟩ = false := HI5.out.free _
              have f1 : w5.frozen? ⟨g, o + j * 4 + 1, none⟩ = false := HI5.out.free _
              have f2 : w5.frozen? ⟨g, o + j * 4 + 2, none⟩ = false := HI5.out.free _
              have f3 : w5.frozen? ⟨g, o + j * 4 + 3, none⟩ = false := HI5.out.free _
              have f4 : w5.frozen? ⟨g, o + (j + 1) * 4, none⟩ = false := HI5.out.free _
              have f5 : w5.frozen? ⟨g, o + (j + 1) * 4 + 1, none⟩ = false := HI5.out.free _
              have f6 : w5.frozen? ⟨g, o + (j + 1) * 4 + 2, none⟩ = false := HI5.out.free _
              have f7 : w5.frozen? ⟨g, o + (j + 1) * 4 + 3, none⟩ = false := HI5.out.free _
              have HZ := Lib.hid (show w2.heap.size ≤ w5.heap.size by omega)
              have hgw5 : g < w5.heap.size := by omega
              by_cases hc : 0 < cc
              · have HCC := Lib.hid hc
                clear hrng hsub hwr HDN
                go_upto_region 8 with fail
                go_region
                all_goals
                  generalize hW8 : ((((((((w5.setCell ⟨g, o + j * 4, none⟩ (.int .i64 yg)).setCell ⟨g, o + j * 4 + 1, none⟩ (.string y1)).setCell ⟨g, o + j * 4 + 2, none⟩ (.string y2)).setCell ⟨g, o + j * 4 + 3, none⟩ (.string y3)).setCell ⟨g, o + (j + 1) * 4, none⟩ (.int .i64 xg)).setCell ⟨g, o + (j + 1) * 4 + 1, none⟩ (.string x1)).setCell ⟨g, o + (j + 1) * 4 + 2, none⟩ (.string x2)).setCell ⟨g, o + (j + 1) * 4 + 3, none⟩ (.string x3)).drew = w8
                  have e8 : (set4 (set4 w5 g (o + j * 4) ⟨yg, y1, y2, y3⟩) g (o + (j + 1) * 4) ⟨xg, x1, x2, x3⟩).drew = w8 := hW8
                  have hF : EntsC w8 g o (swapE zs j) ∧ Below w.heap.size w w8 ∧ w2.heap.size ≤ w8.heap.size := by
                    have hq := srt_swap (x := ⟨xg, x1, x2, x3⟩) (y := ⟨yg, y1, y2, y3⟩) e8 hgw5 HB5.out hg (HSET.out w5 HI5.out)
                    exact ⟨hq.1, hq.2.1, Nat.le_trans HZ.out hq.2.2⟩
                  have HF := Lib.hid hF
                  have HBU := Lib.hid (HSW.out HCC.out)
                  have HPE := Lib.hid ((swapE_perm (ys := zs) (j := j) (by omega)).trans HP.out)
                  clear hF e8 hW8 HSET HSW c0 c1 c2 c3 c4 c5 c6 c7 f0 f1 f2 f3 f4 f5 f6 f7 hI5 hI0 HSS
                  go_wp2
                  go_roundw
                  case rel => exact ⟨j, by omega, by go_num, swapE zs j, Lib.hid HF.out.1, by rw [swapE_len]; exact hlz, HPE, HBU, Lib.hid HF.out.2.1, HF.out.2.2⟩
                  case measure => simp [intOf]
              · have HTE := Lib.hid (HDN.out (by omega))
                clear HSET HSW HDN
                go_wp2
                go_roundw
                case rel => exact ⟨k + 1, by omega, .inl (by omega), by go_num, zs, HI5, hlz, HP, HTE, HB5, HZ.out⟩
                case measure => simp [intOf]; omega
      · have hR := (HI.out.rv (c := c) (B := w.heap.size) (by omega) HM.out hg)
        rw [hly] at hR
        have HR := Lib.hid hR
        clear hR
        go_wp2
        go_ret
        exact ⟨_, ys, rfl, HR.out, HP.out, HS.out.pairwise (by omega), HB.out⟩
end Go.Proofs.YtbmpoecmjmmngaaGreat
/- The reference's ValidEntry and Twice. -/
namespace Go.Proofs.YtbmpoecmjmmngaaGreat
open Go.RowKit Go.Maps

set_option maxHeartbeats 4000000 in
theorem refValid_any (x : Ent) (w : World) (hok : x.okE) :
    Calls Tryz.prog 80 #[x.v] w fun e w' => e = .returned (.bool (validE x)) ∧ Below w.heap.size w w' := by
  obtain ⟨g, nm, key, val⟩ := x
  obtain ⟨s0, s1, s2, s3⟩ := hok
  have HB0 := Lib.hid (fun o => (show Below w.heap.size w (w.alloc o) from (Below.refl _ _).alloc (Nat.le_refl _) o))
  have HV := Lib.hid (show validE ⟨g, nm, key, val⟩ = (decide (0 ≤ g ∧ g < 128) && (isName nm && (!big key && !big val))) from rfl)
  have HN := Lib.hid (fun w => refName_any nm w s1)
  have hk1 : (key.size : Int) ≤ 9223372036854775807 := by have s2' : key.size ≤ maxLen := s2; unfold maxLen at s2'; omega
  have hv1 : (val.size : Int) ≤ 9223372036854775807 := by have s3' : val.size ≤ maxLen := s3; unfold maxLen at s3'; omega
  have HK := Lib.hid (show big key = decide (65536 < key.size) from rfl)
  have HL := Lib.hid (show big val = decide (65536 < val.size) from rfl)
  generalize validE ⟨g, nm, key, val⟩ = r at *
  clear s1 s2 s3
  by_cases h0 : 0 ≤ g
  case neg =>
    have HR := Lib.hid (show r = false by rw [HV.out, decide_eq_false (by omega)]; rfl)
    clear HK HL HV
    go_enter Tryz.func80, Tryz.ntmps80
    go_wp2
    go_ret
    exact ⟨by rw [HR.out] <;> rfl, HB0.out _⟩
  by_cases h1 : g < 128
  case neg =>
    have HR := Lib.hid (show r = false by rw [HV.out, decide_eq_false (by omega)]; rfl)
    clear HK HL HV
    go_enter Tryz.func80, Tryz.ntmps80
    go_wp2
    go_ret
    exact ⟨by rw [HR.out] <;> rfl, HB0.out _⟩
  have HV2 := Lib.hid (show r = (isName nm && (!big key && !big val)) by rw [HV.out, decide_eq_true ⟨h0, h1⟩]; rfl)
  clear HV
  generalize isName nm = b1 at *
  go_enter Tryz.func80, Tryz.ntmps80
  go_wp2_with fail
  refine (HN.out _).mono ?_
  rintro e w1 ⟨rfl, rfl⟩
  cases b1 with
  | false =>
    have HR := Lib.hid (show r = false by rw [HV2.out]; rfl)
    clear HK HL HV2
    go_wp2
    go_ret
    exact ⟨by rw [HR.out] <;> rfl, HB0.out _⟩
  | true =>
  by_cases h2 : (key.size : Int) ≤ 65536
  case neg =>
    have HR := Lib.hid (show r = false by rw [HV2.out, HK.out, decide_eq_true (by omega)]; rfl)
    clear HK HL HV2
    go_wp2
    go_ret
    exact ⟨by rw [HR.out] <;> rfl, HB0.out _⟩
  by_cases h3 : (val.size : Int) ≤ 65536
  case neg =>
    have HR := Lib.hid (show r = false by rw [HV2.out, HK.out, decide_eq_false (by omega), HL.out, decide_eq_true (by omega)]; rfl)
    clear HK HL HV2
    go_wp2
    go_ret
    exact ⟨by rw [HR.out] <;> simp [show ¬ (val.size : Int) ≤ 65536 by omega] <;> omega, HB0.out _⟩
  have HR := Lib.hid (show r = true by rw [HV2.out, HK.out, decide_eq_false (by omega), HL.out, decide_eq_false (by omega)]; rfl)
  clear HK HL HV2
  go_wp2
  go_ret
  exact ⟨by rw [HR.out] <;> rfl, HB0.out _⟩
end Go.Proofs.YtbmpoecmjmmngaaGreat
/- The reference's Twice. -/
namespace Go.Proofs.YtbmpoecmjmmngaaGreat
open Go.RowKit Go.Maps

/-- Two that stand side by side, of one place. -/
def Beside (l : List Ent) : Prop := ∃ k, k + 1 < l.length ∧ (l.getD k default).pl = (l.getD (k + 1) default).pl
set_option maxRecDepth 100000 in
set_option maxHeartbeats 8000000 in
theorem refTwice_any (l : List Ent) (v : Value) (w : World) (hv : tEnts.rv (mem w) [v] l) (h8 : l.length ≤ 100000) :
    Calls Tryz.prog 81 #[v] w fun e w' => ∃ b : Bool, e = .returned (.bool b) ∧ (b = true ↔ Beside l) ∧ Below w.heap.size w w' := by
  obtain ⟨a, cap, rfl, hlc, hm, hv⟩ := slice_form hv
  have hcap : cap ≤ 9223372036854775807 := by unfold maxLen at hm; exact hm
  clear hm
  go_enter Tryz.func81, Tryz.ntmps81
  go_wp2
  go_loopw [3] (fun i wr => ∃ k : Nat, (k + 1 ≤ l.length ∨ k = 0) ∧ i = .int .i64 (k + 1 : Nat) ∧ Hid (Below w.heap.size w wr) ∧ Hid (∀ j, j < k → (l.getD j default).pl ≠ (l.getD (j + 1) default).pl)) (fun i _ => l.length - (intOf i).toNat)
  case atStart => exact ⟨0, .inr rfl, rfl, Lib.hid (Below.refl _ _), Lib.hid (fun j h => absurd h (by omega))⟩
  case round =>
    obtain ⟨k, hk, rfl, HB, HT⟩ := hrel
    by_cases hlt : k + 1 < l.length
    · have hlt0 : k < l.length := by omega
      have hv2 := tEnts.mono _ _ _ _ (below_mem HB.out) hv
      obtain ⟨b, o, rfl, hat, -⟩ := ents_at hv2 hlt
      obtain ⟨b', o', e', hat', -⟩ := ents_at hv2 hlt0
      simp only [Option.some.injEq, Addr.mk.injEq, and_true] at e'
      obtain ⟨rfl, rfl⟩ := e'
      have d0 : wr.cell? ⟨b, o + (k + 1) * 4, none⟩ = some (.int .i64 l[k + 1].g) := hat 0 _ rfl
      have d1 : wr.cell? ⟨b, o + (k + 1) * 4 + 1, none⟩ = some (.string l[k + 1].nm) := hat 1 _ rfl
      have d2 : wr.cell? ⟨b, o + (k + 1) * 4 + 2, none⟩ = some (.string l[k + 1].key) := hat 2 _ rfl
      have c0 : wr.cell? ⟨b, o + k * 4, none⟩ = some (.int .i64 l[k].g) := hat' 0 _ rfl
      have c1 : wr.cell? ⟨b, o + k * 4 + 1, none⟩ = some (.string l[k].nm) := hat' 1 _ rfl
      have c2 : wr.cell? ⟨b, o + k * 4 + 2, none⟩ = some (.string l[k].key) := hat' 2 _ rfl
      have HE1 : l.getD k default = l[k] := by simp [List.getD, hlt0]
      have HE2 : l.getD (k + 1) default = l[k + 1] := by simp [List.getD, hlt]
      have HYES := Lib.hid (fun (h : l[k].pl = l[k + 1].pl) => (show Beside l from ⟨k, hlt, by rw [HE1, HE2]; exact h⟩))
      have HNO := Lib.hid (fun (h : l[k].pl ≠ l[k + 1].pl) => (show ∀ j, j < k + 1 → (l.getD j default).pl ≠ (l.getD (j + 1) default).pl from fun j hj => by
        rcases Nat.lt_succ_iff_lt_or_eq.1 hj with h' | rfl
        · exact HT.out j h'
        · rw [HE1, HE2]; exact h))
      clear hat hat' HE1 HE2 hv2
      generalize l[k + 1] = y at *
      generalize l[k] = x at *
      obtain ⟨xg, x1, x2, x3⟩ := x
      obtain ⟨yg, y1, y2, y3⟩ := y
      simp only at d0 d1 d2 c0 c1 c2
      simp only [Ent.pl] at HYES HNO
      have hsub : ((k + 1 : Nat) : Int) - 1 = (k : Int) := by omega
      have hwr : IntKind.i64.wrap (((k + 1 : Nat) : Int) - 1) = (k : Int) := by rw [hsub]; exact IntWalk.i64_in _ (by omega)
      have hj0 : (0 : Int) ≤ (k : Int) := by omega
      have hj1 : (k : Int) < (l.length : Int) := by omega
      have hj2 : (0 : Int) ≤ (k : Int) + 1 := by omega
      have hj3 : (k : Int) + 1 < (l.length : Int) := by omega
      have hs2 : (k : Int) + 1 - 1 = (k : Int) := by omega
      have hw2' : IntKind.i64.wrap ((k : Int) + 1 - 1) = (k : Int) := by rw [hs2]; exact IntWalk.i64_in _ (by omega)
      have hw3 : IntKind.i64.wrap (k : Int) = (k : Int) := IntWalk.i64_in _ (by omega)
      by_cases h1 : xg = yg
      case neg =>
        have h1b : (xg == yg) = false := by simp [h1]
        have h1d : decide (xg = yg) = false := by simp [h1]
        have HN := Lib.hid (HNO.out (by simp [h1]))
        clear HYES HNO
        go_wp2_with fail
        go_quiet (fail)
        all_goals
          have hbq : ∀ n, Below wr.heap.size wr (wr.drewN n) := fun n => ⟨rfl, rfl, rfl, Nat.le_refl _, fun _ _ => rfl⟩
          go_wp2
          go_roundw
          case rel => exact ⟨k + 1, .inl (by omega), by go_num, Lib.hid (HB.out.trans ((hbq _).mono HB.out.size)), HN⟩
          case measure => simp [intOf]; omega
      subst h1
      have h1b : (xg == xg) = true := by simp
      cases h2 : (x1.toList == y1.toList)
      case false =>
        have HN := Lib.hid (HNO.out (by intro e; simp only [Prod.mk.injEq] at e; rw [e.2.1] at h2; simp at h2))
        clear HYES HNO
        go_wp2_with fail
        go_quiet (fail)
        all_goals
          have hbq : ∀ n, Below wr.heap.size wr (wr.drewN n) := fun n => ⟨rfl, rfl, rfl, Nat.le_refl _, fun _ _ => rfl⟩
          go_wp2
          go_roundw
          case rel => exact ⟨k + 1, .inl (by omega), by go_num, Lib.hid (HB.out.trans ((hbq _).mono HB.out.size)), HN⟩
          case measure => simp [intOf]; omega
      cases h3 : (x2.toList == y2.toList)
      case false =>
        have HN := Lib.hid (HNO.out (by intro e; simp only [Prod.mk.injEq] at e; rw [e.2.2] at h3; simp at h3))
        clear HYES HNO
        go_wp2_with fail
        go_quiet (fail)
        all_goals
          have hbq : ∀ n, Below wr.heap.size wr (wr.drewN n) := fun n => ⟨rfl, rfl, rfl, Nat.le_refl _, fun _ _ => rfl⟩
          go_wp2
          go_roundw
          case rel => exact ⟨k + 1, .inl (by omega), by go_num, Lib.hid (HB.out.trans ((hbq _).mono HB.out.size)), HN⟩
          case measure => simp [intOf]; omega
      have HY := Lib.hid (HYES.out (by rw [toList_inj (eq_of_beq h2), toList_inj (eq_of_beq h3)]))
      clear HYES HNO
      go_wp2_with fail
      go_quiet (fail)
      all_goals
        have hbq : ∀ n, Below wr.heap.size wr (wr.drewN n) := fun n => ⟨rfl, rfl, rfl, Nat.le_refl _, fun _ _ => rfl⟩
        go_wp2
        go_ret
        exact ⟨true, rfl, ⟨fun _ => HY.out, fun _ => rfl⟩, HB.out.trans ((hbq _).mono HB.out.size)⟩
    · have HN := Lib.hid (show ¬ Beside l from fun ⟨j, h1, h2⟩ => HT.out j (by omega) h2)
      go_wp2
      go_ret
      exact ⟨false, rfl, ⟨fun h => (by cases h), fun h => absurd h HN.out⟩, HB.out⟩
end Go.Proofs.YtbmpoecmjmmngaaGreat
/- HeapKeeps, plainly: what Get answers behind Restore and Put. -/
namespace Go.Proofs.YtbmpoecmjmmngaaGreat
open Go.RowKit Go.Maps

theorem fold_not {k : Place} : ∀ (l : List Ent) (f : Place → Option ByteArray), k ∉ l.map Ent.pl → l.foldl (fun f e => putAt f e.pl e.val) f k = f k
  | [], _, _ => rfl
  | y :: l, f, h => by
    rw [List.map_cons, List.mem_cons, not_or] at h
    rw [List.foldl_cons, fold_not l _ h.2]
    unfold putAt
    rw [if_neg h.1]
theorem fold_mem {x : Ent} : ∀ (l : List Ent) (f : Place → Option ByteArray), (l.map Ent.pl).Nodup → x ∈ l → l.foldl (fun f e => putAt f e.pl e.val) f x.pl = some x.val
  | y :: l, f, hn, hx => by
    rw [List.map_cons, List.nodup_cons] at hn
    rw [List.foldl_cons]
    rcases List.mem_cons.1 hx with rfl | h
    · rw [fold_not _ _ hn.1]
      unfold putAt
      rw [if_pos rfl]
    · exact fold_mem l _ hn.2 h
theorem placesF_mem {l : List Ent} (hn : (l.map Ent.pl).Nodup) {x : Ent} (hx : x ∈ l) : placesF l x.pl = some x.val := fold_mem l _ hn hx
theorem restAns_ok {n : Int} {l : List Ent} (h : restAns n l = 0) : (∀ x ∈ l, validE x = true ∧ x.g < n) ∧ (1 ≤ n ∧ n ≤ 128) ∧ (l.map Ent.pl).Nodup := by
  unfold restAns at h
  split at h
  · cases h
  next h1 =>
  split at h
  · cases h
  next h2 =>
  split at h
  · cases h
  next h3 =>
  split at h
  · next h4 =>
    have h1' : l.all validE = true := by simpa using h1
    have h3' : l.any (fun x => decide (n ≤ x.g)) = false := by simpa using h3
    refine ⟨fun x hx => ⟨List.all_eq_true.1 h1' x hx, ?_⟩, by omega, h4⟩
    have := List.any_eq_false.1 h3' x hx
    simp at this
    exact this
  · cases h
theorem chk_one {N : Nat} {g : Int} {nm k v : ByteArray} (h : chk N g nm [k, v] = 0) : chk N g nm [k] = 0 := by
  obtain ⟨h1, h2, h3⟩ := chk_ok h
  unfold chk
  rw [if_pos ⟨h1, by simp at h2 ⊢; exact h2.1⟩, if_pos h3]
theorem chk_of {N : Nat} {x : Ent} (h : validE x = true) (hg : x.g < N) : chk N x.g x.nm [x.key, x.val] = 0 := by
  unfold validE at h
  simp only [Bool.and_eq_true, decide_eq_true_eq, Bool.not_eq_true'] at h
  unfold chk
  rw [if_pos ⟨h.2.1, by simp [h.2.2]⟩, if_pos ⟨h.1.1, hg⟩]
theorem grpF_put {r r' : HS} {N : Nat} (hN : r.cur.length = N) {x : Ent} (ha : putAns N (grpF r x.g) r.cnt x.g x.nm x.key x.val = 0) (h' : r'.view = r.view.put N (grpF r x.g) x.g x.nm x.key x.val) {i : Nat} (hi : i < N) :
    grpF r' i = if (i : Int) = x.g then putAt (grpF r x.g) (x.nm, x.key) x.val else grpF r i := by
  unfold PS.put at h'
  rw [show r.view.cnt = r.cnt from rfl, if_pos ha] at h'
  have hl : r'.cur.length = N := by rw [view_len h', List.length_set, ← view_len rfl]; exact hN
  have h1 := grps_at r' (i := i) (by omega)
  have h2 := grps_at r (i := i) (by omega)
  have hc : chk N x.g x.nm [x.key, x.val] = 0 := by
    unfold putAns at ha
    split at ha
    · next h => exact absurd ha h
    · next h => exact Classical.not_not.1 h
  obtain ⟨_, _, h0, h3⟩ := chk_ok hc
  rw [h'] at h1
  show _ = _
  have h1 : (r.view.grps.set x.g.toNat (putAt (grpF r x.g) (x.nm, x.key) x.val))[i]? = some (grpF r' i) := h1
  rw [List.getElem?_set] at h1
  by_cases e : (i : Int) = x.g
  · rw [if_pos e]
    rw [if_pos (show x.g.toNat = i by omega)] at h1
    split at h1
    · injection h1 with h1; exact h1.symm
    · cases h1
  · rw [if_neg e]
    rw [if_neg (show ¬ x.g.toNat = i by omega), h2] at h1
    injection h1 with h1; exact h1.symm
theorem getAns_some {N : Nat} {F : FMap} {g : Int} {nm key : ByteArray} {s : ByteArray} (hc : chk N g nm [key] = 0) (h : F (nm, key) = some s) : getAns N F g nm key = (s, 0) := by
  unfold getAns
  rw [if_pos hc, h]
  rfl
/-- The law, plainly. -/
theorem keeps_get {r r' : HS} {n : Int} {l : List Ent} {x : Ent} (hr : restAns n l = 0) (hv : r.view = restPS n.toNat l) (ha : putAns n.toNat (grpF r x.g) r.cnt x.g x.nm x.key x.val = 0)
    (h' : r'.view = r.view.put n.toNat (grpF r x.g) x.g x.nm x.key x.val) :
    getAns n.toNat (grpF r' x.g) x.g x.nm x.key = (x.val, 0) ∧ ∀ y ∈ l, ∃ s, getAns n.toNat (grpF r' y.g) y.g y.nm y.key = (s, 0) ∧ (y.pl ≠ x.pl → s = y.val) := by
  obtain ⟨hall, hn, hnd⟩ := restAns_ok hr
  have hN : r.cur.length = n.toNat := (view_len hv).trans (restPS_len _ _)
  have hc : chk n.toNat x.g x.nm [x.key, x.val] = 0 := by
    unfold putAns at ha
    split at ha
    · next h => exact absurd ha h
    · next h => exact Classical.not_not.1 h
  obtain ⟨_, _, h0, h3⟩ := chk_ok hc
  refine ⟨?_, fun y hy => ?_⟩
  · refine getAns_some (chk_one hc) ?_
    obtain ⟨i, hi⟩ := Int.eq_ofNat_of_zero_le h0
    have := grpF_put hN ha h' (i := i) (by omega)
    rw [← hi] at this
    rw [this, if_pos rfl]
    unfold putAt
    rw [if_pos rfl]
  · obtain ⟨hy1, hy2⟩ := hall y hy
    have hcy := chk_of (N := n.toNat) hy1 (by omega)
    obtain ⟨_, _, hy0, hy3⟩ := chk_ok hcy
    obtain ⟨i, hi⟩ := Int.eq_ofNat_of_zero_le hy0
    have hgp := grpF_put hN ha h' (i := i) (by omega)
    have hgv := grpF_view hv (i := i) (by omega)
    rw [← hi] at hgp hgv
    have hmem : grpF r y.g (y.nm, y.key) = some y.val := by
      rw [hgv]
      exact placesF_mem hnd hy
    by_cases e : y.g = x.g
    · rw [if_pos e] at hgp
      by_cases e2 : (y.nm, y.key) = (x.nm, x.key)
      · refine ⟨x.val, getAns_some (chk_one hcy) (by rw [hgp]; unfold putAt; rw [if_pos e2]), fun h => absurd ?_ h⟩
        simp only [Prod.mk.injEq] at e2
        unfold Ent.pl
        rw [e, e2.1, e2.2]
      · refine ⟨y.val, getAns_some (chk_one hcy) (by rw [hgp]; unfold putAt; rw [if_neg e2, ← e]; exact hmem), fun _ => rfl⟩
    · rw [if_neg e] at hgp
      exact ⟨y.val, getAns_some (chk_one hcy) (by rw [hgp]; exact hmem), fun _ => rfl⟩
end Go.Proofs.YtbmpoecmjmmngaaGreat
/- The reference's Right and Restore: plain. -/
namespace Go.Proofs.YtbmpoecmjmmngaaGreat
open Go.RowKit Go.Maps

theorem entC_split (a b : Ent) : entC a b = if placeC a b ≠ 0 then placeC a b else cmpBytes a.val.toList b.val.toList := by
  show (if cmpInt a.g b.g ≠ 0 then cmpInt a.g b.g else if cmpBytes a.nm.toList b.nm.toList ≠ 0 then cmpBytes a.nm.toList b.nm.toList else if cmpBytes a.key.toList b.key.toList ≠ 0 then cmpBytes a.key.toList b.key.toList else cmpBytes a.val.toList b.val.toList) =
    (if (if cmpInt a.g b.g ≠ 0 then cmpInt a.g b.g else if cmpBytes a.nm.toList b.nm.toList ≠ 0 then cmpBytes a.nm.toList b.nm.toList else cmpBytes a.key.toList b.key.toList) ≠ 0 then (if cmpInt a.g b.g ≠ 0 then cmpInt a.g b.g else if cmpBytes a.nm.toList b.nm.toList ≠ 0 then cmpBytes a.nm.toList b.nm.toList else cmpBytes a.key.toList b.key.toList) else cmpBytes a.val.toList b.val.toList)
  by_cases h1 : cmpInt a.g b.g = 0 <;> by_cases h2 : cmpBytes a.nm.toList b.nm.toList = 0 <;> by_cases h3 : cmpBytes a.key.toList b.key.toList = 0 <;> simp [h1, h2, h3]
theorem entC_le {a b : Ent} (h : entC a b ≤ 0) : placeC a b ≤ 0 := by
  rw [entC_split] at h
  split at h
  · exact h
  · omega
theorem asc_of {S : List Ent} (hp : S.Pairwise (fun a b => entC a b ≤ 0)) (hb : ¬ Beside S) : Asc S := by
  refine List.pairwise_iff_getElem.2 fun i j hi hj hij => ?_
  have hle := entC_le (List.pairwise_iff_getElem.1 hp i j hi hj hij)
  have hle1 := entC_le (List.pairwise_iff_getElem.1 hp i (i + 1) hi (by omega) (by omega))
  by_cases h0 : placeC S[i] S[j] = 0
  · exfalso
    have h1 : placeC S[i] S[i + 1] = 0 := by
      by_cases e : j = i + 1
      · subst e; exact h0
      · have hle2 := entC_le (List.pairwise_iff_getElem.1 hp (i + 1) j (by omega) hj (by omega))
        have ha := placeC_good.anti S[i] S[j]
        have := (placeC_good.trans _ _ _ hle2 (show placeC S[j] S[i] ≤ 0 by omega)).1
        have ha2 := placeC_good.anti S[i] S[i + 1]
        omega
    exact hb ⟨i, by omega, by
      rw [show S.getD i default = S[i] by simp [List.getD, hi], show S.getD (i + 1) default = S[i + 1] by simp [List.getD, show i + 1 < S.length by omega]]
      exact placeC_zero.1 h1⟩
  · omega
theorem asc_nodup {S : List Ent} (h : Asc S) : (S.map Ent.pl).Nodup := by
  refine List.pairwise_map.2 (h.imp fun {a b} h e => ?_)
  have := placeC_zero.2 e
  omega
theorem beside_not {S : List Ent} (h : Beside S) : ¬ (S.map Ent.pl).Nodup := fun hn => by
  obtain ⟨k, hk, e⟩ := h
  rw [show S.getD k default = S[k] by simp [List.getD, show k < S.length by omega], show S.getD (k + 1) default = S[k + 1] by simp [List.getD, hk]] at e
  have := List.pairwise_iff_getElem.1 hn k (k + 1) (by rw [List.length_map]; omega) (by rw [List.length_map]; omega) (by omega)
  simp only [List.getElem_map] at this
  exact this e
theorem beside_dup {S l : List Ent} (hs : S.Perm l) (hp : S.Pairwise (fun a b => entC a b ≤ 0)) : Beside S ↔ ¬ (l.map Ent.pl).Nodup := by
  have hm : (S.map Ent.pl).Nodup ↔ (l.map Ent.pl).Nodup := (hs.map _).nodup_iff
  refine ⟨fun h => mt hm.2 (beside_not h), fun h => Classical.byContradiction fun hb => h (hm.1 (asc_nodup (asc_of hp hb)))⟩
theorem ent_eq {x y : Ent} (h : x.pl = y.pl) (hv : x.val = y.val) : x = y := by
  obtain ⟨g, a, b, c⟩ := x
  obtain ⟨g', a', b', c'⟩ := y
  simp only [Ent.pl, Prod.mk.injEq] at h
  obtain ⟨rfl, rfl, rfl⟩ := h
  subst hv
  rfl
theorem placesF_iff {l : List Ent} (hn : (l.map Ent.pl).Nodup) (x : Ent) : placesF l x.pl = some x.val ↔ x ∈ l := by
  refine ⟨fun h => ?_, placesF_mem hn⟩
  have hm := (placesF_some l x.pl).2 (by rw [h]; rfl)
  obtain ⟨y, hy, e⟩ := List.mem_map.1 hm
  have h2 := placesF_mem hn hy
  rw [e, h] at h2
  rw [ent_eq e.symm (by injection h2)]
  exact hy
theorem Rel.restored {n : Int} {l S : List Ent} (hr : restAns n l = 0) (hl : l.length ≤ 4000) (hs : S.Perm l) (ha : Asc S) : Rel (restPS n.toNat l) ⟨n.toNat, 1, S, []⟩ := by
  obtain ⟨hv, hn, hd⟩ := restAns_ok hr
  refine ⟨restPS_len _ _, ⟨ha, fun x => ?_⟩, ?_, ?_, rfl, fun k => by simp [restPS], fun x hx => by simp at hx, fun x hx => by simp at hx, by simp, fun k hk => by simp at hk, by simp, Int.le_refl _, fun x hx => ?_, fun x hx => by simp at hx⟩
  · rw [hs.mem_iff, ← placesF_iff hd]
    constructor
    · intro h
      have hx := hv x ((placesF_iff hd x).1 h)
      have h0 : 0 ≤ x.g := by
        have := hx.1
        unfold validE at this
        simp only [Bool.and_eq_true, decide_eq_true_eq] at this
        exact this.1.1
      refine ⟨x.g.toNat, fun s => placesF l ((x.g.toNat : Int), s.1, s.2), ?_, by omega, ?_⟩
      · unfold restPS
        have := hx.2
        simp only [List.getElem?_map, List.getElem?_range (show x.g.toNat < n.toNat by omega), Option.map_some]
      · rw [Int.toNat_of_nonneg h0]; exact h
    · rintro ⟨i, F, hi, hg, hF⟩
      unfold restPS at hi
      simp only [List.getElem?_map, Option.map_eq_some_iff] at hi
      obtain ⟨j, hj, rfl⟩ := hi
      obtain ⟨hj1, hj2⟩ := List.getElem?_eq_some_iff.1 hj
      rw [List.getElem_range] at hj2
      subst hj2
      have e : x.pl = ((i : Int), x.nm, x.key) := by unfold Ent.pl; rw [hg]; simp
      rw [e]
      exact hF
  · show ((l.length : Nat) : Int) = S.length
    rw [hs.length_eq]
  · show S.length ≤ 4000
    rw [hs.length_eq]; exact hl
  · have := (hv x (hs.mem_iff.1 hx)).1
    unfold validE at this
    simp only [Bool.and_eq_true, Bool.not_eq_true'] at this
    exact this.2.2.1
end Go.Proofs.YtbmpoecmjmmngaaGreat
/- share.CompareEntries: a comparison that draws and makes blocks, and writes none. -/
namespace Go.Proofs.YtbmpoecmjmmngaaGreat
open Go.RowKit Go.Maps Go.Sort

def GD (w w' : World) : Prop := ∃ q os, w' = grow (w.drewN q) os
theorem grow_drewN (w : World) (os : Array Obj) (q : Nat) : (grow w os).drewN q = grow (w.drewN q) os := rfl
theorem GD.refl (w : World) : GD w w := ⟨0, #[], by rw [grow_empty]; rfl⟩
theorem GD.trans {w w1 w2 : World} (h : GD w w1) (k : GD w1 w2) : GD w w2 := by
  obtain ⟨q, os, rfl⟩ := h
  obtain ⟨q', os', rfl⟩ := k
  exact ⟨q + q', os ++ os', by rw [grow_drewN, grow_grow, World.drewN_drewN]⟩
theorem GD.alloc {w w' : World} (h : GD w w') (o : Obj) : GD w (w'.alloc o) := h.trans ⟨0, #[o], by rw [alloc_eq_grow]; rfl⟩
theorem GD.drew {w w' : World} (h : GD w w') : GD w w'.drew := h.trans ⟨1, #[], by rw [grow_empty]; rfl⟩
theorem GD.below {w w' : World} (h : GD w w') : Below w.heap.size w w' := by
  obtain ⟨q, os, rfl⟩ := h
  refine ⟨rfl, rfl, rfl, ?_, fun k hk => ?_⟩
  · show w.heap.size ≤ (w.heap ++ os).size
    simp
  · show (w.heap ++ os)[k]? = w.heap[k]?
    rw [Array.getElem?_append_left hk]
set_option maxHeartbeats 400000 in
theorem nanI_any (x : Int) (w : World) : Calls Tryz.prog 116 #[.int .i64 x] w fun e w' => e = .returned (.bool false) ∧ w = w' := by
  go_enter Tryz.func116, Tryz.ntmps116
  go_wp2
  go_ret
  exact ⟨by simp, rfl⟩
set_option maxHeartbeats 1000000 in
theorem cmpI_any (x y : Int) (w : World) :
    Calls Tryz.prog 95 #[.int .i64 x, .int .i64 y] w fun e w' => e = .returned (.int .i64 (cmpInt x y)) ∧ w = w' := by
  have HC := Lib.hid (show cmpInt x y = if x < y then -1 else if y < x then 1 else 0 from rfl)
  generalize cmpInt x y = c at *
  by_cases h1 : x < y
  · have HR := Lib.hid (show c = -1 by rw [HC.out, if_pos h1])
    go_enter Tryz.func95, Tryz.ntmps95
    go_wp2_with (go_at_call 116; refine (nanI_any _ _).mono ?_; rintro e w' ⟨rfl, rfl⟩)
    go_ret
    exact ⟨by rw [HR.out] <;> rfl, rfl⟩
  · by_cases h2 : y < x
    · have HR := Lib.hid (show c = 1 by rw [HC.out, if_neg h1, if_pos h2])
      go_enter Tryz.func95, Tryz.ntmps95
      go_wp2_with (go_at_call 116; refine (nanI_any _ _).mono ?_; rintro e w' ⟨rfl, rfl⟩)
      go_ret
      exact ⟨by rw [HR.out] <;> rfl, rfl⟩
    · have HR := Lib.hid (show c = 0 by rw [HC.out, if_neg h1, if_neg h2])
      go_enter Tryz.func95, Tryz.ntmps95
      go_wp2_with (go_at_call 116; refine (nanI_any _ _).mono ?_; rintro e w' ⟨rfl, rfl⟩)
      go_ret
      exact ⟨by rw [HR.out] <;> rfl, rfl⟩
set_option maxHeartbeats 1000000 in
theorem plc1_any (x y : Ent) (w : World) : Calls Tryz.prog 94 #[x.v, y.v] w fun e w' => e = .returned (.int .i64 (cmpInt x.g y.g)) ∧ GD w w' := by
  obtain ⟨xg, x1, x2, x3⟩ := x
  obtain ⟨yg, y1, y2, y3⟩ := y
  have HG := Lib.hid (fun o1 o2 => ((GD.refl w).alloc o1).alloc o2)
  go_enter Tryz.func94, Tryz.ntmps94
  go_wp2_with (go_at_call 95; refine (cmpI_any _ _ _).mono ?_; rintro e w' ⟨rfl, rfl⟩)
  go_ret
  exact ⟨rfl, HG.out _ _⟩
set_option maxHeartbeats 1000000 in
theorem plc2_any (x y : Ent) (w : World) : Calls Tryz.prog 96 #[x.v, y.v] w fun e w' => e = .returned (.int .i64 (cmpBytes x.nm.toList y.nm.toList)) ∧ GD w w' := by
  obtain ⟨xg, x1, x2, x3⟩ := x
  obtain ⟨yg, y1, y2, y3⟩ := y
  have HG := Lib.hid (fun o1 o2 => ((GD.refl w).alloc o1).alloc o2)
  go_enter Tryz.func96, Tryz.ntmps96
  go_wp2_with (go_at_call 67; refine (cmpStr_any _ _ _).mono ?_; rintro e w' ⟨rfl, rfl⟩)
  go_ret
  exact ⟨rfl, HG.out _ _⟩
set_option maxHeartbeats 1000000 in
theorem plc3_any (x y : Ent) (w : World) : Calls Tryz.prog 97 #[x.v, y.v] w fun e w' => e = .returned (.int .i64 (cmpBytes x.key.toList y.key.toList)) ∧ GD w w' := by
  obtain ⟨xg, x1, x2, x3⟩ := x
  obtain ⟨yg, y1, y2, y3⟩ := y
  have HG := Lib.hid (fun o1 o2 => ((GD.refl w).alloc o1).alloc o2)
  go_enter Tryz.func97, Tryz.ntmps97
  go_wp2_with (go_at_call 67; refine (cmpStr_any _ _ _).mono ?_; rintro e w' ⟨rfl, rfl⟩)
  go_ret
  exact ⟨rfl, HG.out _ _⟩
set_option maxHeartbeats 1000000 in
theorem cmp1_any (x y : Ent) (w : World) : Calls Tryz.prog 66 #[x.v, y.v] w fun e w' => e = .returned (.int .i64 (cmpBytes x.val.toList y.val.toList)) ∧ GD w w' := by
  obtain ⟨xg, x1, x2, x3⟩ := x
  obtain ⟨yg, y1, y2, y3⟩ := y
  have HG := Lib.hid (fun o1 o2 => ((GD.refl w).alloc o1).alloc o2)
  go_enter Tryz.func66, Tryz.ntmps66
  go_wp2_with (go_at_call 67; refine (cmpStr_any _ _ _).mono ?_; rintro e w' ⟨rfl, rfl⟩)
  go_ret
  exact ⟨rfl, HG.out _ _⟩
/-- The first that is not zero. -/
def firstC : List Int → Int
  | [] => 0
  | c :: cs => if c ≠ 0 then c else firstC cs
/-- Functions that compare x and y, each its way. -/
def CmpF (x y : Ent) (F : FuncId) (c : Int) : Prop := (∀ args w, Sem.run Tryz.prog (callFunc F args) w = .ok (.enter F args) w) ∧ ∀ w, Calls Tryz.prog F #[x.v, y.v] w fun e w' => e = .returned (.int .i64 c) ∧ GD w w'
set_option maxRecDepth 100000 in
set_option maxHeartbeats 4000000 in
theorem compared1_any (x y : Ent) (fs : List (FuncId × Int)) (bx fb : Nat) (w : World) (hl : fs.length ≤ 100) (hf : ∀ p ∈ fs, CmpF x y p.1 p.2) (hlt : bx < w.heap.size) (hlf : fb < w.heap.size)
    (hb : w.cell? ⟨bx, 0, none⟩ = some (.slice (some ⟨fb, 0, none⟩) fs.length fs.length)) (hc : ∀ k (h : k < fs.length), w.cell? ⟨fb, k, none⟩ = some (.func (.func fs[k].1) #[] #[])) :
    Calls Tryz.prog 93 #[x.v, y.v, .pointer (some ⟨bx, 0, none⟩)] w fun e w' => e = .returned (.int .i64 (firstC (fs.map Prod.snd))) ∧ GD w w' := by
  obtain ⟨xg, x1, x2, x3⟩ := x
  obtain ⟨yg, y1, y2, y3⟩ := y
  have HF := Lib.hid hf
  have HC := Lib.hid hc
  have HG := Lib.hid (fun o1 o2 => ((GD.refl w).alloc o1).alloc o2)
  have HFC := Lib.hid (fun (k : Nat) (h : k < fs.length) => (show firstC ((fs.map Prod.snd).drop k) = if fs[k].2 ≠ 0 then fs[k].2 else firstC ((fs.map Prod.snd).drop (k + 1)) by
    rw [List.drop_eq_getElem_cons (by simpa using h)]; simp [firstC]))
  have HEND := Lib.hid (show firstC ((fs.map Prod.snd).drop fs.length) = 0 by rw [List.drop_eq_nil_of_le (by simp)]; rfl)
  have H0 := Lib.hid (show firstC (fs.map Prod.snd) = firstC ((fs.map Prod.snd).drop 0) by simp)
  generalize firstC (fs.map Prod.snd) = R at *
  have hfl : (fs.length : Int) ≤ 9223372036854775807 := by omega
  clear hf hc
  have b0 : ∀ o1 o2, ((w.alloc o1).alloc o2).cell? ⟨bx, 0, none⟩ = some (.slice (some ⟨fb, 0, none⟩) fs.length fs.length) := fun o1 o2 => below_mem (HG.out o1 o2).below _ _ _ hb
  go_enter Tryz.func93, Tryz.ntmps93
  go_wp2_with fail
  have HX := Lib.hid (HG.out (.cells #[.int .i64 xg, .string x1, .string x2, .string x3] 34) (.cells #[.int .i64 yg, .string y1, .string y2, .string y3] 34))
  have HBX := Lib.hid (alloc_at0 w (.cells #[.int .i64 xg, .string x1, .string x2, .string x3] 34) (.cells #[.int .i64 yg, .string y1, .string y2, .string y3] 34))
  have HBY := Lib.hid (alloc_at1 w (.cells #[.int .i64 xg, .string x1, .string x2, .string x3] 34) (.cells #[.int .i64 yg, .string y1, .string y2, .string y3] 34))
  clear b0 HG
  generalize (w.alloc (.cells #[.int .i64 xg, .string x1, .string x2, .string x3] 34)).alloc (.cells #[.int .i64 yg, .string y1, .string y2, .string y3] 34) = X at *
  have HK := Lib.hid (fun (wr : World) (h : GD X wr) => (show GD w wr from HX.out.trans h))
  have HXX := Lib.hid (fun (wr : World) (h : GD X wr) => (show wr.heap[w.heap.size]? = some (.cells #[.int .i64 xg, .string x1, .string x2, .string x3] 34 (0, 0)) from (h.below.block _ (Array.getElem?_eq_some_iff.1 HBX.out).1).trans HBX.out))
  have HXY := Lib.hid (fun (wr : World) (h : GD X wr) => (show wr.heap[w.heap.size + 1]? = some (.cells #[.int .i64 yg, .string y1, .string y2, .string y3] 34 (0, 0)) from (h.below.block _ (Array.getElem?_eq_some_iff.1 HBY.out).1).trans HBY.out))
  have HCC := Lib.hid (fun (wr : World) (h : GD X wr) (k : Nat) (hk : k < fs.length) => (show wr.cell? ⟨fb, k, none⟩ = some (.func (.func fs[k].1) #[] #[]) from below_mem (HX.out.trans h).below _ _ _ (HC.out k hk)))
  clear HC HBX HBY
  go_loopw [11] (fun i wr => ∃ k : Nat, k ≤ fs.length ∧ i = .int .i64 k ∧ Hid (GD X wr) ∧ Hid (R = firstC ((fs.map Prod.snd).drop k))) (fun i _ => fs.length - (intOf i).toNat)
  case atStart => exact ⟨0, by omega, rfl, Lib.hid (GD.refl _), H0⟩
  case round =>
    clear H0
    obtain ⟨k, hk, rfl, HGR, HR⟩ := hrel
    by_cases hlt : k < fs.length
    · have c0 := HCC.out _ HGR.out k hlt
      have hbx := HXX.out _ HGR.out
      have hby := HXY.out _ HGR.out
      have x0 : wr.cell? ⟨w.heap.size, 0, none⟩ = some (.int .i64 xg) := mem_cells hbx 0
      have x1' : wr.cell? ⟨w.heap.size, 1, none⟩ = some (.string x1) := mem_cells hbx 1
      have x2' : wr.cell? ⟨w.heap.size, 2, none⟩ = some (.string x2) := mem_cells hbx 2
      have x3' : wr.cell? ⟨w.heap.size, 3, none⟩ = some (.string x3) := mem_cells hbx 3
      have y0 : wr.cell? ⟨w.heap.size + 1, 0, none⟩ = some (.int .i64 yg) := mem_cells hby 0
      have y1' : wr.cell? ⟨w.heap.size + 1, 1, none⟩ = some (.string y1) := mem_cells hby 1
      have y2' : wr.cell? ⟨w.heap.size + 1, 2, none⟩ = some (.string y2) := mem_cells hby 2
      have y3' : wr.cell? ⟨w.heap.size + 1, 3, none⟩ = some (.string y3) := mem_cells hby 3
      have HFK := Lib.hid (HFC.out k hlt)
      obtain ⟨hcf, hcl⟩ := HF.out fs[k] (List.getElem_mem hlt)
      have HCL := Lib.hid hcl
      clear hcl hbx hby
      generalize fs[k].1 = F at *
      generalize fs[k].2 = c at *
      go_wp2_with fail
      refine (HCL.out _).mono ?_
      rintro e w1 ⟨rfl, hg1⟩
      have HG1 := Lib.hid (HGR.out.trans hg1)
      clear hg1 c0 x0 x1' x2' x3' y0 y1' y2' y3'
      by_cases hz : c = 0
      · have hzb : (c == 0) = true := by simp [hz]
        have HR2 := Lib.hid (show R = firstC ((fs.map Prod.snd).drop (k + 1)) by rw [HR.out, HFK.out, if_neg (by simp [hz])])
        go_wp2
        go_roundw
        case rel => exact ⟨k + 1, by omega, by go_num, HG1, HR2⟩
        case measure => simp [intOf]; omega
      · have hzb : (c == 0) = false := by simp [hz]
        have HR2 := Lib.hid (show R = c by rw [HR.out, HFK.out, if_pos hz])
        have HGE := Lib.hid (HK.out _ HG1.out)
        go_wp2
        go_ret
        exact ⟨by rw [HR2.out] <;> rfl, HGE.out⟩
    · obtain rfl : k = fs.length := by omega
      have hR0 := HR.out.trans HEND.out
      have HGE := Lib.hid (HK.out _ HGR.out)
      subst hR0
      go_wp2
      go_ret
      exact ⟨rfl, HGE.out⟩
set_option maxHeartbeats 400000 in
theorem compd_any (a : Option Addr) (n c : Nat) (w : World) : Calls Tryz.prog 64 #[.slice a n c] w fun e w' => ∃ bx, e = .returned (.func (.func 93) #[] #[.pointer (some ⟨bx, 0, none⟩)]) ∧ GD w w' ∧ w'.cell? ⟨bx, 0, none⟩ = some (.slice a n c) ∧ bx < w'.heap.size := by
  have HG := Lib.hid (fun o => (GD.refl w).alloc o)
  have HN := Lib.hid (fun (cs : Array Value) (T : TypeId) => (show (w.alloc (.cells cs T)).cell? ⟨w.heap.size, 0, none⟩ = cs[0]? from mem_cells_new w cs T (0, 0) 0))
  have HL := Lib.hid (fun (o : Obj) => (show w.heap.size < (w.alloc o).heap.size by simp))
  go_enter Tryz.func64, Tryz.ntmps64
  go_wp2
  go_ret
  exact ⟨_, rfl, HG.out _, HN.out _ _, HL.out _⟩
theorem placeC_c (x y : Ent) : firstC [cmpInt x.g y.g, cmpBytes x.nm.toList y.nm.toList, cmpBytes x.key.toList y.key.toList] = placeC x y := by
  show _ = (if cmpInt x.g y.g ≠ 0 then cmpInt x.g y.g else if cmpBytes x.nm.toList y.nm.toList ≠ 0 then cmpBytes x.nm.toList y.nm.toList else cmpBytes x.key.toList y.key.toList)
  unfold firstC firstC firstC firstC
  by_cases h : cmpBytes x.key.toList y.key.toList = 0 <;> simp [h]
theorem place0_eq (x y : Ent) : firstC ([(94, cmpInt x.g y.g), (96, cmpBytes x.nm.toList y.nm.toList), (97, cmpBytes x.key.toList y.key.toList)].map Prod.snd) = placeC x y := placeC_c x y
set_option maxRecDepth 100000 in
set_option maxHeartbeats 4000000 in
theorem place0_any (x y : Ent) (w : World) : Calls Tryz.prog 65 #[x.v, y.v] w fun e w' => e = .returned (.int .i64 (placeC x y)) ∧ GD w w' := by
  have HF := Lib.hid (show ∀ p ∈ ([(94, cmpInt x.g y.g), (96, cmpBytes x.nm.toList y.nm.toList), (97, cmpBytes x.key.toList y.key.toList)] : List (FuncId × Int)), CmpF x y p.1 p.2 from fun p hp => by
    simp only [List.mem_cons, List.not_mem_nil, or_false] at hp
    rcases hp with rfl | rfl | rfl
    · exact ⟨fun _ _ => rfl, fun w => plc1_any x y w⟩
    · exact ⟨fun _ _ => rfl, fun w => plc2_any x y w⟩
    · exact ⟨fun _ _ => rfl, fun w => plc3_any x y w⟩)
  have HCV := Lib.hid (show firstC (([(94, cmpInt x.g y.g), (96, cmpBytes x.nm.toList y.nm.toList), (97, cmpBytes x.key.toList y.key.toList)] : List (FuncId × Int)).map Prod.snd) = placeC x y from place0_eq x y)
  have HCP := Lib.hid (fun (bx fb : Nat) (w' : World) (hlt : bx < w'.heap.size) (hlf : fb < w'.heap.size) (hb : w'.cell? ⟨bx, 0, none⟩ = some (.slice (some ⟨fb, 0, none⟩) 3 3)) (hc : ∀ k (h : k < 3), w'.cell? ⟨fb, k, none⟩ = some (.func (.func ([(94, cmpInt x.g y.g), (96, cmpBytes x.nm.toList y.nm.toList), (97, cmpBytes x.key.toList y.key.toList)][k]'h).1) #[] #[])) => compared1_any x y [(94, cmpInt x.g y.g), (96, cmpBytes x.nm.toList y.nm.toList), (97, cmpBytes x.key.toList y.key.toList)] bx fb w' (by simp) HF.out hlt hlf hb hc)
  rw [HCV.out] at HCP
  generalize placeC x y = c at *
  obtain ⟨xg, x1, x2, x3⟩ := x
  obtain ⟨yg, y1, y2, y3⟩ := y
  have HG := Lib.hid (((GD.refl w).alloc (.cells #[.int .i64 xg, .string x1, .string x2, .string x3] 34)).alloc (.cells #[.int .i64 yg, .string y1, .string y2, .string y3] 34))
  have HBX := Lib.hid (alloc_at0 w (.cells #[.int .i64 xg, .string x1, .string x2, .string x3] 34) (.cells #[.int .i64 yg, .string y1, .string y2, .string y3] 34))
  have HBY := Lib.hid (alloc_at1 w (.cells #[.int .i64 xg, .string x1, .string x2, .string x3] 34) (.cells #[.int .i64 yg, .string y1, .string y2, .string y3] 34))
  go_enter Tryz.func65, Tryz.ntmps65
  go_wp2_with fail
  generalize (w.alloc (.cells #[.int .i64 xg, .string x1, .string x2, .string x3] 34)).alloc (.cells #[.int .i64 yg, .string y1, .string y2, .string y3] 34) = X at *
  have HXS := Lib.hid (show w.heap.size < X.heap.size ∧ w.heap.size + 1 < X.heap.size from ⟨(Array.getElem?_eq_some_iff.1 HBX.out).1, (Array.getElem?_eq_some_iff.1 HBY.out).1⟩)
  have HS := Lib.hid (fun (w' : World) (h : GD X w') => (show w'.cell? ⟨w.heap.size, 0, none⟩ = some (.int .i64 xg) ∧ w'.cell? ⟨w.heap.size, 1, none⟩ = some (.string x1) ∧ w'.cell? ⟨w.heap.size, 2, none⟩ = some (.string x2) ∧ w'.cell? ⟨w.heap.size, 3, none⟩ = some (.string x3) ∧ w'.cell? ⟨w.heap.size + 1, 0, none⟩ = some (.int .i64 yg) ∧ w'.cell? ⟨w.heap.size + 1, 1, none⟩ = some (.string y1) ∧ w'.cell? ⟨w.heap.size + 1, 2, none⟩ = some (.string y2) ∧ w'.cell? ⟨w.heap.size + 1, 3, none⟩ = some (.string y3) from by
    have hx := (h.below.block _ HXS.out.1).trans HBX.out
    have hy := (h.below.block _ HXS.out.2).trans HBY.out
    exact ⟨mem_cells hx 0, mem_cells hx 1, mem_cells hx 2, mem_cells hx 3, mem_cells hy 0, mem_cells hy 1, mem_cells hy 2, mem_cells hy 3⟩))
  have hg0 : GD X X.drew := (GD.refl X).drew
  have hg1 : ∀ o, GD X (X.alloc o).drew := fun o => ((GD.refl X).alloc o).drew
  have HNW := Lib.hid (fun (cs : Array Value) (T : TypeId) (o : Nat) => (show (X.alloc (.cells cs T)).drew.cell? ⟨X.heap.size, o, none⟩ = cs[o]? from mem_cells_new X cs T (0, 0) o))
  have HNL := Lib.hid (fun (o : Obj) => (show X.heap.size < (X.alloc o).drew.heap.size from Nat.lt_of_lt_of_eq (Nat.lt_succ_self _) (by show _ = (X.alloc o).heap.size; simp)))
  go_region_held3 (fun w' => w'.cell? ⟨w.heap.size, 0, none⟩ = some (.int .i64 xg) ∧ w'.cell? ⟨w.heap.size, 1, none⟩ = some (.string x1) ∧ w'.cell? ⟨w.heap.size, 2, none⟩ = some (.string x2) ∧ w'.cell? ⟨w.heap.size, 3, none⟩ = some (.string x3) ∧ w'.cell? ⟨w.heap.size + 1, 0, none⟩ = some (.int .i64 yg) ∧ w'.cell? ⟨w.heap.size + 1, 1, none⟩ = some (.string y1) ∧ w'.cell? ⟨w.heap.size + 1, 2, none⟩ = some (.string y2) ∧ w'.cell? ⟨w.heap.size + 1, 3, none⟩ = some (.string y3))
    (first | with_reducible exact HS.out _ hg0 | with_reducible exact HS.out _ (hg1 _) | with_reducible exact HS.out _ hg2 | with_reducible exact HS.out _ hg3)
    ((first
      | (go_at_call 64; refine (compd_any _ _ _ _).mono ?_; rintro e w2 ⟨bx, rfl, hg, hbx, hlt⟩; have hg2 := (hg1 _).trans hg; have hC := HCP.out bx X.heap.size w2 hlt (Nat.lt_of_lt_of_le (HNL.out _) hg.below.size) hbx (fun k h => below_mem hg.below _ _ _ ((HNW.out _ _ k).trans (by match k, h with
        | 0, _ => rfl
        | 1, _ => rfl
        | 2, _ => rfl
        | k + 3, h => exact absurd h (by omega)))); clear hg hbx hlt)
      | (go_at_call 93; refine hC.mono ?_; rintro e w3 ⟨rfl, hg⟩; have hg3 := hg2.trans hg)))
  all_goals
    have HE := Lib.hid (HG.out.trans hg3)
    go_wp2
    go_ret
    exact ⟨rfl, HE.out⟩
theorem cmpE_eq (x y : Ent) : firstC ([(65, placeC x y), (66, cmpBytes x.val.toList y.val.toList)].map Prod.snd) = entC x y := by
  rw [entC_split]
  show firstC [placeC x y, cmpBytes x.val.toList y.val.toList] = _
  unfold firstC firstC firstC
  by_cases h : cmpBytes x.val.toList y.val.toList = 0 <;> simp [h]
set_option maxRecDepth 100000 in
set_option maxHeartbeats 4000000 in
theorem cmpE_any (x y : Ent) (w : World) : Calls Tryz.prog 29 #[x.v, y.v] w fun e w' => e = .returned (.int .i64 (entC x y)) ∧ GD w w' := by
  have HF := Lib.hid (show ∀ p ∈ ([(65, placeC x y), (66, cmpBytes x.val.toList y.val.toList)] : List (FuncId × Int)), CmpF x y p.1 p.2 from fun p hp => by
    simp only [List.mem_cons, List.not_mem_nil, or_false] at hp
    rcases hp with rfl | rfl
    · exact ⟨fun _ _ => rfl, fun w => place0_any x y w⟩
    · exact ⟨fun _ _ => rfl, fun w => cmp1_any x y w⟩)
  have HCV := Lib.hid (show firstC (([(65, placeC x y), (66, cmpBytes x.val.toList y.val.toList)] : List (FuncId × Int)).map Prod.snd) = entC x y from cmpE_eq x y)
  have HCP := Lib.hid (fun (bx fb : Nat) (w' : World) (hlt : bx < w'.heap.size) (hlf : fb < w'.heap.size) (hb : w'.cell? ⟨bx, 0, none⟩ = some (.slice (some ⟨fb, 0, none⟩) 2 2)) (hc : ∀ k (h : k < 2), w'.cell? ⟨fb, k, none⟩ = some (.func (.func ([(65, placeC x y), (66, cmpBytes x.val.toList y.val.toList)][k]'h).1) #[] #[])) => compared1_any x y [(65, placeC x y), (66, cmpBytes x.val.toList y.val.toList)] bx fb w' (by simp) HF.out hlt hlf hb hc)
  rw [HCV.out] at HCP
  generalize entC x y = c at *
  obtain ⟨xg, x1, x2, x3⟩ := x
  obtain ⟨yg, y1, y2, y3⟩ := y
  have HG := Lib.hid (((GD.refl w).alloc (.cells #[.int .i64 xg, .string x1, .string x2, .string x3] 34)).alloc (.cells #[.int .i64 yg, .string y1, .string y2, .string y3] 34))
  have HBX := Lib.hid (alloc_at0 w (.cells #[.int .i64 xg, .string x1, .string x2, .string x3] 34) (.cells #[.int .i64 yg, .string y1, .string y2, .string y3] 34))
  have HBY := Lib.hid (alloc_at1 w (.cells #[.int .i64 xg, .string x1, .string x2, .string x3] 34) (.cells #[.int .i64 yg, .string y1, .string y2, .string y3] 34))
  go_enter Tryz.func29, Tryz.ntmps29
  go_wp2_with fail
  generalize (w.alloc (.cells #[.int .i64 xg, .string x1, .string x2, .string x3] 34)).alloc (.cells #[.int .i64 yg, .string y1, .string y2, .string y3] 34) = X at *
  have HXS := Lib.hid (show w.heap.size < X.heap.size ∧ w.heap.size + 1 < X.heap.size from ⟨(Array.getElem?_eq_some_iff.1 HBX.out).1, (Array.getElem?_eq_some_iff.1 HBY.out).1⟩)
  have HS := Lib.hid (fun (w' : World) (h : GD X w') => (show w'.cell? ⟨w.heap.size, 0, none⟩ = some (.int .i64 xg) ∧ w'.cell? ⟨w.heap.size, 1, none⟩ = some (.string x1) ∧ w'.cell? ⟨w.heap.size, 2, none⟩ = some (.string x2) ∧ w'.cell? ⟨w.heap.size, 3, none⟩ = some (.string x3) ∧ w'.cell? ⟨w.heap.size + 1, 0, none⟩ = some (.int .i64 yg) ∧ w'.cell? ⟨w.heap.size + 1, 1, none⟩ = some (.string y1) ∧ w'.cell? ⟨w.heap.size + 1, 2, none⟩ = some (.string y2) ∧ w'.cell? ⟨w.heap.size + 1, 3, none⟩ = some (.string y3) from by
    have hx := (h.below.block _ HXS.out.1).trans HBX.out
    have hy := (h.below.block _ HXS.out.2).trans HBY.out
    exact ⟨mem_cells hx 0, mem_cells hx 1, mem_cells hx 2, mem_cells hx 3, mem_cells hy 0, mem_cells hy 1, mem_cells hy 2, mem_cells hy 3⟩))
  have hg0 : GD X X.drew := (GD.refl X).drew
  have hg1 : ∀ o, GD X (X.alloc o).drew := fun o => ((GD.refl X).alloc o).drew
  have HNW := Lib.hid (fun (cs : Array Value) (T : TypeId) (o : Nat) => (show (X.alloc (.cells cs T)).drew.cell? ⟨X.heap.size, o, none⟩ = cs[o]? from mem_cells_new X cs T (0, 0) o))
  have HNL := Lib.hid (fun (o : Obj) => (show X.heap.size < (X.alloc o).drew.heap.size from Nat.lt_of_lt_of_eq (Nat.lt_succ_self _) (by show _ = (X.alloc o).heap.size; simp)))
  go_region_held3 (fun w' => w'.cell? ⟨w.heap.size, 0, none⟩ = some (.int .i64 xg) ∧ w'.cell? ⟨w.heap.size, 1, none⟩ = some (.string x1) ∧ w'.cell? ⟨w.heap.size, 2, none⟩ = some (.string x2) ∧ w'.cell? ⟨w.heap.size, 3, none⟩ = some (.string x3) ∧ w'.cell? ⟨w.heap.size + 1, 0, none⟩ = some (.int .i64 yg) ∧ w'.cell? ⟨w.heap.size + 1, 1, none⟩ = some (.string y1) ∧ w'.cell? ⟨w.heap.size + 1, 2, none⟩ = some (.string y2) ∧ w'.cell? ⟨w.heap.size + 1, 3, none⟩ = some (.string y3))
    (first | with_reducible exact HS.out _ hg0 | with_reducible exact HS.out _ (hg1 _) | with_reducible exact HS.out _ hg2 | with_reducible exact HS.out _ hg3)
    ((first
      | (go_at_call 64; refine (compd_any _ _ _ _).mono ?_; rintro e w2 ⟨bx, rfl, hg, hbx, hlt⟩; have hg2 := (hg1 _).trans hg; have hC := HCP.out bx X.heap.size w2 hlt (Nat.lt_of_lt_of_le (HNL.out _) hg.below.size) hbx (fun k h => below_mem hg.below _ _ _ ((HNW.out _ _ k).trans (by match k, h with
        | 0, _ => rfl
        | 1, _ => rfl
        | k + 2, h => exact absurd h (by omega)))); clear hg hbx hlt)
      | (go_at_call 93; refine hC.mono ?_; rintro e w3 ⟨rfl, hg⟩; have hg3 := hg2.trans hg)))
  all_goals
    have HE := Lib.hid (HG.out.trans hg3)
    go_wp2
    go_ret
    exact ⟨rfl, HE.out⟩
end Go.Proofs.YtbmpoecmjmmngaaGreat
/- slices.SortFunc at entries. (Printed out of XHSort.) -/
namespace Go.Proofs.YtbmpoecmjmmngaaGreat
open Go.RowKit Go.Shelf Go.Maps Go.Sort

theorem swoE : SWO (ltOf entC) := by
  have g := entC_good
  refine ⟨fun x => ?_, fun x y z h1 h2 => ?_, fun x y z h1 h2 => ?_⟩ <;> unfold ltOf at *
  · rw [g.refl]; rfl
  · simp only [decide_eq_true_eq] at *
    exact g.lt_trans h1 h2
  · simp only [decide_eq_false_iff_not, Int.not_lt] at *
    have a1 := g.anti x y
    have a2 := g.anti y z
    have a3 := g.anti x z
    have := (g.trans z y x (by omega) (by omega)).1
    omega
def encE (x : Ent) : List Value := [.int .i64 x.g, .string x.nm, .string x.key, .string x.val]
theorem aggE (w : World) : (isAgg (Tryz.sort28_ren.t 24)).run Tryz.prog w = .ok true w := Tryz.isAgg34 w
theorem sizeE (w : World) : (Go.sizeOf (Tryz.sort28_ren.t 24)).run Tryz.prog w = .ok 4 w := Tryz.sizeOf34 w
theorem cmpLaysE (blk off size : Nat) (w : World) : CmpLays Tryz.prog 29 #[] encE 4 entC blk off size w :=
  fun _ _ _ _ x y => cmpE_any x y _
theorem sortWorld_keepsE (w : World) (blk off m : Nat) (d : Array Ent) (os : Array Obj) : Keeps (fun k => k = blk) w (sortWorldK encE 4 w blk off m d os) := by
  refine ⟨rfl, rfl, rfl, ?_, fun k hk hne => ?_⟩
  · show w.heap.size ≤ ((w.heap.modify blk _) ++ os).size
    simp
  · show ((w.heap.modify blk _) ++ os)[k]? = w.heap[k]?
    rw [Array.getElem?_append_left (by simpa using hk), Array.getElem?_modify, if_neg (fun e => hne e.symm)]
theorem holds_rvE {w : World} {blk off : Nat} {d : Array Ent} {cap : Nat} (h : HoldsK encE 4 w blk off d) (hc : d.size ≤ cap) (hm : cap ≤ maxLen) {S : Nat → Prop} (hS : S blk) (hok : ∀ y ∈ d.toList, y.okE) : tEnts.rv ((mem w).on S) [.slice (some ⟨blk, off, none⟩) d.size cap] d.toList := by
  refine ⟨some ⟨blk, off, none⟩, cap, by simp, by simpa using hc, hm, fun _ => ⟨blk, off, rfl, fun k hk => ⟨encE d.toList[k], fun j u hj => ?_, rfl, hok _ (List.getElem_mem hk)⟩⟩⟩
  have hk' : k < d.size := by simpa using hk
  have hj2 : j < 4 := by
    have := (List.getElem?_eq_some_iff.1 hj).1
    simpa [encE] using this
  have := (h.cell hk' hj2).1
  refine Mem.on_some ?_ hS
  show w.cell? ⟨blk, off + k * 4 + j, none⟩ = some u
  rw [this]
  congr 1
  rw [getElem!_pos d k hk']
  rw [show d.toList[k] = d[k] by simp] at hj
  rw [List.getElem!_eq_getElem?_getD, hj]
  rfl
theorem owns_holdsE {w : World} {B blk cap : Nat} {o : Nat} {ss : List Ent} (h : Owns tEnt w B 34 (.slice (some ⟨blk, o, none⟩) ss.length cap) ss) : o = 0 ∧ B ≤ blk ∧ blk < w.heap.size ∧ HoldsK encE 4 w blk 0 ss.toArray := by
  have hrv := h.rv'
  obtain ⟨css, g1, ⟨g2, g3⟩, g4, g5⟩ := h
  rcases g3 with ⟨g3, _⟩ | ⟨g, cap', cur, e, hB, hg, _⟩
  · cases g3
  · injection e with e1 e2 e3
    injection e1 with e1
    injection e1 with e1 e4 e5
    subst e1; subst e4
    refine ⟨rfl, hB, (Array.getElem?_eq_some_iff.1 hg).1, fun t ht => ?_⟩
    have ht' : t < ss.length * 4 := by simpa using ht
    have hk : t / 4 < ss.length := by omega
    obtain ⟨b', o', e', cs, hat, hcs⟩ := slice_at hrv hk
    injection e' with e1
    injection e1 with e1 e4 e5
    subst e1; subst e4
    have hc := hat (t % 4) ((encE ss[t / 4])[t % 4]!) (by
      have h2 : t % 4 < 4 := Nat.mod_lt _ (by omega)
      rw [show cs = encE ss[t / 4] from hcs.1, List.getElem!_eq_getElem?_getD, List.getElem?_eq_getElem (show t % 4 < (encE ss[t / 4]).length from h2)]
      rfl)
    have he : 0 + t / 4 * tEnt.sz + t % 4 = 0 + t := by show 0 + t / 4 * 4 + t % 4 = _; omega
    rw [he] at hc
    refine ⟨?_, frozen_cells hg _⟩
    rw [get_flatK _ _ _ _ (by simpa using ht')]
    have hx : (ss.toArray)[t / 4]! = ss[t / 4] := by rw [getElem!_pos ss.toArray (t / 4) (by simpa using hk)]; simp
    rw [hx]
    exact hc
set_option maxRecDepth 100000 in
set_option maxHeartbeats 2000000 in
theorem sortE_any (base : Nat) (v : Value) (ss : List Ent) (w : World) (h : Owns tEnt w base 34 v ss) (hn : ss.length ≤ 1000000000) :
    Calls Tryz.prog 28 #[v, .func (.func 29) #[] #[]] w fun e w' => e = .returned (.tuple #[]) ∧
      ∃ tt, tt.Perm ss ∧ tt.Pairwise (fun a b => entC a b ≤ 0) ∧ tEnts.rv ((mem w').on (base ≤ ·)) [v] tt ∧ Keeps (fun k => v.ownBlock = some k) w w' ∧ ∀ k, v.ownBlock = some k → ∃ cur, w'.heap[k]? = some (.cells cur 34 (0, 0)) := by
  have hALL := ents_all h.rv'
  obtain ⟨au, cu, rfl, hlc, hmc, _⟩ := slice_form h.rv'
  cases au with
  | none =>
    have h0 : ss = [] := by
      obtain ⟨css, h1, ⟨h2, h3⟩, h4, h5⟩ := h
      rcases h3 with ⟨e, h3⟩ | ⟨g, cap, cur, e, _⟩
      · injection e with _ e _
        exact List.eq_nil_of_length_eq_zero e
      · injection e with e; cases e
    subst h0
    refine (AnyF.slices_SortFunc_none (P := Tryz.prog) (ρ := Tryz.sort28_ren) { Tryz.sort28 with } none cu _ w).mono ?_
    rintro e w' ⟨rfl, rfl⟩
    obtain ⟨css, h1, ⟨h2, h3⟩, h4, h5⟩ := h
    rcases h3 with ⟨e, h3⟩ | ⟨g, cap, cur, e, _⟩
    · injection e with _ _ e
      subst e
      exact ⟨rfl, [], List.Perm.refl _, List.Pairwise.nil, slice_nil _ _, Keeps.refl _ _, fun k e => (by cases e)⟩
    · injection e with e; cases e
  | some a =>
    obtain ⟨blk, o, sp⟩ := a
    have hsp : sp = none := by
      obtain ⟨css, h1, ⟨h2, h3⟩, h4, h5⟩ := h
      rcases h3 with ⟨e, h3⟩ | ⟨g, cap, cur, e, _⟩
      · injection e with e; cases e
      · injection e with e; injection e with e; injection e
    subst hsp
    obtain ⟨rfl, hB, hlt, hH⟩ := owns_holdsE h
    refine (AnyQ.slices_SortFunc (P := Tryz.prog) (ρ := Tryz.sort28_ren) Tryz.sort28 4 aggE sizeE encE (fun _ => rfl) (fun x v hv => by simp [encE] at hv; rcases hv with rfl | rfl | rfl | rfl <;> rfl) entC swoE
      29 #[] blk 0 cu ss.toArray w (fun _ _ => rfl) (cmpLaysE _ _ _ _) hH hlt (by simp; omega)).mono ?_
    rintro e w' ⟨rfl, d, n, os, ⟨hsz, _, hp⟩, hsrt, rfl⟩
    have hszl : d.size = ss.length := by simpa using hsz
    have hperm : d.toList.Perm ss := by
      have e1 : d.extract 0 ss.toArray.size = d := by rw [List.size_toArray, ← hszl]; simp
      rw [e1] at hp
      simpa using hp
    refine ⟨rfl, d.toList, hperm, ?_, ?_, (sortWorld_keepsE _ _ _ _ _ _).wide (fun k _ e => by subst e; rfl), fun k e => ?_⟩
    · rw [List.pairwise_iff_getElem]
      intro i j hi hj hij
      have hj' : j < d.size := by simpa using hj
      have hi' : i < d.size := by omega
      have := hsrt i j (Nat.zero_le _) hij (by simp; omega)
      rw [getElem!_pos d j hj', getElem!_pos d i hi'] at this
      unfold ltOf at this
      simp only [decide_eq_false_iff_not, Int.not_lt] at this
      have ha := entC_good.anti d[i] d[j]
      simp only [Array.getElem_toList]
      omega
    · have hh : HoldsK encE 4 (sortWorldK encE 4 w blk 0 n d os) blk 0 d := holdsK_grow _ _ _ os blk 0 d (by show blk < (w.heap.modify blk _).size; simpa using hlt) (holdsK_putRowK _ _ _ _ _ _ d (holdsK_ahead _ _ _ n _ _ _ hH) hsz)
      have := holds_rvE (cap := cu) hh (by omega) hmc (S := (base ≤ ·)) hB (fun y hy => hALL y (hperm.mem_iff.1 hy))
      rw [hszl] at this
      exact this
    · obtain rfl : blk = k := by injection e
      obtain ⟨css, _, ⟨_, h3⟩, _⟩ := h
      rcases h3 with ⟨e, _⟩ | ⟨g, cap, cur, e, _, hg, _⟩
      · injection e with e; cases e
      · injection e with e1
        injection e1 with e1
        injection e1 with e1
        subst e1
        refine ⟨putCells id 0 (flatK encE 4 d) cur, ?_⟩
        show ((w.heap.modify blk _) ++ os)[blk]? = _
        rw [Array.getElem?_append_left (by simpa using hlt), Array.getElem?_modify, if_pos rfl, hg]
        rfl
end Go.Proofs.YtbmpoecmjmmngaaGreat
/- The reference's Right and Restore: the walks. -/
namespace Go.Proofs.YtbmpoecmjmmngaaGreat
open Go.RowKit Go.Maps

/-- Right's answer, case by case. -/
structure RightC (n : Int) (l : List Ent) (c : Int) : Prop where
  bad : ∀ x ∈ l, validE x = false → c = 1
  rng : (∀ x ∈ l, validE x = true) → ¬ (1 ≤ n ∧ n ≤ 128) → c = 7
  out : (∀ x ∈ l, validE x = true) → (1 ≤ n ∧ n ≤ 128) → ∀ x ∈ l, n ≤ x.g → c = 7
  end' : (∀ x ∈ l, validE x = true) → (1 ≤ n ∧ n ≤ 128) → (∀ x ∈ l, x.g < n) → ∀ S : List Ent, S.Perm l → S.Pairwise (fun a b => entC a b ≤ 0) → ∀ b : Bool, (b = true ↔ Beside S) → c = if b = true then 6 else 0
theorem rightC (n : Int) (l : List Ent) : RightC n l (restAns n l) := by
  have hall : (∀ x ∈ l, validE x = true) → ¬ (l.all validE = false) := fun h e => by rw [List.all_eq_true.2 h] at e; cases e
  refine ⟨fun x hx hv => ?_, fun h1 h2 => ?_, fun h1 h2 x hx h3 => ?_, fun h1 h2 h3 S hs hp b hb => ?_⟩ <;> unfold restAns
  · rw [if_pos]
    cases h : l.all validE
    · rfl
    · rw [List.all_eq_true] at h
      rw [h x hx] at hv; cases hv
  · rw [if_neg (hall h1), if_pos (by omega)]
  · rw [if_neg (hall h1), if_neg (by omega), if_pos (List.any_eq_true.2 ⟨x, hx, decide_eq_true h3⟩)]
  · rw [if_neg (hall h1), if_neg (by omega), if_neg (fun h => by obtain ⟨x, hx, h⟩ := List.any_eq_true.1 h; have := h3 x hx; have := of_decide_eq_true h; omega)]
    have hd := beside_dup hs hp
    by_cases hB : Beside S
    · rw [if_pos (hb.2 hB), if_neg (hd.1 hB)]
    · rw [if_neg (fun h => hB (hb.1 h)), if_pos (Classical.byContradiction fun h => hB (hd.2 h))]
set_option maxRecDepth 100000 in
set_option maxHeartbeats 8000000 in
theorem refRight_any (n : Int) (l : List Ent) (v : Value) (w : World) (hv : tEnts.rv (mem w) [v] l) (h8 : l.length ≤ 4000) :
    Calls Tryz.prog 56 #[.int .i64 n, v] w fun e w' => e = .returned (.int .i64 (restAns n l)) ∧ Below w.heap.size w w' := by
  have HC := Lib.hid (rightC n l)
  generalize restAns n l = c at *
  have HSO := Lib.hid (fun wr (hb : Below w.heap.size w wr) => sortEnts_any l v wr (tEnts.mono _ _ _ _ (below_mem hb) hv) (by omega))
  have HIN := Lib.hid (fun wr => refIn_any n 128 wr)
  obtain ⟨a, cap, rfl, hlc, hm, hv⟩ := slice_form hv
  have hcap : cap ≤ 9223372036854775807 := by unfold maxLen at hm; exact hm
  have HV := Lib.hid (fun wr (hb : Below w.heap.size w wr) => (tEnts.mono _ _ _ _ (below_mem hb) hv : tEnts.rv (mem wr) _ l))
  clear hm hv
  go_enter Tryz.func56, Tryz.ntmps56
  go_wp2
  go_loopw [5] (fun i wr => ∃ k : Nat, k ≤ l.length ∧ i = .int .i64 k ∧ Hid (Below w.heap.size w wr) ∧ Hid (∀ x ∈ l.take k, validE x = true)) (fun i _ => l.length - (intOf i).toNat)
  case atStart => exact ⟨0, by omega, rfl, Lib.hid (Below.refl _ _), Lib.hid (by simp)⟩
  case round =>
    obtain ⟨k, hk, rfl, HB, HT⟩ := hrel
    by_cases hlt : k < l.length
    · obtain ⟨b, o, rfl, hat, hok⟩ := ents_at (HV.out _ HB.out) hlt
      have d0 : wr.cell? ⟨b, o + k * 4, none⟩ = some (.int .i64 l[k].g) := hat 0 _ rfl
      have d1 : wr.cell? ⟨b, o + k * 4 + 1, none⟩ = some (.string l[k].nm) := hat 1 _ rfl
      have d2 : wr.cell? ⟨b, o + k * 4 + 2, none⟩ = some (.string l[k].key) := hat 2 _ rfl
      have d3 : wr.cell? ⟨b, o + k * 4 + 3, none⟩ = some (.string l[k].val) := hat 3 _ rfl
      have HVE := Lib.hid (fun wx => refValid_any l[k] wx hok)
      have HBAD := Lib.hid (HC.out.bad l[k] (List.getElem_mem hlt))
      have HNX := Lib.hid (fun (h : validE l[k] = true) => mem_take_snoc (q := fun x => validE x = true) hlt HT.out h)
      clear hat hok
      generalize validE l[k] = bb at *
      generalize l[k] = x at *
      obtain ⟨xg, x1, x2, x3⟩ := x
      simp only at d0 d1 d2 d3
      go_wp2_with fail
      refine (HVE.out _).mono ?_
      rintro e w1 ⟨rfl, hb⟩
      have HB1 := Lib.hid (pure_trans HB.out hb)
      clear hb
      cases bb with
      | false =>
        have hc1 := HBAD.out rfl
        subst hc1
        go_wp2
        go_ret
        exact ⟨rfl, HB1.out⟩
      | true =>
        have HN := Lib.hid (HNX.out rfl)
        clear HNX
        go_wp2
        go_roundw
        case rel => exact ⟨k + 1, by omega, by go_num, HB1, HN⟩
        case measure => simp [intOf]; omega
    · obtain rfl : k = l.length := by omega
      rw [List.take_length] at HT
      have HC1 := Lib.hid (HC.out.rng HT.out)
      have HC2 := Lib.hid (HC.out.out HT.out)
      have HC3 := Lib.hid (HC.out.end' HT.out)
      clear HC HT
      by_cases hn : 1 ≤ n ∧ n ≤ 128
      case neg =>
        have hd : decide (1 ≤ n ∧ n ≤ 128) = false := decide_eq_false hn
        have hc1 := HC1.out hn
        subst hc1
        rw [hd] at HIN
        clear hn
        go_wp2_with fail
        refine (HIN.out _).mono ?_
        rintro e w1 ⟨rfl, rfl⟩
        go_wp2
        go_ret
        exact ⟨rfl, HB.out⟩
      have hd : decide (1 ≤ n ∧ n ≤ 128) = true := decide_eq_true hn
      rw [hd] at HIN
      have HC4 := Lib.hid (HC2.out hn)
      have HC5 := Lib.hid (HC3.out hn)
      clear hd HC1 HC2 HC3
      go_wp2_with fail
      refine (HIN.out _).mono ?_
      rintro e w1 ⟨rfl, rfl⟩
      clear hn HIN
      go_wp2_with fail
      go_loopw [6] (fun i wr => ∃ k : Nat, k ≤ l.length ∧ i = .int .i64 k ∧ Hid (Below w.heap.size w wr) ∧ Hid (∀ x ∈ l.take k, x.g < n)) (fun i _ => l.length - (intOf i).toNat)
      case atStart => exact ⟨0, by omega, rfl, HB, Lib.hid (by simp)⟩
      case round =>
        clear HB
        obtain ⟨k, hk, rfl, HB, HT⟩ := hrel
        by_cases hlt : k < l.length
        · obtain ⟨b, o, rfl, hat, -⟩ := ents_at (HV.out _ HB.out) hlt
          have d0 : wr.cell? ⟨b, o + k * 4, none⟩ = some (.int .i64 l[k].g) := hat 0 _ rfl
          have HBAD := Lib.hid (HC4.out l[k] (List.getElem_mem hlt))
          have HNX := Lib.hid (fun (h : l[k].g < n) => mem_take_snoc (q := fun x => x.g < n) hlt HT.out h)
          clear hat
          generalize l[k].g = xg at *
          by_cases hx : n ≤ xg
          · have hc1 := HBAD.out hx
            subst hc1
            clear HNX
            go_wp2
            go_ret
            exact ⟨rfl, HB.out⟩
          · have HN := Lib.hid (HNX.out (by omega))
            clear HNX
            go_wp2
            go_roundw
            case rel => exact ⟨k + 1, by omega, by go_num, HB, HN⟩
            case measure => simp [intOf]; omega
        · obtain rfl : k = l.length := by omega
          rw [List.take_length] at HT
          have HC6 := Lib.hid (HC5.out HT.out)
          clear HT HC4 HC5
          go_wp2_with fail
          refine (HSO.out _ HB.out).mono ?_
          rintro e w2 ⟨x, S, rfl, hrv, hperm, hpw, hb⟩
          have HB2 := Lib.hid (pure_trans HB.out hb)
          have HTW := Lib.hid (refTwice_any S x w2 (tEnts.mono _ _ _ _ (Mem.on_le _ _) hrv) (by rw [hperm.length_eq]; omega))
          have HC7 := Lib.hid (HC6.out S hperm hpw)
          clear hb hrv hperm hpw HC6
          go_wp2_with fail
          refine HTW.out.mono ?_
          rintro e w3 ⟨bb, rfl, hbb, hb⟩
          have HB3 := Lib.hid (pure_trans HB2.out hb)
          have hcv := HC7.out bb hbb
          clear hb hbb HC7
          cases bb with
          | true =>
            rw [if_pos rfl] at hcv
            subst hcv
            go_wp2
            go_ret
            exact ⟨rfl, HB3.out⟩
          | false =>
            rw [if_neg (by decide)] at hcv
            subst hcv
            go_wp2
            go_ret
            exact ⟨rfl, HB3.out⟩
set_option maxRecDepth 100000 in
set_option maxHeartbeats 8000000 in
theorem refRestore_any (n : Int) (l : List Ent) (v : Value) (w : World) (hv : tEnts.rv (mem w) [v] l) (h8 : l.length ≤ 4000) :
    Calls Tryz.prog 21 #[.int .i64 n, v] w fun e w' => Below w.heap.size w w' ∧ ((restAns n l ≠ 0 ∧ e = .returned (.tuple #[.agg #[.int .i64 0, .int .i64 0, .slice none 0 0, .slice none 0 0], .int .i64 (restAns n l)])) ∨
      (restAns n l = 0 ∧ ∃ x S, e = .returned (.tuple #[.agg #[.int .i64 n, .int .i64 1, x, .slice none 0 0], .int .i64 0]) ∧ tEnts.rv ((mem w').on (w.heap.size ≤ ·)) [x] S ∧ S.Perm l ∧ Asc S)) := by
  have HR := Lib.hid (fun wr (hb : Below w.heap.size w wr) => refRight_any n l v wr (tEnts.mono _ _ _ _ (below_mem hb) hv) h8)
  have HSO := Lib.hid (fun wr (hb : Below w.heap.size w wr) => sortEnts_any l v wr (tEnts.mono _ _ _ _ (below_mem hb) hv) (by omega))
  have HASC := Lib.hid (fun (h : restAns n l = 0) (S : List Ent) (hs : S.Perm l) (hp : S.Pairwise (fun a b => entC a b ≤ 0)) => (show Asc S from asc_of hp (fun hb => (beside_dup hs hp).1 hb (restAns_ok h).2.2)))
  have HB0 := Lib.hid (fun o => (show Below w.heap.size w (w.alloc o) from (Below.refl _ _).alloc (Nat.le_refl _) o))
  have HBK := Lib.hid (heap_alloc_new w (.cells #[.int .i64 0, .int .i64 0, .slice none 0 0, .slice none 0 0] 43))
  generalize restAns n l = c at *
  go_enter Tryz.func21, Tryz.ntmps21
  go_wp2_with fail
  generalize hX : w.alloc (.cells #[.int .i64 0, .int .i64 0, .slice none 0 0, .slice none 0 0] 43) = X at *
  have HBX := Lib.hid (show Below w.heap.size w X from hX ▸ HB0.out _)
  clear HB0 hX
  refine (HR.out _ HBX.out).mono ?_
  rintro e w1 ⟨rfl, hb⟩
  have HB1 := Lib.hid (pure_trans HBX.out hb)
  have HBK1 := Lib.hid ((hb.block _ (Array.getElem?_eq_some_iff.1 HBK.out).1).trans HBK.out)
  clear hb HBK HR
  by_cases hc : c = 0
  case neg =>
    have hcb : (c == 0) = false := by simp [hc]
    have HCN := Lib.hid hc
    clear hc
    have c0 : w1.cell? ⟨w.heap.size, 0, none⟩ = some (.int .i64 0) := mem_cells HBK1.out 0
    have c1 : w1.cell? ⟨w.heap.size, 1, none⟩ = some (.int .i64 0) := mem_cells HBK1.out 1
    have c2 : w1.cell? ⟨w.heap.size, 2, none⟩ = some (.slice none 0 0) := mem_cells HBK1.out 2
    have c3 : w1.cell? ⟨w.heap.size, 3, none⟩ = some (.slice none 0 0) := mem_cells HBK1.out 3
    have z0 := frozen_cells HBK1.out 0
    have z1 := frozen_cells HBK1.out 1
    have z2 := frozen_cells HBK1.out 2
    have z3 := frozen_cells HBK1.out 3
    have HY := Lib.hid (store4_below HB1.out (Nat.le_refl _) (.int .i64 0) (.int .i64 0) (.slice none 0 0) (.slice none 0 0))
    have HYB := Lib.hid (store4_block HBK1.out (.int .i64 0) (.int .i64 0) (.slice none 0 0) (.slice none 0 0))
    unfold store4 at HY HYB
    go_wp2
    generalize ((((w1.setCell ⟨w.heap.size, 0, none⟩ (.int .i64 0)).setCell ⟨w.heap.size, 1, none⟩ (.int .i64 0)).setCell ⟨w.heap.size, 2, none⟩ (.slice none 0 0)).setCell ⟨w.heap.size, 3, none⟩ (.slice none 0 0)) = Y at *
    have g0 : Y.heap[w.heap.size]? = some (.cells #[.int .i64 0, .int .i64 0, .slice none 0 0, .slice none 0 0] 43 (0, 0)) := HYB.out
    have e0 : Y.cell? ⟨w.heap.size, 0, none⟩ = some (.int .i64 0) := mem_cells g0 0
    have e1 : Y.cell? ⟨w.heap.size, 1, none⟩ = some (.int .i64 0) := mem_cells g0 1
    have e2 : Y.cell? ⟨w.heap.size, 2, none⟩ = some (.slice none 0 0) := mem_cells g0 2
    have e3 : Y.cell? ⟨w.heap.size, 3, none⟩ = some (.slice none 0 0) := mem_cells g0 3
    exact bodyPost_ret (v := .tuple #[.agg #[.int .i64 0, .int .i64 0, .slice none 0 0, .slice none 0 0], .int .i64 c]) (by simp [results, Tryz.results21, go_sem, e0, e1, e2, e3]) rfl ⟨HY.out, .inl ⟨HCN.out, rfl⟩⟩
  subst hc
  have HAS := Lib.hid (HASC.out rfl)
  clear HASC
  go_wp2_with fail
  refine (HSO.out _ HB1.out).mono ?_
  rintro e w2 ⟨x, S, rfl, hrv, hperm, hpw, hb⟩
  obtain ⟨ax, cx, rfl, -, -, -⟩ := slice_form hrv
  have HRV := Lib.hid hrv
  have HPM := Lib.hid hperm
  have HA := Lib.hid (HAS.out S hperm hpw)
  have hs1 := HB1.out.size
  have HLT := Lib.hid (show w.heap.size < w1.heap.size from (Array.getElem?_eq_some_iff.1 HBK1.out).1)
  have HBK2 := Lib.hid ((hb.block _ (Array.getElem?_eq_some_iff.1 HBK1.out).1).trans HBK1.out)
  have HB2 := Lib.hid (pure_trans HB1.out hb)
  clear hb hrv hperm hpw HAS HSO HBK1 HB1
  have HB1 := HB2
  have HBK1 := HBK2
  clear HB2 HBK2
  have c0 : w2.cell? ⟨w.heap.size, 0, none⟩ = some (.int .i64 0) := mem_cells HBK1.out 0
  have c1 : w2.cell? ⟨w.heap.size, 1, none⟩ = some (.int .i64 0) := mem_cells HBK1.out 1
  have c2 : w2.cell? ⟨w.heap.size, 2, none⟩ = some (.slice none 0 0) := mem_cells HBK1.out 2
  have c3 : w2.cell? ⟨w.heap.size, 3, none⟩ = some (.slice none 0 0) := mem_cells HBK1.out 3
  have z0 := frozen_cells HBK1.out 0
  have z1 := frozen_cells HBK1.out 1
  have z2 := frozen_cells HBK1.out 2
  have z3 := frozen_cells HBK1.out 3
  have HY := Lib.hid (store4_below HB1.out (Nat.le_refl _) (.int .i64 n) (.int .i64 1) (.slice ax S.length cx) (.slice none 0 0))
  have HM := Lib.hid (show tEnts.rv ((mem (store4 w2 w.heap.size (.int .i64 n) (.int .i64 1) (.slice ax S.length cx) (.slice none 0 0))).on (w.heap.size ≤ ·)) [(.slice ax S.length cx)] S from tEnts.mono _ _ _ _ (fun b o u e => by
      obtain ⟨e2, e1⟩ := Mem.of_on e
      exact Mem.on_some ((mem_of_block (store4_other (w := w2) (b := w.heap.size) (k := b) (by have := HLT.out; omega) (.int .i64 n) (.int .i64 1) (.slice ax S.length cx) (.slice none 0 0)) o).trans e1) (by omega)) HRV.out)
  have HYB := Lib.hid (store4_block HBK1.out (.int .i64 n) (.int .i64 1) (.slice ax S.length cx) (.slice none 0 0))
  unfold store4 at HY HYB HM
  go_wp2
  generalize ((((w2.setCell ⟨w.heap.size, 0, none⟩ (.int .i64 n)).setCell ⟨w.heap.size, 1, none⟩ (.int .i64 1)).setCell ⟨w.heap.size, 2, none⟩ (.slice ax S.length cx)).setCell ⟨w.heap.size, 3, none⟩ (.slice none 0 0)) = Y at *
  have g0 : Y.heap[w.heap.size]? = some (.cells #[.int .i64 n, .int .i64 1, (.slice ax S.length cx), .slice none 0 0] 43 (0, 0)) := HYB.out
  have e0 : Y.cell? ⟨w.heap.size, 0, none⟩ = some (.int .i64 n) := mem_cells g0 0
  have e1 : Y.cell? ⟨w.heap.size, 1, none⟩ = some (.int .i64 1) := mem_cells g0 1
  have e2 : Y.cell? ⟨w.heap.size, 2, none⟩ = some (.slice ax S.length cx) := mem_cells g0 2
  have e3 : Y.cell? ⟨w.heap.size, 3, none⟩ = some (.slice none 0 0) := mem_cells g0 3
  exact bodyPost_ret (v := .tuple #[.agg #[.int .i64 n, .int .i64 1, (.slice ax S.length cx), .slice none 0 0], .int .i64 0]) (by simp [results, Tryz.results21, go_sem, e0, e1, e2, e3]) rfl ⟨HY.out, _, rfl, S, HM.out, HPM.out, HA.out⟩
end Go.Proofs.YtbmpoecmjmmngaaGreat
/- Differences: plain; a look into a map of places. -/
namespace Go.Proofs.YtbmpoecmjmmngaaGreat
open Go.RowKit Go.Maps

theorem LMap.lookOk {W : World} {b n : Nat} {f : Place → Option ByteArray} (h : LMap W b n f) {x : Place} (hx : okPlace x) : (Instr.lookup 60 (.map (some b)) (.agg #[.int .i64 x.1, .string x.2.1, .string x.2.2]) true).run Tryz.prog W = .ok (.tuple #[.string (strOr (f x)), .bool (f x).isSome]) W := by
  obtain ⟨v, h1, h2, h3⟩ := MapOf.lookOk h keyP Tryz.underlying60 (zeroStr W) (keyOf_place hx)
  rw [show (Value.agg #[.int .i64 x.1, .string x.2.1, .string x.2.2]) = placeV x from rfl, h1]
  cases hf : f x with
  | none => rw [h2 hf]; rfl
  | some a => rw [show v = .string a from (h3 a hf).1]; rfl
open Classical in
/-- An entry that a list has not. -/
noncomputable def newIn (l : List Ent) (x : Ent) : Bool := decide (x ∉ l)
open Classical in
/-- An entry whose place a list has not. -/
noncomputable def goneIn (l : List Ent) (x : Ent) : Bool := decide (x.pl ∉ l.map Ent.pl)
open Classical in
theorem newIn_map {l : List Ent} (hn : (l.map Ent.pl).Nodup) (x : Ent) : newIn l x = !((placesF l x.pl).isSome && (strOr (placesF l x.pl)).toList == x.val.toList) := by
  unfold newIn
  by_cases h : x ∈ l
  · rw [decide_eq_false (fun e => e h), placesF_mem hn h]; simp [strOr]
  · rw [decide_eq_true h]
    cases hf : placesF l x.pl with
    | none => simp
    | some s =>
      have : (s.toList == x.val.toList) = false := by
        rw [beq_eq_false_iff_ne]
        intro e
        exact h ((placesF_iff hn x).1 (by rw [hf, toList_inj e]))
      simp [strOr, this]
open Classical in
theorem goneIn_map (l : List Ent) (x : Ent) : goneIn l x = !(placesF l x.pl).isSome := by
  unfold goneIn
  have := placesF_some l x.pl
  cases hf : (placesF l x.pl).isSome
  · rw [hf] at this; simp [this]
  · rw [hf] at this; simp only [this]; simp
/-- Two lists, both ascending by entC, of the same members: one. -/
theorem sorted_same {a b : List Ent} (hp : a.Perm b) (ha : a.Pairwise (fun x y => entC x y ≤ 0)) (hb : Asc b) : a = b := by
  have hnd : (a.map Ent.pl).Nodup := (hp.map _).nodup_iff.2 (asc_nodup hb)
  exact (asc_of ha (fun h => beside_not h hnd)).one hb (fun x => hp.mem_iff)
theorem filter_perm {a b : List Ent} (hp : a.Perm b) (p : Ent → Bool) : (a.filter p).Perm (b.filter p) := hp.filter p
end Go.Proofs.YtbmpoecmjmmngaaGreat
/- package heap: Differences, walked. -/
namespace Go.Proofs.YtbmpoecmjmmngaaGreat
open Go.RowKit Go.Maps

theorem rv_block {m m' : Mem} {v : Value} {xs : List Ent} (h : tEnts.rv m [v] xs) (hb : ∀ b, v.ownBlock = some b → ∀ o u, m b o = some u → m' b o = some u) : tEnts.rv m' [v] xs := by
  obtain ⟨a, cap, e, h1, h2, h3⟩ := h
  simp only [List.cons.injEq, and_true] at e
  subst e
  refine ⟨a, cap, rfl, h1, h2, fun hne => ?_⟩
  obtain ⟨b, o, rfl, hk⟩ := h3 hne
  exact ⟨b, o, rfl, fun k hk' => let ⟨cs, hat, hrv⟩ := hk k hk'; ⟨cs, fun j u hj => hb b rfl _ _ (hat j u hj), hrv⟩⟩
open Classical in
noncomputable def diffAns (a b : List Ent) : Int := if a.all validE = false ∨ b.all validE = false then 1 else if (a.map Ent.pl).Nodup ∧ (b.map Ent.pl).Nodup then 0 else 6
set_option maxRecDepth 100000 in
set_option maxHeartbeats 8000000 in
theorem diff_any (la lb : List Ent) (va vb : Value) (w : World) (ha : tEnts.rv (mem w) [va] la) (hb : tEnts.rv (mem w) [vb] lb) (hla : la.length ≤ 60) (hlb : lb.length ≤ 60) :
    Calls Tryz.prog 8 #[va, vb] w fun e w' => Below w.heap.size w w' ∧ ((diffAns la lb ≠ 0 ∧ e = .returned (.tuple #[.slice none 0 0, .slice none 0 0, .int .i64 (diffAns la lb)])) ∨
      (diffAns la lb = 0 ∧ ∃ vp vg P G, e = .returned (.tuple #[vp, vg, .int .i64 0]) ∧ tEnts.rv ((mem w').on (w.heap.size ≤ ·)) [vp] P ∧ tEnts.rv ((mem w').on (w.heap.size ≤ ·)) [vg] G ∧
        P.Perm (lb.filter (newIn la)) ∧ P.Pairwise (fun a b => entC a b ≤ 0) ∧ G.Perm (la.filter (goneIn lb)) ∧ G.Pairwise (fun a b => entC a b ≤ 0))) := by
  obtain ⟨aa, ca, rfl, hl1, hm1, -⟩ := slice_form ha
  obtain ⟨ab, cb, rfl, hl2, hm2, -⟩ := slice_form hb
  have hca : ca ≤ 9223372036854775807 := by unfold maxLen at hm1; exact hm1
  have hcb : cb ≤ 9223372036854775807 := by unfold maxLen at hm2; exact hm2
  have HVA := Lib.hid (fun wr (h : Below w.heap.size w wr) => (show tEnts.rv (mem wr) [.slice aa la.length ca] la from tEnts.mono _ _ _ _ (below_mem h) ha))
  have HVB := Lib.hid (fun wr (h : Below w.heap.size w wr) => (show tEnts.rv (mem wr) [.slice ab lb.length cb] lb from tEnts.mono _ _ _ _ (below_mem h) hb))
  have HD := Lib.hid (show diffAns la lb = if la.all validE = false ∨ lb.all validE = false then 1 else if (la.map Ent.pl).Nodup ∧ (lb.map Ent.pl).Nodup then 0 else 6 from rfl)
  generalize diffAns la lb = D at *
  clear ha hb hm1 hm2
  go_enter Tryz.func8, Tryz.ntmps8
  go_wp2_with fail
  refine (valid_any la _ w (HVA.out _ (Below.refl _ _)) (by omega)).mono ?_
  rintro e w1 ⟨rfl, hb⟩
  have HB1 := Lib.hid hb
  clear hb
  cases h1 : la.all validE
  case false =>
    have HR := Lib.hid (show D = 1 by rw [HD.out, if_pos (.inl h1)])
    clear HD
    go_wp2
    exact bodyPost_ret (v := .tuple #[.slice none 0 0, .slice none 0 0, .int .i64 1]) (by simp [results, Tryz.results8, go_sem]) rfl ⟨HB1.out, .inl ⟨by rw [HR.out]; decide, by rw [HR.out]⟩⟩
  go_wp2_with fail
  refine (valid_any lb _ _ (HVB.out _ HB1.out) (by omega)).mono ?_
  rintro e w2 ⟨rfl, hb⟩
  have HB2 := Lib.hid (pure_trans HB1.out hb)
  clear hb HB1
  cases h2 : lb.all validE
  case false =>
    have HR := Lib.hid (show D = 1 by rw [HD.out, if_pos (.inr h2)])
    clear HD
    go_wp2
    exact bodyPost_ret (v := .tuple #[.slice none 0 0, .slice none 0 0, .int .i64 1]) (by simp [results, Tryz.results8, go_sem]) rfl ⟨HB2.out, .inl ⟨by rw [HR.out]; decide, by rw [HR.out]⟩⟩
  have HD2 := Lib.hid (show D = if (la.map Ent.pl).Nodup ∧ (lb.map Ent.pl).Nodup then 0 else 6 by rw [HD.out, if_neg (by simp [h1, h2])])
  clear HD h1 h2
  go_wp2_with fail
  refine (placed_any la _ _ (HVA.out _ HB2.out) (by omega)).mono ?_
  rintro e w3 ⟨b3, rfl, hL3, hb, hn3⟩
  have HB3 := Lib.hid (pure_trans HB2.out hb)
  have HL3 := Lib.hid hL3
  have HS2 := Lib.hid HB2.out.size
  clear hb HB2 hL3
  go_wp2_with fail
  refine (placed_any lb _ _ (HVB.out _ HB3.out) (by omega)).mono ?_
  rintro e w4 ⟨b4, rfl, hL4, hb, hn4⟩
  have HB4 := Lib.hid (pure_trans HB3.out hb)
  have HL4 := Lib.hid hL4
  have HL34 := Lib.hid (HL3.out.below hb)
  have HS3 := Lib.hid HB3.out.size
  clear hb HB3 HL3 hL4
  cases b3
  case false =>
    have HR := Lib.hid (show D = 6 by rw [HD2.out, if_neg (fun h => by have := hn3.2 h.1; cases this)])
    clear HD2 hn3 hn4
    go_wp2
    exact bodyPost_ret (v := .tuple #[.slice none 0 0, .slice none 0 0, .int .i64 6]) (by simp [results, Tryz.results8, go_sem]) rfl ⟨HB4.out, .inl ⟨by rw [HR.out]; decide, by rw [HR.out]⟩⟩
  cases b4
  case false =>
    have HR := Lib.hid (show D = 6 by rw [HD2.out, if_neg (fun h => by have := hn4.2 h.2; cases this)])
    clear HD2 hn3 hn4
    go_wp2
    exact bodyPost_ret (v := .tuple #[.slice none 0 0, .slice none 0 0, .int .i64 6]) (by simp [results, Tryz.results8, go_sem]) rfl ⟨HB4.out, .inl ⟨by rw [HR.out]; decide, by rw [HR.out]⟩⟩
  have HN3 := Lib.hid (hn3.1 rfl)
  have HN4 := Lib.hid (hn4.1 rfl)
  have hD : D = 0 := by rw [HD2.out, if_pos ⟨HN3.out, HN4.out⟩]
  subst hD
  clear HD2 hn3 hn4
  have HPN := Lib.hid (fun x => newIn_map HN3.out x)
  have HPG := Lib.hid (fun x => goneIn_map lb x)
  have HBN := Lib.hid (fun (wr : World) (h : Below w4.heap.size w4 wr) => (show Below w.heap.size w wr from pure_trans HB4.out h))
  generalize hPN : newIn la = PN at *
  generalize hPG : goneIn lb = PG at *
  have HE1 := Lib.hid hPN
  have HE2 := Lib.hid hPG
  clear hPN hPG
  generalize w2.heap.size = m3 at *
  generalize w3.heap.size = m4 at *
  go_wp2_with fail
  go_loopw [4, 45] (fun ov i wr => ∃ k : Nat, k ≤ lb.length ∧ i = .int .i64 k ∧ Hid (Owns tEnt wr w4.heap.size 34 ov ((lb.take k).filter PN)) ∧ Hid (Below w4.heap.size w4 wr)) (fun _ i _ => lb.length - (intOf i).toNat)
  case atStart => exact ⟨0, by omega, rfl, Lib.hid (Owns.nil _ _ _ _), Lib.hid (Below.refl _ _)⟩
  case round =>
    obtain ⟨k, hk, rfl, HO, HBR⟩ := hrel
    by_cases hlt : k < lb.length
    · have HSZ := Lib.hid HBR.out.size
      obtain ⟨b, o, rfl, hat, hok⟩ := ents_at (HVB.out _ (HBN.out _ HBR.out)) hlt
      have d0 : wr.cell? ⟨b, o + k * 4, none⟩ = some (.int .i64 lb[k].g) := hat 0 _ rfl
      have d1 : wr.cell? ⟨b, o + k * 4 + 1, none⟩ = some (.string lb[k].nm) := hat 1 _ rfl
      have d2 : wr.cell? ⟨b, o + k * 4 + 2, none⟩ = some (.string lb[k].key) := hat 2 _ rfl
      have d3 : wr.cell? ⟨b, o + k * 4 + 3, none⟩ = some (.string lb[k].val) := hat 3 _ rfl
      have HYO := Lib.hid hok
      have HLL := Lib.hid (show ((lb.take k).filter PN).length ≤ 60 from Nat.le_trans (List.length_filter_le _ _) (by rw [List.length_take]; omega))
      have HYES := Lib.hid (fun (e : PN lb[k] = true) => filter_yes (P := PN) hlt e)
      have HNO := Lib.hid (fun (e : PN lb[k] = false) => filter_no (P := PN) hlt e)
      have HPY := Lib.hid (HPN.out lb[k])
      have HLK := Lib.hid (fun (o : Obj) => LMap.lookOk ((HL34.out.below HBR.out).alloc o) hok.place)
      clear hat hok
      generalize (lb.take k).filter PN = l at *
      generalize lb[k] = y at *
      obtain ⟨yg, y1, y2, y3⟩ := y
      simp only at d0 d1 d2 d3
      obtain ⟨al, cl, hvl, _⟩ := HO.out.len
      subst hvl
      have HBX := Lib.hid (HBR.out.alloc HBR.out.size (.cells #[.int .i64 yg, .string y1, .string y2, .string y3] 34))
      have HOX := Lib.hid (HO.out.alloc (.cells #[.int .i64 yg, .string y1, .string y2, .string y3] 34))
      have hlk := HLK.out (.cells #[.int .i64 yg, .string y1, .string y2, .string y3] 34)
      have HNR := Lib.hid (fun (e : PN ⟨yg, y1, y2, y3⟩ = false) => (show Owns tEnt (wr.alloc (.cells #[.int .i64 yg, .string y1, .string y2, .string y3] 34)) w4.heap.size 34 (.slice al l.length cl) ((lb.take (k + 1)).filter PN) by rw [HNO.out e]; exact HOX.out))
      simp only [Ent.pl] at hlk HPY
      clear HLK HNO
      generalize placesF la (yg, y1, y2) = ov at *
      cases ov with
      | none =>
        simp only [strOr, Option.isSome] at hlk
        have HNX := Lib.hid (HYES.out (by rw [HPY.out]; rfl))
        clear HYES HPY HNR
        go_wp2_with (at_builtin; refine wpList_append_one rfl _ _ 22 rfl tEnt Tryz.underlying22 infoEnt rfl (by decide) w4.heap.size _ l rfl (HOX.out.alloc _) _ _ ⟨yg, y1, y2, y3⟩ rfl [.int .i64 yg, .string y1, .string y2, .string y3] ?a2 ⟨rfl, HYO.out⟩ ?b2 ?c2 ?d2 ?e2 ?_)
        case a2 => exact fun j u hj => by match j, hj with | 0, hj => simp at hj; subst hj; simp [mem] | 1, hj => simp at hj; subst hj; simp [mem] | 2, hj => simp at hj; subst hj; simp [mem] | 3, hj => simp at hj; subst hj; simp [mem]
        case b2 => intro x hx; simp at hx; rcases hx with rfl | rfl | rfl | rfl <;> rfl
        case c2 => have := HLL.out; unfold maxLen; omega
        case d2 => have := HLL.out; omega
        case e2 => have := HSZ.out; simp; omega
        · intro v' w6 own6 hgrow _
          have HB6 := Lib.hid (show Below w4.heap.size w4 w6 from (HBX.out.alloc HBX.out.size _).grown hgrow (by have := HSZ.out; simp; omega) (fun k hk => ((HO.out).lt k hk).1))
          obtain ⟨a6, cap6, rfl, _⟩ := own6.len
          have HO6 := Lib.hid (show Owns tEnt w6 w4.heap.size 34 (.slice a6 (l ++ [(⟨yg, y1, y2, y3⟩ : Ent)]).length cap6) ((lb.take (k + 1)).filter PN) by
            rw [← HNX.out]
            exact own6)
          clear own6 hgrow HO
          go_wp2
          go_roundw
          case rel => exact ⟨k + 1, by omega, by go_num, HO6, HB6⟩
          case measure => simp [intOf]; omega
      | some s =>
        simp only [strOr, Option.isSome] at hlk
        cases h3 : (s.toList == y3.toList)
        case true =>
          have HNX := Lib.hid (HNR.out (by rw [HPY.out]; simp only [Option.isSome, strOr, Bool.true_and, h3]; rfl))
          clear HYES HPY HNR
          go_wp2
          go_roundw
          case rel => exact ⟨k + 1, by omega, by go_num, HNX, HBX⟩
          case measure => simp [intOf]; omega
        case false =>
          have HNX := Lib.hid (HYES.out (by rw [HPY.out]; simp only [Option.isSome, strOr, Bool.true_and, h3]; rfl))
          clear HYES HPY HNR
          go_wp2_with (at_builtin; refine wpList_append_one rfl _ _ 22 rfl tEnt Tryz.underlying22 infoEnt rfl (by decide) w4.heap.size _ l rfl (HOX.out.alloc _) _ _ ⟨yg, y1, y2, y3⟩ rfl [.int .i64 yg, .string y1, .string y2, .string y3] ?a2 ⟨rfl, HYO.out⟩ ?b2 ?c2 ?d2 ?e2 ?_)
          case a2 => exact fun j u hj => by match j, hj with | 0, hj => simp at hj; subst hj; simp [mem] | 1, hj => simp at hj; subst hj; simp [mem] | 2, hj => simp at hj; subst hj; simp [mem] | 3, hj => simp at hj; subst hj; simp [mem]
          case b2 => intro x hx; simp at hx; rcases hx with rfl | rfl | rfl | rfl <;> rfl
          case c2 => have := HLL.out; unfold maxLen; omega
          case d2 => have := HLL.out; omega
          case e2 => have := HSZ.out; simp; omega
          · intro v' w6 own6 hgrow _
            have HB6 := Lib.hid (show Below w4.heap.size w4 w6 from (HBX.out.alloc HBX.out.size _).grown hgrow (by have := HSZ.out; simp; omega) (fun k hk => ((HO.out).lt k hk).1))
            obtain ⟨a6, cap6, rfl, _⟩ := own6.len
            have HO6 := Lib.hid (show Owns tEnt w6 w4.heap.size 34 (.slice a6 (l ++ [(⟨yg, y1, y2, y3⟩ : Ent)]).length cap6) ((lb.take (k + 1)).filter PN) by
              rw [← HNX.out]
              exact own6)
            clear own6 hgrow HO
            go_wp2
            go_roundw
            case rel => exact ⟨k + 1, by omega, by go_num, HO6, HB6⟩
            case measure => simp [intOf]; omega
    · obtain rfl : k = lb.length := by omega
      rw [List.take_length] at HO
      rename World => w5
      have HP5 := HO
      obtain ⟨ap, cp, hvp, _⟩ := HO.out.len
      subst hvp
      have HL4 := Lib.hid (HL4.out.below HBR.out)
      have HBN := Lib.hid (fun (wr : World) (h : Below w5.heap.size w5 wr) => (show Below w.heap.size w wr from pure_trans (HBN.out _ HBR.out) h))
      have HB5 := Lib.hid (HBN.out _ (Below.refl _ _))
      have HB4' := Lib.hid HB4.out.size
      clear HO HL34 HBR HB4 hk hlt
      go_wp2_with fail
      go_loopw [5, 76] (fun ov i wr => ∃ k : Nat, k ≤ la.length ∧ i = .int .i64 k ∧ Hid (Owns tEnt wr w5.heap.size 34 ov ((la.take k).filter PG)) ∧ Hid (Below w5.heap.size w5 wr)) (fun _ i _ => la.length - (intOf i).toNat)
      case atStart => exact ⟨0, by omega, rfl, Lib.hid (Owns.nil _ _ _ _), Lib.hid (Below.refl _ _)⟩
      case round =>
        obtain ⟨k, hk, rfl, HO, HBR⟩ := hrel
        by_cases hlt : k < la.length
        · have HSZ := Lib.hid HBR.out.size
          obtain ⟨b, o, rfl, hat, hok⟩ := ents_at (HVA.out _ (HBN.out _ HBR.out)) hlt
          have d0 : wr.cell? ⟨b, o + k * 4, none⟩ = some (.int .i64 la[k].g) := hat 0 _ rfl
          have d1 : wr.cell? ⟨b, o + k * 4 + 1, none⟩ = some (.string la[k].nm) := hat 1 _ rfl
          have d2 : wr.cell? ⟨b, o + k * 4 + 2, none⟩ = some (.string la[k].key) := hat 2 _ rfl
          have d3 : wr.cell? ⟨b, o + k * 4 + 3, none⟩ = some (.string la[k].val) := hat 3 _ rfl
          have HYO := Lib.hid hok
          have HLL := Lib.hid (show ((la.take k).filter PG).length ≤ 60 from Nat.le_trans (List.length_filter_le _ _) (by rw [List.length_take]; omega))
          have HYES := Lib.hid (fun (e : PG la[k] = true) => filter_yes (P := PG) hlt e)
          have HNO := Lib.hid (fun (e : PG la[k] = false) => filter_no (P := PG) hlt e)
          have HPY := Lib.hid (HPG.out la[k])
          have HLK := Lib.hid (fun (o : Obj) => LMap.lookOk ((HL4.out.below HBR.out).alloc o) hok.place)
          clear hat hok
          generalize (la.take k).filter PG = l at *
          generalize la[k] = y at *
          obtain ⟨yg, y1, y2, y3⟩ := y
          simp only at d0 d1 d2 d3
          obtain ⟨al, cl, hvl, _⟩ := HO.out.len
          subst hvl
          have HBX := Lib.hid (HBR.out.alloc HBR.out.size (.cells #[.int .i64 yg, .string y1, .string y2, .string y3] 34))
          have HOX := Lib.hid (HO.out.alloc (.cells #[.int .i64 yg, .string y1, .string y2, .string y3] 34))
          have hlk := HLK.out (.cells #[.int .i64 yg, .string y1, .string y2, .string y3] 34)
          have HNR := Lib.hid (fun (e : PG ⟨yg, y1, y2, y3⟩ = false) => (show Owns tEnt (wr.alloc (.cells #[.int .i64 yg, .string y1, .string y2, .string y3] 34)) w5.heap.size 34 (.slice al l.length cl) ((la.take (k + 1)).filter PG) by rw [HNO.out e]; exact HOX.out))
          simp only [Ent.pl] at hlk HPY
          clear HLK HNO
          generalize placesF lb (yg, y1, y2) = ov at *
          cases ov with
          | none =>
            simp only [strOr, Option.isSome] at hlk
            have HNX := Lib.hid (HYES.out (by rw [HPY.out]; rfl))
            clear HYES HPY HNR
            go_wp2_with (at_builtin; refine wpList_append_one rfl _ _ 22 rfl tEnt Tryz.underlying22 infoEnt rfl (by decide) w5.heap.size _ l rfl (HOX.out.alloc _) _ _ ⟨yg, y1, y2, y3⟩ rfl [.int .i64 yg, .string y1, .string y2, .string y3] ?a2 ⟨rfl, HYO.out⟩ ?b2 ?c2 ?d2 ?e2 ?_)
            case a2 => exact fun j u hj => by match j, hj with | 0, hj => simp at hj; subst hj; simp [mem] | 1, hj => simp at hj; subst hj; simp [mem] | 2, hj => simp at hj; subst hj; simp [mem] | 3, hj => simp at hj; subst hj; simp [mem]
            case b2 => intro x hx; simp at hx; rcases hx with rfl | rfl | rfl | rfl <;> rfl
            case c2 => have := HLL.out; unfold maxLen; omega
            case d2 => have := HLL.out; omega
            case e2 => have := HSZ.out; simp; omega
            · intro v' w6 own6 hgrow _
              have HB6 := Lib.hid (show Below w5.heap.size w5 w6 from (HBX.out.alloc HBX.out.size _).grown hgrow (by have := HSZ.out; simp; omega) (fun k hk => ((HO.out).lt k hk).1))
              obtain ⟨a6, cap6, rfl, _⟩ := own6.len
              have HO6 := Lib.hid (show Owns tEnt w6 w5.heap.size 34 (.slice a6 (l ++ [(⟨yg, y1, y2, y3⟩ : Ent)]).length cap6) ((la.take (k + 1)).filter PG) by
                rw [← HNX.out]
                exact own6)
              clear own6 hgrow HO
              go_wp2
              go_roundw
              case rel => exact ⟨k + 1, by omega, by go_num, HO6, HB6⟩
              case measure => simp [intOf]; omega
          | some s =>
            simp only [strOr, Option.isSome] at hlk
            have HNX := Lib.hid (HNR.out (by rw [HPY.out]; rfl))
            clear HYES HPY HNR
            go_wp2
            go_roundw
            case rel => exact ⟨k + 1, by omega, by go_num, HNX, HBX⟩
            case measure => simp [intOf]; omega
        · obtain rfl : k = la.length := by omega
          rw [List.take_length] at HO
          rename World => w6
          obtain ⟨ag, cg, hvg, _⟩ := HO.out.len
          subst hvg
          have HP6 := Lib.hid (HP5.out.keeps HBR.out)
          have HB6 := Lib.hid (HBN.out _ HBR.out)
          have hpl : (lb.filter PN).length ≤ 60 := Nat.le_trans (List.length_filter_le _ _) hlb
          have hgl : (la.filter PG).length ≤ 60 := Nat.le_trans (List.length_filter_le _ _) hla
          have HSP := Lib.hid (sortE_any w4.heap.size _ _ w6 HP6.out (by omega))
          have HNE := Lib.hid (fun (k : Nat) (h1 : (Value.slice ag (la.filter PG).length cg).ownBlock = some k) (h2 : (Value.slice ap (lb.filter PN).length cp).ownBlock = some k) => (show False from Nat.lt_irrefl _ (Nat.lt_of_lt_of_le (HP5.out.lt k h2).2 (HO.out.lt k h1).1)))
          have HPW := Lib.hid (fun (k : Nat) (h2 : (Value.slice ap (lb.filter PN).length cp).ownBlock = some k) => (show w.heap.size ≤ k from Nat.le_trans (HB4'.out) (HP5.out.lt k h2).1))
          have HGW := Lib.hid (fun (k : Nat) (h2 : (Value.slice ag (la.filter PG).length cg).ownBlock = some k) => (show w.heap.size ≤ k from Nat.le_trans HB5.out.size (HO.out.lt k h2).1))
          clear HP5 HBR HBN hk hlt HL4
          go_wp2_with fail
          refine HSP.out.mono ?_
          rintro e w7 ⟨rfl, P, hperm, hpw, hrv, hk, -⟩
          have HPR := Lib.hid hrv
          have HPM := Lib.hid hperm
          have HPS := Lib.hid hpw
          have HG7 := Lib.hid (HO.out.keepsFlat tEnt_flat hk (fun k h1 h2 => HNE.out k h1 h2))
          have HSG := Lib.hid (sortE_any w5.heap.size _ _ w7 HG7.out (by omega))
          have HB7 := Lib.hid (Keeps.belowStep HB6.out hk (fun k h => HPW.out k h) HB6.out.size)
          clear hk hrv hperm hpw HSP HO HB6
          go_wp2_with fail
          refine HSG.out.mono ?_
          rintro e w8 ⟨rfl, G, hperm, hpw, hrv, hk, -⟩
          have HB8 := Lib.hid (Keeps.belowStep HB7.out hk (fun k h => HGW.out k h) HB7.out.size)
          have HF := Lib.hid (show tEnts.rv ((mem w8).on (w.heap.size ≤ ·)) [.slice ap (lb.filter PN).length cp] P from rv_block HPR.out (fun b hb o u hu => by
            obtain ⟨_, e1⟩ := Mem.of_on hu
            exact Mem.on_some ((mem_of_block (hk.block b (mem_lt e1) (fun h => HNE.out b h hb)) o).trans e1) (HPW.out b hb)))
          have HFG := Lib.hid (show tEnts.rv ((mem w8).on (w.heap.size ≤ ·)) [.slice ag (la.filter PG).length cg] G from rv_block hrv (fun b hb o u hu => Mem.on_some (Mem.of_on hu).2 (HGW.out b hb)))
          have HGM := Lib.hid hperm
          have HGS := Lib.hid hpw
          clear hk hrv hperm hpw HSG HPR HB7
          go_wp2
          exact bodyPost_ret (v := .tuple #[.slice ap (lb.filter PN).length cp, .slice ag (la.filter PG).length cg, .int .i64 0]) (by simp [results, Tryz.results8, go_sem]) rfl ⟨HB8.out, _, _, rfl, P, HF.out, G, HFG.out, by rw [HE1.out]; exact HPM.out, HPS.out, by rw [HE2.out]; exact HGM.out, HGS.out⟩
end Go.Proofs.YtbmpoecmjmmngaaGreat
/- The reference's Differences: plain. -/
namespace Go.Proofs.YtbmpoecmjmmngaaGreat
open Go.RowKit Go.Maps

open Classical in
theorem restAns_128 (l : List Ent) : restAns 128 l = if l.all validE = false then 1 else if (l.map Ent.pl).Nodup then 0 else 6 := by
  unfold restAns
  by_cases h : l.all validE = false
  · rw [if_pos h, if_pos h]
  · rw [if_neg h, if_neg h, if_neg (by omega), if_neg]
    intro h2
    obtain ⟨x, hx, h3⟩ := List.any_eq_true.1 h2
    have hv : l.all validE = true := by simpa using h
    have := List.all_eq_true.1 hv x hx
    unfold validE at this
    simp only [Bool.and_eq_true, decide_eq_true_eq] at this
    have := of_decide_eq_true h3
    omega
open Classical in
/-- The two answers of Restore, and Differences' answer. -/
theorem diffAns_rest (a b : List Ent) : diffAns a b = if restAns 128 a = 1 ∨ restAns 128 b = 1 then 1 else if restAns 128 a ≠ 0 ∨ restAns 128 b ≠ 0 then 6 else 0 := by
  unfold diffAns
  rw [restAns_128, restAns_128]
  cases h1 : a.all validE <;> cases h2 : b.all validE <;> by_cases h3 : (a.map Ent.pl).Nodup <;> by_cases h4 : (b.map Ent.pl).Nodup <;> simp [h3, h4]
theorem filter_asc {l : List Ent} (h : Asc l) (p : Ent → Bool) : Asc (l.filter p) := h.filter p
/-- Package heap's lists are the reference's. -/
theorem diff_same {S l P : List Ent} {p : Ent → Bool} (hs : S.Perm l) (ha : Asc S) (hp : P.Perm (l.filter p)) (hw : P.Pairwise (fun x y => entC x y ≤ 0)) : P = S.filter p :=
  sorted_same (hp.trans (hs.filter p).symm) hw (ha.filter p)
end Go.Proofs.YtbmpoecmjmmngaaGreat
/- HeapDiffers: deleting what is gone and putting what is new leads from one list to the other. -/
namespace Go.Proofs.YtbmpoecmjmmngaaGreat
open Go.RowKit Go.Maps

theorem valid_chk {x : Ent} (h : validE x = true) {ts : List ByteArray} (hts : ∀ t ∈ ts, big t = false) : chk 128 x.g x.nm ts = 0 := by
  unfold validE at h
  simp only [Bool.and_eq_true, Bool.not_eq_true', decide_eq_true_eq] at h
  have h2 : ts.any big = false := by
    rw [List.any_eq_false]
    intro t ht
    simp [hts t ht]
  unfold chk
  rw [if_pos ⟨h.2.1, h2⟩, if_pos (by omega)]
theorem valid_big {x : Ent} (h : validE x = true) : big x.key = false ∧ big x.val = false := by
  unfold validE at h
  simp only [Bool.and_eq_true, Bool.not_eq_true', decide_eq_true_eq] at h
  exact ⟨h.2.2.1, h.2.2.2⟩
/-- Behind some deletes. -/
structure Gone (S G E : List Ent) : Prop where
  asc : Asc E
  mem : ∀ y, y ∈ E ↔ y ∈ S ∧ y.pl ∉ G.map Ent.pl
  len : E.length ≤ S.length
theorem Gone.start {S : List Ent} (h : Asc S) : Gone S [] S := ⟨h, fun y => by simp, Nat.le_refl _⟩
theorem delL_le (l : List Ent) (hl : Asc l) (x : Ent) : (delL l x).length ≤ l.length := by
  by_cases h : x.pl ∈ l.map Ent.pl
  · have := (delL_len hl x).1 h; omega
  · have := (delL_len hl x).2 h; omega
theorem Gone.step {S G E : List Ent} {x : Ent} (h : Gone S G E) (hx : x ∈ S) (hn : x.pl ∉ G.map Ent.pl) (hv : validE x = true) : delR 128 E x.g x.nm x.key = (delL E x, 0) ∧ Gone S (G ++ [x]) (delL E x) := by
  have hin : x.pl ∈ E.map Ent.pl := List.mem_map_of_mem (f := Ent.pl) ((h.mem x).2 ⟨hx, hn⟩)
  have hl := (delL_len h.asc x).1 hin
  refine ⟨?_, delL_asc h.asc x, fun y => ?_, Nat.le_trans (delL_le _ h.asc x) h.len⟩
  · unfold delR
    rw [if_neg (by rw [valid_chk hv (by intro t ht; simp at ht; rcases ht with rfl | rfl; exact (valid_big hv).1; exact big_empty)]; simp)]
    rw [show delL E ⟨x.g, x.nm, x.key, .empty⟩ = delL E x from rfl, if_neg (by omega)]
  · rw [delL_mem, h.mem, List.map_append, List.mem_append]
    simp only [List.map_cons, List.map_nil, List.mem_singleton, not_or, ne_eq]
    exact and_assoc
/-- Behind some puts. -/
structure Puts (E0 P E : List Ent) : Prop where
  asc : Asc E
  mem : ∀ y, y ∈ E ↔ y ∈ P ∨ (y ∈ E0 ∧ y.pl ∉ P.map Ent.pl)
  len : E.length ≤ E0.length + P.length
theorem Puts.start {E : List Ent} (h : Asc E) : Puts E [] E := ⟨h, fun y => by simp, by simp⟩
theorem Puts.step {E0 P E : List Ent} {x : Ent} (h : Puts E0 P E) (hl : E0.length + P.length < 4000) (hn : x.pl ∉ P.map Ent.pl) (hv : validE x = true) : putR 128 E x = (putL E x, 0) ∧ Puts E0 (P ++ [x]) (putL E x) := by
  have hlen := delL_le E h.asc x
  have hle := h.len
  refine ⟨?_, putL_asc h.asc x, fun y => ?_, ?_⟩
  · unfold putR
    rw [if_neg (by rw [valid_chk hv (by intro t ht; simp at ht; rcases ht with rfl | rfl; exact (valid_big hv).1; exact (valid_big hv).2)]; simp), if_neg (by omega)]
  · rw [putL_mem, h.mem, List.map_append, List.mem_append, List.mem_append]
    simp only [List.map_cons, List.map_nil, List.mem_singleton, not_or]
    constructor
    · rintro (rfl | ⟨h1 | ⟨h1, h2⟩, h3⟩)
      · exact .inl (.inr rfl)
      · exact .inl (.inl h1)
      · exact .inr ⟨h1, h2, h3⟩
    · rintro ((h1 | rfl) | ⟨h1, h2, h3⟩)
      · refine .inr ⟨.inl h1, fun e => hn (e ▸ List.mem_map_of_mem (f := Ent.pl) h1)⟩
      · exact .inl rfl
      · exact .inr ⟨.inr ⟨h1, h2⟩, h3⟩
  · rw [putL_len, List.length_append]
    simp only [List.length_singleton]
    omega
open Classical in
theorem ends_b {la lb Sa Sb E0 E : List Ent} (hsa : Sa.Perm la) (hna : (la.map Ent.pl).Nodup) (hsb : Sb.Perm lb) (hb : Asc Sb) (h0 : Gone Sa (Sa.filter (goneIn lb)) E0) (h1 : Puts E0 (Sb.filter (newIn la)) E) : E = Sb := by
  have hpl : ∀ {x y : Ent}, x ∈ la → y ∈ la → x.pl = y.pl → x = y := fun hx hy e => by
    have h1 := (placesF_iff hna _).2 hx
    have h2 := (placesF_iff hna _).2 hy
    rw [e, h2] at h1
    exact ent_eq e (by injection h1 with h1; exact h1.symm)
  refine h1.asc.one hb (fun y => ?_)
  rw [h1.mem, h0.mem, List.mem_filter]
  have hnew : ∀ z, newIn la z = true ↔ z ∉ la := fun z => by unfold newIn; simp
  have hgon : ∀ z, goneIn lb z = true ↔ z.pl ∉ lb.map Ent.pl := fun z => by unfold goneIn; simp
  rw [hnew]
  constructor
  · rintro (⟨h, _⟩ | ⟨⟨h, hg⟩, hp⟩)
    · exact h
    · have hyl : y.pl ∈ lb.map Ent.pl := by
        apply Classical.byContradiction
        intro hc
        exact hg (List.mem_map_of_mem (f := Ent.pl) (List.mem_filter.2 ⟨h, (hgon y).2 hc⟩))
      obtain ⟨z, hz, e⟩ := List.mem_map.1 hyl
      have hzs := hsb.mem_iff.2 hz
      have hza : z ∈ la := by
        apply Classical.byContradiction
        intro hc
        exact hp (e ▸ List.mem_map_of_mem (f := Ent.pl) (List.mem_filter.2 ⟨hzs, (hnew z).2 hc⟩))
      rw [hpl (hsa.mem_iff.1 h) hza e.symm]
      exact hzs
  · intro h
    by_cases ha : y ∈ la
    · refine .inr ⟨⟨hsa.mem_iff.2 ha, fun hm => ?_⟩, fun hm => ?_⟩
      · obtain ⟨z, hz, e⟩ := List.mem_map.1 hm
        have := (hgon z).1 (List.mem_filter.1 hz).2
        exact this (e ▸ List.mem_map_of_mem (f := Ent.pl) (hsb.mem_iff.1 h))
      · obtain ⟨z, hz, e⟩ := List.mem_map.1 hm
        obtain ⟨hzs, hzn⟩ := List.mem_filter.1 hz
        have : z = y := hb.eq hzs h e
        exact (hnew z).1 hzn (this ▸ ha)
    · exact .inl ⟨h, ha⟩
/-- One delete of package heap. -/
theorem del_gone {base p : Nat} {h : HS} {S G E : List Ent} {x : Ent} (w : World) (hI : HeapInv w base p h) (hr : Rel h.view ⟨128, 1, E, []⟩) (hg : Gone S G E) (hx : x ∈ S) (hn : x.pl ∉ G.map Ent.pl) (hv : validE x = true) (hok : x.okE) :
    Calls Tryz.prog 12 #[.pointer (some ⟨p, 0, none⟩), .int .i64 x.g, .string x.nm, .string x.key] w fun e w' =>
      e = .returned (.int .i64 0) ∧ ∃ h' E', HeapInv w' base p h' ∧ Rel h'.view ⟨128, 1, E', []⟩ ∧ Gone S (G ++ [x]) E' ∧ h'.nn = h.nn ∧ Below base w w' := by
  have hlen : h.cur.length = 128 := by rw [view_len rfl]; exact hr.hN
  have hc := hr.cnt
  have hle := hr.le
  simp only at hc hle
  have hc : h.cnt = E.length := hc
  obtain ⟨h1, h2⟩ := hg.step hx hn hv
  have hd := hr.del (g := x.g) (nm := x.nm) (key := x.key) (F := grpF h x.g) (fun h0 h1 => by
    obtain ⟨i, hi⟩ := Int.eq_ofNat_of_zero_le h0
    rw [hi]
    exact grps_at h (i := i) (by
      have h1 : x.g < 128 := h1
      omega))
  simp only at hd
  rw [h1] at hd
  obtain ⟨d1, d2⟩ := hd
  refine (delete_any x.g x.nm x.key w hI hok.1 hok.2.1 hok.2.2.1 (by omega) (by omega)).mono ?_
  rintro e w' ⟨rfl, h', hs⟩
  have e0 : (getAns h.cur.length (grpF h x.g) x.g x.nm x.key).2 = 0 := by rw [hlen]; exact d1
  refine ⟨by rw [e0], h', delL E x, hs.st.inv, ?_, h2, hs.nn, hs.st.below hI⟩
  rw [hs.vw]
  unfold delPS
  rw [hlen]
  exact d2
/-- One put of package heap. -/
theorem put_new {base p : Nat} {h : HS} {E0 P E : List Ent} {x : Ent} (w : World) (hI : HeapInv w base p h) (hr : Rel h.view ⟨128, 1, E, []⟩) (hg : Puts E0 P E) (hl : E0.length + P.length < 4000) (hn : x.pl ∉ P.map Ent.pl) (hv : validE x = true) (hok : x.okE) (hnn : h.nn ≤ 1000000) :
    Calls Tryz.prog 13 #[.pointer (some ⟨p, 0, none⟩), .int .i64 x.g, .string x.nm, .string x.key, .string x.val] w fun e w' =>
      e = .returned (.int .i64 0) ∧ ∃ h' E', HeapInv w' base p h' ∧ Rel h'.view ⟨128, 1, E', []⟩ ∧ Puts E0 (P ++ [x]) E' ∧ h'.nn ≤ h.nn + 1 ∧ Below base w w' := by
  have hlen : h.cur.length = 128 := by rw [view_len rfl]; exact hr.hN
  have hc := hr.cnt
  have hle := hr.le
  simp only at hc hle
  have hc : h.cnt = E.length := hc
  obtain ⟨h1, h2⟩ := hg.step hl hn hv
  have hd := hr.put (g := x.g) (nm := x.nm) (key := x.key) (val := x.val) (F := grpF h x.g) (fun h0 h1 => by
    obtain ⟨i, hi⟩ := Int.eq_ofNat_of_zero_le h0
    rw [hi]
    exact grps_at h (i := i) (by
      have h1 : x.g < 128 := h1
      omega))
  simp only at hd
  rw [show (⟨x.g, x.nm, x.key, x.val⟩ : Ent) = x from rfl, h1] at hd
  obtain ⟨d1, d2⟩ := hd
  refine (put_any x.g x.nm x.key x.val w hI hok.1 hok.2.1 hok.2.2.1 hok.2.2.2 hnn (by omega) (by omega)).mono ?_
  rintro e w' ⟨rfl, h', hs⟩
  have e0 : putAns h.cur.length (grpF h x.g) h.cnt x.g x.nm x.key x.val = 0 := by rw [hlen]; exact d1
  refine ⟨by rw [e0], h', putL E x, hs.st.inv, ?_, h2, hs.nn, hs.st.below hI⟩
  rw [hs.vw, hlen]
  exact d2
end Go.Proofs.YtbmpoecmjmmngaaGreat
/- The reference's Differences, walked. -/
namespace Go.Proofs.YtbmpoecmjmmngaaGreat
open Go.RowKit Go.Maps

open Classical in
theorem at_no {l S : List Ent} {y : Ent} {i : Nat} (hp : S.Perm l) (ha : Asc S) (h : AtP S y i false) : newIn l y = true ∧ goneIn l y = true := by
  have h1 := (h.no' ha).1
  have h2 : y.pl ∉ l.map Ent.pl := fun hm => h1 ((hp.map Ent.pl).mem_iff.2 hm)
  unfold newIn goneIn
  exact ⟨decide_eq_true (fun hm => h2 (List.mem_map_of_mem (f := Ent.pl) hm)), decide_eq_true h2⟩
open Classical in
theorem at_there {l S : List Ent} {y : Ent} {i : Nat} (hp : S.Perm l) (ha : Asc S) (h : AtP S y i true) : goneIn l y = false := by
  obtain ⟨⟨x, -, h2, h3⟩, -, -, -⟩ := h.yes' ha
  unfold goneIn
  refine decide_eq_false (fun hn => hn ?_)
  rw [← h2]
  exact List.mem_map_of_mem (f := Ent.pl) (hp.mem_iff.1 (List.mem_of_getElem? h3))
open Classical in
theorem at_yes {l S : List Ent} {y : Ent} {i : Nat} (hp : S.Perm l) (ha : Asc S) (h : AtP S y i true) : ∃ hi : i < S.length, ∃ s, S[i] = ⟨y.g, y.nm, y.key, s⟩ ∧ newIn l y = !(s.toList == y.val.toList) := by
  obtain ⟨⟨x, -, h2, h3⟩, hi, -, -⟩ := h.yes' ha
  obtain ⟨xg, x1, x2, x3⟩ := x
  obtain ⟨yg, y1, y2, y3⟩ := y
  unfold Ent.pl at h2
  simp only [Prod.mk.injEq] at h2
  obtain ⟨rfl, rfl, rfl⟩ := h2
  have hx : S[i] = ⟨xg, x1, x2, x3⟩ := by
    rw [List.getElem?_eq_getElem hi] at h3
    injection h3
  refine ⟨hi, x3, hx, ?_⟩
  have hm : (⟨xg, x1, x2, x3⟩ : Ent) ∈ S := List.mem_of_getElem? h3
  unfold newIn
  by_cases e : x3.toList = y3.toList
  · obtain rfl := toList_inj e
    rw [decide_eq_false (fun hn => hn (hp.mem_iff.1 hm))]
    simp
  · have : (x3.toList == y3.toList) = false := by rw [beq_eq_false_iff_ne]; exact e
    simp only [this, Bool.not_false]
    refine decide_eq_true (fun hn => e ?_)
    have := ha.eq hm (hp.mem_iff.2 hn) rfl
    injection this with _ _ _ e3
    rw [e3]
set_option maxRecDepth 100000 in
set_option maxHeartbeats 8000000 in
theorem refDiff_any (la lb : List Ent) (va vb : Value) (w : World) (ha : tEnts.rv (mem w) [va] la) (hb : tEnts.rv (mem w) [vb] lb) (hla : la.length ≤ 60) (hlb : lb.length ≤ 60) :
    Calls Tryz.prog 9 #[va, vb] w fun e w' => Below w.heap.size w w' ∧ ((diffAns la lb ≠ 0 ∧ e = .returned (.tuple #[.slice none 0 0, .slice none 0 0, .int .i64 (diffAns la lb)])) ∨
      (diffAns la lb = 0 ∧ ∃ vp vg Sa Sb, e = .returned (.tuple #[vp, vg, .int .i64 0]) ∧ Sa.Perm la ∧ Asc Sa ∧ Sb.Perm lb ∧ Asc Sb ∧ tEnts.rv ((mem w').on (w.heap.size ≤ ·)) [vp] (Sb.filter (newIn la)) ∧ tEnts.rv ((mem w').on (w.heap.size ≤ ·)) [vg] (Sa.filter (goneIn lb)))) := by
  have HRA := Lib.hid (fun wr (h : Below w.heap.size w wr) => refRestore_any 128 la va wr (tEnts.mono _ _ _ _ (below_mem h) ha) (by omega))
  have HRB := Lib.hid (fun wr (h : Below w.heap.size w wr) => refRestore_any 128 lb vb wr (tEnts.mono _ _ _ _ (below_mem h) hb) (by omega))
  have HD := Lib.hid (diffAns_rest la lb)
  generalize diffAns la lb = D at *
  obtain ⟨aa, ca, rfl, hl1, hm1, -⟩ := slice_form ha
  obtain ⟨ab, cb, rfl, hl2, hm2, -⟩ := slice_form hb
  clear ha hb hm1 hm2
  go_enter Tryz.func9, Tryz.ntmps9
  go_wp2_with fail
  generalize hc1 : restAns 128 la = c1 at *
  generalize hc2 : restAns 128 lb = c2 at *
  refine (HRA.out w (Below.refl _ _)).mono ?_
  rintro e w1 ⟨hb1, h1⟩
  have HB1 := Lib.hid hb1
  clear hb1 HRA
  rcases h1 with ⟨n1, rfl⟩ | ⟨rfl, xa, Sa, rfl, hrva, hpa, hasca⟩
  · go_wp2_with fail
    refine (HRB.out _ (HB1.out.alloc HB1.out.size _)).mono ?_
    rintro e w2 ⟨hb2, h2⟩
    have q0 : (c1 == 0) = false := by simp [n1]
    rcases h2 with ⟨n2, rfl⟩ | ⟨rfl, xb, Sb, rfl, hrvb, hpb, hascb⟩
    · have HB3 := Lib.hid (pure_trans (HB1.out.alloc HB1.out.size _) hb2)
      have HE := Lib.hid (HB3.out.alloc HB3.out.size (.cells #[.int .i64 0, .int .i64 0, .slice none 0 0, .slice none 0 0] 43))
      clear hb2 HRB HB1 HB3
      by_cases q1 : c1 = 1
      · have hD : D = 1 := by rw [HD.out, if_pos (.inl q1)]
        subst hD
        clear HD
        subst q1
        go_wp2
        exact bodyPost_ret (v := .tuple #[.slice none 0 0, .slice none 0 0, .int .i64 1]) (by simp [results, Tryz.results9, go_sem]) rfl ⟨HE.out, .inl ⟨by decide, rfl⟩⟩
      by_cases q2 : c2 = 1
      · have hD : D = 1 := by rw [HD.out, if_pos (.inr q2)]
        subst hD
        clear HD
        subst q2
        have q1b : (c1 == 1) = false := by simp [q1]
        go_wp2
        exact bodyPost_ret (v := .tuple #[.slice none 0 0, .slice none 0 0, .int .i64 1]) (by simp [results, Tryz.results9, go_sem]) rfl ⟨HE.out, .inl ⟨by decide, rfl⟩⟩
      have hD : D = 6 := by rw [HD.out, if_neg (by omega), if_pos (by omega)]
      subst hD
      clear HD
      have q1b : (c1 == 1) = false := by simp [q1]
      have q2b : (c2 == 1) = false := by simp [q2]
      go_wp2
      exact bodyPost_ret (v := .tuple #[.slice none 0 0, .slice none 0 0, .int .i64 6]) (by simp [results, Tryz.results9, go_sem]) rfl ⟨HE.out, .inl ⟨by decide, rfl⟩⟩
    · obtain ⟨xb, kb, rfl, -, -, -⟩ := slice_form hrvb
      have HB3 := Lib.hid (pure_trans (HB1.out.alloc HB1.out.size _) hb2)
      have HE := Lib.hid (HB3.out.alloc HB3.out.size (.cells #[.int .i64 128, .int .i64 1, .slice xb Sb.length kb, .slice none 0 0] 43))
      clear hb2 HRB HB1 HB3
      by_cases q1 : c1 = 1
      · have hD : D = 1 := by rw [HD.out, if_pos (.inl q1)]
        subst hD
        clear HD
        subst q1
        go_wp2
        exact bodyPost_ret (v := .tuple #[.slice none 0 0, .slice none 0 0, .int .i64 1]) (by simp [results, Tryz.results9, go_sem]) rfl ⟨HE.out, .inl ⟨by decide, rfl⟩⟩
      have hD : D = 6 := by rw [HD.out, if_neg (by omega), if_pos (by omega)]
      subst hD
      clear HD
      have q1b : (c1 == 1) = false := by simp [q1]
      go_wp2
      exact bodyPost_ret (v := .tuple #[.slice none 0 0, .slice none 0 0, .int .i64 6]) (by simp [results, Tryz.results9, go_sem]) rfl ⟨HE.out, .inl ⟨by decide, rfl⟩⟩
  · obtain ⟨xa, ka, rfl, -, -, -⟩ := slice_form hrva
    go_wp2_with fail
    refine (HRB.out _ (HB1.out.alloc HB1.out.size _)).mono ?_
    rintro e w2 ⟨hb2, h2⟩
    rcases h2 with ⟨n2, rfl⟩ | ⟨rfl, xb, Sb, rfl, hrvb, hpb, hascb⟩
    · have HB3 := Lib.hid (pure_trans (HB1.out.alloc HB1.out.size _) hb2)
      have HE := Lib.hid (HB3.out.alloc HB3.out.size (.cells #[.int .i64 0, .int .i64 0, .slice none 0 0, .slice none 0 0] 43))
      have q0 : (c2 == 0) = false := by simp [n2]
      clear hb2 HRB HB1 HB3
      by_cases q2 : c2 = 1
      · have hD : D = 1 := by rw [HD.out, if_pos (.inr q2)]
        subst hD
        clear HD
        subst q2
        go_wp2
        exact bodyPost_ret (v := .tuple #[.slice none 0 0, .slice none 0 0, .int .i64 1]) (by simp [results, Tryz.results9, go_sem]) rfl ⟨HE.out, .inl ⟨by decide, rfl⟩⟩
      have hD : D = 6 := by rw [HD.out, if_neg (by omega), if_pos (by omega)]
      subst hD
      clear HD
      have q2b : (c2 == 1) = false := by simp [q2]
      go_wp2
      exact bodyPost_ret (v := .tuple #[.slice none 0 0, .slice none 0 0, .int .i64 6]) (by simp [results, Tryz.results9, go_sem]) rfl ⟨HE.out, .inl ⟨by decide, rfl⟩⟩
    · obtain ⟨xb, kb, rfl, -, -, -⟩ := slice_form hrvb
      have hD : D = 0 := by rw [HD.out, if_neg (by omega), if_neg (by omega)]
      subst hD
      clear HD HRB
      have hka : ka ≤ 9223372036854775807 := by
        obtain ⟨a', k', e', h2, h3, -⟩ := slice_form hrva
        simp only [Value.slice.injEq] at e'
        unfold maxLen at h3
        rw [e'.2.2]; exact h3
      have hkb : kb ≤ 9223372036854775807 := by
        obtain ⟨a', k', e', h2, h3, -⟩ := slice_form hrvb
        simp only [Value.slice.injEq] at e'
        unfold maxLen at h3
        rw [e'.2.2]; exact h3
      have hsal : Sa.length ≤ 60 := by rw [hpa.length_eq]; exact hla
      have hsbl : Sb.length ≤ 60 := by rw [hpb.length_eq]; exact hlb
      have hka2 : Sa.length ≤ ka := by
        obtain ⟨a', k', e', h2, h3, -⟩ := slice_form hrva
        simp only [Value.slice.injEq] at e'
        rw [e'.2.2]; exact h2
      have hkb2 : Sb.length ≤ kb := by
        obtain ⟨a', k', e', h2, h3, -⟩ := slice_form hrvb
        simp only [Value.slice.injEq] at e'
        rw [e'.2.2]; exact h2
      have HBK1 := Lib.hid (heap_alloc_new w1 (.cells #[.int .i64 128, .int .i64 1, .slice xa Sa.length ka, .slice none 0 0] 43))
      have HBK2 := Lib.hid ((hb2.block _ (Array.getElem?_eq_some_iff.1 HBK1.out).1).trans HBK1.out)
      have HBX := Lib.hid (box_below w2 (.cells #[.int .i64 128, .int .i64 1, .slice xb Sb.length kb, .slice none 0 0] 43))
      have HBK3 := Lib.hid ((HBX.out.block _ (Array.getElem?_eq_some_iff.1 HBK2.out).1).trans HBK2.out)
      have HBK4 := Lib.hid (heap_alloc_new w2 (.cells #[.int .i64 128, .int .i64 1, .slice xb Sb.length kb, .slice none 0 0] 43))
      have HWX := Lib.hid (pure_trans (pure_trans (HB1.out.alloc HB1.out.size (.cells #[.int .i64 128, .int .i64 1, .slice xa Sa.length ka, .slice none 0 0] 43)) hb2) HBX.out)
      have HRA := Lib.hid (show tEnts.rv (mem (w2.alloc (.cells #[.int .i64 128, .int .i64 1, .slice xb Sb.length kb, .slice none 0 0] 43))) [.slice xa Sa.length ka] Sa from tEnts.mono _ _ _ _ (below_mem (pure_trans (pure_trans (box_below w1 (.cells #[.int .i64 128, .int .i64 1, .slice xa Sa.length ka, .slice none 0 0] 43)) hb2) HBX.out)) (tEnts.mono _ _ _ _ (Mem.on_le _ _) hrva))
      have HRB := Lib.hid (show tEnts.rv (mem (w2.alloc (.cells #[.int .i64 128, .int .i64 1, .slice xb Sb.length kb, .slice none 0 0] 43))) [.slice xb Sb.length kb] Sb from tEnts.mono _ _ _ _ (below_mem HBX.out) (tEnts.mono _ _ _ _ (Mem.on_le _ _) hrvb))
      have HPA := Lib.hid hpa
      have HPB := Lib.hid hpb
      have HAA := Lib.hid hasca
      have HAB := Lib.hid hascb
      clear hb2 HB1 HBK1 HBK2 HBX hrva hrvb hpa hpb hasca hascb
      go_wp2_with fail
      generalize w2.alloc (.cells #[.int .i64 128, .int .i64 1, .slice xb Sb.length kb, .slice none 0 0] 43) = X at *
      generalize w1.heap.size = A at *
      generalize w2.heap.size = B at *
      have HC := Lib.hid (fun (w' : World) (hb : Below X.heap.size X w') => (show w'.cell? ⟨A, 2, none⟩ = some (.slice xa Sa.length ka) ∧ w'.cell? ⟨B, 2, none⟩ = some (.slice xb Sb.length kb) from
        ⟨mem_cells ((hb.block _ (Array.getElem?_eq_some_iff.1 HBK3.out).1).trans HBK3.out) 2, mem_cells ((hb.block _ (Array.getElem?_eq_some_iff.1 HBK4.out).1).trans HBK4.out) 2⟩))
      have HVA := Lib.hid (fun (w' : World) (hb : Below X.heap.size X w') => (show tEnts.rv (mem w') [.slice xa Sa.length ka] Sa from tEnts.mono _ _ _ _ (below_mem hb) HRA.out))
      have HVB := Lib.hid (fun (w' : World) (hb : Below X.heap.size X w') => (show tEnts.rv (mem w') [.slice xb Sb.length kb] Sb from tEnts.mono _ _ _ _ (below_mem hb) HRB.out))
      have HQN := Lib.hid (fun (y : Ent) (i : Nat) (h : AtP Sa y i false) => (at_no HPA.out HAA.out h).1)
      have HQY := Lib.hid (fun (y : Ent) (i : Nat) (h : AtP Sa y i true) => at_yes HPA.out HAA.out h)
      have HGN := Lib.hid (fun (y : Ent) (i : Nat) (h : AtP Sb y i false) => (at_no HPB.out HAB.out h).2)
      have HGY := Lib.hid (fun (y : Ent) (i : Nat) (h : AtP Sb y i true) => at_there HPB.out HAB.out h)
      generalize hPN : newIn la = PN at *
      generalize hPG : goneIn lb = PG at *
      have HE1 := Lib.hid hPN
      have HE2 := Lib.hid hPG
      clear hPN hPG HBK3 HBK4 HRA HRB
      go_loopw [4, 11] (fun ov i wr => ∃ k : Nat, k ≤ Sb.length ∧ i = .int .i64 k ∧ Hid (Owns tEnt wr X.heap.size 34 ov ((Sb.take k).filter PN)) ∧ Hid (Below X.heap.size X wr)) (fun _ i _ => Sb.length - (intOf i).toNat)
      case atStart => exact ⟨0, by omega, rfl, Lib.hid (Owns.nil _ _ _ _), Lib.hid (Below.refl _ _)⟩
      case round =>
        obtain ⟨k, hk, rfl, HO, HBR⟩ := hrel
        obtain ⟨c7, c9⟩ := HC.out _ HBR.out
        by_cases hlt : k < Sb.length
        · obtain ⟨b, o, e, hat, hok⟩ := ents_at (HVB.out _ HBR.out) hlt
          subst e
          have HAT := Lib.hid (fun wr (h : Below X.heap.size X wr) => (show ∀ j v, Sb[k].cs[j]? = some v → wr.cell? ⟨b, o + k * 4 + j, none⟩ = some v from by
            obtain ⟨b', o', e', hat', _⟩ := ents_at (HVB.out _ h) hlt
            obtain ⟨rfl, rfl⟩ : b = b' ∧ o = o' := by simpa using e'
            exact fun j v h => hat' j v h))
          have HYO := Lib.hid hok
          have HLL := Lib.hid (show ((Sb.take k).filter PN).length ≤ 60 from Nat.le_trans (List.length_filter_le _ _) (by rw [List.length_take]; omega))
          have HYES := Lib.hid (fun (e : PN Sb[k] = true) => filter_yes (P := PN) hlt e)
          have HNO := Lib.hid (fun (e : PN Sb[k] = false) => filter_no (P := PN) hlt e)
          clear hat hok
          generalize (Sb.take k).filter PN = l at *
          generalize Sb[k] = y at *
          obtain ⟨yg, y1, y2, y3⟩ := y
          obtain ⟨al, cl, hvl, _⟩ := HO.out.len
          subst hvl
          have HKD := Lib.hid HBR.out.drew
          have HAC := Lib.hid (refAt_any Sa (.slice xa Sa.length ka) yg y1 y2 y3 wr.drew (HVA.out _ HKD.out))
          have d0 : wr.drew.cell? ⟨b, o + k * 4, none⟩ = some (.int .i64 yg) := HAT.out _ HKD.out 0 _ rfl
          have d1 : wr.drew.cell? ⟨b, o + k * 4 + 1, none⟩ = some (.string y1) := HAT.out _ HKD.out 1 _ rfl
          have d2 : wr.drew.cell? ⟨b, o + k * 4 + 2, none⟩ = some (.string y2) := HAT.out _ HKD.out 2 _ rfl
          have c7 : wr.drew.cell? ⟨A, 2, none⟩ = some (.slice xa Sa.length ka) := (HC.out _ HKD.out).1
          have c9 : wr.drew.cell? ⟨B, 2, none⟩ = some (.slice (some ⟨b, o, none⟩) Sb.length kb) := (HC.out _ HKD.out).2
          go_wp2_with fail
          go_region_held3 (fun w' => w'.cell? ⟨b, o + k * 4, none⟩ = some (.int .i64 yg) ∧ w'.cell? ⟨b, o + k * 4 + 1, none⟩ = some (.string y1) ∧ w'.cell? ⟨b, o + k * 4 + 2, none⟩ = some (.string y2) ∧ w'.cell? ⟨A, 2, none⟩ = some (.slice xa Sa.length ka) ∧ w'.cell? ⟨B, 2, none⟩ = some (.slice (some ⟨b, o, none⟩) Sb.length kb))
            (first | exact ⟨by assumption, by assumption, by assumption, by assumption, by assumption⟩ | go_keep)
            ((first | (go_at_call 30; refine HAC.out.mono ?_; rintro e w7 ⟨i7, b7, rfl, hp7, hb7⟩; have HB7 := Lib.hid (pure_trans HKD.out hb7); have HP7 := Lib.hid hp7; have d0' : w7.cell? ⟨b, o + k * 4, none⟩ = some (.int .i64 yg) := HAT.out _ HB7.out 0 _ rfl; have d1' : w7.cell? ⟨b, o + k * 4 + 1, none⟩ = some (.string y1) := HAT.out _ HB7.out 1 _ rfl; have d2' : w7.cell? ⟨b, o + k * 4 + 2, none⟩ = some (.string y2) := HAT.out _ HB7.out 2 _ rfl; have c7' : w7.cell? ⟨A, 2, none⟩ = some (.slice xa Sa.length ka) := (HC.out _ HB7.out).1; have c9' : w7.cell? ⟨B, 2, none⟩ = some (.slice (some ⟨b, o, none⟩) Sb.length kb) := (HC.out _ HB7.out).2)))
          have HO7 := Lib.hid (HO.out.keeps ((Below.refl wr.heap.size wr).drew.trans hb7))
          have e0 : w7.cell? ⟨b, o + k * 4, none⟩ = some (.int .i64 yg) := d0'
          have e1 : w7.cell? ⟨b, o + k * 4 + 1, none⟩ = some (.string y1) := d1'
          have e2 : w7.cell? ⟨b, o + k * 4 + 2, none⟩ = some (.string y2) := d2'
          have e3 : w7.cell? ⟨b, o + k * 4 + 3, none⟩ = some (.string y3) := HAT.out _ HB7.out 3 _ rfl
          have z7 : w7.cell? ⟨A, 2, none⟩ = some (.slice xa Sa.length ka) := c7'
          have z9 : w7.cell? ⟨B, 2, none⟩ = some (.slice (some ⟨b, o, none⟩) Sb.length kb) := c9'
          rename_i hHeld
          clear hHeld d0' d1' d2' c7' c9' d0 d1 d2 c7 c9 hb7 HAC hp7 HAT HO HKD HBR
          simp only [Exit.then]
          go_at_K
          cases b7 with
          | false =>
            have HNX := Lib.hid (HYES.out (HQN.out _ _ HP7.out))
            clear HYES HNO HQN HQY
            go_wp2_with fail
            go_quiet (fail)
            have HB8 := Lib.hid (below_drewN HB7.out nq)
            have HO8 := Lib.hid (HO7.out.keeps (below_drewN (Below.refl w7.heap.size w7) nq))
            have x0 : (w7.drewN nq).cell? ⟨b, o + k * 4, none⟩ = some (.int .i64 yg) := e0
            have x1 : (w7.drewN nq).cell? ⟨b, o + k * 4 + 1, none⟩ = some (.string y1) := e1
            have x2 : (w7.drewN nq).cell? ⟨b, o + k * 4 + 2, none⟩ = some (.string y2) := e2
            have x3 : (w7.drewN nq).cell? ⟨b, o + k * 4 + 3, none⟩ = some (.string y3) := e3
            have x7 : (w7.drewN nq).cell? ⟨A, 2, none⟩ = some (.slice xa Sa.length ka) := z7
            have x9 : (w7.drewN nq).cell? ⟨B, 2, none⟩ = some (.slice (some ⟨b, o, none⟩) Sb.length kb) := z9
            have HSZ8 := Lib.hid HB8.out.size
            clear HB7 HO7 e0 e1 e2 e3 z7 z9
            generalize w7.drewN nq = w8 at *
            go_wp2_with (at_builtin; refine wpList_append_one rfl _ _ 22 rfl tEnt Tryz.underlying22 infoEnt rfl (by decide) X.heap.size _ l rfl (HO8.out.alloc _) _ _ ⟨yg, y1, y2, y3⟩ rfl [.int .i64 yg, .string y1, .string y2, .string y3] ?a2 ⟨rfl, HYO.out⟩ ?b2 ?c2 ?d2 ?e2 ?_)
            case a2 => exact fun j u hj => by match j, hj with | 0, hj => simp at hj; subst hj; simp [mem] | 1, hj => simp at hj; subst hj; simp [mem] | 2, hj => simp at hj; subst hj; simp [mem] | 3, hj => simp at hj; subst hj; simp [mem]
            case b2 => intro x hx; simp at hx; rcases hx with rfl | rfl | rfl | rfl <;> rfl
            case c2 => have := HLL.out; unfold maxLen; omega
            case d2 => have := HLL.out; omega
            case e2 => have := HSZ8.out; simp; omega
            · intro v' w6 own6 hgrow _
              have HB6 := Lib.hid (show Below X.heap.size X w6 from (HB8.out.alloc HB8.out.size _).grown hgrow (by have := HSZ8.out; simp; omega) (fun k hk => ((HO8.out).lt k hk).1))
              obtain ⟨a6, cap6, rfl, _⟩ := own6.len
              have HO6 := Lib.hid (show Owns tEnt w6 X.heap.size 34 (.slice a6 (l ++ [(⟨yg, y1, y2, y3⟩ : Ent)]).length cap6) ((Sb.take (k + 1)).filter PN) by
                rw [← HNX.out]
                exact own6)
              clear own6 hgrow HO8 HB8
              go_wp2
              go_roundw
              case rel => exact ⟨k + 1, by omega, by go_num, HO6, HB6⟩
              case measure => simp [intOf]; omega
          | true =>
            obtain ⟨hi, s, hs, hpn⟩ := HQY.out _ _ HP7.out
            simp only at hs hpn
            obtain ⟨b', o', e, hat, -⟩ := ents_at (HVA.out _ HB7.out) hi
            subst e
            have f0 : w7.cell? ⟨b', o' + i7 * 4, none⟩ = some (.int .i64 yg) := by have := hat 0 _ rfl; rw [hs] at this; exact this
            have f1 : w7.cell? ⟨b', o' + i7 * 4 + 1, none⟩ = some (.string y1) := by have := hat 1 _ rfl; rw [hs] at this; exact this
            have f2 : w7.cell? ⟨b', o' + i7 * 4 + 2, none⟩ = some (.string y2) := by have := hat 2 _ rfl; rw [hs] at this; exact this
            have f3 : w7.cell? ⟨b', o' + i7 * 4 + 3, none⟩ = some (.string s) := by have := hat 3 _ rfl; rw [hs] at this; exact this
            have g0 : (yg == yg) = true := by simp
            have g1 : (y1.toList == y1.toList) = true := by simp
            have g2 : (y2.toList == y2.toList) = true := by simp
            clear hat hs
            cases g3 : (s.toList == y3.toList) with
            | true =>
              have HNX := Lib.hid (HNO.out (by rw [hpn, g3]; rfl))
              clear HYES HNO HQN HQY hpn
              go_wp2_with fail
              go_quiet (fail)
              all_goals
                have HB8 := Lib.hid (below_drewN HB7.out nq)
                have HO8 := Lib.hid (show Owns tEnt (w7.drewN nq) X.heap.size 34 (.slice al l.length cl) ((Sb.take (k + 1)).filter PN) by
                  rw [HNX.out]
                  exact HO7.out.keeps (below_drewN (Below.refl w7.heap.size w7) nq))
                go_wp2
                go_roundw
                case rel => exact ⟨k + 1, by omega, by go_num, HO8, HB8⟩
                case measure => simp [intOf]; omega
            | false =>
              have HNX := Lib.hid (HYES.out (by rw [hpn, g3]; rfl))
              clear HYES HNO HQN HQY hpn
              go_wp2_with fail
              go_quiet (fail)
              have HB8 := Lib.hid (below_drewN HB7.out nq)
              have HO8 := Lib.hid (HO7.out.keeps (below_drewN (Below.refl w7.heap.size w7) nq))
              have x0 : (w7.drewN nq).cell? ⟨b, o + k * 4, none⟩ = some (.int .i64 yg) := e0
              have x1 : (w7.drewN nq).cell? ⟨b, o + k * 4 + 1, none⟩ = some (.string y1) := e1
              have x2 : (w7.drewN nq).cell? ⟨b, o + k * 4 + 2, none⟩ = some (.string y2) := e2
              have x3 : (w7.drewN nq).cell? ⟨b, o + k * 4 + 3, none⟩ = some (.string y3) := e3
              have x7 : (w7.drewN nq).cell? ⟨A, 2, none⟩ = some (.slice (some ⟨b', o', none⟩) Sa.length ka) := z7
              have x9 : (w7.drewN nq).cell? ⟨B, 2, none⟩ = some (.slice (some ⟨b, o, none⟩) Sb.length kb) := z9
              have HSZ8 := Lib.hid HB8.out.size
              clear f0 f1 f2 f3 HB7 HO7 e0 e1 e2 e3 z7 z9
              generalize w7.drewN nq = w8 at *
              go_wp2_with (at_builtin; refine wpList_append_one rfl _ _ 22 rfl tEnt Tryz.underlying22 infoEnt rfl (by decide) X.heap.size _ l rfl (HO8.out.alloc _) _ _ ⟨yg, y1, y2, y3⟩ rfl [.int .i64 yg, .string y1, .string y2, .string y3] ?a2 ⟨rfl, HYO.out⟩ ?b2 ?c2 ?d2 ?e2 ?_)
              case a2 => exact fun j u hj => by match j, hj with | 0, hj => simp at hj; subst hj; simp [mem] | 1, hj => simp at hj; subst hj; simp [mem] | 2, hj => simp at hj; subst hj; simp [mem] | 3, hj => simp at hj; subst hj; simp [mem]
              case b2 => intro x hx; simp at hx; rcases hx with rfl | rfl | rfl | rfl <;> rfl
              case c2 => have := HLL.out; unfold maxLen; omega
              case d2 => have := HLL.out; omega
              case e2 => have := HSZ8.out; simp; omega
              · intro v' w6 own6 hgrow _
                have HB6 := Lib.hid (show Below X.heap.size X w6 from (HB8.out.alloc HB8.out.size _).grown hgrow (by have := HSZ8.out; simp; omega) (fun k hk => ((HO8.out).lt k hk).1))
                obtain ⟨a6, cap6, rfl, _⟩ := own6.len
                have HO6 := Lib.hid (show Owns tEnt w6 X.heap.size 34 (.slice a6 (l ++ [(⟨yg, y1, y2, y3⟩ : Ent)]).length cap6) ((Sb.take (k + 1)).filter PN) by
                  rw [← HNX.out]
                  exact own6)
                clear own6 hgrow HO8 HB8
                go_wp2
                go_roundw
                case rel => exact ⟨k + 1, by omega, by go_num, HO6, HB6⟩
                case measure => simp [intOf]; omega
        · obtain rfl : k = Sb.length := by omega
          rw [List.take_length] at HO
          rename World => Z
          have HP5 := HO
          obtain ⟨ap, cp, hvp, _⟩ := HO.out.len
          subst hvp
          have HC := Lib.hid (fun (w' : World) (hb : Below Z.heap.size Z w') => HC.out w' (pure_trans HBR.out hb))
          have HVA := Lib.hid (fun (w' : World) (hb : Below Z.heap.size Z w') => HVA.out w' (pure_trans HBR.out hb))
          have HVB := Lib.hid (fun (w' : World) (hb : Below Z.heap.size Z w') => HVB.out w' (pure_trans HBR.out hb))
          have HWZ := Lib.hid (pure_trans HWX.out HBR.out)
          have HXS := Lib.hid HWX.out.size
          have HZS := Lib.hid HWZ.out.size
          clear HBR HWX HO HQN HQY
          go_wp2_with fail
          clear c7 c9
          go_loopw [5, 14] (fun ov i wr => ∃ k : Nat, k ≤ Sa.length ∧ i = .int .i64 k ∧ Hid (Owns tEnt wr Z.heap.size 34 ov ((Sa.take k).filter PG)) ∧ Hid (Below Z.heap.size Z wr)) (fun _ i _ => Sa.length - (intOf i).toNat)
          case atStart => exact ⟨0, by omega, rfl, Lib.hid (Owns.nil _ _ _ _), Lib.hid (Below.refl _ _)⟩
          case round =>
            obtain ⟨k, hk, rfl, HO, HBR⟩ := hrel
            obtain ⟨c7, c9⟩ := HC.out _ HBR.out
            by_cases hlt : k < Sa.length
            · obtain ⟨b, o, e, hat, hok⟩ := ents_at (HVA.out _ HBR.out) hlt
              subst e
              have HAT := Lib.hid (fun wr (h : Below Z.heap.size Z wr) => (show ∀ j v, Sa[k].cs[j]? = some v → wr.cell? ⟨b, o + k * 4 + j, none⟩ = some v from by
                obtain ⟨b', o', e', hat', _⟩ := ents_at (HVA.out _ h) hlt
                obtain ⟨rfl, rfl⟩ : b = b' ∧ o = o' := by simpa using e'
                exact fun j v h => hat' j v h))
              have HYO := Lib.hid hok
              have HLL := Lib.hid (show ((Sa.take k).filter PG).length ≤ 60 from Nat.le_trans (List.length_filter_le _ _) (by rw [List.length_take]; omega))
              have HYES := Lib.hid (fun (e : PG Sa[k] = true) => filter_yes (P := PG) hlt e)
              have HNO := Lib.hid (fun (e : PG Sa[k] = false) => filter_no (P := PG) hlt e)
              clear hat hok
              generalize (Sa.take k).filter PG = l at *
              generalize Sa[k] = y at *
              obtain ⟨yg, y1, y2, y3⟩ := y
              obtain ⟨al, cl, hvl, _⟩ := HO.out.len
              subst hvl
              have HKD := Lib.hid HBR.out.drew
              have HAC := Lib.hid (refAt_any Sb (.slice xb Sb.length kb) yg y1 y2 y3 wr.drew (HVB.out _ HKD.out))
              have d0 : wr.drew.cell? ⟨b, o + k * 4, none⟩ = some (.int .i64 yg) := HAT.out _ HKD.out 0 _ rfl
              have d1 : wr.drew.cell? ⟨b, o + k * 4 + 1, none⟩ = some (.string y1) := HAT.out _ HKD.out 1 _ rfl
              have d2 : wr.drew.cell? ⟨b, o + k * 4 + 2, none⟩ = some (.string y2) := HAT.out _ HKD.out 2 _ rfl
              have c7 : wr.drew.cell? ⟨A, 2, none⟩ = some (.slice (some ⟨b, o, none⟩) Sa.length ka) := (HC.out _ HKD.out).1
              have c9 : wr.drew.cell? ⟨B, 2, none⟩ = some (.slice xb Sb.length kb) := (HC.out _ HKD.out).2
              go_wp2_with fail
              go_region_held3 (fun w' => w'.cell? ⟨b, o + k * 4, none⟩ = some (.int .i64 yg) ∧ w'.cell? ⟨b, o + k * 4 + 1, none⟩ = some (.string y1) ∧ w'.cell? ⟨b, o + k * 4 + 2, none⟩ = some (.string y2) ∧ w'.cell? ⟨A, 2, none⟩ = some (.slice (some ⟨b, o, none⟩) Sa.length ka) ∧ w'.cell? ⟨B, 2, none⟩ = some (.slice xb Sb.length kb))
                (first | exact ⟨by assumption, by assumption, by assumption, by assumption, by assumption⟩ | go_keep)
                ((first | (go_at_call 30; refine HAC.out.mono ?_; rintro e w7 ⟨i7, b7, rfl, hp7, hb7⟩; have HB7 := Lib.hid (pure_trans HKD.out hb7); have HP7 := Lib.hid hp7; have d0' : w7.cell? ⟨b, o + k * 4, none⟩ = some (.int .i64 yg) := HAT.out _ HB7.out 0 _ rfl; have d1' : w7.cell? ⟨b, o + k * 4 + 1, none⟩ = some (.string y1) := HAT.out _ HB7.out 1 _ rfl; have d2' : w7.cell? ⟨b, o + k * 4 + 2, none⟩ = some (.string y2) := HAT.out _ HB7.out 2 _ rfl; have c7' : w7.cell? ⟨A, 2, none⟩ = some (.slice (some ⟨b, o, none⟩) Sa.length ka) := (HC.out _ HB7.out).1; have c9' : w7.cell? ⟨B, 2, none⟩ = some (.slice xb Sb.length kb) := (HC.out _ HB7.out).2)))
              have HO8 := Lib.hid (HO.out.keeps ((Below.refl wr.heap.size wr).drew.trans hb7))
              have e0 : w7.cell? ⟨b, o + k * 4, none⟩ = some (.int .i64 yg) := d0'
              have e1 : w7.cell? ⟨b, o + k * 4 + 1, none⟩ = some (.string y1) := d1'
              have e2 : w7.cell? ⟨b, o + k * 4 + 2, none⟩ = some (.string y2) := d2'
              have e3 : w7.cell? ⟨b, o + k * 4 + 3, none⟩ = some (.string y3) := HAT.out _ HB7.out 3 _ rfl
              have z7 : w7.cell? ⟨A, 2, none⟩ = some (.slice (some ⟨b, o, none⟩) Sa.length ka) := c7'
              have z9 : w7.cell? ⟨B, 2, none⟩ = some (.slice xb Sb.length kb) := c9'
              have HB8 := HB7
              have HSZ8 := Lib.hid HB7.out.size
              rename_i hHeld
              clear hHeld d0' d1' d2' c7' c9' d0 d1 d2 c7 c9 hb7 HAC hp7 HAT HO HKD HBR HB7
              simp only [Exit.then]
              go_at_K
              cases b7 with
              | false =>
                have HNX := Lib.hid (HYES.out (HGN.out _ _ HP7.out))
                clear HYES HNO HGN HGY
                go_wp2_with (at_builtin; refine wpList_append_one rfl _ _ 22 rfl tEnt Tryz.underlying22 infoEnt rfl (by decide) Z.heap.size _ l rfl (HO8.out.alloc _) _ _ ⟨yg, y1, y2, y3⟩ rfl [.int .i64 yg, .string y1, .string y2, .string y3] ?a2 ⟨rfl, HYO.out⟩ ?b2 ?c2 ?d2 ?e2 ?_)
                case a2 => exact fun j u hj => by match j, hj with | 0, hj => simp at hj; subst hj; simp [mem] | 1, hj => simp at hj; subst hj; simp [mem] | 2, hj => simp at hj; subst hj; simp [mem] | 3, hj => simp at hj; subst hj; simp [mem]
                case b2 => intro x hx; simp at hx; rcases hx with rfl | rfl | rfl | rfl <;> rfl
                case c2 => have := HLL.out; unfold maxLen; omega
                case d2 => have := HLL.out; omega
                case e2 => have := HSZ8.out; simp; omega
                · intro v' w6 own6 hgrow _
                  have HB6 := Lib.hid (show Below Z.heap.size Z w6 from (HB8.out.alloc HB8.out.size _).grown hgrow (by have := HSZ8.out; simp; omega) (fun k hk => ((HO8.out).lt k hk).1))
                  obtain ⟨a6, cap6, rfl, _⟩ := own6.len
                  have HO6 := Lib.hid (show Owns tEnt w6 Z.heap.size 34 (.slice a6 (l ++ [(⟨yg, y1, y2, y3⟩ : Ent)]).length cap6) ((Sa.take (k + 1)).filter PG) by
                    rw [← HNX.out]
                    exact own6)
                  clear own6 hgrow HO8 HB8
                  go_wp2
                  go_roundw
                  case rel => exact ⟨k + 1, by omega, by go_num, HO6, HB6⟩
                  case measure => simp [intOf]; omega
              | true =>
                have HNX := Lib.hid (HNO.out (HGY.out _ _ HP7.out))
                have HO9 := Lib.hid (show Owns tEnt w7 Z.heap.size 34 (.slice al l.length cl) ((Sa.take (k + 1)).filter PG) by
                  rw [HNX.out]
                  exact HO8.out)
                clear HYES HNO HGN HGY HO8
                go_wp2
                go_roundw
                case rel => exact ⟨k + 1, by omega, by go_num, HO9, HB8⟩
                case measure => simp [intOf]; omega
            · obtain rfl : k = Sa.length := by omega
              rw [List.take_length] at HO
              rename World => w6
              obtain ⟨ag, cg, hvg, _⟩ := HO.out.len
              subst hvg
              have HP6 := Lib.hid (HP5.out.keeps HBR.out)
              have HF := Lib.hid (show tEnts.rv ((mem w6).on (w.heap.size ≤ ·)) [.slice ap (Sb.filter PN).length cp] (Sb.filter PN) from HP6.out.rv (fun b h => Nat.le_trans HXS.out h) (fun _ _ _ h => h))
              have HFG := Lib.hid (show tEnts.rv ((mem w6).on (w.heap.size ≤ ·)) [.slice ag (Sa.filter PG).length cg] (Sa.filter PG) from HO.out.rv (fun b h => Nat.le_trans HZS.out h) (fun _ _ _ h => h))
              have HB6 := Lib.hid (pure_trans HWZ.out HBR.out)
              clear HP5 HP6 HO HBR HWZ HGN HGY HVA HVB
              go_wp2
              exact bodyPost_ret (v := .tuple #[.slice ap (Sb.filter PN).length cp, .slice ag (Sa.filter PG).length cg, .int .i64 0]) (by simp [results, Tryz.results9, go_sem]) rfl ⟨HB6.out, _, _, rfl, Sa, HPA.out, HAA.out, Sb, HPB.out, HAB.out, by rw [HE1.out]; exact HF.out, by rw [HE2.out]; exact HFG.out⟩
end Go.Proofs.YtbmpoecmjmmngaaGreat
/- HeapDiffers: the walk. -/
namespace Go.Proofs.YtbmpoecmjmmngaaGreat
open Go.RowKit Go.Maps

/-- What package heap's Differences gives. -/
def DiffSays (la lb P G : List Ent) : Prop := (diffAns la lb ≠ 0 → P = [] ∧ G = []) ∧ (diffAns la lb = 0 → P.Perm (lb.filter (newIn la)) ∧ P.Pairwise (fun a b => entC a b ≤ 0) ∧ G.Perm (la.filter (goneIn lb)) ∧ G.Pairwise (fun a b => entC a b ≤ 0))
/-- What the reference's gives. -/
def RefSays (la lb X Y : List Ent) : Prop := (diffAns la lb ≠ 0 → X = [] ∧ Y = []) ∧ (diffAns la lb = 0 → ∃ Sa Sb, Sa.Perm la ∧ Asc Sa ∧ Sb.Perm lb ∧ Asc Sb ∧ X = Sb.filter (newIn la) ∧ Y = Sa.filter (goneIn lb))
theorem says_one {la lb P G X Y : List Ent} (h : DiffSays la lb P G) (h' : RefSays la lb X Y) : P = X ∧ G = Y := by
  by_cases e : diffAns la lb = 0
  · obtain ⟨h1, h2, h3, h4⟩ := h.2 e
    obtain ⟨Sa, Sb, g1, g2, g3, g4, rfl, rfl⟩ := h'.2 e
    exact ⟨diff_same g3 g4 h1 h2, diff_same g1 g2 h3 h4⟩
  · rw [(h.1 e).1, (h.1 e).2, (h'.1 e).1, (h'.1 e).2]
    exact ⟨rfl, rfl⟩
theorem diff_lists (la lb : List Ent) (va vb : Value) (w : World) (ha : tEnts.rv (mem w) [va] la) (hb : tEnts.rv (mem w) [vb] lb) (hla : la.length ≤ 60) (hlb : lb.length ≤ 60) :
    Calls Tryz.prog 8 #[va, vb] w fun e w' => ∃ ap kp ag kg P G, e = .returned (.tuple #[.slice ap P.length kp, .slice ag G.length kg, .int .i64 (diffAns la lb)]) ∧ tEnts.rv (mem w') [.slice ap P.length kp] P ∧ tEnts.rv (mem w') [.slice ag G.length kg] G ∧ Below w.heap.size w w' ∧ DiffSays la lb P G := by
  refine (diff_any la lb va vb w ha hb hla hlb).mono ?_
  rintro e w' ⟨hbl, ⟨hd, rfl⟩ | ⟨hd, vp, vg, P, G, rfl, h1, h2, h3, h4, h5, h6⟩⟩
  · exact ⟨none, 0, none, 0, [], [], rfl, slice_nil _ _, slice_nil _ _, hbl, fun _ => ⟨rfl, rfl⟩, fun e => absurd e hd⟩
  · obtain ⟨ap, kp, rfl, -, -, -⟩ := slice_form h1
    obtain ⟨ag, kg, rfl, -, -, -⟩ := slice_form h2
    exact ⟨ap, kp, ag, kg, P, G, by rw [hd], tEnts.mono _ _ _ _ (Mem.on_le _ _) h1, tEnts.mono _ _ _ _ (Mem.on_le _ _) h2, hbl, fun e => absurd hd e, fun _ => ⟨h3, h4, h5, h6⟩⟩
theorem refDiff_lists (la lb : List Ent) (va vb : Value) (w : World) (ha : tEnts.rv (mem w) [va] la) (hb : tEnts.rv (mem w) [vb] lb) (hla : la.length ≤ 60) (hlb : lb.length ≤ 60) :
    Calls Tryz.prog 9 #[va, vb] w fun e w' => ∃ ap kp ag kg P G, e = .returned (.tuple #[.slice ap P.length kp, .slice ag G.length kg, .int .i64 (diffAns la lb)]) ∧ tEnts.rv (mem w') [.slice ap P.length kp] P ∧ tEnts.rv (mem w') [.slice ag G.length kg] G ∧ Below w.heap.size w w' ∧ RefSays la lb P G := by
  refine (refDiff_any la lb va vb w ha hb hla hlb).mono ?_
  rintro e w' ⟨hbl, ⟨hd, rfl⟩ | ⟨hd, vp, vg, Sa, Sb, rfl, h1, h2, h3, h4, h5, h6⟩⟩
  · exact ⟨none, 0, none, 0, [], [], rfl, slice_nil _ _, slice_nil _ _, hbl, fun _ => ⟨rfl, rfl⟩, fun e => absurd e hd⟩
  · obtain ⟨ap, kp, rfl, -, -, -⟩ := slice_form h5
    obtain ⟨ag, kg, rfl, -, -, -⟩ := slice_form h6
    exact ⟨ap, kp, ag, kg, _, _, by rw [hd], tEnts.mono _ _ _ _ (Mem.on_le _ _) h5, tEnts.mono _ _ _ _ (Mem.on_le _ _) h6, hbl, fun e => absurd hd e, fun _ => ⟨Sa, Sb, h1, h2, h3, h4, rfl, rfl⟩⟩
theorem diff_rest {la lb : List Ent} (h : diffAns la lb = 0) : restAns 128 la = 0 ∧ restAns 128 lb = 0 := by
  rw [diffAns_rest] at h
  by_cases h1 : restAns 128 la = 1 ∨ restAns 128 lb = 1
  · rw [if_pos h1] at h; cases h
  · rw [if_neg h1] at h
    by_cases h2 : restAns 128 la ≠ 0 ∨ restAns 128 lb ≠ 0
    · rw [if_pos h2] at h; cases h
    · omega
/-- Places of a filtered list: each once. -/
theorem take_not {S G : List Ent} (h : Asc S) {p : Ent → Bool} (hG : G = S.filter p) {k : Nat} (hk : k < G.length) : G[k] ∈ S ∧ G[k].pl ∉ (G.take k).map Ent.pl ∧ G.take (k + 1) = G.take k ++ [G[k]] := by
  subst hG
  refine ⟨(List.mem_filter.1 (List.getElem_mem hk)).1, fun hm => ?_, (List.take_succ_eq_append_getElem hk)⟩
  obtain ⟨z, hz, e⟩ := List.mem_map.1 hm
  have ha : Asc (S.filter p) := h.filter p
  have : (S.filter p).take k ++ [(S.filter p)[k]] = (S.filter p).take (k + 1) := (List.take_succ_eq_append_getElem hk).symm
  have hp : Asc ((S.filter p).take k ++ [(S.filter p)[k]]) := by rw [this]; exact List.Pairwise.take ha
  have := (List.pairwise_append.1 hp).2.2 z hz _ (List.mem_singleton.2 rfl)
  have h0 := placeC_zero.2 e
  omega
set_option maxRecDepth 100000 in
set_option maxHeartbeats 16000000 in
theorem heapDiffers_any (la : List Ent) (va : Value) (lb : List Ent) (vb : Value) (w : World) (ha : tEnts.rv (mem w) [va] la) (hb : tEnts.rv (mem w) [vb] lb) :
    Calls Tryz.prog 3 #[va, vb] w fun e w' => e = .returned (.bool true) ∧ Below w.heap.size w w' := by
  obtain ⟨aa, ka, rfl, hl1, hm1, -⟩ := slice_form ha
  obtain ⟨ab, kb, rfl, hl2, hm2, -⟩ := slice_form hb
  have hka : ka ≤ 9223372036854775807 := by unfold maxLen at hm1; exact hm1
  have hkb : kb ≤ 9223372036854775807 := by unfold maxLen at hm2; exact hm2
  have HVA := Lib.hid (fun wr (hb : Below w.heap.size w wr) => (show tEnts.rv (mem wr) [.slice aa la.length ka] la from tEnts.mono _ _ _ _ (below_mem hb) ha))
  have HVB := Lib.hid (fun wr (h : Below w.heap.size w wr) => (show tEnts.rv (mem wr) [.slice ab lb.length kb] lb from tEnts.mono _ _ _ _ (below_mem h) hb))
  clear hm1 hm2 ha hb
  go_enter Tryz.func3, Tryz.ntmps3
  go_wp2_with fail
  refine (awake_any _).mono ?_
  rintro e w1 ⟨rfl, hb⟩
  have HB1 := Lib.hid hb
  clear hb
  go_wp2_with fail
  refine (heavy_any la _ _ (HVA.out _ HB1.out)).mono ?_
  rintro e w2 ⟨b1, rfl, hb, hle1⟩
  have HB2 := Lib.hid (pure_trans HB1.out hb)
  clear hb HB1
  cases b1
  case true =>
    go_wp2
    go_ret
    exact ⟨rfl, HB2.out⟩
  have hla := hle1 rfl
  clear hle1
  go_wp2_with fail
  refine (heavy_any lb _ _ (HVB.out _ HB2.out)).mono ?_
  rintro e w3 ⟨b1, rfl, hb, hle1⟩
  have HB3 := Lib.hid (pure_trans HB2.out hb)
  clear hb HB2
  cases b1
  case true =>
    go_wp2
    go_ret
    exact ⟨rfl, HB3.out⟩
  have hlb := hle1 rfl
  clear hle1
  go_wp2_with fail
  refine (diff_lists la lb _ _ _ (HVA.out _ HB3.out) (HVB.out _ HB3.out) hla hlb).mono ?_
  rintro e w4 ⟨ap, kp, ag, kg, P, G, rfl, hp, hg, hb, hds⟩
  have HB4 := Lib.hid (pure_trans HB3.out hb)
  have HP := Lib.hid hp
  have HG := Lib.hid hg
  have HDS := Lib.hid hds
  clear hb hp hg hds HB3
  go_wp2_with fail
  refine (refDiff_lists la lb _ _ _ (HVA.out _ HB4.out) (HVB.out _ HB4.out) hla hlb).mono ?_
  rintro e w5 ⟨ax, kx, ay, ky, X, Y, rfl, hx, hy, hb, hds⟩
  obtain ⟨rfl, rfl⟩ := says_one HDS.out hds
  have HB5 := Lib.hid (pure_trans HB4.out hb)
  have HP5 := Lib.hid (tEnts.mono _ _ _ _ (below_mem hb) HP.out)
  have HG5 := Lib.hid (tEnts.mono _ _ _ _ (below_mem hb) HG.out)
  have HX := Lib.hid hx
  have HY := Lib.hid hy
  have HRS := Lib.hid hds
  clear hb hx hy hds HB4 HP HG HDS
  go_wp2_with fail
  refine (sameEnts_any P _ _ _ HP5.out HX.out).mono ?_
  rintro e w6 ⟨rfl, hb⟩
  have HB6 := Lib.hid (pure_trans HB5.out hb)
  have HP6 := Lib.hid (tEnts.mono _ _ _ _ (below_mem hb) HP5.out)
  have HG6 := Lib.hid (tEnts.mono _ _ _ _ (below_mem hb) HG5.out)
  have HY6 := Lib.hid (tEnts.mono _ _ _ _ (below_mem hb) HY.out)
  clear hb HB5 HP5 HG5 HX HY
  go_wp2_with fail
  refine (sameEnts_any G _ _ _ HG6.out HY6.out).mono ?_
  rintro e w7 ⟨rfl, hb⟩
  have HB7 := Lib.hid (pure_trans HB6.out hb)
  have HP7 := Lib.hid (tEnts.mono _ _ _ _ (below_mem hb) HP6.out)
  have HG7 := Lib.hid (tEnts.mono _ _ _ _ (below_mem hb) HG6.out)
  clear hb HB6 HP6 HG6 HY6
  have HDR := Lib.hid (fun (h : diffAns la lb = 0) => diff_rest h)
  have HR2 := Lib.hid (fun (h : diffAns la lb = 0) => HRS.out.2 h)
  generalize diffAns la lb = D at *
  have hdd : (D == D) = true := by simp
  by_cases hD : D = 0
  case neg =>
    have hd0 : (D == 0) = false := by simp [hD]
    clear HDR HR2 HRS
    go_wp2
    go_ret
    exact ⟨rfl, HB7.out⟩
  subst hD
  obtain ⟨hra, hrb⟩ := HDR.out rfl
  obtain ⟨Sa, Sb, hsa, haa, hsb, hab, hPX, hGY⟩ := HR2.out rfl
  clear HDR HR2 HRS
  have HRA := Lib.hid hra
  have HSA := Lib.hid hsa
  have HSB := Lib.hid hsb
  have HAA := Lib.hid haa
  have HAB := Lib.hid hab
  have HPX := Lib.hid hPX
  have HGY := Lib.hid hGY
  have HVL := Lib.hid (show (∀ x ∈ Sa, validE x = true ∧ x.okE) ∧ (∀ x ∈ Sb, validE x = true ∧ x.okE) from
    ⟨fun x hx => ⟨((restAns_ok hra).1 x (hsa.mem_iff.1 hx)).1, ents_all (HVA.out _ HB7.out) x (hsa.mem_iff.1 hx)⟩, fun x hx => ⟨((restAns_ok hrb).1 x (hsb.mem_iff.1 hx)).1, ents_all (HVB.out _ HB7.out) x (hsb.mem_iff.1 hx)⟩⟩)
  have HND := Lib.hid (restAns_ok hra).2.2
  have hsal : Sa.length ≤ 60 := by rw [hsa.length_eq]; exact hla
  have hPl : P.length ≤ 60 := by rw [hPX]; exact Nat.le_trans (List.length_filter_le _ _) (by rw [hsb.length_eq]; exact hlb)
  have hGl : G.length ≤ 60 := by rw [hGY]; exact Nat.le_trans (List.length_filter_le _ _) hsal
  have hkg : kg ≤ 9223372036854775807 ∧ G.length ≤ kg := by
    obtain ⟨a', k', e', h2, h3, -⟩ := slice_form HG7.out
    simp only [Value.slice.injEq] at e'
    unfold maxLen at h3
    rw [e'.2.2]; exact ⟨h3, h2⟩
  have hkp : kp ≤ 9223372036854775807 ∧ P.length ≤ kp := by
    obtain ⟨a', k', e', h2, h3, -⟩ := slice_form HP7.out
    simp only [Value.slice.injEq] at e'
    unfold maxLen at h3
    rw [e'.2.2]; exact ⟨h3, h2⟩
  obtain ⟨hkg1, hkg2⟩ := hkg
  obtain ⟨hkp1, hkp2⟩ := hkp
  clear hra hrb hsa haa hsb hab hPX hGY
  go_wp2_with fail
  refine (restore_any 128 la _ _ (HVA.out _ HB7.out) (by omega)).mono ?_
  rintro e w8 ⟨hb, hp⟩
  rcases hp with ⟨hne, rfl⟩ | ⟨-, p, h, rfl, hI, hvw, hnn⟩
  · exact absurd HRA.out hne
  have HST := Lib.hid (show ∃ (k : Nat) (h : HS) (E : List Ent), k ≤ G.length ∧ Value.int .i64 0 = .int .i64 k ∧ Hid (HeapInv w8 w7.heap.size p h) ∧ Hid (Rel h.view ⟨128, 1, E, []⟩) ∧ Hid (Gone Sa (G.take k) E) ∧ Hid (h.nn ≤ 60) ∧ Hid (Below w7.heap.size w7 w8) from
    ⟨0, h, Sa, Nat.zero_le _, rfl, Lib.hid hI, Lib.hid (by rw [hvw]; exact Rel.restored (n := 128) HRA.out (by omega) HSA.out HAA.out), Lib.hid (Gone.start HAA.out), Lib.hid (Nat.le_trans hnn hla), Lib.hid hb⟩)
  have HVG := Lib.hid (fun (wr : World) (hb : Below w7.heap.size w7 wr) => (show tEnts.rv (mem wr) [.slice ag G.length kg] G from tEnts.mono _ _ _ _ (below_mem hb) HG7.out))
  have HVP := Lib.hid (fun (wr : World) (hb : Below w7.heap.size w7 wr) => (show tEnts.rv (mem wr) [.slice ap P.length kp] P from tEnts.mono _ _ _ _ (below_mem hb) HP7.out))
  have HWB := Lib.hid (fun (wr : World) (hb : Below w7.heap.size w7 wr) => (show Below w.heap.size w wr from pure_trans HB7.out hb))
  have HWS := Lib.hid HB7.out.size
  clear hb hI hvw hnn HG7 HP7 HB7 HRA
  generalize w7.heap.size = base at *
  go_wp2_with fail
  go_loopw [13] (fun iv wr => ∃ (k : Nat) (h : HS) (E : List Ent), k ≤ G.length ∧ iv = .int .i64 k ∧ Hid (HeapInv wr base p h) ∧ Hid (Rel h.view ⟨128, 1, E, []⟩) ∧ Hid (Gone Sa (G.take k) E) ∧ Hid (h.nn ≤ 60) ∧ Hid (Below base w7 wr)) (fun iv _ => G.length - (intOf iv).toNat)
  case atStart => exact HST.out
  case round =>
    clear HST
    obtain ⟨k, h, E, hk, rfl, HI, HR, HGO, HNN, HBR⟩ := hrel
    by_cases hlt : k < G.length
    · obtain ⟨b, o, e, hat, hok⟩ := ents_at (HVG.out _ HBR.out) hlt
      subst e
      obtain ⟨hmS, hmT, hmK⟩ := take_not HAA.out HGY.out hlt
      have HDC := Lib.hid (del_gone wr.drew (HI.out.pure (Below.refl _ _).drew) HR.out HGO.out hmS hmT (HVL.out.1 _ hmS).1 hok)
      rw [← hmK] at HDC
      have HAT := Lib.hid (fun wr (h : Below base w7 wr) => (show ∀ j v, G[k].cs[j]? = some v → wr.cell? ⟨b, o + k * 4 + j, none⟩ = some v from by
        obtain ⟨b', o', e', hat', _⟩ := ents_at (HVG.out _ h) hlt
        obtain ⟨rfl, rfl⟩ : b = b' ∧ o = o' := by simpa using e'
        exact fun j v h => hat' j v h))
      clear hat hok hmS hmT hmK
      generalize G[k] = y at *
      obtain ⟨yg, y1, y2, y3⟩ := y
      have HKD := Lib.hid HBR.out.drew
      have d0 : wr.drew.cell? ⟨b, o + k * 4, none⟩ = some (.int .i64 yg) := HAT.out _ HKD.out 0 _ rfl
      have d1 : wr.drew.cell? ⟨b, o + k * 4 + 1, none⟩ = some (.string y1) := HAT.out _ HKD.out 1 _ rfl
      have d2 : wr.drew.cell? ⟨b, o + k * 4 + 2, none⟩ = some (.string y2) := HAT.out _ HKD.out 2 _ rfl
      go_wp2_with fail
      go_region_held3 (fun w' => w'.cell? ⟨b, o + k * 4, none⟩ = some (.int .i64 yg) ∧ w'.cell? ⟨b, o + k * 4 + 1, none⟩ = some (.string y1) ∧ w'.cell? ⟨b, o + k * 4 + 2, none⟩ = some (.string y2))
        (first | exact ⟨by assumption, by assumption, by assumption⟩ | go_keep)
        ((first | (go_at_call 12; refine HDC.out.mono ?_; rintro e w9 ⟨rfl, h9, E9, hI9, hR9, hG9, hn9, hb9⟩; have HB9 := Lib.hid (HKD.out.trans hb9); have d0' : w9.cell? ⟨b, o + k * 4, none⟩ = some (.int .i64 yg) := HAT.out _ HB9.out 0 _ rfl; have d1' : w9.cell? ⟨b, o + k * 4 + 1, none⟩ = some (.string y1) := HAT.out _ HB9.out 1 _ rfl; have d2' : w9.cell? ⟨b, o + k * 4 + 2, none⟩ = some (.string y2) := HAT.out _ HB9.out 2 _ rfl)))
      have HI8 := Lib.hid hI9
      have HR8 := Lib.hid hR9
      have HG8 := Lib.hid hG9
      have HN8 := Lib.hid (show h9.nn ≤ 60 by rw [hn9]; exact HNN.out)
      rename_i hHeld
      clear hHeld d0' d1' d2' d0 d1 d2 hb9 hI9 hR9 hG9 hn9 HDC HAT HKD HBR HI HR HGO HNN
      simp only [Exit.then]
      go_at_K
      go_wp2
      go_roundw
      case rel => exact ⟨k + 1, h9, E9, by omega, by go_num, HI8, HR8, HG8, HN8, HB9⟩
      case measure => simp [intOf]; omega
    · obtain rfl : k = G.length := by omega
      rw [List.take_length] at HGO
      have HE0 := HGO
      have hE0 : E.length ≤ 60 := Nat.le_trans HGO.out.len hsal
      rename World => Z
      have HST := Lib.hid (show ∃ (k : Nat) (h : HS) (E1 : List Ent), k ≤ P.length ∧ Value.int .i64 0 = .int .i64 k ∧ Hid (HeapInv Z base p h) ∧ Hid (Rel h.view ⟨128, 1, E1, []⟩) ∧ Hid (Puts E (P.take k) E1) ∧ Hid (h.nn ≤ 60 + k) ∧ Hid (Below base w7 Z) from
        ⟨0, h, E, Nat.zero_le _, rfl, HI, HR, Lib.hid (Puts.start HGO.out.asc), HNN, HBR⟩)
      clear HI HR HGO HNN HBR hk hlt
      go_wp2_with fail
      go_loopw [14] (fun iv wr => ∃ (k : Nat) (h : HS) (E1 : List Ent), k ≤ P.length ∧ iv = .int .i64 k ∧ Hid (HeapInv wr base p h) ∧ Hid (Rel h.view ⟨128, 1, E1, []⟩) ∧ Hid (Puts E (P.take k) E1) ∧ Hid (h.nn ≤ 60 + k) ∧ Hid (Below base w7 wr)) (fun iv _ => P.length - (intOf iv).toNat)
      case atStart => exact HST.out
      case round =>
        clear HST
        obtain ⟨k, h, E1, hk, rfl, HI, HR, HGO, HNN, HBR⟩ := hrel
        by_cases hlt : k < P.length
        · obtain ⟨b, o, e, hat, hok⟩ := ents_at (HVP.out _ HBR.out) hlt
          subst e
          obtain ⟨hmS, hmT, hmK⟩ := take_not HAB.out HPX.out hlt
          have HDC := Lib.hid (put_new wr.drew (HI.out.pure (Below.refl _ _).drew) HR.out HGO.out (by rw [List.length_take]; omega) hmT (HVL.out.2 _ hmS).1 hok (by have := HNN.out; omega))
          rw [← hmK] at HDC
          have HAT := Lib.hid (fun wr (h : Below base w7 wr) => (show ∀ j v, P[k].cs[j]? = some v → wr.cell? ⟨b, o + k * 4 + j, none⟩ = some v from by
            obtain ⟨b', o', e', hat', _⟩ := ents_at (HVP.out _ h) hlt
            obtain ⟨rfl, rfl⟩ : b = b' ∧ o = o' := by simpa using e'
            exact fun j v h => hat' j v h))
          clear hat hok hmS hmT hmK
          generalize P[k] = y at *
          obtain ⟨yg, y1, y2, y3⟩ := y
          have HKD := Lib.hid HBR.out.drew
          have d0 : wr.drew.cell? ⟨b, o + k * 4, none⟩ = some (.int .i64 yg) := HAT.out _ HKD.out 0 _ rfl
          have d1 : wr.drew.cell? ⟨b, o + k * 4 + 1, none⟩ = some (.string y1) := HAT.out _ HKD.out 1 _ rfl
          have d2 : wr.drew.cell? ⟨b, o + k * 4 + 2, none⟩ = some (.string y2) := HAT.out _ HKD.out 2 _ rfl
          have d3 : wr.drew.cell? ⟨b, o + k * 4 + 3, none⟩ = some (.string y3) := HAT.out _ HKD.out 3 _ rfl
          go_wp2_with fail
          go_region_held3 (fun w' => w'.cell? ⟨b, o + k * 4, none⟩ = some (.int .i64 yg) ∧ w'.cell? ⟨b, o + k * 4 + 1, none⟩ = some (.string y1) ∧ w'.cell? ⟨b, o + k * 4 + 2, none⟩ = some (.string y2) ∧ w'.cell? ⟨b, o + k * 4 + 3, none⟩ = some (.string y3))
            (first | exact ⟨by assumption, by assumption, by assumption, by assumption⟩ | go_keep)
            ((first | (go_at_call 13; refine HDC.out.mono ?_; rintro e w9 ⟨rfl, h9, E9, hI9, hR9, hG9, hn9, hb9⟩; have HB9 := Lib.hid (HKD.out.trans hb9); have d0' : w9.cell? ⟨b, o + k * 4, none⟩ = some (.int .i64 yg) := HAT.out _ HB9.out 0 _ rfl; have d1' : w9.cell? ⟨b, o + k * 4 + 1, none⟩ = some (.string y1) := HAT.out _ HB9.out 1 _ rfl; have d2' : w9.cell? ⟨b, o + k * 4 + 2, none⟩ = some (.string y2) := HAT.out _ HB9.out 2 _ rfl; have d3' : w9.cell? ⟨b, o + k * 4 + 3, none⟩ = some (.string y3) := HAT.out _ HB9.out 3 _ rfl)))
          have HI8 := Lib.hid hI9
          have HR8 := Lib.hid hR9
          have HG8 := Lib.hid hG9
          have HN8 := Lib.hid (show h9.nn ≤ 60 + (k + 1) by have := HNN.out; omega)
          rename_i hHeld
          clear hHeld d0' d1' d2' d3' d0 d1 d2 d3 hb9 hI9 hR9 hG9 hn9 HDC HAT HKD HBR HI HR HGO HNN
          simp only [Exit.then]
          go_at_K
          go_wp2
          go_roundw
          case rel => exact ⟨k + 1, h9, E9, by omega, by go_num, HI8, HR8, HG8, HN8, HB9⟩
          case measure => simp [intOf]; omega
        · obtain rfl : k = P.length := by omega
          rw [List.take_length] at HGO
          have hEB : E1 = Sb := ends_b HSA.out HND.out HSB.out HAB.out (by rw [← HGY.out]; exact HE0.out) (by rw [← HPX.out]; exact HGO.out)
          subst hEB
          have HALL := Lib.hid (show Calls Tryz.prog 14 #[.pointer (some ⟨p, 0, none⟩)] wr (fun e w' => ∃ a6 k6, e = .returned (.slice a6 E1.length k6) ∧ tEnts.rv (mem w') [.slice a6 E1.length k6] E1 ∧ Below wr.heap.size wr w') from
            (all_any wr HI.out (by rw [view_len rfl]; have := HR.out.hN; simp only at this; omega) (by have := HNN.out; omega)).mono fun e w' ⟨u, es, he, ha, ho, hb'⟩ => by
              obtain rfl : es = E1 := (AllOf.es ha).one HR.out.es
              obtain ⟨a6, k6, rfl, _⟩ := ho.len
              exact ⟨a6, k6, he, ho.rv', hb'⟩)
          have HB8 := Lib.hid (HWB.out _ HBR.out)
          have HSO := Lib.hid (fun (wr : World) (hb : Below w.heap.size w wr) => (show Calls Tryz.prog 15 #[.slice ab lb.length kb] wr (fun e w' => ∃ a6 k6, e = .returned (.slice a6 E1.length k6) ∧ tEnts.rv (mem w') [.slice a6 E1.length k6] E1 ∧ Below wr.heap.size wr w') from
            (sortEnts_any lb _ wr (HVB.out _ hb) (by omega)).mono fun e w' ⟨x, S, he, hr, hp, hpw, hb'⟩ => by
              obtain rfl : S = E1 := sorted_same (hp.trans HSB.out.symm) hpw HAB.out
              obtain ⟨a6, k6, rfl, -, -, -⟩ := slice_form hr
              exact ⟨a6, k6, he, tEnts.mono _ _ _ _ (Mem.on_le _ _) hr, hb'⟩))
          clear HI HR HGO HNN HBR HE0 HVP HVG HVA HVB HSA HSB HAA HAB HPX HGY HVL HND HWB
          go_wp2_with fail
          refine HALL.out.mono ?_
          rintro e w9 ⟨a6, k6, rfl, hr, hb⟩
          have HB9 := Lib.hid (pure_trans HB8.out hb)
          have HR9 := Lib.hid hr
          clear hb hr HALL HB8
          go_wp2_with fail
          refine (HSO.out _ HB9.out).mono ?_
          rintro e w10 ⟨a7, k7, rfl, hr, hb⟩
          have HB10 := Lib.hid (pure_trans HB9.out hb)
          have HSE := Lib.hid (sameEnts_any E1 _ _ w10 (tEnts.mono _ _ _ _ (below_mem hb) HR9.out) hr)
          clear hb hr HSO HB9 HR9
          go_wp2_with fail
          refine HSE.out.mono ?_
          rintro e w11 ⟨rfl, hb⟩
          have HB11 := Lib.hid (pure_trans HB10.out hb)
          clear hb HSE HB10
          go_wp2
          go_ret
          exact ⟨rfl, HB11.out⟩
end Go.Proofs.YtbmpoecmjmmngaaGreat
namespace Go.Proofs.YtbmpoecmjmmngaaGreat.lawHeapDiffers
open Go.ChangeShapes Go.WideShapes Go.ChangeAt Go.RowKit
set_option maxRecDepth 100000 in
theorem lifted (os : Os) (started : os.Started) (H : Type) (enc : TypeId × Value → H) :
    ReturnsInHanded {} Tryz.checked os 3 .any (Rows.heapDiffersSpec.pre6 enc Tryz.prog Tryz.f3 Rows.heapDiffersRow.domain false) (Rows.heapDiffersSpec.post enc Tryz.prog Tryz.f3 false true false false) := by
  refine returnsInHanded_of_change (C := Tryz.checked) Tryz.own started (by kernel_rfl) Tryz.func3
    (ChangeSpec.witness6 (enc := enc) (C := Tryz.checked) false ⟨#[], #[.slice none 0 0, .slice none 0 0], []⟩ 8 (by kernel_rfl) (by kernel_rfl) (by kernel_rfl) (by kernel_rfl)) ?_
  intro W base args ds gs before hval0 hW hcnd _
  have hval : ∀ (j : Nat) t v, Tryz.f3.params[j]? = some t → args[j]? = some v → Value.okWide Tryz.prog W .any base t v := hval0
  have hW' := hW
  obtain ⟨p, q, hA0, hV, rfl, hfz, hnd⟩ := hW
  have hA : DataW.TrodAll enc Tryz.prog W 0 (fun _ => true) true Tryz.f3.params.toList args.toList ds p := hA0
  rw [Tryz.params3] at hA hval
  obtain ⟨v0, vs0, d0, ds0, p0, q0, hargs, rfl, rfl, h0, r0⟩ := trodAll_cons hA
  obtain ⟨v1, vs1, d1, ds1, p1, q1, rfl, rfl, rfl, h1, r1⟩ := trodAll_cons r0
  obtain ⟨rfl, rfl, rfl⟩ := trodAll_nil r1
  obtain rfl : args = #[v0, v1] := by cases args; simp_all
  obtain ⟨rfl, rfl⟩ := trodVars_none hV
  obtain ⟨x0, w0⟩ := arg_slice (t := tEnt) reads_ents Tryz.underlying22 (hval 0 22 v0 rfl rfl) h0
  obtain ⟨x1, w1⟩ := arg_slice (t := tEnt) reads_ents Tryz.underlying22 (hval 1 22 v1 rfl rfl) h1
  clear hA0 hval0
  refine (heapDiffers_any x0 v0 x1 v1 W w0 w1).mono fun e W' ⟨he, bel⟩ => ?_
  subst he
  exact ⟨_, rfl, law_post Tryz.laidOut rfl (by rw [Tryz.params3]; intro t ht; have hs : Tryz.prog.types.size = Tryz.prog.types.size := rfl; simp only [List.mem_cons, List.not_mem_nil, or_false] at ht; rcases ht with rfl | rfl <;> exact ⟨by kernel_rfl, of_decide_eq_true (by kernel_rfl)⟩) (by kernel_rfl) Tryz.underlying4 rfl rfl rfl hW' bel⟩

theorem proved : Rows.HeapDiffersSaid :=
  OpenClaim.holds_of_wide 3 Tryz.f3 rfl rfl rfl rfl rfl rfl rfl ⟨rfl, rfl, rfl, rfl, rfl⟩ rfl rfl rfl rfl rfl (by kernel_rfl) Tryz.func3 (by kernel_rfl)
    (of_decide_eq_true (by kernel_rfl)) (by unfold Func.isWrapper; first | (rw [if_pos (by decide +kernel)]; kernel_rfl) | (rw [if_neg (by decide +kernel)]; exact ⟨rfl, rfl⟩))
    (fun os started H enc _ => lifted os started H enc)
#print axioms proved
end Go.Proofs.YtbmpoecmjmmngaaGreat.lawHeapDiffers
