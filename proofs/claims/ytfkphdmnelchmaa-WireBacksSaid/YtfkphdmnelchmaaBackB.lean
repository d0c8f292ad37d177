/- Reference chapter 12's Sorted (insertion sort). -/
import Derived.Test.YtfkphdmnelchmaaBackA
namespace Go.Proofs.Ytfkphdmnelchmaa
open Go.RowKit

/-- A block's numbers. -/
structure Ints (W : World) (g o : Nat) (ys : List Int) : Prop where
  cell : ∀ k (h : k < ys.length), W.cell? ⟨g, o + k, none⟩ = some (.int .i64 ys[k])
  free : ∀ k, k < ys.length → W.frozen? ⟨g, o + k, none⟩ = false
  inn : ∀ y ∈ ys, inI64 y
theorem Ints.set {W : World} {g o : Nat} {ys : List Int} (h : Ints W g o ys) {k : Nat} (hk : k < ys.length) {y : Int} (hy : inI64 y) : Ints (W.setCell ⟨g, o + k, none⟩ (.int .i64 y)) g o (ys.set k y) := by
  refine ⟨fun j hj0 => ?_, fun j hj => ?_, fun z hz => ?_⟩
  · have hj : j < ys.length := by simpa using hj0
    by_cases e : j = k
    · subst e
      rw [World.cell?_setCell_same _ _ _ (h.cell j hj)]
      simp
    · rw [show (W.setCell ⟨g, o + k, none⟩ (.int .i64 y)).cell? ⟨g, o + j, none⟩ = W.cell? ⟨g, o + j, none⟩ from World.cell?_setCell_other _ _ _ _ (by intro e; injection e with e1 e2 e3; omega), h.cell j hj]
      simp [List.getElem_set, Ne.symm e]
  · simp only [List.length_set] at hj
    rw [World.frozen?_setCell]
    exact h.free j hj
  · rcases List.mem_or_eq_of_mem_set hz with e | e
    · exact h.inn z e
    · rw [e]; exact hy
theorem Ints.drewN {W : World} {g o : Nat} {ys : List Int} (h : Ints W g o ys) (n : Nat) : Ints (W.drewN n) g o ys := ⟨h.cell, h.free, h.inn⟩
theorem Ints.drew {W : World} {g o : Nat} {ys : List Int} (h : Ints W g o ys) : Ints W.drew g o ys := ⟨h.cell, h.free, h.inn⟩

def swapAt (ys : List Int) (j : Nat) : List Int := (ys.set j (ys.getD (j + 1) 0)).set (j + 1) (ys.getD j 0)
theorem swapAt_len (ys : List Int) (j : Nat) : (swapAt ys j).length = ys.length := by simp [swapAt]
theorem swapAt_perm {ys : List Int} {j : Nat} (h : j + 1 < ys.length) : (swapAt ys j).Perm ys := by
  have := List.set_set_perm (i := j) (j := j + 1) (show j < ys.length by omega) h
  unfold swapAt
  rw [show ys.getD (j + 1) 0 = ys[j + 1] by simp [List.getD, h], show ys.getD j 0 = ys[j] by simp [List.getD, show j < ys.length by omega]]
  exact this
theorem swapAt_get {ys : List Int} {j : Nat} (h : j + 1 < ys.length) (k : Nat) : (swapAt ys j).getD k 0 = if k = j then ys.getD (j + 1) 0 else if k = j + 1 then ys.getD j 0 else ys.getD k 0 := by
  unfold swapAt
  simp only [List.getD_eq_getElem?_getD, List.getElem?_set]
  by_cases h1 : k = j + 1
  · subst h1; simp [h]
  · by_cases h2 : k = j
    · subst h2; simp [show ¬ k + 1 = k by omega]; simp [show k < ys.length by omega]
    · simp [Ne.symm h1, Ne.symm h2, h1, h2]
/-- In order up to i, but for the place j. -/
def SortedBut (ys : List Int) (i j : Nat) : Prop := ∀ a b, a < b → b ≤ i → b ≠ j → ys.getD a 0 ≤ ys.getD b 0
def SortedTo (ys : List Int) (k : Nat) : Prop := ∀ a b, a < b → b < k → ys.getD a 0 ≤ ys.getD b 0
theorem SortedTo.but {ys : List Int} {k : Nat} (h : SortedTo ys k) : SortedBut ys k k := fun a b h1 h2 h3 => h a b h1 (by omega)
theorem SortedBut.swap {ys : List Int} {i j : Nat} (h : SortedBut ys i (j + 1)) (hj : j + 1 ≤ i) (hi : i < ys.length) (hlt : ys.getD (j + 1) 0 < ys.getD j 0) : SortedBut (swapAt ys j) i j := fun a b h1 h2 h3 => by
  rw [swapAt_get (by omega), swapAt_get (by omega), if_neg h3]
  by_cases hb : b = j + 1
  · rw [if_pos hb]
    by_cases ha : a = j
    · rw [if_pos ha]; omega
    · rw [if_neg ha, if_neg (by omega)]
      exact h a j (by omega) (by omega) (by omega)
  · rw [if_neg hb]
    by_cases ha : a = j
    · rw [if_pos ha]; exact h (j + 1) b (by omega) h2 hb
    · rw [if_neg ha]
      by_cases ha2 : a = j + 1
      · rw [if_pos ha2]; exact h j b (by omega) h2 hb
      · rw [if_neg ha2]; exact h a b h1 h2 hb
theorem SortedBut.done {ys : List Int} {i j : Nat} (h : SortedBut ys i (j + 1)) (hj : j + 1 ≤ i) (hle : ys.getD j 0 ≤ ys.getD (j + 1) 0) : SortedTo ys (i + 1) := fun a b h1 h2 => by
  by_cases hb : b = j + 1
  · subst hb
    by_cases ha : a = j
    · subst ha; exact hle
    · exact Int.le_trans (h a j (by omega) (by omega) (by omega)) hle
  · exact h a b h1 (by omega) hb
theorem SortedBut.zero {ys : List Int} {i : Nat} (h : SortedBut ys i 0) : SortedTo ys (i + 1) := fun a b h1 h2 => h a b h1 (by omega) (by omega)
theorem SortedTo.pairwise {ys : List Int} {k : Nat} (h : SortedTo ys k) (hk : ys.length ≤ k) : ys.Pairwise (· ≤ ·) := by
  refine List.pairwise_iff_getElem.2 fun a b ha hb hab => ?_
  have := h a b hab (by omega)
  simpa [List.getD, ha, hb] using this

theorem tInt_one : ∀ m cs x, tInt.rv m cs x → ∀ u ∈ cs, u.oneCell' = true := fun m cs x h u hu => by
  rw [h.1] at hu; simp at hu; subst hu; rfl
theorem Try.infoInt : (Try.prog.info? 3).map (fun i => (i.zero, i.size, i.bytes)) = some (some (.int .i64 0), 1, 8) := by kernel_rfl
/-- The numbers of a row of the call's own, at some place. -/
theorem Owns.ints {w : World} {B : Nat} {v : Value} {xs : List Int} (h : Owns tInt w B 3 v xs) : (xs = [] ∧ ∃ a c, v = .slice a 0 c) ∨ ∃ g o c, v = .slice (some ⟨g, o, none⟩) xs.length c ∧ xs.length ≤ c ∧ c ≤ maxLen ∧ B ≤ g ∧ g < w.heap.size ∧ Ints w g o xs := by
  have hrv := h.rv'
  obtain ⟨css, _, ⟨_, h3⟩, _, _⟩ := h
  rcases h3 with ⟨rfl, h6⟩ | ⟨g, cap, cur, rfl, hg, hh, hn, hm, hc, ht⟩
  · exact .inl ⟨List.eq_nil_of_length_eq_zero h6, _, _, rfl⟩
  · have hat : ∀ k (hk : k < xs.length), tInt.at (mem w) g (0 + k * 1) xs[k] := fun k hk => by
      obtain ⟨b, o, e, hat⟩ := slice_at hrv hk
      simp only [Option.some.injEq, Addr.mk.injEq] at e
      obtain ⟨rfl, rfl, _⟩ := e
      exact hat
    refine .inr ⟨g, 0, cap, rfl, hn, hm, hg, (Array.getElem?_eq_some_iff.1 hh).1, fun k hk => ?_, fun k hk => frozen_cells hh _, fun y hy => ?_⟩
    · have := (int_at (hat k hk)).1
      simpa [mem] using this
    · obtain ⟨k, hk, rfl⟩ := List.mem_iff_getElem.1 hy
      exact (int_at (hat k hk)).2
theorem Ints.rv {w : World} {g o c : Nat} {ys : List Int} (h : Ints w g o ys) (h1 : ys.length ≤ c) (h2 : c ≤ maxLen) : (tSlice tInt).rv (mem w) [.slice (some ⟨g, o, none⟩) ys.length c] ys :=
  ⟨some ⟨g, o, none⟩, c, rfl, h1, h2, fun _ => ⟨g, o, rfl, fun k hk => ⟨[.int .i64 ys[k]], fun j u hu => by
    match j, hu with
    | 0, hu =>
      simp at hu; subst hu
      have := h.cell k hk
      simpa [mem, tInt] using this, rfl, h.inn _ (List.getElem_mem hk)⟩⟩⟩

set_option maxRecDepth 100000 in
set_option maxHeartbeats 2000000 in
theorem sorted12_any (xs : List Int) (v : Value) (w : World) (hv : (tSlice tInt).rv (mem w) [v] xs) (h8 : xs.length ≤ 1000000) :
    Calls Try.prog 45 #[v] w fun e w' => ∃ x S, e = .returned x ∧ (tSlice tInt).rv (mem w') [x] S ∧ InOrder xs S ∧ Below w.heap.size w w' := by
  have hb0 : ∀ o, Below w.heap.size w (w.alloc o) := fun o => (Below.refl _ _).alloc (Nat.le_refl _) o
  have hown : ∀ T, T = 3 → Owns tInt (w.alloc (.cells #[] T)) w.heap.size 3 (.slice (some ⟨w.heap.size, 0, none⟩) 0 0) [] := fun T hT => by
    subst hT
    exact ⟨[], rfl, World.ownsRow_lit w #[] 0 (Nat.le_refl _) (Nat.zero_le _) (by simp), fun c h => absurd h (by simp), fun k h => absurd h (by simp)⟩
  obtain ⟨a1, cap1, rfl, hl1, hm1, hv⟩ := slice_form hv
  have HV := Lib.hid (fun o => ((tSlice tInt).mono _ _ _ _ (below_mem (hb0 o)) hv : (tSlice tInt).rv (mem (w.alloc o)) _ xs))
  clear hm1 hv
  go_enter Try.func45, Try.ntmps45
  go_wp2_with (at_builtin; refine wpList_append_flat rfl _ _ 25 rfl tInt_flat tInt_one Try.underlying25 Try.infoInt rfl (by decide) w.heap.size _ [] xs rfl (hown _ rfl) _ _ _ rfl rfl (HV.out _) ?c1 ?c2 ?c3 ?_)
  case c1 => simp; unfold maxLen; omega
  case c2 => simp; omega
  case c3 => simp
  intro v' w2 hown' hgrow
  have hB : Below w.heap.size w w2 := (hb0 _).grown hgrow (by simp) (fun k hk => by simp [Value.ownBlock] at hk; omega)
  clear hown hgrow HV
  rcases hown'.ints with ⟨rfl, a, c, rfl⟩ | ⟨g, o, c, rfl, hlc, hcm, hg, hgw, hints⟩
  · have HR := Lib.hid (show (tSlice tInt).rv (mem w2) [.slice a 0 c] [] from hown'.rv')
    clear hown'
    go_wp2
    go_loopw [4] (fun i wr => i = .int .i64 1 ∧ wr = w2) (fun _ _ => 0)
    case atStart => exact ⟨rfl, rfl⟩
    case round =>
      obtain ⟨rfl, rfl⟩ := hrel
      go_wp2
      go_ret
      exact ⟨_, [], rfl, HR.out, ⟨List.Perm.refl _, List.Pairwise.nil⟩, hB⟩
  · clear hown'
    have hcm2 : c ≤ 9223372036854775807 := by unfold maxLen at hcm; exact hcm
    have HM := Lib.hid hcm
    clear hcm
    go_wp2
    go_loopw [4] (fun i wr => ∃ k : Nat, 1 ≤ k ∧ (k ≤ xs.length ∨ k = 1) ∧ i = .int .i64 k ∧ ∃ ys, Hid (Ints wr g o ys) ∧ ys.length = xs.length ∧ Hid (ys.Perm xs) ∧ Hid (SortedTo ys k) ∧ Below w.heap.size w wr) (fun i _ => xs.length - (intOf i).toNat)
    case atStart => exact ⟨1, by omega, .inr rfl, rfl, xs, Lib.hid hints, rfl, Lib.hid (List.Perm.refl _), Lib.hid (fun a b h1 h2 => by omega), hB⟩
    case round =>
      clear hints hB
      obtain ⟨k, hk1, hk, rfl, ys, HI, hly, HP, HS, hB⟩ := hrel
      by_cases hlt : k < xs.length
      · have hw2 := hB.size
        go_wp2
        go_loopw [5] (fun i wx => ∃ j : Nat, j ≤ k ∧ i = .int .i64 j ∧ ∃ zs, Hid (Ints wx g o zs) ∧ zs.length = xs.length ∧ Hid (zs.Perm xs) ∧ Hid (SortedBut zs k j) ∧ Below w.heap.size w wx) (fun i _ => (intOf i).toNat)
        case atStart => exact ⟨k, by omega, rfl, ys, HI, hly, HP, Lib.hid HS.out.but, hB⟩
        case round =>
          clear HI HP HS hB hw2 hly
          obtain ⟨j, hj, rfl, zs, HI, hlz, HP, HS, hB⟩ := hrel
          have hw2 := hB.size
          cases j with
          | zero =>
            go_wp2
            go_region
            go_wp2
            go_roundw
            case rel => exact ⟨k + 1, by omega, .inl (by omega), by go_num, zs, Lib.hid (HI.out.drew), hlz, HP, Lib.hid HS.out.zero, hB.drew⟩
            case measure => simp [intOf]; omega
          | succ j =>
            have d1 : wr.cell? ⟨g, o + j, none⟩ = some (.int .i64 (zs.getD j 0)) := by rw [HI.out.cell j (by omega)]; simp [List.getD, show j < zs.length by omega]
            have d2 : wr.cell? ⟨g, o + (j + 1), none⟩ = some (.int .i64 (zs.getD (j + 1) 0)) := by rw [HI.out.cell (j + 1) (by omega)]; simp [List.getD, show j + 1 < zs.length by omega]
            have f1 : wr.frozen? ⟨g, o + j, none⟩ = false := HI.out.free j (by omega)
            have f2 : wr.frozen? ⟨g, o + (j + 1), none⟩ = false := HI.out.free (j + 1) (by omega)
            have i1 : inI64 (zs.getD j 0) := HI.out.inn _ (by simp [List.getD, show j < zs.length by omega])
            have i2 : inI64 (zs.getD (j + 1) 0) := HI.out.inn _ (by simp [List.getD, show j + 1 < zs.length by omega])
            have HW := Lib.hid (show Ints (((wr.drew).drew.setCell ⟨g, o + j, none⟩ (.int .i64 (zs.getD (j + 1) 0))).setCell ⟨g, o + (j + 1), none⟩ (.int .i64 (zs.getD j 0))) g o (swapAt zs j) from (HI.out.drew.drew.set (by omega) i2).set (by simp; omega) i1)
            have HSW := Lib.hid (fun h => HS.out.swap (by omega) (by omega) h)
            have HDN := Lib.hid (fun h => HS.out.done (by omega) h)
            by_cases hcmp : zs.getD (j + 1) 0 < zs.getD j 0
            · generalize zs.getD j 0 = p at *
              generalize zs.getD (j + 1) 0 = q at *
              have hsub : ((j + 1 : Nat) : Int) - 1 = (j : Int) := by omega
              have HC := Lib.hid hcmp
              go_wp2
              go_region
              go_wp2
              go_region
              go_wp2
              go_roundw
              case rel => exact ⟨j, by omega, by go_num, swapAt zs j, HW, by rw [swapAt_len]; exact hlz, Lib.hid ((swapAt_perm (by omega)).trans HP.out), Lib.hid (HSW.out HC.out), Keeps.belowStep (hB.drew.drew) (((Keeps.refl (fun k => k = g) _).setCell (fun _ => rfl) _).setCell (fun _ => rfl) _) (fun k hk => by omega) hB.drew.drew.size⟩
              case measure => simp [intOf]
            · generalize zs.getD j 0 = p at *
              generalize zs.getD (j + 1) 0 = q at *
              have hcmp2 : p ≤ q := by omega
              have hsub : ((j + 1 : Nat) : Int) - 1 = (j : Int) := by omega
              have HC := Lib.hid hcmp2
              go_wp2
              go_region
              go_wp2
              go_roundw
              case rel => exact ⟨k + 1, by omega, .inl (by omega), by go_num, zs, Lib.hid (HI.out.drew), hlz, HP, Lib.hid (HDN.out HC.out), hB.drew⟩
              case measure => simp [intOf]; omega
      · have HR := Lib.hid (show (tSlice tInt).rv (mem wr) [.slice (some ⟨g, o, none⟩) xs.length c] ys from by have := HI.out.rv (c := c) (by omega) HM.out; rw [hly] at this; exact this)
        go_wp2
        go_ret
        exact ⟨_, ys, rfl, HR.out, ⟨HP.out, HS.out.pairwise (by omega)⟩, hB⟩
end Go.Proofs.Ytfkphdmnelchmaa
