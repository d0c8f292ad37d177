/- Part 6 of the texts that the law's proof stands on, merged. -/
import Derived.Deep.RegionHeld3
import Derived.Shelf.SlSortCmp.NoneTotal
import Derived.Deep.RegionLaw
import Derived.Test.YtnfolemblnnejaaVd05
set_option linter.unusedVariables false
set_option linter.unusedSimpArgs false
/- Entries compared: the reference's CompareEntries, share.CompareEntries (printed by gen_vsort.py out of chapter 13's texts). -/
namespace Go.Proofs.Ytnfolemblnnejaa
open Go.RowKit Go.Maps Go.Sort

theorem cmpInt_zero {a b : Int} : cmpInt a b = 0 ↔ a = b := by
  unfold cmpInt
  by_cases h : a < b
  · simp [h]; omega
  · by_cases h2 : b < a
    · simp [h, h2]; omega
    · simp [h, h2]; omega

def entC : Ent → Ent → Int := lex (fun a b => cmpInt a.g b.g) (lex (fun a b => cmpBytes a.nm.toList b.nm.toList) (lex (fun a b => cmpBytes a.key.toList b.key.toList) (fun a b => cmpBytes a.val.toList b.val.toList)))
theorem lex_assoc {α : Type} (c1 c2 c3 : α → α → Int) (a b : α) : lex c1 (lex c2 c3) a b = lex (lex c1 c2) c3 a b := by
  unfold lex
  by_cases h1 : c1 a b = 0 <;> by_cases h2 : c2 a b = 0 <;> simp [h1, h2]
def placeC : Ent → Ent → Int := lex (fun a b => cmpInt a.g b.g) (lex (fun a b => cmpBytes a.nm.toList b.nm.toList) (fun a b => cmpBytes a.key.toList b.key.toList))
/-- What is left of the comparison behind k rounds. -/
def RestC (k : Nat) (v : Int) (x1 y1 x2 y2 x3 y3 : ByteArray) : Prop :=
  match k with
  | 0 => v = if cmpBytes x1.toList y1.toList ≠ 0 then cmpBytes x1.toList y1.toList else if cmpBytes x2.toList y2.toList ≠ 0 then cmpBytes x2.toList y2.toList else cmpBytes x3.toList y3.toList
  | 1 => v = if cmpBytes x2.toList y2.toList ≠ 0 then cmpBytes x2.toList y2.toList else cmpBytes x3.toList y3.toList
  | 2 => v = cmpBytes x3.toList y3.toList
  | _ => v = 0
section
variable {c : Int} {x1 y1 x2 y2 x3 y3 : ByteArray}
theorem RestC.next0 (h : RestC 0 c x1 y1 x2 y2 x3 y3) (e : cmpBytes x1.toList y1.toList = 0) : RestC 1 c x1 y1 x2 y2 x3 y3 := by
  have h : c = _ := h
  rw [if_neg (by simp [e])] at h
  exact h
theorem RestC.end0 (h : RestC 0 c x1 y1 x2 y2 x3 y3) (e : cmpBytes x1.toList y1.toList ≠ 0) : c = cmpBytes x1.toList y1.toList := by
  unfold RestC at h
  rw [h, if_pos e]
theorem RestC.next1 (h : RestC 1 c x1 y1 x2 y2 x3 y3) (e : cmpBytes x2.toList y2.toList = 0) : RestC 2 c x1 y1 x2 y2 x3 y3 := by
  have h : c = _ := h
  rw [if_neg (by simp [e])] at h
  exact h
theorem RestC.end1 (h : RestC 1 c x1 y1 x2 y2 x3 y3) (e : cmpBytes x2.toList y2.toList ≠ 0) : c = cmpBytes x2.toList y2.toList := by
  unfold RestC at h
  rw [h, if_pos e]
theorem RestC.next2 (h : RestC 2 c x1 y1 x2 y2 x3 y3) (e : cmpBytes x3.toList y3.toList = 0) : RestC 3 c x1 y1 x2 y2 x3 y3 := by
  have h : c = _ := h
  rw [e] at h
  exact h
theorem RestC.end2 (h : RestC 2 c x1 y1 x2 y2 x3 y3) (_ : cmpBytes x3.toList y3.toList ≠ 0) : c = cmpBytes x3.toList y3.toList := h
end
set_option maxRecDepth 100000 in
set_option maxHeartbeats 8000000 in
theorem refCmp_any (x y : Ent) (w : World) :
    Calls Try.prog 53 #[x.v, y.v] w fun e w' => e = .returned (.int .i64 (entC x y)) ∧ Below w.heap.size w w' := by
  obtain ⟨xg, x1, x2, x3⟩ := x
  obtain ⟨yg, y1, y2, y3⟩ := y
  have HV := Lib.hid (show entC ⟨xg, x1, x2, x3⟩ ⟨yg, y1, y2, y3⟩ = if cmpInt xg yg ≠ 0 then cmpInt xg yg else if cmpBytes x1.toList y1.toList ≠ 0 then cmpBytes x1.toList y1.toList else if cmpBytes x2.toList y2.toList ≠ 0 then cmpBytes x2.toList y2.toList else cmpBytes x3.toList y3.toList from rfl)
  generalize entC ⟨xg, x1, x2, x3⟩ ⟨yg, y1, y2, y3⟩ = v at *
  have HB := Lib.hid (fun o1 o2 => (show Below w.heap.size w ((w.alloc o1).alloc o2) from ((Below.refl _ _).alloc (Nat.le_refl _) _).alloc (by simp) _))
  by_cases hg : xg = yg
  case neg =>
    have hb : (xg == yg) = false := by simp [hg]
    by_cases hl : xg < yg
    · have HR := Lib.hid (show v = -1 by rw [HV.out]; have : cmpInt xg yg = -1 := by { unfold cmpInt; rw [if_pos hl] }; rw [this]; rfl)
      clear HV
      go_enter Try.func53, Try.ntmps53
      go_wp2
      go_ret
      exact ⟨by rw [HR.out] <;> rfl, HB.out _ _⟩
    · have HR := Lib.hid (show v = 1 by rw [HV.out]; have : cmpInt xg yg = 1 := by { unfold cmpInt; rw [if_neg hl, if_pos (by omega)] }; rw [this]; rfl)
      clear HV
      go_enter Try.func53, Try.ntmps53
      go_wp2
      go_ret
      exact ⟨by rw [HR.out] <;> rfl, HB.out _ _⟩
  subst hg
  have HV1 := Lib.hid (show v = if cmpBytes x1.toList y1.toList ≠ 0 then cmpBytes x1.toList y1.toList else if cmpBytes x2.toList y2.toList ≠ 0 then cmpBytes x2.toList y2.toList else cmpBytes x3.toList y3.toList by rw [HV.out, if_neg (by simp [cmpInt_zero.2 rfl])])
  have hb : (xg == xg) = true := by simp
  clear HV
  go_enter Try.func53, Try.ntmps53
  go_wp2_with fail
  generalize hW : ((w.alloc (.cells #[.int .i64 xg, .string x1, .string x2, .string x3] 53)).alloc (.cells #[.int .i64 xg, .string y1, .string y2, .string y3] 53)) = W
  have hB : Below w.heap.size w W := by rw [← hW]; exact HB.out _ _
  have hb0 : W.heap[w.heap.size]? = some (.cells #[.int .i64 xg, .string x1, .string x2, .string x3] 53 (0, 0)) := by rw [← hW]; exact (Below.heap_alloc _ _ _ (by simp)).trans (heap_alloc_new w _)
  have hb1 : W.heap[w.heap.size + 1]? = some (.cells #[.int .i64 xg, .string y1, .string y2, .string y3] 53 (0, 0)) := by
    rw [← hW]
    have := heap_alloc_new (w.alloc (.cells #[.int .i64 xg, .string x1, .string x2, .string x3] 53)) (.cells #[.int .i64 xg, .string y1, .string y2, .string y3] 53)
    rwa [World.size_alloc] at this
  clear hW HB
  have HK := Lib.hid (fun (w' : World) (h : Below W.heap.size W w') => (show w'.cell? ⟨w.heap.size, 1, none⟩ = some (.string x1) ∧ w'.cell? ⟨w.heap.size, 2, none⟩ = some (.string x2) ∧ w'.cell? ⟨w.heap.size, 3, none⟩ = some (.string x3) ∧ w'.cell? ⟨w.heap.size + 1, 1, none⟩ = some (.string y1) ∧ w'.cell? ⟨w.heap.size + 1, 2, none⟩ = some (.string y2) ∧ w'.cell? ⟨w.heap.size + 1, 3, none⟩ = some (.string y3) from
    ⟨below_mem h _ _ _ (mem_cells hb0 1), below_mem h _ _ _ (mem_cells hb0 2), below_mem h _ _ _ (mem_cells hb0 3), below_mem h _ _ _ (mem_cells hb1 1), below_mem h _ _ _ (mem_cells hb1 2), below_mem h _ _ _ (mem_cells hb1 3)⟩))
  clear hb0 hb1
  go_region_held3 (fun w' => w'.cell? ⟨w.heap.size, 1, none⟩ = some (.string x1) ∧ w'.cell? ⟨w.heap.size, 2, none⟩ = some (.string x2) ∧ w'.cell? ⟨w.heap.size, 3, none⟩ = some (.string x3) ∧ w'.cell? ⟨w.heap.size + 1, 1, none⟩ = some (.string y1) ∧ w'.cell? ⟨w.heap.size + 1, 2, none⟩ = some (.string y2) ∧ w'.cell? ⟨w.heap.size + 1, 3, none⟩ = some (.string y3))
    (exact HK.out _ (by repeat (first | exact Below.refl _ _ | refine Below.drew ?_ | refine Below.alloc ?_ (by simp) _ | refine Below.setCell ?_ (by simp) _))) (fail)
  -- the loop
  · generalize hW2 : ((W.alloc (.cells #[.string x1, .string x2, .string x3] 122)).alloc (.cells #[.string y1, .string y2, .string y3] 122)).drew = W2
    have hc0 : W2.heap[W.heap.size]? = some (.cells #[.string x1, .string x2, .string x3] 122 (0, 0)) := by rw [← hW2]; exact (Below.heap_alloc _ _ _ (by simp)).trans (heap_alloc_new W _)
    have hc1 : W2.heap[W.heap.size + 1]? = some (.cells #[.string y1, .string y2, .string y3] 122 (0, 0)) := by
      rw [← hW2]
      have := heap_alloc_new (W.alloc (.cells #[.string x1, .string x2, .string x3] 122)) (.cells #[.string y1, .string y2, .string y3] 122)
      rwa [World.size_alloc] at this
    have HB2 := Lib.hid (show Below w.heap.size w W2 by rw [← hW2]; exact ((hB.alloc hB.size _).alloc (Nat.le_trans hB.size (by simp)) _).drew)
    rename_i hHeld
    clear hHeld HK hW2 hB
    generalize W.heap.size = q at *
    have cx0 : W2.cell? ⟨q, 0, none⟩ = some (.string x1) := mem_cells hc0 0
    have cy0 : W2.cell? ⟨q + 1, 0, none⟩ = some (.string y1) := mem_cells hc1 0
    have cx1 : W2.cell? ⟨q, 1, none⟩ = some (.string x2) := mem_cells hc0 1
    have cy1 : W2.cell? ⟨q + 1, 1, none⟩ = some (.string y2) := mem_cells hc1 1
    have cx2 : W2.cell? ⟨q, 2, none⟩ = some (.string x3) := mem_cells hc0 2
    have cy2 : W2.cell? ⟨q + 1, 2, none⟩ = some (.string y3) := mem_cells hc1 2
    clear hc0 hc1
    simp only [Exit.then]
    go_at_K
    go_wp2
    go_loopw [7] (fun i wr => ∃ k : Nat, i = .int .i64 k ∧ Hid (RestC k v x1 y1 x2 y2 x3 y3) ∧ ∃ n, wr = W2.drewN n) (fun i _ => 3 - (intOf i).toNat)
    case atStart => exact ⟨0, rfl, Lib.hid HV1.out, 0, rfl⟩
    case round =>
      clear HV1
      obtain ⟨k, rfl, HC, n, rfl⟩ := hrel
      match k, HC with
      | 0, HC =>
        have HL := Lib.hid (bytesLess_cmp x1.toList y1.toList)
        have HG := Lib.hid (bytesGtr_cmp x1.toList y1.toList)
        have HRG := Lib.hid (cmpBytes_good.range x1.toList y1.toList)
        have HN := Lib.hid (fun h => RestC.next0 (c := v) (x1 := x1) (y1 := y1) (x2 := x2) (y2 := y2) (x3 := x3) (y3 := y3) HC.out h)
        have HE := Lib.hid (fun h => RestC.end0 (c := v) (x1 := x1) (y1 := y1) (x2 := x2) (y2 := y2) (x3 := x3) (y3 := y3) HC.out h)
        generalize hcc : cmpBytes x1.toList y1.toList = c at *
        clear hcc HC
        by_cases hl : c < 0
        · have hlb : Op.bytesLess x1.toList y1.toList = true := by rw [HL.out]; simp [hl]
          have HV := Lib.hid (show v = -1 from (HE.out (by omega)).trans (by have := HRG.out; omega))
          clear HL HG HRG HN HE
          go_wp2_with fail
          go_quiet (fail)
          all_goals
            go_wp2
            go_ret
            exact ⟨by rw [HV.out] <;> rfl, HB2.out.trans ⟨rfl, rfl, rfl, Nat.le_refl _, fun _ _ => rfl⟩⟩
        · have hlb : Op.bytesLess x1.toList y1.toList = false := by rw [HL.out]; simp [hl]
          by_cases hg : 0 < c
          · have heb : (x1.toList == y1.toList) = false := by have := HG.out; rw [hlb] at this; simpa [hg] using this
            have HV := Lib.hid (show v = 1 from (HE.out (by omega)).trans (by have := HRG.out; omega))
            clear HL HG HRG HN HE
            go_wp2_with fail
            go_quiet (fail)
            all_goals
              go_wp2_with fail
              go_quiet (fail)
              all_goals
                go_wp2
                go_ret
                exact ⟨by rw [HV.out] <;> rfl, HB2.out.trans ⟨rfl, rfl, rfl, Nat.le_refl _, fun _ _ => rfl⟩⟩
          · have heb : (x1.toList == y1.toList) = true := by have := HG.out; rw [hlb] at this; simpa [hg] using this
            have HN2 := Lib.hid (HN.out (by omega))
            clear HL HG HRG HN HE
            go_wp2_with fail
            go_quiet (fail)
            all_goals
              go_wp2_with fail
              go_quiet (fail)
              all_goals
                go_wp2
                exact ⟨⟨1, by go_num, HN2, _, rfl⟩, by simp [intOf]⟩
      | 1, HC =>
        have HL := Lib.hid (bytesLess_cmp x2.toList y2.toList)
        have HG := Lib.hid (bytesGtr_cmp x2.toList y2.toList)
        have HRG := Lib.hid (cmpBytes_good.range x2.toList y2.toList)
        have HN := Lib.hid (fun h => RestC.next1 (c := v) (x1 := x1) (y1 := y1) (x2 := x2) (y2 := y2) (x3 := x3) (y3 := y3) HC.out h)
        have HE := Lib.hid (fun h => RestC.end1 (c := v) (x1 := x1) (y1 := y1) (x2 := x2) (y2 := y2) (x3 := x3) (y3 := y3) HC.out h)
        generalize hcc : cmpBytes x2.toList y2.toList = c at *
        clear hcc HC
        by_cases hl : c < 0
        · have hlb : Op.bytesLess x2.toList y2.toList = true := by rw [HL.out]; simp [hl]
          have HV := Lib.hid (show v = -1 from (HE.out (by omega)).trans (by have := HRG.out; omega))
          clear HL HG HRG HN HE
          go_wp2_with fail
          go_quiet (fail)
          all_goals
            go_wp2
            go_ret
            exact ⟨by rw [HV.out] <;> rfl, HB2.out.trans ⟨rfl, rfl, rfl, Nat.le_refl _, fun _ _ => rfl⟩⟩
        · have hlb : Op.bytesLess x2.toList y2.toList = false := by rw [HL.out]; simp [hl]
          by_cases hg : 0 < c
          · have heb : (x2.toList == y2.toList) = false := by have := HG.out; rw [hlb] at this; simpa [hg] using this
            have HV := Lib.hid (show v = 1 from (HE.out (by omega)).trans (by have := HRG.out; omega))
            clear HL HG HRG HN HE
            go_wp2_with fail
            go_quiet (fail)
            all_goals
              go_wp2_with fail
              go_quiet (fail)
              all_goals
                go_wp2
                go_ret
                exact ⟨by rw [HV.out] <;> rfl, HB2.out.trans ⟨rfl, rfl, rfl, Nat.le_refl _, fun _ _ => rfl⟩⟩
          · have heb : (x2.toList == y2.toList) = true := by have := HG.out; rw [hlb] at this; simpa [hg] using this
            have HN2 := Lib.hid (HN.out (by omega))
            clear HL HG HRG HN HE
            go_wp2_with fail
            go_quiet (fail)
            all_goals
              go_wp2_with fail
              go_quiet (fail)
              all_goals
                go_wp2
                exact ⟨⟨2, by go_num, HN2, _, rfl⟩, by simp [intOf]⟩
      | 2, HC =>
        have HL := Lib.hid (bytesLess_cmp x3.toList y3.toList)
        have HG := Lib.hid (bytesGtr_cmp x3.toList y3.toList)
        have HRG := Lib.hid (cmpBytes_good.range x3.toList y3.toList)
        have HN := Lib.hid (fun h => RestC.next2 (c := v) (x1 := x1) (y1 := y1) (x2 := x2) (y2 := y2) (x3 := x3) (y3 := y3) HC.out h)
        have HE := Lib.hid (fun h => RestC.end2 (c := v) (x1 := x1) (y1 := y1) (x2 := x2) (y2 := y2) (x3 := x3) (y3 := y3) HC.out h)
        generalize hcc : cmpBytes x3.toList y3.toList = c at *
        clear hcc HC
        by_cases hl : c < 0
        · have hlb : Op.bytesLess x3.toList y3.toList = true := by rw [HL.out]; simp [hl]
          have HV := Lib.hid (show v = -1 from (HE.out (by omega)).trans (by have := HRG.out; omega))
          clear HL HG HRG HN HE
          go_wp2_with fail
          go_quiet (fail)
          all_goals
            go_wp2
            go_ret
            exact ⟨by rw [HV.out] <;> rfl, HB2.out.trans ⟨rfl, rfl, rfl, Nat.le_refl _, fun _ _ => rfl⟩⟩
        · have hlb : Op.bytesLess x3.toList y3.toList = false := by rw [HL.out]; simp [hl]
          by_cases hg : 0 < c
          · have heb : (x3.toList == y3.toList) = false := by have := HG.out; rw [hlb] at this; simpa [hg] using this
            have HV := Lib.hid (show v = 1 from (HE.out (by omega)).trans (by have := HRG.out; omega))
            clear HL HG HRG HN HE
            go_wp2_with fail
            go_quiet (fail)
            all_goals
              go_wp2_with fail
              go_quiet (fail)
              all_goals
                go_wp2
                go_ret
                exact ⟨by rw [HV.out] <;> rfl, HB2.out.trans ⟨rfl, rfl, rfl, Nat.le_refl _, fun _ _ => rfl⟩⟩
          · have heb : (x3.toList == y3.toList) = true := by have := HG.out; rw [hlb] at this; simpa [hg] using this
            have HN2 := Lib.hid (HN.out (by omega))
            clear HL HG HRG HN HE
            go_wp2_with fail
            go_quiet (fail)
            all_goals
              go_wp2_with fail
              go_quiet (fail)
              all_goals
                go_wp2
                exact ⟨⟨3, by go_num, HN2, _, rfl⟩, by simp [intOf]⟩
      | k + 3, HC =>
        have HV := Lib.hid (show v = 0 from HC.out)
        have hk : ¬ ((k + 3 : Nat) : Int) < 3 := by omega
        clear HC
        go_wp2
        go_ret
        exact ⟨by rw [HV.out] <;> rfl, HB2.out.trans ⟨rfl, rfl, rfl, Nat.le_refl _, fun _ _ => rfl⟩⟩
  · generalize hW2 : ((W.alloc (.cells #[.string y1, .string y2, .string y3] 122)).alloc (.cells #[.string x1, .string x2, .string x3] 122)).drew = W2
    have hc0 : W2.heap[W.heap.size]? = some (.cells #[.string y1, .string y2, .string y3] 122 (0, 0)) := by rw [← hW2]; exact (Below.heap_alloc _ _ _ (by simp)).trans (heap_alloc_new W _)
    have hc1 : W2.heap[W.heap.size + 1]? = some (.cells #[.string x1, .string x2, .string x3] 122 (0, 0)) := by
      rw [← hW2]
      have := heap_alloc_new (W.alloc (.cells #[.string y1, .string y2, .string y3] 122)) (.cells #[.string x1, .string x2, .string x3] 122)
      rwa [World.size_alloc] at this
    have HB2 := Lib.hid (show Below w.heap.size w W2 by rw [← hW2]; exact ((hB.alloc hB.size _).alloc (Nat.le_trans hB.size (by simp)) _).drew)
    rename_i hHeld
    clear hHeld HK hW2 hB
    generalize W.heap.size = q at *
    have cx0 : W2.cell? ⟨q + 1, 0, none⟩ = some (.string x1) := mem_cells hc1 0
    have cy0 : W2.cell? ⟨q, 0, none⟩ = some (.string y1) := mem_cells hc0 0
    have cx1 : W2.cell? ⟨q + 1, 1, none⟩ = some (.string x2) := mem_cells hc1 1
    have cy1 : W2.cell? ⟨q, 1, none⟩ = some (.string y2) := mem_cells hc0 1
    have cx2 : W2.cell? ⟨q + 1, 2, none⟩ = some (.string x3) := mem_cells hc1 2
    have cy2 : W2.cell? ⟨q, 2, none⟩ = some (.string y3) := mem_cells hc0 2
    clear hc0 hc1
    simp only [Exit.then]
    go_at_K
    go_wp2
    go_loopw [7] (fun i wr => ∃ k : Nat, i = .int .i64 k ∧ Hid (RestC k v x1 y1 x2 y2 x3 y3) ∧ ∃ n, wr = W2.drewN n) (fun i _ => 3 - (intOf i).toNat)
    case atStart => exact ⟨0, rfl, Lib.hid HV1.out, 0, rfl⟩
    case round =>
      clear HV1
      obtain ⟨k, rfl, HC, n, rfl⟩ := hrel
      match k, HC with
      | 0, HC =>
        have HL := Lib.hid (bytesLess_cmp x1.toList y1.toList)
        have HG := Lib.hid (bytesGtr_cmp x1.toList y1.toList)
        have HRG := Lib.hid (cmpBytes_good.range x1.toList y1.toList)
        have HN := Lib.hid (fun h => RestC.next0 (c := v) (x1 := x1) (y1 := y1) (x2 := x2) (y2 := y2) (x3 := x3) (y3 := y3) HC.out h)
        have HE := Lib.hid (fun h => RestC.end0 (c := v) (x1 := x1) (y1 := y1) (x2 := x2) (y2 := y2) (x3 := x3) (y3 := y3) HC.out h)
        generalize hcc : cmpBytes x1.toList y1.toList = c at *
        clear hcc HC
        by_cases hl : c < 0
        · have hlb : Op.bytesLess x1.toList y1.toList = true := by rw [HL.out]; simp [hl]
          have HV := Lib.hid (show v = -1 from (HE.out (by omega)).trans (by have := HRG.out; omega))
          clear HL HG HRG HN HE
          go_wp2_with fail
          go_quiet (fail)
          all_goals
            go_wp2
            go_ret
            exact ⟨by rw [HV.out] <;> rfl, HB2.out.trans ⟨rfl, rfl, rfl, Nat.le_refl _, fun _ _ => rfl⟩⟩
        · have hlb : Op.bytesLess x1.toList y1.toList = false := by rw [HL.out]; simp [hl]
          by_cases hg : 0 < c
          · have heb : (x1.toList == y1.toList) = false := by have := HG.out; rw [hlb] at this; simpa [hg] using this
            have HV := Lib.hid (show v = 1 from (HE.out (by omega)).trans (by have := HRG.out; omega))
            clear HL HG HRG HN HE
            go_wp2_with fail
            go_quiet (fail)
            all_goals
              go_wp2_with fail
              go_quiet (fail)
              all_goals
                go_wp2
                go_ret
                exact ⟨by rw [HV.out] <;> rfl, HB2.out.trans ⟨rfl, rfl, rfl, Nat.le_refl _, fun _ _ => rfl⟩⟩
          · have heb : (x1.toList == y1.toList) = true := by have := HG.out; rw [hlb] at this; simpa [hg] using this
            have HN2 := Lib.hid (HN.out (by omega))
            clear HL HG HRG HN HE
            go_wp2_with fail
            go_quiet (fail)
            all_goals
              go_wp2_with fail
              go_quiet (fail)
              all_goals
                go_wp2
                exact ⟨⟨1, by go_num, HN2, _, rfl⟩, by simp [intOf]⟩
      | 1, HC =>
        have HL := Lib.hid (bytesLess_cmp x2.toList y2.toList)
        have HG := Lib.hid (bytesGtr_cmp x2.toList y2.toList)
        have HRG := Lib.hid (cmpBytes_good.range x2.toList y2.toList)
        have HN := Lib.hid (fun h => RestC.next1 (c := v) (x1 := x1) (y1 := y1) (x2 := x2) (y2 := y2) (x3 := x3) (y3 := y3) HC.out h)
        have HE := Lib.hid (fun h => RestC.end1 (c := v) (x1 := x1) (y1 := y1) (x2 := x2) (y2 := y2) (x3 := x3) (y3 := y3) HC.out h)
        generalize hcc : cmpBytes x2.toList y2.toList = c at *
        clear hcc HC
        by_cases hl : c < 0
        · have hlb : Op.bytesLess x2.toList y2.toList = true := by rw [HL.out]; simp [hl]
          have HV := Lib.hid (show v = -1 from (HE.out (by omega)).trans (by have := HRG.out; omega))
          clear HL HG HRG HN HE
          go_wp2_with fail
          go_quiet (fail)
          all_goals
            go_wp2
            go_ret
            exact ⟨by rw [HV.out] <;> rfl, HB2.out.trans ⟨rfl, rfl, rfl, Nat.le_refl _, fun _ _ => rfl⟩⟩
        · have hlb : Op.bytesLess x2.toList y2.toList = false := by rw [HL.out]; simp [hl]
          by_cases hg : 0 < c
          · have heb : (x2.toList == y2.toList) = false := by have := HG.out; rw [hlb] at this; simpa [hg] using this
            have HV := Lib.hid (show v = 1 from (HE.out (by omega)).trans (by have := HRG.out; omega))
            clear HL HG HRG HN HE
            go_wp2_with fail
            go_quiet (fail)
            all_goals
              go_wp2_with fail
              go_quiet (fail)
              all_goals
                go_wp2
                go_ret
                exact ⟨by rw [HV.out] <;> rfl, HB2.out.trans ⟨rfl, rfl, rfl, Nat.le_refl _, fun _ _ => rfl⟩⟩
          · have heb : (x2.toList == y2.toList) = true := by have := HG.out; rw [hlb] at this; simpa [hg] using this
            have HN2 := Lib.hid (HN.out (by omega))
            clear HL HG HRG HN HE
            go_wp2_with fail
            go_quiet (fail)
            all_goals
              go_wp2_with fail
              go_quiet (fail)
              all_goals
                go_wp2
                exact ⟨⟨2, by go_num, HN2, _, rfl⟩, by simp [intOf]⟩
      | 2, HC =>
        have HL := Lib.hid (bytesLess_cmp x3.toList y3.toList)
        have HG := Lib.hid (bytesGtr_cmp x3.toList y3.toList)
        have HRG := Lib.hid (cmpBytes_good.range x3.toList y3.toList)
        have HN := Lib.hid (fun h => RestC.next2 (c := v) (x1 := x1) (y1 := y1) (x2 := x2) (y2 := y2) (x3 := x3) (y3 := y3) HC.out h)
        have HE := Lib.hid (fun h => RestC.end2 (c := v) (x1 := x1) (y1 := y1) (x2 := x2) (y2 := y2) (x3 := x3) (y3 := y3) HC.out h)
        generalize hcc : cmpBytes x3.toList y3.toList = c at *
        clear hcc HC
        by_cases hl : c < 0
        · have hlb : Op.bytesLess x3.toList y3.toList = true := by rw [HL.out]; simp [hl]
          have HV := Lib.hid (show v = -1 from (HE.out (by omega)).trans (by have := HRG.out; omega))
          clear HL HG HRG HN HE
          go_wp2_with fail
          go_quiet (fail)
          all_goals
            go_wp2
            go_ret
            exact ⟨by rw [HV.out] <;> rfl, HB2.out.trans ⟨rfl, rfl, rfl, Nat.le_refl _, fun _ _ => rfl⟩⟩
        · have hlb : Op.bytesLess x3.toList y3.toList = false := by rw [HL.out]; simp [hl]
          by_cases hg : 0 < c
          · have heb : (x3.toList == y3.toList) = false := by have := HG.out; rw [hlb] at this; simpa [hg] using this
            have HV := Lib.hid (show v = 1 from (HE.out (by omega)).trans (by have := HRG.out; omega))
            clear HL HG HRG HN HE
            go_wp2_with fail
            go_quiet (fail)
            all_goals
              go_wp2_with fail
              go_quiet (fail)
              all_goals
                go_wp2
                go_ret
                exact ⟨by rw [HV.out] <;> rfl, HB2.out.trans ⟨rfl, rfl, rfl, Nat.le_refl _, fun _ _ => rfl⟩⟩
          · have heb : (x3.toList == y3.toList) = true := by have := HG.out; rw [hlb] at this; simpa [hg] using this
            have HN2 := Lib.hid (HN.out (by omega))
            clear HL HG HRG HN HE
            go_wp2_with fail
            go_quiet (fail)
            all_goals
              go_wp2_with fail
              go_quiet (fail)
              all_goals
                go_wp2
                exact ⟨⟨3, by go_num, HN2, _, rfl⟩, by simp [intOf]⟩
      | k + 3, HC =>
        have HV := Lib.hid (show v = 0 from HC.out)
        have hk : ¬ ((k + 3 : Nat) : Int) < 3 := by omega
        clear HC
        go_wp2
        go_ret
        exact ⟨by rw [HV.out] <;> rfl, HB2.out.trans ⟨rfl, rfl, rfl, Nat.le_refl _, fun _ _ => rfl⟩⟩
theorem entC_split (a b : Ent) : entC a b = if placeC a b ≠ 0 then placeC a b else cmpBytes a.val.toList b.val.toList := by
  show (if cmpInt a.g b.g ≠ 0 then cmpInt a.g b.g else if cmpBytes a.nm.toList b.nm.toList ≠ 0 then cmpBytes a.nm.toList b.nm.toList else if cmpBytes a.key.toList b.key.toList ≠ 0 then cmpBytes a.key.toList b.key.toList else cmpBytes a.val.toList b.val.toList) =
    (if (if cmpInt a.g b.g ≠ 0 then cmpInt a.g b.g else if cmpBytes a.nm.toList b.nm.toList ≠ 0 then cmpBytes a.nm.toList b.nm.toList else cmpBytes a.key.toList b.key.toList) ≠ 0 then (if cmpInt a.g b.g ≠ 0 then cmpInt a.g b.g else if cmpBytes a.nm.toList b.nm.toList ≠ 0 then cmpBytes a.nm.toList b.nm.toList else cmpBytes a.key.toList b.key.toList) else cmpBytes a.val.toList b.val.toList)
  by_cases h1 : cmpInt a.g b.g = 0 <;> by_cases h2 : cmpBytes a.nm.toList b.nm.toList = 0 <;> by_cases h3 : cmpBytes a.key.toList b.key.toList = 0 <;> simp [h1, h2, h3]

def GD (w w' : World) : Prop := ∃ q os, w' = grow (w.drewN q) os
theorem grow_drewN (w : World) (os : Array Obj) (q : Nat) : (grow w os).drewN q = grow (w.drewN q) os := rfl
theorem GD.refl (w : World) : GD w w := ⟨0, #[], by rw [grow_empty]; rfl⟩
theorem GD.trans {w w1 w2 : World} (h : GD w w1) (k : GD w1 w2) : GD w w2 := by
  obtain ⟨q, os, rfl⟩ := h
  obtain ⟨q', os', rfl⟩ := k
  exact ⟨q + q', os ++ os', by rw [grow_drewN, grow_grow, World.drewN_drewN]⟩
theorem GD.alloc {w w' : World} (h : GD w w') (o : Obj) : GD w (w'.alloc o) := h.trans ⟨0, #[o], by rw [alloc_eq_grow]; rfl⟩
theorem GD.drew {w w' : World} (h : GD w w') : GD w w'.drew := h.trans ⟨1, #[], by rw [grow_empty]; rfl⟩
theorem GD.below {w w' : World} (h : GD w w') : Below w.heap.size w w' := by
  obtain ⟨q, os, rfl⟩ := h
  refine ⟨rfl, rfl, rfl, ?_, fun k hk => ?_⟩
  · show w.heap.size ≤ (w.heap ++ os).size
    simp
  · show (w.heap ++ os)[k]? = w.heap[k]?
    rw [Array.getElem?_append_left hk]
set_option maxHeartbeats 400000 in
theorem nanI_any (x : Int) (w : World) : Calls Try.prog 130 #[.int .i64 x] w fun e w' => e = .returned (.bool false) ∧ w = w' := by
  go_enter Try.func130, Try.ntmps130
  go_wp2
  go_ret
  exact ⟨by simp, rfl⟩
set_option maxHeartbeats 1000000 in
theorem cmpI_any (x y : Int) (w : World) :
    Calls Try.prog 114 #[.int .i64 x, .int .i64 y] w fun e w' => e = .returned (.int .i64 (cmpInt x y)) ∧ w = w' := by
  have HC := Lib.hid (show cmpInt x y = if x < y then -1 else if y < x then 1 else 0 from rfl)
  generalize cmpInt x y = c at *
  by_cases h1 : x < y
  · have HR := Lib.hid (show c = -1 by rw [HC.out, if_pos h1])
    go_enter Try.func114, Try.ntmps114
    go_wp2_with (go_at_call 130; refine (nanI_any _ _).mono ?_; rintro e w' ⟨rfl, rfl⟩)
    go_ret
    exact ⟨by rw [HR.out] <;> rfl, rfl⟩
  · by_cases h2 : y < x
    · have HR := Lib.hid (show c = 1 by rw [HC.out, if_neg h1, if_pos h2])
      go_enter Try.func114, Try.ntmps114
      go_wp2_with (go_at_call 130; refine (nanI_any _ _).mono ?_; rintro e w' ⟨rfl, rfl⟩)
      go_ret
      exact ⟨by rw [HR.out] <;> rfl, rfl⟩
    · have HR := Lib.hid (show c = 0 by rw [HC.out, if_neg h1, if_neg h2])
      go_enter Try.func114, Try.ntmps114
      go_wp2_with (go_at_call 130; refine (nanI_any _ _).mono ?_; rintro e w' ⟨rfl, rfl⟩)
      go_ret
      exact ⟨by rw [HR.out] <;> rfl, rfl⟩
set_option maxHeartbeats 1000000 in
theorem plc1_any (x y : Ent) (w : World) : Calls Try.prog 113 #[x.v, y.v] w fun e w' => e = .returned (.int .i64 (cmpInt x.g y.g)) ∧ GD w w' := by
  obtain ⟨xg, x1, x2, x3⟩ := x
  obtain ⟨yg, y1, y2, y3⟩ := y
  have HG := Lib.hid (fun o1 o2 => ((GD.refl w).alloc o1).alloc o2)
  go_enter Try.func113, Try.ntmps113
  go_wp2_with (go_at_call 114; refine (cmpI_any _ _ _).mono ?_; rintro e w' ⟨rfl, rfl⟩)
  go_ret
  exact ⟨rfl, HG.out _ _⟩
set_option maxHeartbeats 1000000 in
theorem plc2_any (x y : Ent) (w : World) : Calls Try.prog 115 #[x.v, y.v] w fun e w' => e = .returned (.int .i64 (cmpBytes x.nm.toList y.nm.toList)) ∧ GD w w' := by
  obtain ⟨xg, x1, x2, x3⟩ := x
  obtain ⟨yg, y1, y2, y3⟩ := y
  have HG := Lib.hid (fun o1 o2 => ((GD.refl w).alloc o1).alloc o2)
  go_enter Try.func115, Try.ntmps115
  go_wp2_with (go_at_call 95; refine (cmpStr_any _ _ _).mono ?_; rintro e w' ⟨rfl, rfl⟩)
  go_ret
  exact ⟨rfl, HG.out _ _⟩
set_option maxHeartbeats 1000000 in
theorem plc3_any (x y : Ent) (w : World) : Calls Try.prog 116 #[x.v, y.v] w fun e w' => e = .returned (.int .i64 (cmpBytes x.key.toList y.key.toList)) ∧ GD w w' := by
  obtain ⟨xg, x1, x2, x3⟩ := x
  obtain ⟨yg, y1, y2, y3⟩ := y
  have HG := Lib.hid (fun o1 o2 => ((GD.refl w).alloc o1).alloc o2)
  go_enter Try.func116, Try.ntmps116
  go_wp2_with (go_at_call 95; refine (cmpStr_any _ _ _).mono ?_; rintro e w' ⟨rfl, rfl⟩)
  go_ret
  exact ⟨rfl, HG.out _ _⟩
set_option maxHeartbeats 1000000 in
theorem cmp1_any (x y : Ent) (w : World) : Calls Try.prog 94 #[x.v, y.v] w fun e w' => e = .returned (.int .i64 (cmpBytes x.val.toList y.val.toList)) ∧ GD w w' := by
  obtain ⟨xg, x1, x2, x3⟩ := x
  obtain ⟨yg, y1, y2, y3⟩ := y
  have HG := Lib.hid (fun o1 o2 => ((GD.refl w).alloc o1).alloc o2)
  go_enter Try.func94, Try.ntmps94
  go_wp2_with (go_at_call 95; refine (cmpStr_any _ _ _).mono ?_; rintro e w' ⟨rfl, rfl⟩)
  go_ret
  exact ⟨rfl, HG.out _ _⟩
/-- The first that is not zero. -/
def firstC : List Int → Int
  | [] => 0
  | c :: cs => if c ≠ 0 then c else firstC cs
/-- Functions that compare x and y, each its way. -/
def CmpF (x y : Ent) (F : FuncId) (c : Int) : Prop := (∀ args w, Sem.run Try.prog (callFunc F args) w = .ok (.enter F args) w) ∧ ∀ w, Calls Try.prog F #[x.v, y.v] w fun e w' => e = .returned (.int .i64 c) ∧ GD w w'
set_option maxRecDepth 100000 in
set_option maxHeartbeats 4000000 in
theorem compared1_any (x y : Ent) (fs : List (FuncId × Int)) (bx fb : Nat) (w : World) (hl : fs.length ≤ 100) (hf : ∀ p ∈ fs, CmpF x y p.1 p.2) (hlt : bx < w.heap.size) (hlf : fb < w.heap.size)
    (hb : w.cell? ⟨bx, 0, none⟩ = some (.slice (some ⟨fb, 0, none⟩) fs.length fs.length)) (hc : ∀ k (h : k < fs.length), w.cell? ⟨fb, k, none⟩ = some (.func (.func fs[k].1) #[] #[])) :
    Calls Try.prog 112 #[x.v, y.v, .pointer (some ⟨bx, 0, none⟩)] w fun e w' => e = .returned (.int .i64 (firstC (fs.map Prod.snd))) ∧ GD w w' := by
  obtain ⟨xg, x1, x2, x3⟩ := x
  obtain ⟨yg, y1, y2, y3⟩ := y
  have HF := Lib.hid hf
  have HC := Lib.hid hc
  have HG := Lib.hid (fun o1 o2 => ((GD.refl w).alloc o1).alloc o2)
  have HFC := Lib.hid (fun (k : Nat) (h : k < fs.length) => (show firstC ((fs.map Prod.snd).drop k) = if fs[k].2 ≠ 0 then fs[k].2 else firstC ((fs.map Prod.snd).drop (k + 1)) by
    rw [List.drop_eq_getElem_cons (by simpa using h)]; simp [firstC]))
  have HEND := Lib.hid (show firstC ((fs.map Prod.snd).drop fs.length) = 0 by rw [List.drop_eq_nil_of_le (by simp)]; rfl)
  have H0 := Lib.hid (show firstC (fs.map Prod.snd) = firstC ((fs.map Prod.snd).drop 0) by simp)
  generalize firstC (fs.map Prod.snd) = R at *
  have hfl : (fs.length : Int) ≤ 9223372036854775807 := by omega
  clear hf hc
  have b0 : ∀ o1 o2, ((w.alloc o1).alloc o2).cell? ⟨bx, 0, none⟩ = some (.slice (some ⟨fb, 0, none⟩) fs.length fs.length) := fun o1 o2 => below_mem (HG.out o1 o2).below _ _ _ hb
  go_enter Try.func112, Try.ntmps112
  go_wp2_with fail
  have HX := Lib.hid (HG.out (.cells #[.int .i64 xg, .string x1, .string x2, .string x3] 53) (.cells #[.int .i64 yg, .string y1, .string y2, .string y3] 53))
  have HBX := Lib.hid (alloc_at0 w (.cells #[.int .i64 xg, .string x1, .string x2, .string x3] 53) (.cells #[.int .i64 yg, .string y1, .string y2, .string y3] 53))
  have HBY := Lib.hid (alloc_at1 w (.cells #[.int .i64 xg, .string x1, .string x2, .string x3] 53) (.cells #[.int .i64 yg, .string y1, .string y2, .string y3] 53))
  clear b0 HG
  generalize (w.alloc (.cells #[.int .i64 xg, .string x1, .string x2, .string x3] 53)).alloc (.cells #[.int .i64 yg, .string y1, .string y2, .string y3] 53) = X at *
  have HK := Lib.hid (fun (wr : World) (h : GD X wr) => (show GD w wr from HX.out.trans h))
  have HXX := Lib.hid (fun (wr : World) (h : GD X wr) => (show wr.heap[w.heap.size]? = some (.cells #[.int .i64 xg, .string x1, .string x2, .string x3] 53 (0, 0)) from (h.below.block _ (Array.getElem?_eq_some_iff.1 HBX.out).1).trans HBX.out))
  have HXY := Lib.hid (fun (wr : World) (h : GD X wr) => (show wr.heap[w.heap.size + 1]? = some (.cells #[.int .i64 yg, .string y1, .string y2, .string y3] 53 (0, 0)) from (h.below.block _ (Array.getElem?_eq_some_iff.1 HBY.out).1).trans HBY.out))
  have HCC := Lib.hid (fun (wr : World) (h : GD X wr) (k : Nat) (hk : k < fs.length) => (show wr.cell? ⟨fb, k, none⟩ = some (.func (.func fs[k].1) #[] #[]) from below_mem (HX.out.trans h).below _ _ _ (HC.out k hk)))
  clear HC HBX HBY
  go_loopw [11] (fun i wr => ∃ k : Nat, k ≤ fs.length ∧ i = .int .i64 k ∧ Hid (GD X wr) ∧ Hid (R = firstC ((fs.map Prod.snd).drop k))) (fun i _ => fs.length - (intOf i).toNat)
  case atStart => exact ⟨0, by omega, rfl, Lib.hid (GD.refl _), H0⟩
  case round =>
    clear H0
    obtain ⟨k, hk, rfl, HGR, HR⟩ := hrel
    by_cases hlt : k < fs.length
    · have c0 := HCC.out _ HGR.out k hlt
      have hbx := HXX.out _ HGR.out
      have hby := HXY.out _ HGR.out
      have x0 : wr.cell? ⟨w.heap.size, 0, none⟩ = some (.int .i64 xg) := mem_cells hbx 0
      have x1' : wr.cell? ⟨w.heap.size, 1, none⟩ = some (.string x1) := mem_cells hbx 1
      have x2' : wr.cell? ⟨w.heap.size, 2, none⟩ = some (.string x2) := mem_cells hbx 2
      have x3' : wr.cell? ⟨w.heap.size, 3, none⟩ = some (.string x3) := mem_cells hbx 3
      have y0 : wr.cell? ⟨w.heap.size + 1, 0, none⟩ = some (.int .i64 yg) := mem_cells hby 0
      have y1' : wr.cell? ⟨w.heap.size + 1, 1, none⟩ = some (.string y1) := mem_cells hby 1
      have y2' : wr.cell? ⟨w.heap.size + 1, 2, none⟩ = some (.string y2) := mem_cells hby 2
      have y3' : wr.cell? ⟨w.heap.size + 1, 3, none⟩ = some (.string y3) := mem_cells hby 3
      have HFK := Lib.hid (HFC.out k hlt)
      obtain ⟨hcf, hcl⟩ := HF.out fs[k] (List.getElem_mem hlt)
      have HCL := Lib.hid hcl
      clear hcl hbx hby
      generalize fs[k].1 = F at *
      generalize fs[k].2 = c at *
      go_wp2_with fail
      refine (HCL.out _).mono ?_
      rintro e w1 ⟨rfl, hg1⟩
      have HG1 := Lib.hid (HGR.out.trans hg1)
      clear hg1 c0 x0 x1' x2' x3' y0 y1' y2' y3'
      by_cases hz : c = 0
      · have hzb : (c == 0) = true := by simp [hz]
        have HR2 := Lib.hid (show R = firstC ((fs.map Prod.snd).drop (k + 1)) by rw [HR.out, HFK.out, if_neg (by simp [hz])])
        go_wp2
        go_roundw
        case rel => exact ⟨k + 1, by omega, by go_num, HG1, HR2⟩
        case measure => simp [intOf]; omega
      · have hzb : (c == 0) = false := by simp [hz]
        have HR2 := Lib.hid (show R = c by rw [HR.out, HFK.out, if_pos hz])
        have HGE := Lib.hid (HK.out _ HG1.out)
        go_wp2
        go_ret
        exact ⟨by rw [HR2.out] <;> rfl, HGE.out⟩
    · obtain rfl : k = fs.length := by omega
      have hR0 := HR.out.trans HEND.out
      have HGE := Lib.hid (HK.out _ HGR.out)
      subst hR0
      go_wp2
      go_ret
      exact ⟨rfl, HGE.out⟩
set_option maxHeartbeats 400000 in
theorem compd_any (a : Option Addr) (n c : Nat) (w : World) : Calls Try.prog 92 #[.slice a n c] w fun e w' => ∃ bx, e = .returned (.func (.func 112) #[] #[.pointer (some ⟨bx, 0, none⟩)]) ∧ GD w w' ∧ w'.cell? ⟨bx, 0, none⟩ = some (.slice a n c) ∧ bx < w'.heap.size := by
  have HG := Lib.hid (fun o => (GD.refl w).alloc o)
  have HN := Lib.hid (fun (cs : Array Value) (T : TypeId) => (show (w.alloc (.cells cs T)).cell? ⟨w.heap.size, 0, none⟩ = cs[0]? from mem_cells_new w cs T (0, 0) 0))
  have HL := Lib.hid (fun (o : Obj) => (show w.heap.size < (w.alloc o).heap.size by simp))
  go_enter Try.func92, Try.ntmps92
  go_wp2
  go_ret
  exact ⟨_, rfl, HG.out _, HN.out _ _, HL.out _⟩
theorem placeC_c (x y : Ent) : firstC [cmpInt x.g y.g, cmpBytes x.nm.toList y.nm.toList, cmpBytes x.key.toList y.key.toList] = placeC x y := by
  show _ = (if cmpInt x.g y.g ≠ 0 then cmpInt x.g y.g else if cmpBytes x.nm.toList y.nm.toList ≠ 0 then cmpBytes x.nm.toList y.nm.toList else cmpBytes x.key.toList y.key.toList)
  unfold firstC firstC firstC firstC
  by_cases h : cmpBytes x.key.toList y.key.toList = 0 <;> simp [h]
theorem place0_eq (x y : Ent) : firstC ([(113, cmpInt x.g y.g), (115, cmpBytes x.nm.toList y.nm.toList), (116, cmpBytes x.key.toList y.key.toList)].map Prod.snd) = placeC x y := placeC_c x y
set_option maxRecDepth 100000 in
set_option maxHeartbeats 4000000 in
theorem place0_any (x y : Ent) (w : World) : Calls Try.prog 93 #[x.v, y.v] w fun e w' => e = .returned (.int .i64 (placeC x y)) ∧ GD w w' := by
  have HF := Lib.hid (show ∀ p ∈ ([(113, cmpInt x.g y.g), (115, cmpBytes x.nm.toList y.nm.toList), (116, cmpBytes x.key.toList y.key.toList)] : List (FuncId × Int)), CmpF x y p.1 p.2 from fun p hp => by
    simp only [List.mem_cons, List.not_mem_nil, or_false] at hp
    rcases hp with rfl | rfl | rfl
    · exact ⟨fun _ _ => rfl, fun w => plc1_any x y w⟩
    · exact ⟨fun _ _ => rfl, fun w => plc2_any x y w⟩
    · exact ⟨fun _ _ => rfl, fun w => plc3_any x y w⟩)
  have HCV := Lib.hid (show firstC (([(113, cmpInt x.g y.g), (115, cmpBytes x.nm.toList y.nm.toList), (116, cmpBytes x.key.toList y.key.toList)] : List (FuncId × Int)).map Prod.snd) = placeC x y from place0_eq x y)
  have HCP := Lib.hid (fun (bx fb : Nat) (w' : World) (hlt : bx < w'.heap.size) (hlf : fb < w'.heap.size) (hb : w'.cell? ⟨bx, 0, none⟩ = some (.slice (some ⟨fb, 0, none⟩) 3 3)) (hc : ∀ k (h : k < 3), w'.cell? ⟨fb, k, none⟩ = some (.func (.func ([(113, cmpInt x.g y.g), (115, cmpBytes x.nm.toList y.nm.toList), (116, cmpBytes x.key.toList y.key.toList)][k]'h).1) #[] #[])) => compared1_any x y [(113, cmpInt x.g y.g), (115, cmpBytes x.nm.toList y.nm.toList), (116, cmpBytes x.key.toList y.key.toList)] bx fb w' (by simp) HF.out hlt hlf hb hc)
  rw [HCV.out] at HCP
  generalize placeC x y = c at *
  obtain ⟨xg, x1, x2, x3⟩ := x
  obtain ⟨yg, y1, y2, y3⟩ := y
  have HG := Lib.hid (((GD.refl w).alloc (.cells #[.int .i64 xg, .string x1, .string x2, .string x3] 53)).alloc (.cells #[.int .i64 yg, .string y1, .string y2, .string y3] 53))
  have HBX := Lib.hid (alloc_at0 w (.cells #[.int .i64 xg, .string x1, .string x2, .string x3] 53) (.cells #[.int .i64 yg, .string y1, .string y2, .string y3] 53))
  have HBY := Lib.hid (alloc_at1 w (.cells #[.int .i64 xg, .string x1, .string x2, .string x3] 53) (.cells #[.int .i64 yg, .string y1, .string y2, .string y3] 53))
  go_enter Try.func93, Try.ntmps93
  go_wp2_with fail
  generalize (w.alloc (.cells #[.int .i64 xg, .string x1, .string x2, .string x3] 53)).alloc (.cells #[.int .i64 yg, .string y1, .string y2, .string y3] 53) = X at *
  have HXS := Lib.hid (show w.heap.size < X.heap.size ∧ w.heap.size + 1 < X.heap.size from ⟨(Array.getElem?_eq_some_iff.1 HBX.out).1, (Array.getElem?_eq_some_iff.1 HBY.out).1⟩)
  have HS := Lib.hid (fun (w' : World) (h : GD X w') => (show w'.cell? ⟨w.heap.size, 0, none⟩ = some (.int .i64 xg) ∧ w'.cell? ⟨w.heap.size, 1, none⟩ = some (.string x1) ∧ w'.cell? ⟨w.heap.size, 2, none⟩ = some (.string x2) ∧ w'.cell? ⟨w.heap.size, 3, none⟩ = some (.string x3) ∧ w'.cell? ⟨w.heap.size + 1, 0, none⟩ = some (.int .i64 yg) ∧ w'.cell? ⟨w.heap.size + 1, 1, none⟩ = some (.string y1) ∧ w'.cell? ⟨w.heap.size + 1, 2, none⟩ = some (.string y2) ∧ w'.cell? ⟨w.heap.size + 1, 3, none⟩ = some (.string y3) from by
    have hx := (h.below.block _ HXS.out.1).trans HBX.out
    have hy := (h.below.block _ HXS.out.2).trans HBY.out
    exact ⟨mem_cells hx 0, mem_cells hx 1, mem_cells hx 2, mem_cells hx 3, mem_cells hy 0, mem_cells hy 1, mem_cells hy 2, mem_cells hy 3⟩))
  have hg0 : GD X X.drew := (GD.refl X).drew
  have hg1 : ∀ o, GD X (X.alloc o).drew := fun o => ((GD.refl X).alloc o).drew
  have HNW := Lib.hid (fun (cs : Array Value) (T : TypeId) (o : Nat) => (show (X.alloc (.cells cs T)).drew.cell? ⟨X.heap.size, o, none⟩ = cs[o]? from mem_cells_new X cs T (0, 0) o))
  have HNL := Lib.hid (fun (o : Obj) => (show X.heap.size < (X.alloc o).drew.heap.size from Nat.lt_of_lt_of_eq (Nat.lt_succ_self _) (by show _ = (X.alloc o).heap.size; simp)))
  go_region_held3 (fun w' => w'.cell? ⟨w.heap.size, 0, none⟩ = some (.int .i64 xg) ∧ w'.cell? ⟨w.heap.size, 1, none⟩ = some (.string x1) ∧ w'.cell? ⟨w.heap.size, 2, none⟩ = some (.string x2) ∧ w'.cell? ⟨w.heap.size, 3, none⟩ = some (.string x3) ∧ w'.cell? ⟨w.heap.size + 1, 0, none⟩ = some (.int .i64 yg) ∧ w'.cell? ⟨w.heap.size + 1, 1, none⟩ = some (.string y1) ∧ w'.cell? ⟨w.heap.size + 1, 2, none⟩ = some (.string y2) ∧ w'.cell? ⟨w.heap.size + 1, 3, none⟩ = some (.string y3))
    (first | with_reducible exact HS.out _ hg0 | with_reducible exact HS.out _ (hg1 _) | with_reducible exact HS.out _ hg2 | with_reducible exact HS.out _ hg3)
    ((first
      | (go_at_call 92; refine (compd_any _ _ _ _).mono ?_; rintro e w2 ⟨bx, rfl, hg, hbx, hlt⟩; have hg2 := (hg1 _).trans hg; have hC := HCP.out bx X.heap.size w2 hlt (Nat.lt_of_lt_of_le (HNL.out _) hg.below.size) hbx (fun k h => below_mem hg.below _ _ _ ((HNW.out _ _ k).trans (by match k, h with
        | 0, _ => rfl
        | 1, _ => rfl
        | 2, _ => rfl
        | k + 3, h => exact absurd h (by omega)))); clear hg hbx hlt)
      | (go_at_call 112; refine hC.mono ?_; rintro e w3 ⟨rfl, hg⟩; have hg3 := hg2.trans hg)))
  all_goals
    have HE := Lib.hid (HG.out.trans hg3)
    go_wp2
    go_ret
    exact ⟨rfl, HE.out⟩
theorem cmpE_eq (x y : Ent) : firstC ([(93, placeC x y), (94, cmpBytes x.val.toList y.val.toList)].map Prod.snd) = entC x y := by
  rw [entC_split]
  show firstC [placeC x y, cmpBytes x.val.toList y.val.toList] = _
  unfold firstC firstC firstC
  by_cases h : cmpBytes x.val.toList y.val.toList = 0 <;> simp [h]
set_option maxRecDepth 100000 in
set_option maxHeartbeats 4000000 in
theorem cmpE_any (x y : Ent) (w : World) : Calls Try.prog 74 #[x.v, y.v] w fun e w' => e = .returned (.int .i64 (entC x y)) ∧ GD w w' := by
  have HF := Lib.hid (show ∀ p ∈ ([(93, placeC x y), (94, cmpBytes x.val.toList y.val.toList)] : List (FuncId × Int)), CmpF x y p.1 p.2 from fun p hp => by
    simp only [List.mem_cons, List.not_mem_nil, or_false] at hp
    rcases hp with rfl | rfl
    · exact ⟨fun _ _ => rfl, fun w => place0_any x y w⟩
    · exact ⟨fun _ _ => rfl, fun w => cmp1_any x y w⟩)
  have HCV := Lib.hid (show firstC (([(93, placeC x y), (94, cmpBytes x.val.toList y.val.toList)] : List (FuncId × Int)).map Prod.snd) = entC x y from cmpE_eq x y)
  have HCP := Lib.hid (fun (bx fb : Nat) (w' : World) (hlt : bx < w'.heap.size) (hlf : fb < w'.heap.size) (hb : w'.cell? ⟨bx, 0, none⟩ = some (.slice (some ⟨fb, 0, none⟩) 2 2)) (hc : ∀ k (h : k < 2), w'.cell? ⟨fb, k, none⟩ = some (.func (.func ([(93, placeC x y), (94, cmpBytes x.val.toList y.val.toList)][k]'h).1) #[] #[])) => compared1_any x y [(93, placeC x y), (94, cmpBytes x.val.toList y.val.toList)] bx fb w' (by simp) HF.out hlt hlf hb hc)
  rw [HCV.out] at HCP
  generalize entC x y = c at *
  obtain ⟨xg, x1, x2, x3⟩ := x
  obtain ⟨yg, y1, y2, y3⟩ := y
  have HG := Lib.hid (((GD.refl w).alloc (.cells #[.int .i64 xg, .string x1, .string x2, .string x3] 53)).alloc (.cells #[.int .i64 yg, .string y1, .string y2, .string y3] 53))
  have HBX := Lib.hid (alloc_at0 w (.cells #[.int .i64 xg, .string x1, .string x2, .string x3] 53) (.cells #[.int .i64 yg, .string y1, .string y2, .string y3] 53))
  have HBY := Lib.hid (alloc_at1 w (.cells #[.int .i64 xg, .string x1, .string x2, .string x3] 53) (.cells #[.int .i64 yg, .string y1, .string y2, .string y3] 53))
  go_enter Try.func74, Try.ntmps74
  go_wp2_with fail
  generalize (w.alloc (.cells #[.int .i64 xg, .string x1, .string x2, .string x3] 53)).alloc (.cells #[.int .i64 yg, .string y1, .string y2, .string y3] 53) = X at *
  have HXS := Lib.hid (show w.heap.size < X.heap.size ∧ w.heap.size + 1 < X.heap.size from ⟨(Array.getElem?_eq_some_iff.1 HBX.out).1, (Array.getElem?_eq_some_iff.1 HBY.out).1⟩)
  have HS := Lib.hid (fun (w' : World) (h : GD X w') => (show w'.cell? ⟨w.heap.size, 0, none⟩ = some (.int .i64 xg) ∧ w'.cell? ⟨w.heap.size, 1, none⟩ = some (.string x1) ∧ w'.cell? ⟨w.heap.size, 2, none⟩ = some (.string x2) ∧ w'.cell? ⟨w.heap.size, 3, none⟩ = some (.string x3) ∧ w'.cell? ⟨w.heap.size + 1, 0, none⟩ = some (.int .i64 yg) ∧ w'.cell? ⟨w.heap.size + 1, 1, none⟩ = some (.string y1) ∧ w'.cell? ⟨w.heap.size + 1, 2, none⟩ = some (.string y2) ∧ w'.cell? ⟨w.heap.size + 1, 3, none⟩ = some (.string y3) from by
    have hx := (h.below.block _ HXS.out.1).trans HBX.out
    have hy := (h.below.block _ HXS.out.2).trans HBY.out
    exact ⟨mem_cells hx 0, mem_cells hx 1, mem_cells hx 2, mem_cells hx 3, mem_cells hy 0, mem_cells hy 1, mem_cells hy 2, mem_cells hy 3⟩))
  have hg0 : GD X X.drew := (GD.refl X).drew
  have hg1 : ∀ o, GD X (X.alloc o).drew := fun o => ((GD.refl X).alloc o).drew
  have HNW := Lib.hid (fun (cs : Array Value) (T : TypeId) (o : Nat) => (show (X.alloc (.cells cs T)).drew.cell? ⟨X.heap.size, o, none⟩ = cs[o]? from mem_cells_new X cs T (0, 0) o))
  have HNL := Lib.hid (fun (o : Obj) => (show X.heap.size < (X.alloc o).drew.heap.size from Nat.lt_of_lt_of_eq (Nat.lt_succ_self _) (by show _ = (X.alloc o).heap.size; simp)))
  go_region_held3 (fun w' => w'.cell? ⟨w.heap.size, 0, none⟩ = some (.int .i64 xg) ∧ w'.cell? ⟨w.heap.size, 1, none⟩ = some (.string x1) ∧ w'.cell? ⟨w.heap.size, 2, none⟩ = some (.string x2) ∧ w'.cell? ⟨w.heap.size, 3, none⟩ = some (.string x3) ∧ w'.cell? ⟨w.heap.size + 1, 0, none⟩ = some (.int .i64 yg) ∧ w'.cell? ⟨w.heap.size + 1, 1, none⟩ = some (.string y1) ∧ w'.cell? ⟨w.heap.size + 1, 2, none⟩ = some (.string y2) ∧ w'.cell? ⟨w.heap.size + 1, 3, none⟩ = some (.string y3))
    (first | with_reducible exact HS.out _ hg0 | with_reducible exact HS.out _ (hg1 _) | with_reducible exact HS.out _ hg2 | with_reducible exact HS.out _ hg3)
    ((first
      | (go_at_call 92; refine (compd_any _ _ _ _).mono ?_; rintro e w2 ⟨bx, rfl, hg, hbx, hlt⟩; have hg2 := (hg1 _).trans hg; have hC := HCP.out bx X.heap.size w2 hlt (Nat.lt_of_lt_of_le (HNL.out _) hg.below.size) hbx (fun k h => below_mem hg.below _ _ _ ((HNW.out _ _ k).trans (by match k, h with
        | 0, _ => rfl
        | 1, _ => rfl
        | k + 2, h => exact absurd h (by omega)))); clear hg hbx hlt)
      | (go_at_call 112; refine hC.mono ?_; rintro e w3 ⟨rfl, hg⟩; have hg3 := hg2.trans hg)))
  all_goals
    have HE := Lib.hid (HG.out.trans hg3)
    go_wp2
    go_ret
    exact ⟨rfl, HE.out⟩
end Go.Proofs.Ytnfolemblnnejaa
/- The reference's SortedEntries: plain (printed by gen_vsort.py). -/
namespace Go.Proofs.Ytnfolemblnnejaa
open Go.RowKit Go.Maps

theorem entC_good : Good entC := lex_good (cmpInt_good.pull (fun a : Ent => a.g)) (lex_good (cmpBytes_good.pull (fun a : Ent => a.nm.toList)) (lex_good (cmpBytes_good.pull (fun a : Ent => a.key.toList)) (cmpBytes_good.pull (fun a : Ent => a.val.toList))))
def swapE (ys : List Ent) (j : Nat) : List Ent := (ys.set j (ys.getD (j + 1) default)).set (j + 1) (ys.getD j default)
theorem swapE_len (ys : List Ent) (j : Nat) : (swapE ys j).length = ys.length := by simp [swapE]
theorem swapE_perm {ys : List Ent} {j : Nat} (h : j + 1 < ys.length) : (swapE ys j).Perm ys := by
  have := List.set_set_perm (i := j) (j := j + 1) (show j < ys.length by omega) h
  unfold swapE
  rw [show ys.getD (j + 1) default = ys[j + 1] by simp [List.getD, h], show ys.getD j default = ys[j] by simp [List.getD, show j < ys.length by omega]]
  exact this
theorem swapE_get {ys : List Ent} {j : Nat} (h : j + 1 < ys.length) (k : Nat) : (swapE ys j).getD k default = if k = j then ys.getD (j + 1) default else if k = j + 1 then ys.getD j default else ys.getD k default := by
  unfold swapE
  simp only [List.getD_eq_getElem?_getD, List.getElem?_set]
  by_cases h1 : k = j + 1
  · subst h1; simp [h]
  · by_cases h2 : k = j
    · subst h2; simp [show ¬ k + 1 = k by omega]; simp [show k < ys.length by omega]
    · simp [Ne.symm h1, Ne.symm h2, h1, h2]
/-- In order up to i, but for the place j. -/
def ButE (ys : List Ent) (i j : Nat) : Prop := ∀ a b, a < b → b ≤ i → b ≠ j → entC (ys.getD a default) (ys.getD b default) ≤ 0
def ToE (ys : List Ent) (k : Nat) : Prop := ∀ a b, a < b → b < k → entC (ys.getD a default) (ys.getD b default) ≤ 0
theorem ToE.but {ys : List Ent} {k : Nat} (h : ToE ys k) : ButE ys k k := fun a b h1 h2 h3 => h a b h1 (by omega)
theorem ButE.swap {ys : List Ent} {i j : Nat} (h : ButE ys i (j + 1)) (hj : j + 1 ≤ i) (hi : i < ys.length) (hlt : 0 < entC (ys.getD j default) (ys.getD (j + 1) default)) : ButE (swapE ys j) i j := fun a b h1 h2 h3 => by
  rw [swapE_get (by omega), swapE_get (by omega), if_neg h3]
  by_cases hb : b = j + 1
  · rw [if_pos hb]
    by_cases ha : a = j
    · rw [if_pos ha]; have := entC_good.anti (ys.getD j default) (ys.getD (j + 1) default); omega
    · rw [if_neg ha, if_neg (by omega)]
      exact h a j (by omega) (by omega) (by omega)
  · rw [if_neg hb]
    by_cases ha : a = j
    · rw [if_pos ha]; exact h (j + 1) b (by omega) h2 hb
    · rw [if_neg ha]
      by_cases ha2 : a = j + 1
      · rw [if_pos ha2]; exact h j b (by omega) h2 hb
      · rw [if_neg ha2]; exact h a b h1 h2 hb
theorem ButE.done {ys : List Ent} {i j : Nat} (h : ButE ys i (j + 1)) (hj : j + 1 ≤ i) (hle : entC (ys.getD j default) (ys.getD (j + 1) default) ≤ 0) : ToE ys (i + 1) := fun a b h1 h2 => by
  by_cases hb : b = j + 1
  · subst hb
    by_cases ha : a = j
    · subst ha; exact hle
    · exact (entC_good.trans _ _ _ (h a j (by omega) (by omega) (by omega)) hle).1
  · exact h a b h1 (by omega) hb
theorem ButE.zero {ys : List Ent} {i : Nat} (h : ButE ys i 0) : ToE ys (i + 1) := fun a b h1 h2 => h a b h1 (by omega) (by omega)
theorem ToE.pairwise {ys : List Ent} {k : Nat} (h : ToE ys k) (hk : ys.length ≤ k) : ys.Pairwise (fun a b => entC a b ≤ 0) := by
  refine List.pairwise_iff_getElem.2 fun a b ha hb hab => ?_
  have := h a b hab (by omega)
  simpa [List.getD, ha, hb] using this
/-- A block's entries. -/
structure EntsC (W : World) (g o : Nat) (ys : List Ent) : Prop where
  cell : ∀ k (h : k < ys.length), W.cell? ⟨g, o + k * 4, none⟩ = some (.int .i64 ys[k].g) ∧ W.cell? ⟨g, o + k * 4 + 1, none⟩ = some (.string ys[k].nm) ∧ W.cell? ⟨g, o + k * 4 + 2, none⟩ = some (.string ys[k].key) ∧ W.cell? ⟨g, o + k * 4 + 3, none⟩ = some (.string ys[k].val)
  free : ∀ j, W.frozen? ⟨g, j, none⟩ = false
  ok : ∀ y ∈ ys, y.okE
def set4 (W : World) (g o : Nat) (x : Ent) : World := (((W.setCell ⟨g, o, none⟩ (.int .i64 x.g)).setCell ⟨g, o + 1, none⟩ (.string x.nm)).setCell ⟨g, o + 2, none⟩ (.string x.key)).setCell ⟨g, o + 3, none⟩ (.string x.val)
theorem set4_other {W : World} {g o : Nat} {x : Ent} {j : Nat} (h : j < o ∨ o + 4 ≤ j) : (set4 W g o x).cell? ⟨g, j, none⟩ = W.cell? ⟨g, j, none⟩ := by
  unfold set4
  rw [World.cell?_setCell_other _ _ _ _ (by intro e; injection e with e1 e2 e3; omega), World.cell?_setCell_other _ _ _ _ (by intro e; injection e with e1 e2 e3; omega), World.cell?_setCell_other _ _ _ _ (by intro e; injection e with e1 e2 e3; omega), World.cell?_setCell_other _ _ _ _ (by intro e; injection e with e1 e2 e3; omega)]
theorem set4_same {W : World} {g o : Nat} {x : Ent} {u0 u1 u2 u3 : Value} (h0 : W.cell? ⟨g, o, none⟩ = some u0) (h1 : W.cell? ⟨g, o + 1, none⟩ = some u1) (h2 : W.cell? ⟨g, o + 2, none⟩ = some u2) (h3 : W.cell? ⟨g, o + 3, none⟩ = some u3) :
    (set4 W g o x).cell? ⟨g, o, none⟩ = some (.int .i64 x.g) ∧ (set4 W g o x).cell? ⟨g, o + 1, none⟩ = some (.string x.nm) ∧ (set4 W g o x).cell? ⟨g, o + 2, none⟩ = some (.string x.key) ∧ (set4 W g o x).cell? ⟨g, o + 3, none⟩ = some (.string x.val) := by
  have n01 : ∀ (w : World) (i j : Nat) (v : Value), i ≠ j → (w.setCell ⟨g, o + i, none⟩ v).cell? ⟨g, o + j, none⟩ = w.cell? ⟨g, o + j, none⟩ := fun w i j v hij => World.cell?_setCell_other _ _ _ _ (by intro e; injection e with e1 e2 e3; omega)
  unfold set4
  refine ⟨?_, ?_, ?_, ?_⟩
  · have a3 := fun w v => n01 w 3 0 v (by decide)
    have a2 := fun w v => n01 w 2 0 v (by decide)
    have a1 := fun w v => n01 w 1 0 v (by decide)
    simp only [Nat.add_zero] at a1 a2 a3
    rw [a3, a2, a1, World.cell?_setCell_same _ _ _ h0]
  · rw [n01 _ 3 1 _ (by decide), n01 _ 2 1 _ (by decide)]
    refine World.cell?_setCell_same _ _ _ (u := u1) ?_
    have a0 := n01 W 0 1 (.int .i64 x.g) (by decide)
    simp only [Nat.add_zero] at a0
    rw [a0]; exact h1
  · rw [n01 _ 3 2 _ (by decide)]
    refine World.cell?_setCell_same _ _ _ (u := u2) ?_
    have a0 := n01 W 0 2 (.int .i64 x.g) (by decide)
    simp only [Nat.add_zero] at a0
    rw [n01 _ 1 2 _ (by decide), a0]; exact h2
  · refine World.cell?_setCell_same _ _ _ (u := u3) ?_
    have a0 := n01 W 0 3 (.int .i64 x.g) (by decide)
    simp only [Nat.add_zero] at a0
    rw [n01 _ 2 3 _ (by decide), n01 _ 1 3 _ (by decide), a0]; exact h3
theorem EntsC.set {W : World} {g o : Nat} {ys : List Ent} (h : EntsC W g o ys) {k : Nat} (hk : k < ys.length) {x : Ent} (hx : x.okE) : EntsC (set4 W g (o + k * 4) x) g o (ys.set k x) := by
  refine ⟨fun j hj0 => ?_, fun j => ?_, fun z hz => ?_⟩
  · have hj : j < ys.length := by simpa using hj0
    by_cases e : j = k
    · subst e
      obtain ⟨h0, h1, h2, h3⟩ := h.cell j hj
      rw [List.getElem_set_self]
      exact set4_same h0 h1 h2 h3
    · obtain ⟨h0, h1, h2, h3⟩ := h.cell j hj
      have hne : j * 4 + 4 ≤ k * 4 ∨ k * 4 + 4 ≤ j * 4 := by omega
      rw [List.getElem_set_ne (Ne.symm e)]
      rw [set4_other (by omega), set4_other (by omega), set4_other (by omega), set4_other (by omega)]
      exact ⟨h0, h1, h2, h3⟩
  · unfold set4
    rw [World.frozen?_setCell, World.frozen?_setCell, World.frozen?_setCell, World.frozen?_setCell]
    exact h.free j
  · rcases List.mem_or_eq_of_mem_set hz with e | e
    · exact h.ok z e
    · rw [e]; exact hx
theorem EntsC.below {W W' : World} {g o : Nat} {ys : List Ent} (h : EntsC W g o ys) (hg : g < W.heap.size) (hb : Below W.heap.size W W') : EntsC W' g o ys := by
  have hc : ∀ j, W'.cell? ⟨g, j, none⟩ = W.cell? ⟨g, j, none⟩ := fun j => mem_of_block (hb.block g hg) j
  refine ⟨fun k hk => ?_, fun j => ?_, h.ok⟩
  · rw [hc, hc, hc, hc]; exact h.cell k hk
  · have := h.free j
    unfold World.frozen? at this ⊢
    rw [hb.block g hg]; exact this
theorem set4_keeps (W : World) (g o : Nat) (x : Ent) : Keeps (· = g) W (set4 W g o x) := by
  unfold set4
  exact ((((Keeps.refl (· = g) W).setCell (p := ⟨g, o, none⟩) (fun _ => rfl) _).setCell (p := ⟨g, o + 1, none⟩) (fun _ => rfl) _).setCell (p := ⟨g, o + 2, none⟩) (fun _ => rfl) _).setCell (p := ⟨g, o + 3, none⟩) (fun _ => rfl) _
end Go.Proofs.Ytnfolemblnnejaa
/- slices.SortFunc at entries (printed by gen_vsort.py). -/
namespace Go.Proofs.Ytnfolemblnnejaa
open Go.RowKit Go.Shelf Go.Maps Go.Sort
theorem Good.lt_trans {α : Type} {c : α → α → Int} (g : Good c) {a b d : α} (h1 : c a b < 0) (h2 : c b d < 0) : c a d < 0 := by
  have := g.trans a b d (by omega) (by omega)
  by_cases h : c a d = 0
  · have := this.2 h; omega
  · omega
theorem ents_all {m : Mem} {l : List Ent} {v : Value} (h : tEnts.rv m [v] l) : ∀ x ∈ l, x.okE := fun x hx => by
  obtain ⟨k, hk, rfl⟩ := List.getElem_of_mem hx
  obtain ⟨a, cap, rfl, _, _, h⟩ := slice_form h
  obtain ⟨b, o, _, _, hok⟩ := ents_at h hk
  exact hok

theorem swoE : SWO (ltOf entC) := by
  have g := entC_good
  refine ⟨fun x => ?_, fun x y z h1 h2 => ?_, fun x y z h1 h2 => ?_⟩ <;> unfold ltOf at *
  · rw [g.refl]; rfl
  · simp only [decide_eq_true_eq] at *
    exact g.lt_trans h1 h2
  · simp only [decide_eq_false_iff_not, Int.not_lt] at *
    have a1 := g.anti x y
    have a2 := g.anti y z
    have a3 := g.anti x z
    have := (g.trans z y x (by omega) (by omega)).1
    omega
def encE (x : Ent) : List Value := [.int .i64 x.g, .string x.nm, .string x.key, .string x.val]
theorem aggE (w : World) : (isAgg (Try.sort73_ren.t 24)).run Try.prog w = .ok true w := Try.isAgg53 w
theorem sizeE (w : World) : (Go.sizeOf (Try.sort73_ren.t 24)).run Try.prog w = .ok 4 w := Try.sizeOf53 w
theorem cmpLaysE (blk off size : Nat) (w : World) : CmpLays Try.prog 74 #[] encE 4 entC blk off size w :=
  fun _ _ _ _ x y => cmpE_any x y _
theorem sortWorld_keepsE (w : World) (blk off m : Nat) (d : Array Ent) (os : Array Obj) : Keeps (fun k => k = blk) w (sortWorldK encE 4 w blk off m d os) := by
  refine ⟨rfl, rfl, rfl, ?_, fun k hk hne => ?_⟩
  · show w.heap.size ≤ ((w.heap.modify blk _) ++ os).size
    simp
  · show ((w.heap.modify blk _) ++ os)[k]? = w.heap[k]?
    rw [Array.getElem?_append_left (by simpa using hk), Array.getElem?_modify, if_neg (fun e => hne e.symm)]
theorem holds_rvE {w : World} {blk off : Nat} {d : Array Ent} {cap : Nat} (h : HoldsK encE 4 w blk off d) (hc : d.size ≤ cap) (hm : cap ≤ maxLen) {S : Nat → Prop} (hS : S blk) (hok : ∀ y ∈ d.toList, y.okE) : tEnts.rv ((mem w).on S) [.slice (some ⟨blk, off, none⟩) d.size cap] d.toList := by
  refine ⟨some ⟨blk, off, none⟩, cap, by simp, by simpa using hc, hm, fun _ => ⟨blk, off, rfl, fun k hk => ⟨encE d.toList[k], fun j u hj => ?_, rfl, hok _ (List.getElem_mem hk)⟩⟩⟩
  have hk' : k < d.size := by simpa using hk
  have hj2 : j < 4 := by
    have := (List.getElem?_eq_some_iff.1 hj).1
    simpa [encE] using this
  have := (h.cell hk' hj2).1
  refine Mem.on_some ?_ hS
  show w.cell? ⟨blk, off + k * 4 + j, none⟩ = some u
  rw [this]
  congr 1
  rw [getElem!_pos d k hk']
  rw [show d.toList[k] = d[k] by simp] at hj
  rw [List.getElem!_eq_getElem?_getD, hj]
  rfl
theorem owns_holdsE {w : World} {B blk cap : Nat} {o : Nat} {ss : List Ent} (h : Owns tEnt w B 53 (.slice (some ⟨blk, o, none⟩) ss.length cap) ss) : o = 0 ∧ B ≤ blk ∧ blk < w.heap.size ∧ HoldsK encE 4 w blk 0 ss.toArray := by
  have hrv := h.rv'
  obtain ⟨css, g1, ⟨g2, g3⟩, g4, g5⟩ := h
  rcases g3 with ⟨g3, _⟩ | ⟨g, cap', cur, e, hB, hg, _⟩
  · cases g3
  · injection e with e1 e2 e3
    injection e1 with e1
    injection e1 with e1 e4 e5
    subst e1; subst e4
    refine ⟨rfl, hB, (Array.getElem?_eq_some_iff.1 hg).1, fun t ht => ?_⟩
    have ht' : t < ss.length * 4 := by simpa using ht
    have hk : t / 4 < ss.length := by omega
    obtain ⟨b', o', e', cs, hat, hcs⟩ := slice_at hrv hk
    injection e' with e1
    injection e1 with e1 e4 e5
    subst e1; subst e4
    have hc := hat (t % 4) ((encE ss[t / 4])[t % 4]!) (by
      have h2 : t % 4 < 4 := Nat.mod_lt _ (by omega)
      rw [show cs = encE ss[t / 4] from hcs.1, List.getElem!_eq_getElem?_getD, List.getElem?_eq_getElem (show t % 4 < (encE ss[t / 4]).length from h2)]
      rfl)
    have he : 0 + t / 4 * tEnt.sz + t % 4 = 0 + t := by show 0 + t / 4 * 4 + t % 4 = _; omega
    rw [he] at hc
    refine ⟨?_, frozen_cells hg _⟩
    rw [get_flatK _ _ _ _ (by simpa using ht')]
    have hx : (ss.toArray)[t / 4]! = ss[t / 4] := by rw [getElem!_pos ss.toArray (t / 4) (by simpa using hk)]; simp
    rw [hx]
    exact hc
set_option maxRecDepth 100000 in
set_option maxHeartbeats 2000000 in
theorem sortE_any (base : Nat) (v : Value) (ss : List Ent) (w : World) (h : Owns tEnt w base 53 v ss) (hn : ss.length ≤ 1000000000) :
    Calls Try.prog 73 #[v, .func (.func 74) #[] #[]] w fun e w' => e = .returned (.tuple #[]) ∧
      ∃ tt, tt.Perm ss ∧ tt.Pairwise (fun a b => entC a b ≤ 0) ∧ tEnts.rv ((mem w').on (base ≤ ·)) [v] tt ∧ Keeps (fun k => v.ownBlock = some k) w w' ∧ ∀ k, v.ownBlock = some k → ∃ cur, w'.heap[k]? = some (.cells cur 53 (0, 0)) := by
  have hALL := ents_all h.rv'
  obtain ⟨au, cu, rfl, hlc, hmc, _⟩ := slice_form h.rv'
  cases au with
  | none =>
    have h0 : ss = [] := by
      obtain ⟨css, h1, ⟨h2, h3⟩, h4, h5⟩ := h
      rcases h3 with ⟨e, h3⟩ | ⟨g, cap, cur, e, _⟩
      · injection e with _ e _
        exact List.eq_nil_of_length_eq_zero e
      · injection e with e; cases e
    subst h0
    refine (AnyF.slices_SortFunc_none (P := Try.prog) (ρ := Try.sort73_ren) { Try.sort73 with } none cu _ w).mono ?_
    rintro e w' ⟨rfl, rfl⟩
    obtain ⟨css, h1, ⟨h2, h3⟩, h4, h5⟩ := h
    rcases h3 with ⟨e, h3⟩ | ⟨g, cap, cur, e, _⟩
    · injection e with _ _ e
      subst e
      exact ⟨rfl, [], List.Perm.refl _, List.Pairwise.nil, slice_nil _ _, Keeps.refl _ _, fun k e => (by cases e)⟩
    · injection e with e; cases e
  | some a =>
    obtain ⟨blk, o, sp⟩ := a
    have hsp : sp = none := by
      obtain ⟨css, h1, ⟨h2, h3⟩, h4, h5⟩ := h
      rcases h3 with ⟨e, h3⟩ | ⟨g, cap, cur, e, _⟩
      · injection e with e; cases e
      · injection e with e; injection e with e; injection e
    subst hsp
    obtain ⟨rfl, hB, hlt, hH⟩ := owns_holdsE h
    refine (AnyQ.slices_SortFunc (P := Try.prog) (ρ := Try.sort73_ren) Try.sort73 4 aggE sizeE encE (fun _ => rfl) (fun x v hv => by simp [encE] at hv; rcases hv with rfl | rfl | rfl | rfl <;> rfl) entC swoE
      74 #[] blk 0 cu ss.toArray w (fun _ _ => rfl) (cmpLaysE _ _ _ _) hH hlt (by simp; omega)).mono ?_
    rintro e w' ⟨rfl, d, n, os, ⟨hsz, _, hp⟩, hsrt, rfl⟩
    have hszl : d.size = ss.length := by simpa using hsz
    have hperm : d.toList.Perm ss := by
      have e1 : d.extract 0 ss.toArray.size = d := by rw [List.size_toArray, ← hszl]; simp
      rw [e1] at hp
      simpa using hp
    refine ⟨rfl, d.toList, hperm, ?_, ?_, (sortWorld_keepsE _ _ _ _ _ _).wide (fun k _ e => by subst e; rfl), fun k e => ?_⟩
    · rw [List.pairwise_iff_getElem]
      intro i j hi hj hij
      have hj' : j < d.size := by simpa using hj
      have hi' : i < d.size := by omega
      have := hsrt i j (Nat.zero_le _) hij (by simp; omega)
      rw [getElem!_pos d j hj', getElem!_pos d i hi'] at this
      unfold ltOf at this
      simp only [decide_eq_false_iff_not, Int.not_lt] at this
      have ha := entC_good.anti d[i] d[j]
      simp only [Array.getElem_toList]
      omega
    · have hh : HoldsK encE 4 (sortWorldK encE 4 w blk 0 n d os) blk 0 d := holdsK_grow _ _ _ os blk 0 d (by show blk < (w.heap.modify blk _).size; simpa using hlt) (holdsK_putRowK _ _ _ _ _ _ d (holdsK_ahead _ _ _ n _ _ _ hH) hsz)
      have := holds_rvE (cap := cu) hh (by omega) hmc (S := (base ≤ ·)) hB (fun y hy => hALL y (hperm.mem_iff.1 hy))
      rw [hszl] at this
      exact this
    · obtain rfl : blk = k := by injection e
      obtain ⟨css, _, ⟨_, h3⟩, _⟩ := h
      rcases h3 with ⟨e, _⟩ | ⟨g, cap, cur, e, _, hg, _⟩
      · injection e with e; cases e
      · injection e with e1
        injection e1 with e1
        injection e1 with e1
        subst e1
        refine ⟨putCells id 0 (flatK encE 4 d) cur, ?_⟩
        show ((w.heap.modify blk _) ++ os)[blk]? = _
        rw [Array.getElem?_append_left (by simpa using hlt), Array.getElem?_modify, if_pos rfl, hg]
        rfl
end Go.Proofs.Ytnfolemblnnejaa
/- package vault: Entries. -/
namespace Go.Proofs.Ytnfolemblnnejaa
open Go.RowKit Go.Maps

def Sn.ents (t : Sn) : List Ent := t.rents.flatten
/-- What Entries answers. -/
def entsCode (o : Option Sn) : Int := match o with | none => 8 | some t => if t.done = true then 0 else 10
def EntsSay (o : Option Sn) (es : List Ent) : Prop := match o with | none => es = [] | some t => if t.done = true then es.Perm t.ents ∧ es.Pairwise (fun a b => entC a b ≤ 0) else es = []
def EntsOut (w : World) (o : Option Sn) (e : Ending) (w' : World) : Prop := ∃ es a cap, e = .returned (.tuple #[.slice a es.length cap, .int .i64 (entsCode o)]) ∧ EntsSay o es ∧ tEnts.rv ((mem w').on (w.heap.size ≤ ·)) [.slice a es.length cap] es ∧ Below w.heap.size w w'
theorem ents_take {t : Sn} {j : Nat} (hj : j < t.told.length) {x : Part} (hx : t.told[j] = some x) : (t.rents.take (j + 1)).flatten = (t.rents.take j).flatten ++ x.2 := by
  have hl : j < t.rents.length := by unfold Sn.rents; simpa using hj
  have e : t.rents[j] = x.2 := by simp [Sn.rents, hx]
  rw [List.take_succ_eq_append_getElem hl, List.flatten_append, e]
  simp
theorem ents_sub {t : Sn} {j : Nat} : (t.rents.take j).flatten.length ≤ t.ents.length := by
  unfold Sn.ents
  conv => rhs; rw [← List.take_append_drop j t.rents, List.flatten_append, List.length_append]
  omega
set_option maxRecDepth 100000 in
set_option maxHeartbeats 8000000 in
theorem vEntries_any {base p : Nat} {r : HV} (k : Int) (w : World) (hI : VInv w base p r) (hk : inI64 k) (hle : ∀ t, r.vs.find k = some t → t.ents.length ≤ 100000) :
    Calls Try.prog 50 #[ptrTo p, .int .i64 k] w (EntsOut w (r.vs.find k)) := by
  have HW := Lib.hid (whole_any k w hI hk)
  cases hf : r.vs.find k with
  | none =>
    rw [hf] at HW
    simp only [whA] at HW
    clear hI hf hle
    go_enter Try.func50, Try.ntmps50
    go_wp2_with fail
    refine HW.out.mono ?_
    rintro e w1 ⟨rfl, hb⟩
    go_wp2
    go_ret2
    exact ⟨[], none, 0, rfl, rfl, slice_nil _ _, hb⟩
  | some t =>
    rw [hf] at HW
    simp only [whA] at HW
    have hm := find_mem hf
    by_cases hd : t.done = true
    case neg =>
      rw [if_neg hd] at HW
      have HC := Lib.hid (show entsCode (some t) = 10 from if_neg hd)
      have HS := Lib.hid (show EntsSay (some t) [] from by unfold EntsSay; simp [hd])
      clear hI hf hle
      go_enter Try.func50, Try.ntmps50
      go_wp2_with fail
      refine HW.out.mono ?_
      rintro e w1 ⟨rfl, hb⟩
      go_wp2
      go_ret2
      exact ⟨[], none, 0, by rw [HC.out]; rfl, HS.out, slice_nil _ _, hb⟩
    rw [if_pos hd] at HW
    have HC := Lib.hid (show entsCode (some t) = 0 from if_pos hd)
    have HS := Lib.hid (fun es (h : es.Perm t.ents ∧ es.Pairwise (fun a b => entC a b ≤ 0)) => (show EntsSay (some t) es from by unfold EntsSay; simp only; rw [if_pos hd]; exact h))
    have hta := (hI.ok.tk _ hm).2.1
    simp only at hta
    have HLT := Lib.hid (hle t hf)
    have HSB := Lib.hid (fun (w' : World) (hb : Below w.heap.size w w') => (hI.pure hb).sb _ hm)
    simp only at HSB
    have HLE := Lib.hid (fun (w' : World) => (Mem.on_le _ _ : (safeV w' p r).le (mem w')))
    have hlen : t.rents.length = t.told.length := by unfold Sn.rents; simp
    have HTX := Lib.hid (fun (j : Nat) (hj : j < t.told.length) => (show ∃ x, t.told[j] = some x ∧ (t.rents.take (j + 1)).flatten = (t.rents.take j).flatten ++ x.2 from by
      obtain ⟨x, hx⟩ := done_at hd hj
      exact ⟨x, hx, ents_take hj hx⟩))
    clear hI hf hd hle
    go_enter Try.func50, Try.ntmps50
    go_wp2_with fail
    refine HW.out.mono ?_
    rintro e w1 ⟨rfl, hb⟩
    have HB1 := Lib.hid hb
    have d8 : w1.cell? ⟨r.ad k, 8, none⟩ = some (.slice (some ⟨r.pb k, 0, none⟩) t.told.length t.told.length) := by
      have := (HSB.out w1 hb).1
      unfold snCells at this
      exact mem_cells this 8
    clear hb HW
    go_wp2_with fail
    go_loopw [8, 25] (fun ov iv wr => ∃ j : Nat, j ≤ t.told.length ∧ iv = .int .i64 j ∧ Hid (Owns tEnt wr w1.heap.size 53 ov (t.rents.take j).flatten) ∧ Hid (Below w1.heap.size w1 wr)) (fun _ iv _ => t.told.length - (intOf iv).toNat)
    case atStart => exact ⟨0, by omega, rfl, Lib.hid (Owns.nil _ _ _ _), Lib.hid (Below.refl _ _)⟩
    case round =>
      obtain ⟨j, hj, rfl, HO, HBR⟩ := hrel
      have HWR := Lib.hid (pure_trans HB1.out HBR.out)
      by_cases hlt : j < t.told.length
      · obtain ⟨x, hx, htk⟩ := HTX.out j hlt
        obtain ⟨-, arr, h2, h3, h4⟩ := HSB.out wr HWR.out
        obtain ⟨v, e1, hp⟩ := h4 j hlt
        rw [hx] at hp
        obtain ⟨a, ev, rfl, -, g1, g2, -⟩ := hp
        have d0 : wr.cell? ⟨r.pb k, j, none⟩ = some (ptrTo a) := (mem_cells h2 j).trans e1
        obtain ⟨ax, cx, rfl, -, hcx, g2⟩ := slice_form g2
        have d1 : wr.cell? ⟨a, 1, none⟩ = some (.slice ax x.2.length cx) := HLE.out wr _ _ _ g1
        have HXS := Lib.hid (tEnts.mono _ _ _ _ (HLE.out wr) g2)
        have HSZ := Lib.hid HBR.out.size
        have HLL := Lib.hid (show (t.rents.take j).flatten.length + x.2.length ≤ 100000 from by
          have h1 := ents_sub (t := t) (j := j + 1)
          rw [htk, List.length_append] at h1
          exact Nat.le_trans h1 HLT.out)
        have HTK := Lib.hid htk
        clear h2 h3 h4 e1 g1 g2 hx htk hcx
        generalize (t.rents.take j).flatten = l at *
        obtain ⟨xt, xe⟩ := x
        simp only at d1 HTK HXS HLL
        obtain ⟨al, cl, hvl, _⟩ := HO.out.len
        subst hvl
        go_wp2_with (at_builtin; refine wpList_append_flat rfl _ _ 35 rfl tEnt_flat tEnt_one Try.underlying35 infoEnt rfl (by decide) w1.heap.size _ l xe rfl HO.out _ _ _ rfl rfl HXS.out ?c1 ?c2 ?c3 ?_)
        case c1 => have := HLL.out; unfold maxLen; omega
        case c2 => have := HLL.out; omega
        case c3 => exact HSZ.out
        intro v' w6 own6 hgrow
        have HB6 := Lib.hid (show Below w1.heap.size w1 w6 from HBR.out.grown hgrow HSZ.out (fun k hk => ((HO.out).lt k hk).1))
        obtain ⟨a6, cap6, rfl, _⟩ := own6.len
        have HO6 := Lib.hid (show Owns tEnt w6 w1.heap.size 53 (.slice a6 (l ++ xe).length cap6) (t.rents.take (j + 1)).flatten by
          rw [HTK.out]
          exact own6)
        clear own6 hgrow HO
        go_wp2
        go_roundw
        case rel => exact ⟨j + 1, by omega, by go_num, HO6, HB6⟩
        case measure => simp [intOf]; omega
      · obtain rfl : j = t.told.length := by omega
        rw [← hlen, List.take_length] at HO
        have HEN := Lib.hid (show t.ents = t.rents.flatten from rfl)
        have HLT2 := Lib.hid (show t.rents.flatten.length ≤ 1000000000 from by rw [← HEN.out]; exact Nat.le_trans HLT.out (by decide))
        generalize t.rents.flatten = fl at *
        obtain ⟨a7, c7, hv7, _⟩ := HO.out.len
        subst hv7
        have HSO := Lib.hid (sortE_any w1.heap.size _ _ wr HO.out HLT2.out)
        have HOB := Lib.hid (fun (b : Nat) (h : (Value.slice a7 fl.length c7).ownBlock = some b) => (show w1.heap.size ≤ b from (HO.out.lt b h).1))
        clear HO
        go_wp2_with fail
        refine HSO.out.mono ?_
        rintro e w8 ⟨rfl, tt, hperm, hpw, hrv, hkeep, -⟩
        have hl8 : tt.length = fl.length := hperm.length_eq
        have HB8 := Lib.hid (show Below w.heap.size w w8 from HWR.out.trans (hkeep.below HWR.out.size (fun b e => Nat.le_trans HB1.out.size (HOB.out b e))))
        have HSY := Lib.hid (HS.out tt ⟨by rw [HEN.out]; exact hperm, hpw⟩)
        have HR8 := Lib.hid (show tEnts.rv ((mem w8).on (w.heap.size ≤ ·)) [.slice a7 tt.length c7] tt from by
          rw [hl8]
          exact tEnts.mono _ _ _ _ (fun b o v e => by obtain ⟨h1, h2⟩ := Mem.of_on e; exact Mem.on_some h2 (Nat.le_trans HB1.out.size h1)) hrv)
        rw [← hl8]
        clear hperm hpw hrv hkeep hl8 HSO HOB
        go_wp2
        go_ret2
        exact ⟨tt, a7, c7, by rw [HC.out] <;> rfl, HSY.out, HR8.out, HB8.out⟩
end Go.Proofs.Ytnfolemblnnejaa
/- share.Part; the reference's Range (chapter 12). -/
namespace Go.Proofs.Ytnfolemblnnejaa
open Go.RowKit Go.Maps

def rightP (parts groups : Int) : Bool := decide (1 ≤ parts ∧ parts ≤ 16) && decide (1 ≤ groups ∧ groups ≤ 128)
set_option maxHeartbeats 1000000 in
theorem right_any (parts groups : Int) (w : World) :
    Calls Try.prog 75 #[.int .i64 parts, .int .i64 groups] w fun e w' => e = .returned (.bool (rightP parts groups)) ∧ w = w' := by
  have HV := Lib.hid (show rightP parts groups = (decide (1 ≤ parts ∧ parts ≤ 16) && decide (1 ≤ groups ∧ groups ≤ 128)) from rfl)
  generalize rightP parts groups = r at *
  by_cases h1 : 1 ≤ parts <;> by_cases h2 : parts ≤ 16 <;> by_cases h3 : 1 ≤ groups <;> by_cases h4 : groups ≤ 128
  all_goals
    go_enter Try.func75, Try.ntmps75
    go_wp2
    go_ret
    exact ⟨by rw [HV.out]; simp [*], rfl⟩
def partAns (g parts groups : Int) : Int × Int := if rightP parts groups = true ∧ 0 ≤ g ∧ g < groups then (g * parts / groups, 0) else (0, 7)
set_option maxHeartbeats 2000000 in
theorem part_any (g parts groups : Int) (w : World) :
    Calls Try.prog 51 #[.int .i64 g, .int .i64 parts, .int .i64 groups] w fun e w' => e = .returned (.tuple #[.int .i64 (partAns g parts groups).1, .int .i64 (partAns g parts groups).2]) ∧ w = w' := by
  have HR := Lib.hid (fun w => right_any parts groups w)
  have HP := Lib.hid (show partAns g parts groups = if rightP parts groups = true ∧ 0 ≤ g ∧ g < groups then (g * parts / groups, 0) else (0, 7) from rfl)
  generalize partAns g parts groups = pa at *
  cases hr : rightP parts groups with
  | false =>
    have HA := Lib.hid (show pa = (0, 7) from by rw [HP.out, hr]; simp)
    rw [hr] at HR
    clear HP
    obtain rfl := HA.out
    go_enter Try.func51, Try.ntmps51
    go_wp2_with fail
    refine (HR.out _).mono ?_
    rintro e w1 ⟨rfl, rfl⟩
    go_wp2
    go_ret2
    exact ⟨rfl, rfl⟩
  | true =>
    have hrr := hr
    unfold rightP at hrr
    simp only [Bool.and_eq_true, decide_eq_true_eq] at hrr
    obtain ⟨⟨p1, p2⟩, g1, g2⟩ := hrr
    rw [hr] at HR
    by_cases h0 : 0 ≤ g
    case neg =>
      have HA := Lib.hid (show pa = (0, 7) from by rw [HP.out, if_neg (by omega)])
      clear HP
      obtain rfl := HA.out
      go_enter Try.func51, Try.ntmps51
      go_wp2_with fail
      refine (HR.out _).mono ?_
      rintro e w1 ⟨rfl, rfl⟩
      go_wp2
      go_ret2
      exact ⟨rfl, rfl⟩
    by_cases h1 : g < groups
    case neg =>
      have HA := Lib.hid (show pa = (0, 7) from by rw [HP.out, if_neg (by omega)])
      clear HP
      obtain rfl := HA.out
      go_enter Try.func51, Try.ntmps51
      go_wp2_with fail
      refine (HR.out _).mono ?_
      rintro e w1 ⟨rfl, rfl⟩
      go_wp2
      go_ret2
      exact ⟨rfl, rfl⟩
    have HA := Lib.hid (show pa = (g * parts / groups, 0) from by rw [HP.out, if_pos ⟨hr, h0, h1⟩])
    have hmul : 0 ≤ g * parts ∧ g * parts ≤ 2048 := ⟨Int.mul_nonneg h0 (by omega), by
      have := Int.mul_le_mul (show g ≤ 128 by omega) p2 (by omega) (by decide)
      omega⟩
    obtain ⟨m1, m2⟩ := hmul
    have hw : IntKind.i64.wrap (g * parts) = g * parts := IntWalk.i64_in _ (by omega)
    have hg0 : groups ≠ 0 := by omega
    have hq : (g * parts).tdiv groups = g * parts / groups := Int.tdiv_eq_ediv_of_nonneg m1
    have hq1 : 0 ≤ g * parts / groups := Int.ediv_nonneg m1 (by omega)
    have hq2 : g * parts / groups ≤ 2048 := Int.le_trans (Int.ediv_le_self _ m1) m2
    have hw2 : IntKind.i64.wrap (g * parts / groups) = g * parts / groups := IntWalk.i64_in _ (by omega)
    clear HP
    obtain rfl := HA.out
    go_enter Try.func51, Try.ntmps51
    go_wp2_with fail
    refine (HR.out _).mono ?_
    rintro e w1 ⟨rfl, rfl⟩
    go_wp2
    go_ret2
    exact ⟨by first | rfl | simp [hw, hq, hw2], rfl⟩
set_option maxHeartbeats 1000000 in
theorem num12_any (parts groups : Int) (w : World) :
    Calls Try.prog 52 #[.int .i64 parts, .int .i64 groups] w fun e w' => e = .returned (.bool (rightP parts groups)) ∧ w = w' := by
  have HV := Lib.hid (show rightP parts groups = (decide (1 ≤ parts ∧ parts ≤ 16) && decide (1 ≤ groups ∧ groups ≤ 128)) from rfl)
  have H1 := Lib.hid (fun w => refIn_any parts 16 w)
  have H2 := Lib.hid (fun w => refIn_any groups 128 w)
  generalize rightP parts groups = r at *
  generalize decide (1 ≤ parts ∧ parts ≤ 16) = b1 at *
  generalize decide (1 ≤ groups ∧ groups ≤ 128) = b2 at *
  go_enter Try.func52, Try.ntmps52
  go_wp2_with fail
  refine (H1.out _).mono ?_
  rintro e w1 ⟨rfl, rfl⟩
  cases b1 with
  | false =>
    go_wp2
    go_ret
    exact ⟨by rw [HV.out] <;> rfl, rfl⟩
  | true =>
    go_wp2_with fail
    refine (H2.out _).mono ?_
    rintro e w2 ⟨rfl, rfl⟩
    go_wp2
    go_ret
    exact ⟨by rw [HV.out] <;> rfl, rfl⟩
end Go.Proofs.Ytnfolemblnnejaa
/- The reference's Range (chapter 12). -/
namespace Go.Proofs.Ytnfolemblnnejaa
open Go.RowKit Go.Maps

def qOf (g parts groups : Int) : Int := g * parts / groups
theorem qOf_mono {a b parts groups : Int} (h : a ≤ b) (hp : 0 ≤ parts) (hg : 0 < groups) : qOf a parts groups ≤ qOf b parts groups :=
  Int.ediv_le_ediv hg (Int.mul_le_mul_of_nonneg_right h hp)
theorem qOf_facts {g parts groups : Int} (h0 : 0 ≤ g) (h1 : g < groups) (hg : groups ≤ 128) (hp : 1 ≤ parts) (hp2 : parts ≤ 16) :
    IntKind.i64.wrap (g * parts) = g * parts ∧ (g * parts).tdiv groups = qOf g parts groups ∧ IntKind.i64.wrap (qOf g parts groups) = qOf g parts groups := by
  have m1 : 0 ≤ g * parts := Int.mul_nonneg h0 (by omega)
  have m2 : g * parts ≤ 2048 := by
    have := Int.mul_le_mul (show g ≤ 128 by omega) hp2 (by omega) (by decide)
    omega
  have q1 : 0 ≤ g * parts / groups := Int.ediv_nonneg m1 (by omega)
  have q2 : g * parts / groups ≤ 2048 := Int.le_trans (Int.ediv_le_self _ m1) m2
  exact ⟨IntWalk.i64_in _ (by omega), Int.tdiv_eq_ediv_of_nonneg m1, IntWalk.i64_in _ (by unfold qOf; omega)⟩
def RangeOut (part parts groups : Int) (w : World) (e : Ending) (w' : World) : Prop := w = w' ∧ ∃ a b : Int, e = .returned (.tuple #[.int .i64 a, .int .i64 b, .int .i64 0]) ∧ ∀ g, 0 ≤ g → g < groups → qOf g parts groups = part → a ≤ g ∧ g < b
set_option maxRecDepth 100000 in
set_option maxHeartbeats 4000000 in
theorem refRange_any (part parts groups : Int) (w : World) (hr : rightP parts groups = true) (h0 : 0 ≤ part) (h1 : part < parts) :
    Calls Try.prog 20 #[.int .i64 part, .int .i64 parts, .int .i64 groups] w (RangeOut part parts groups w) := by
  have HN := Lib.hid (fun w => num12_any parts groups w)
  rw [hr] at HN
  have hrr := hr
  unfold rightP at hrr
  simp only [Bool.and_eq_true, decide_eq_true_eq] at hrr
  obtain ⟨⟨p1, p2⟩, g1, g2⟩ := hrr
  obtain ⟨G, rfl⟩ := Int.eq_ofNat_of_zero_le (show 0 ≤ groups by omega)
  have hG0 : ((G : Nat) : Int) ≠ 0 := by omega
  clear hr
  go_enter Try.func20, Try.ntmps20
  go_wp2_with fail
  refine (HN.out _).mono ?_
  rintro e w1 ⟨rfl, rfl⟩
  clear HN
  go_wp2_with fail
  go_loopw [6] (fun fv wr => ∃ f : Nat, f ≤ G ∧ fv = .int .i64 f ∧ wr = w ∧ Hid (∀ g : Int, 0 ≤ g → g < f → qOf g parts G < part)) (fun fv _ => G - (intOf fv).toNat)
  case atStart => exact ⟨0, by omega, rfl, rfl, Lib.hid (fun g h1 h2 => by omega)⟩
  case round =>
    obtain ⟨f, hf, rfl, rfl, HT⟩ := hrel
    have HMM := Lib.hid (fun (a b : Int) (h : a ≤ b) => qOf_mono (parts := parts) (groups := G) h (by omega) (by omega))
    -- the way out of the first loop, from any f
    by_cases hlt : f < G
    · obtain ⟨m1, m2, m3⟩ := qOf_facts (g := (f : Int)) (parts := parts) (groups := G) (by omega) (by omega) g2 p1 p2
      generalize hq : qOf (f : Int) parts G = qf at *
      by_cases hqp : qf < part
      · have HN := Lib.hid (show ∀ g : Int, 0 ≤ g → g < ((f + 1 : Nat) : Int) → qOf g parts G < part from fun g h2 h3 => by
          by_cases e : g = f
          · rw [e, hq]; exact hqp
          · exact HT.out g h2 (by omega))
        clear HT HMM hq
        go_wp2
        go_roundw
        case rel => exact ⟨f + 1, by omega, by go_num, by first | rfl | trivial, HN⟩
        case measure => simp [intOf]; omega
      · have HGE := Lib.hid (show ∀ g : Int, 0 ≤ g → qOf g parts G = part → (f : Int) ≤ g from fun g h2 h3 => by
          by_cases e : g < f
          · have := HT.out g h2 e; omega
          · omega)
        have HQF := Lib.hid (show ∀ g : Int, (f : Int) ≤ g → part ≤ qOf g parts G from fun g h2 => by have := HMM.out _ _ h2; rw [hq] at this; omega)
        clear HT hq
        go_wp2_with fail
        go_loopw [7] (fun tv wx => ∃ b : Nat, f ≤ b ∧ b ≤ G ∧ tv = .int .i64 b ∧ wx = wr ∧ Hid (∀ g : Int, (f : Int) ≤ g → g < b → qOf g parts G = part)) (fun tv _ => G - (intOf tv).toNat)
        case atStart => exact ⟨f, by omega, by omega, rfl, rfl, Lib.hid (fun g h1 h2 => by omega)⟩
        case round =>
          obtain ⟨b, hfb, hb, rfl, rfl, HT⟩ := hrel
          by_cases hlt2 : b < G
          · obtain ⟨m4, m5, m6⟩ := qOf_facts (g := (b : Int)) (parts := parts) (groups := G) (by omega) (by omega) g2 p1 p2
            generalize hq : qOf (b : Int) parts G = qb at *
            by_cases hqp2 : qb = part
            · have HN := Lib.hid (show ∀ g : Int, (f : Int) ≤ g → g < ((b + 1 : Nat) : Int) → qOf g parts G = part from fun g h2 h3 => by
                by_cases e : g = b
                · rw [e, hq]; exact hqp2
                · exact HT.out g h2 (by omega))
              have hbb : (qb == part) = true := by simp [hqp2]
              clear HT hq hqp2
              go_wp2
              go_roundw
              case rel => exact ⟨b + 1, by omega, by omega, by go_num, by first | rfl | trivial, HN⟩
              case measure => simp [intOf]; omega
            · have HLT := Lib.hid (show ∀ g : Int, 0 ≤ g → g < G → qOf g parts G = part → (f : Int) ≤ g ∧ g < b from fun g h2 h3 h4 => by
                refine ⟨HGE.out g h2 h4, ?_⟩
                by_cases e : g < b
                · exact e
                · have h5 := HMM.out b g (by omega)
                  have h6 := HQF.out b (by omega)
                  rw [hq] at h5 h6
                  omega)
              have hbb : (qb == part) = false := by simp [hqp2]
              clear HT hq hqp2
              go_wp2
              go_ret3
              exact ⟨rfl, f, b, rfl, HLT.out⟩
          · obtain rfl : b = G := by omega
            go_wp2
            go_ret3
            exact ⟨rfl, f, b, rfl, fun g h2 h3 h4 => ⟨HGE.out g h2 h4, h3⟩⟩
    · obtain rfl : f = G := by omega
      have HGE := Lib.hid (show ∀ g : Int, 0 ≤ g → qOf g parts f = part → (f : Int) ≤ g from fun g h2 h3 => by
        by_cases e : g < f
        · have := HT.out g h2 e; omega
        · omega)
      clear HT HMM
      go_wp2_with fail
      refine wp_loop_rounds 1 ?_
      rw [rounds_succ]
      go_wp2
      all_goals
        first
          | (exfalso; omega)
          | (go_ret3
             exact ⟨rfl, f, f, rfl, fun g h2 h3 h4 => by have := HGE.out g h2 h4; omega⟩)
end Go.Proofs.Ytnfolemblnnejaa
/- Appends as one step of a region that draws its order. No program in sight. -/
namespace Go.Proofs.Ytnfolemblnnejaa
open Go.RowKit
section
variable {P : Program}
/-- APPEND OF ONE ELEMENT to a row of the call's own, as one step of a region that draws its order. -/
theorem step_append_one {α : Type} {ops : Array Oper} {o : Oper} {a : Act} {w : World} {K : Act → World → Prop} {Q : Exit → Act → World → Prop} {E : Prop} (hgd : o.guard = none) (s x : Operand) (T : TypeId)
    (ho : o.op = .call { callee := .builtin .append, args := #[s, x], argTypes := #[T, T] }) (t : Ty α) {e : TypeId} {z : Value} {bytes : Nat} (hT : P.underlying T = some (.slice e))
    (hinf : (P.info? e).map (fun i => (i.zero, i.size, i.bytes)) = some (some z, t.sz, bytes)) (hzs : z.cells.size = t.sz) (hsz : 0 < t.sz) (B : Nat) (v : Value) (xs : List α) (hs : a.eval s = v) (hown : Owns t w B e v xs)
    (nb c : Nat) (y : α) (hx : a.eval x = .slice (some ⟨nb, 0, none⟩) 1 c) (cs : List Value) (hat : At (mem w) nb 0 cs) (hrv : t.rv ((mem w).on (fun b => some b ≠ v.ownBlock)) cs y) (h1 : ∀ u ∈ cs, u.oneCell' = true)
    (h63 : xs.length + 1 ≤ maxLen) (hbytes : (xs.length + 1) * bytes ≤ 140737488355328) (hbase : B ≤ w.heap.size)
    (h : ∀ v' w', Owns t w' B e v' (xs ++ [y]) → w.grownBy w' v.ownBlock → (v'.ownBlock = v.ownBlock ∨ ∀ k, v'.ownBlock = some k → w.heap.size ≤ k) → K (a.put o.dst v') w') :
    if Region.wanted o (yielded ops a.tmps) = true then Oper.wp P o a w K Q else E := by
  have hw : Region.wanted o (yielded ops a.tmps) = true := by simp [Region.wanted, hgd]
  rw [if_pos hw]
  obtain ⟨i, hi, hz, hsize, hby⟩ := info_parts hinf
  have hown' := hown
  obtain ⟨css, g1, g2, g4, g5⟩ := hown
  have hl : cs.length = 1 * t.sz := by rw [t.len _ _ _ hrv, Nat.one_mul]
  have hnews : ∀ j u, cs[j]? = some u → w.cell? ((⟨nb, 0, none⟩ : Addr).add j) = some u := fun j u hj => by rw [Addr.add_lit]; exact hat j u hj
  obtain ⟨v', w', hr, h2, h3, _⟩ := run_append_own (P := P) w B T o.type e i z t.sz bytes hT hi hz hsize hby hzs hsz v xs.length css.flatten g2 ⟨nb, 0, none⟩ 1 c cs hl hnews h1 h63 hbytes hbase
  have hblk := append_block w B T o.type e i z t.sz bytes hT hi hz hsize hby v xs.length css.flatten g2 ⟨nb, 0, none⟩ 1 c cs hl hnews h1 (by omega) h63 hbytes hr
  have key : Owns t w' B e v' (xs ++ [y]) := by
    refine hown'.snoc (fun css' hc' => ?_) h3 hblk hrv
    obtain ⟨v2, w2, hr2, h22, _, _⟩ := run_append_own (P := P) w B T o.type e i z t.sz bytes hT hi hz hsize hby hzs hsz v xs.length css'.flatten hc' ⟨nb, 0, none⟩ 1 c cs hl hnews h1 h63 hbytes hbase
    rw [hr] at hr2
    injection hr2 with ev ew
    subst ev; subst ew
    exact h22
  unfold Oper.wp execOp
  simp only [ho, resolve, invoke, builtin, Sem.run_bind, Sem.run_pure, Result.andThen_ok, List.map_toArray, List.map_cons, List.map_nil, hs, hx, hr]
  exact h v' w' key h3 hblk
end
end Go.Proofs.Ytnfolemblnnejaa
/- package vault: Dealt. -/
namespace Go.Proofs.Ytnfolemblnnejaa
open Go.RowKit Go.Maps

/-- Rows of the call's own, each in a block of its own. -/
structure RowsOf (w : World) (B O : Nat) (vs : Array Value) (ls : List (List Ent)) : Prop where
  hO : w.heap[O]? = some (.cells vs 35 (0, 0))
  sz : vs.size = ls.length
  ow : ∀ (p : Nat) (v : Value), vs[p]? = some v → Owns tEnt w B 53 v (ls.getD p [])
  ne : ∀ (p : Nat) (v : Value) (b : Nat), vs[p]? = some v → v.ownBlock = some b → b ≠ O
  dj : ∀ (p q : Nat) (v u : Value) (b : Nat), vs[p]? = some v → vs[q]? = some u → v.ownBlock = some b → u.ownBlock = some b → p = q
theorem RowsOf.pure {w w' : World} {B O : Nat} {vs : Array Value} {ls : List (List Ent)} (h : RowsOf w B O vs ls) (hb : Below w.heap.size w w') : RowsOf w' B O vs ls :=
  ⟨(hb.block _ (Array.getElem?_eq_some_iff.1 h.hO).1).trans h.hO, h.sz, fun p v e => (h.ow p v e).keeps hb, h.ne, h.dj⟩
theorem grown_rows {w w' : World} {row : Option Nat} (h : w.grownBy w' row) : Keeps (fun b => row = some b) w w' := ⟨h.os, h.tape, h.output, h.size, fun k hk hn => h.block k hk (fun e => hn e.symm)⟩
theorem RowsOf.put {w w5 : World} {B O p : Nat} {vs : Array Value} {ls : List (List Ent)} {v v' : Value} {x : Ent} (h : RowsOf w B O vs ls) (hv : vs[p]? = some v) (hown : Owns tEnt w5 B 53 v' (ls.getD p [] ++ [x]))
    (hg : w.grownBy w5 v.ownBlock) (hbl : v'.ownBlock = v.ownBlock ∨ ∀ k, v'.ownBlock = some k → w.heap.size ≤ k) :
    w5.heap[O]? = some (.cells vs 35 (0, 0)) ∧ RowsOf (w5.setCell ⟨O, p, none⟩ v') B O (vs.setIfInBounds p v') (ls.set p (ls.getD p [] ++ [x])) := by
  have hOl := (Array.getElem?_eq_some_iff.1 h.hO).1
  have hpl := (Array.getElem?_eq_some_iff.1 hv).1
  have hk := grown_rows hg
  have hO5 : w5.heap[O]? = some (.cells vs 35 (0, 0)) := (hk.block O hOl (fun e => h.ne p v O hv e rfl)).trans h.hO
  have hks : Keeps (· = O) w5 (w5.setCell ⟨O, p, none⟩ v') := (Keeps.refl (· = O) w5).setCell (p := ⟨O, p, none⟩) (fun _ => rfl) v'
  have hne' : ∀ b, v'.ownBlock = some b → b ≠ O := fun b e e2 => by
    rcases hbl with g | g
    · exact h.ne p v b hv (g ▸ e) e2
    · have := g b e; omega
  have hoth : ∀ q u, q ≠ p → vs[q]? = some u → ∀ b, u.ownBlock = some b → v.ownBlock ≠ some b := fun q u hq hu b e e2 => hq (h.dj q p u v b hu hv e e2)
  have hdj' : ∀ q u b, q ≠ p → vs[q]? = some u → v'.ownBlock = some b → u.ownBlock = some b → False := fun q u b hq hu e e2 => by
    rcases hbl with g | g
    · exact hoth q u hq hu b e2 (g ▸ e)
    · have h1 := g b e
      have h2 := ((h.ow q u hu).lt b e2).2
      omega
  have hget : ∀ q u, (vs.setIfInBounds p v')[q]? = some u → (q = p ∧ u = v') ∨ (q ≠ p ∧ vs[q]? = some u) := fun q u e => by
    by_cases hq : q = p
    · subst hq
      rw [Array.getElem?_setIfInBounds_self_of_lt hpl] at e
      exact .inl ⟨rfl, by injection e with e; exact e.symm⟩
    · rw [Array.getElem?_setIfInBounds_ne (Ne.symm hq)] at e
      exact .inr ⟨hq, e⟩
  refine ⟨hO5, ⟨set_block hO5, by rw [Array.size_setIfInBounds, List.length_set]; exact h.sz, fun q u e => ?_, fun q u b e e2 => ?_, fun q1 q2 u1 u2 b e1 e2 f1 f2 => ?_⟩⟩
  · rcases hget q u e with ⟨rfl, rfl⟩ | ⟨hq, hu⟩
    · have : (ls.set q (ls.getD q [] ++ [x])).getD q [] = ls.getD q [] ++ [x] := by
        have : q < ls.length := by rw [← h.sz]; exact hpl
        simp [List.getD, this]
      rw [this]
      exact hown.keepsFlat tEnt_flat hks (fun k e => hne' k e)
    · have : (ls.set p (ls.getD p [] ++ [x])).getD q [] = ls.getD q [] := by simp [List.getD, List.getElem?_set_ne (Ne.symm hq)]
      rw [this]
      exact ((h.ow q u hu).keepsFlat tEnt_flat hk (fun k e => hoth q u hq hu k e)).keepsFlat tEnt_flat hks (fun k e => h.ne q u k hu e)
  · rcases hget q u e with ⟨rfl, rfl⟩ | ⟨hq, hu⟩
    · exact hne' b e2
    · exact h.ne q u b hu e2
  · rcases hget q1 u1 e1 with ⟨rfl, rfl⟩ | ⟨hq1, hu1⟩ <;> rcases hget q2 u2 e2 with ⟨rfl, rfl⟩ | ⟨hq2, hu2⟩
    · rfl
    · exact (hdj' q2 u2 b hq2 hu2 f1 f2).elim
    · exact (hdj' q1 u1 b hq1 hu1 f2 f1).elim
    · exact h.dj q1 q2 u1 u2 b hu1 hu2 f1 f2
/-- Dealt, told plainly. -/
def dealtOf (parts : Nat) (groups : Int) (es : List Ent) : List (List Ent) := (List.range parts).map (fun p => es.filter (fun x => decide (qOf x.g parts groups = (p : Nat))))
theorem dealt_nil (parts : Nat) (groups : Int) : dealtOf parts groups [] = List.replicate parts [] := by
  unfold dealtOf
  apply List.ext_getElem
  · simp
  · intro i h1 h2; simp
theorem dealt_snoc {parts : Nat} {groups : Int} (es : List Ent) (x : Ent) {p : Nat} (hp : qOf x.g parts groups = (p : Nat)) (hpl : p < parts) : dealtOf parts groups (es ++ [x]) = (dealtOf parts groups es).set p ((dealtOf parts groups es).getD p [] ++ [x]) := by
  have hg : (dealtOf parts groups es).getD p [] = es.filter (fun x => decide (qOf x.g parts groups = (p : Nat))) := by
    unfold dealtOf
    simp [List.getD, hpl]
  rw [hg]
  unfold dealtOf
  apply List.ext_getElem
  · simp
  · intro i h1 h2
    have hi : i < parts := by simpa using h1
    rw [List.getElem_map, List.getElem_range, List.getElem_set, List.filter_append, List.filter_cons, List.filter_nil]
    by_cases e : p = i
    · subst e
      rw [if_pos rfl, if_pos (by rw [hp]; simp)]
    · rw [if_neg e, if_neg (by rw [hp, decide_eq_true_eq]; omega), List.append_nil, List.getElem_map, List.getElem_range]
theorem qOf_lt {g groups : Int} {parts : Nat} (h0 : 0 ≤ g) (h1 : g < groups) (hp : 1 ≤ parts) : 0 ≤ qOf g parts groups ∧ qOf g parts groups < parts := by
  refine ⟨Int.ediv_nonneg (Int.mul_nonneg h0 (by omega)) (by omega), Int.ediv_lt_of_lt_mul (by omega) ?_⟩
  rw [Int.mul_comm]
  exact Int.mul_lt_mul_of_pos_left h1 (by omega)
theorem rows_rv {w : World} {B O : Nat} {vs : Array Value} {ls : List (List Ent)} (h : RowsOf w B O vs ls) (hl : ls.length ≤ 1000) {S : Nat → Prop} (hS : ∀ b, B ≤ b → S b) (hO : S O) :
    (tSlice tEnts).rv ((mem w).on S) [.slice (some ⟨O, 0, none⟩) ls.length ls.length] ls := by
  refine ⟨_, _, rfl, Nat.le_refl _, by unfold maxLen; omega, fun _ => ⟨O, 0, rfl, fun k hk => ?_⟩⟩
  have hks : k < vs.size := by rw [h.sz]; exact hk
  have hv := Array.getElem?_eq_getElem hks
  refine ⟨[vs[k]], fun j u hj => ?_, ?_⟩
  · cases j with
    | zero =>
      simp at hj; subst hj
      refine Mem.on_some ?_ hO
      rw [mem_cells h.hO]
      have e1 : (tSlice tEnt).sz = 1 := rfl
      rw [e1]
      simp
    | succ j => simp at hj
  · have ho := h.ow k _ hv
    have e : ls.getD k [] = ls[k] := by simp [List.getD, hk]
    rw [e] at ho
    exact ho.rv hS (fun _ _ _ h => h)
def dealtCode (o : Option Sn) (parts groups : Int) (es : List Ent) : Int :=
  if entsCode o ≠ 0 then entsCode o else if rightP parts groups = false then 7 else if es.any (fun x => decide (groups ≤ x.g)) = true then 7 else 0
def dealtRes (o : Option Sn) (parts groups : Int) (es : List Ent) : List (List Ent) := if dealtCode o parts groups es = 0 then dealtOf parts.toNat groups es else []
def DealtOut (w : World) (o : Option Sn) (parts groups : Int) (e : Ending) (w' : World) : Prop :=
  ∃ es a cap, EntsSay o es ∧ e = .returned (.tuple #[.slice a (dealtRes o parts groups es).length cap, .int .i64 (dealtCode o parts groups es)]) ∧ (tSlice tEnts).rv ((mem w').on (w.heap.size ≤ ·)) [.slice a (dealtRes o parts groups es).length cap] (dealtRes o parts groups es) ∧ Below w.heap.size w w'
theorem any_take {es : List Ent} {groups : Int} {j : Nat} (hj : j < es.length) (h : groups ≤ es[j].g) : es.any (fun x => decide (groups ≤ x.g)) = true := List.any_eq_true.2 ⟨_, List.getElem_mem hj, by simpa using h⟩
theorem made_rows (w : World) (parts : Nat) (_hp : parts ≤ 1000) : RowsOf (w.alloc (.cells (madeCells #[Value.slice none 0 0] parts) 35)) w.heap.size w.heap.size (madeCells #[Value.slice none 0 0] parts) (List.replicate parts []) := by
  have hsz : (madeCells #[Value.slice none 0 0] parts).size = parts := by unfold madeCells; simp
  have hat : ∀ (p : Nat) (v : Value), (madeCells #[Value.slice none 0 0] parts)[p]? = some v → v = .slice none 0 0 := fun p v e => by
    have hl := (Array.getElem?_eq_some_iff.1 e).1
    rw [hsz] at hl
    rw [made_at _ _ _ hl] at e
    injection e with e; exact e.symm
  refine ⟨heap_alloc_new w _, by rw [hsz, List.length_replicate], fun p v e => ?_, fun p v b e e2 => ?_, fun p q v u b e1 e2 e3 e4 => ?_⟩
  · obtain rfl := hat p v e
    have : (List.replicate parts ([] : List Ent)).getD p [] = [] := by
      simp [List.getD, List.getElem?_replicate]
      split <;> rfl
    rw [this]
    exact Owns.nil _ _ _ _
  · obtain rfl := hat p v e; cases e2
  · obtain rfl := hat p v e1; cases e3
set_option maxRecDepth 100000 in
set_option maxHeartbeats 8000000 in
theorem vDealt_any {base p : Nat} {r : HV} (k parts groups : Int) (w : World) (hI : VInv w base p r) (hk : inI64 k) (hle : ∀ t, r.vs.find k = some t → t.ents.length ≤ 100000 ∧ ∀ x ∈ t.ents, 0 ≤ x.g) :
    Calls Try.prog 19 #[ptrTo p, .int .i64 k, .int .i64 parts, .int .i64 groups] w (DealtOut w (r.vs.find k) parts groups) := by
  have HW := Lib.hid (vEntries_any k w hI hk (fun t h => (hle t h).1))
  have HPA := Lib.hid (fun g w => part_any g parts groups w)
  have HG := Lib.hid (fun es (h : EntsSay (r.vs.find k) es) => (show entsCode (r.vs.find k) = 0 → es.length ≤ 100000 ∧ ∀ x ∈ es, 0 ≤ x.g from fun h0 => by
    cases hf : r.vs.find k with
    | none => rw [hf] at h0; cases h0
    | some t =>
      rw [hf] at h h0
      unfold EntsSay at h
      unfold entsCode at h0
      simp only at h h0
      by_cases hd : t.done = true
      · rw [if_pos hd] at h
        exact ⟨by rw [h.1.length_eq]; exact (hle t hf).1, fun x hx => (hle t hf).2 x (h.1.mem_iff.1 hx)⟩
      · rw [if_neg hd] at h0; cases h0))
  generalize r.vs.find k = o at *
  clear hI hle
  have HDC := Lib.hid (fun es => (show dealtCode o parts groups es = if entsCode o ≠ 0 then entsCode o else if rightP parts groups = false then 7 else if es.any (fun x => decide (groups ≤ x.g)) = true then 7 else 0 from rfl))
  have HDR := Lib.hid (fun es => (show dealtRes o parts groups es = if dealtCode o parts groups es = 0 then dealtOf parts.toNat groups es else [] from rfl))
  go_enter Try.func19, Try.ntmps19
  go_wp2_with fail
  refine HW.out.mono ?_
  rintro e w1 ⟨es, ae, ke, rfl, hsay, hrv, hb⟩
  have HSAY := Lib.hid hsay
  have HB1 := Lib.hid hb
  have HE := Lib.hid (fun wq (hq : Below w1.heap.size w1 wq) => (show tEnts.rv (mem wq) [.slice ae es.length ke] es from tEnts.mono _ _ _ _ (Mem.le_trans (Mem.on_le _ _) (below_mem hq)) hrv))
  have HG1 := Lib.hid (HG.out es hsay)
  have hke : ke ≤ 9223372036854775807 := by
    obtain ⟨a', k', e', h2, h3, -⟩ := slice_form hrv
    simp only [Value.slice.injEq] at e'
    unfold maxLen at h3
    rw [e'.2.2]; exact h3
  clear hsay hrv hb HW HG
  by_cases hc0 : entsCode o = 0
  case neg =>
    have HA := Lib.hid (show dealtCode o parts groups es = entsCode o from by rw [HDC.out, if_pos hc0])
    have HR := Lib.hid (show dealtRes o parts groups es = [] from by rw [HDR.out, HA.out, if_neg hc0])
    generalize entsCode o = ec at *
    have hb0 : (ec == 0) = false := by rw [beq_eq_false_iff_ne]; exact hc0
    go_wp2
    go_ret2
    exact ⟨es, none, 0, HSAY.out, by rw [HA.out, HR.out]; rfl, by rw [HR.out]; exact slice_nil _ _, HB1.out⟩
  obtain ⟨hel, heg⟩ := HG1.out hc0
  have HEG := Lib.hid heg
  have HDC0 := Lib.hid (show dealtCode o parts groups es = if rightP parts groups = false then 7 else if es.any (fun x => decide (groups ≤ x.g)) = true then 7 else 0 from by rw [HDC.out, if_neg (by simp [hc0])])
  clear heg HG1 HDC
  generalize entsCode o = ec at *
  subst hc0
  cases hr : rightP parts groups with
  | false =>
    have HA := Lib.hid (show dealtCode o parts groups es = 7 from by rw [HDC0.out, if_pos hr])
    have HR := Lib.hid (show dealtRes o parts groups es = [] from by rw [HDR.out, HA.out]; rfl)
    have HP0 := Lib.hid (fun w => HPA.out 0 w)
    rw [show partAns 0 parts groups = (0, 7) from by unfold partAns; rw [hr]; simp] at HP0
    go_wp2_with fail
    refine (HP0.out _).mono ?_
    rintro e w2 ⟨rfl, rfl⟩
    go_wp2
    go_ret2
    exact ⟨es, none, 0, HSAY.out, by rw [HA.out, HR.out]; rfl, by rw [HR.out]; exact slice_nil _ _, HB1.out⟩
  | true =>
    have hrr := hr
    unfold rightP at hrr
    simp only [Bool.and_eq_true, decide_eq_true_eq] at hrr
    obtain ⟨⟨p1, p2⟩, g1, g2⟩ := hrr
    have HP0 := Lib.hid (fun w => HPA.out 0 w)
    rw [show partAns 0 parts groups = (0, 0) from by unfold partAns; rw [if_pos ⟨hr, by omega, by omega⟩]; simp] at HP0
    have HPX := Lib.hid (fun (g : Int) (h0 : 0 ≤ g) (h1 : g < groups) w => (show Calls Try.prog 51 #[.int .i64 g, .int .i64 parts, .int .i64 groups] w fun e w' => e = .returned (.tuple #[.int .i64 (qOf g parts groups), .int .i64 0]) ∧ w = w' from by
      have := HPA.out g w
      rw [show partAns g parts groups = (qOf g parts groups, 0) from by unfold partAns qOf; rw [if_pos ⟨hr, h0, h1⟩]] at this
      exact this))
    have HPY := Lib.hid (fun (g : Int) (h1 : groups ≤ g) w => (show Calls Try.prog 51 #[.int .i64 g, .int .i64 parts, .int .i64 groups] w fun e w' => e = .returned (.tuple #[.int .i64 0, .int .i64 7]) ∧ w = w' from by
      have := HPA.out g w
      rw [show partAns g parts groups = (0, 7) from by unfold partAns; rw [if_neg (by omega)]] at this
      exact this))
    rw [hr] at HDC0
    clear HPA hr
    obtain ⟨P, rfl⟩ := Int.eq_ofNat_of_zero_le (show 0 ≤ parts by omega)
    have hmk := make_any (T := 49) (e := 35) rfl infoEs1 rfl (by decide) P (by omega) w1
    have HRO := Lib.hid (made_rows w1 P (by omega))
    have HBX := Lib.hid (box_below w1 (.cells (madeCells #[Value.slice none 0 0] P) 35))
    go_wp2_with fail
    refine (HP0.out _).mono ?_
    rintro e w2 ⟨rfl, rfl⟩
    go_wp2_with fail
    generalize w1.alloc (.cells (madeCells #[Value.slice none 0 0] P) 35) = X at *
    clear hmk HP0
    go_loopw [41] (fun iv wr => ∃ (j : Nat) (vs : Array Value), j ≤ es.length ∧ iv = .int .i64 j ∧ Hid (RowsOf wr w1.heap.size w1.heap.size vs (dealtOf P groups (es.take j))) ∧ Hid (Below w1.heap.size w1 wr) ∧ Hid (∀ x ∈ es.take j, x.g < groups)) (fun iv _ => es.length - (intOf iv).toNat)
    case atStart => exact ⟨0, _, by omega, rfl, Lib.hid (by rw [List.take_zero, dealt_nil]; exact HRO.out), HBX, Lib.hid (by simp)⟩
    case round =>
      clear HRO HBX
      obtain ⟨j, vs, hj, rfl, HR, HB, HT⟩ := hrel
      by_cases hlt : j < es.length
      · obtain ⟨b, o2, rfl, hat, hok⟩ := ents_at (HE.out wr HB.out) hlt
        have c0 : wr.cell? ⟨b, o2 + j * 4, none⟩ = some (.int .i64 es[j].g) := hat 0 _ rfl
        have c1 : wr.cell? ⟨b, o2 + j * 4 + 1, none⟩ = some (.string es[j].nm) := hat 1 _ rfl
        have c2 : wr.cell? ⟨b, o2 + j * 4 + 2, none⟩ = some (.string es[j].key) := hat 2 _ rfl
        have c3 : wr.cell? ⟨b, o2 + j * 4 + 3, none⟩ = some (.string es[j].val) := hat 3 _ rfl
        have HAN := Lib.hid (fun h => any_take (groups := groups) hlt h)
        have h0g := HEG.out _ (List.getElem_mem hlt)
        have HTK := Lib.hid (show es.take (j + 1) = es.take j ++ [es[j]] from List.take_succ_eq_append_getElem hlt)
        have HDL := Lib.hid (show (dealtOf P groups (es.take j)).length = P from by unfold dealtOf; simp)
        have HRL := Lib.hid (show ∀ q : Nat, ((dealtOf P groups (es.take j)).getD q []).length ≤ 100000 from fun q => by
          by_cases hq : q < P
          · have e : (dealtOf P groups (es.take j)).getD q [] = (es.take j).filter (fun x => decide (qOf x.g P groups = (q : Nat))) := by unfold dealtOf; simp [List.getD, hq]
            rw [e]
            exact Nat.le_trans (List.length_filter_le _ _) (by rw [List.length_take]; omega)
          · rw [List.getD, List.getElem?_eq_none (by rw [HDL.out]; omega)]; simp)
        have HOK := Lib.hid hok
        clear hat hok
        generalize es[j] = y at *
        obtain ⟨xg, xn, xk, xv⟩ := y
        simp only at c0 c1 c2 c3 h0g
        by_cases hgg : groups ≤ xg
        · have HA := Lib.hid (show dealtCode o P groups es = 7 from by rw [HDC0.out, if_neg (by simp), if_pos (HAN.out hgg)])
          have HRS := Lib.hid (show dealtRes o P groups es = [] from by rw [HDR.out, HA.out]; rfl)
          have HCY := Lib.hid (HPY.out xg hgg)
          have HB3 := Lib.hid (HB.out.alloc HB.out.size (.cells #[.int .i64 xg, .string xn, .string xk, .string xv] 53))
          go_wp2_with fail
          refine (HCY.out _).mono ?_
          rintro e w3 ⟨rfl, rfl⟩
          go_wp2
          go_ret2
          exact ⟨es, none, 0, HSAY.out, by rw [HA.out, HRS.out]; rfl, by rw [HRS.out]; exact slice_nil _ _, HB1.out.trans (HB3.out.mono HB1.out.size)⟩
        · have HCX := Lib.hid (HPX.out xg h0g (by omega))
          obtain ⟨hq0, hq1⟩ := qOf_lt (parts := P) h0g (show xg < groups by omega) (by omega)
          obtain ⟨q, hq⟩ := Int.eq_ofNat_of_zero_le hq0
          have hqP : q < P := by omega
          have HSN := Lib.hid (show dealtOf P groups (es.take (j + 1)) = (dealtOf P groups (es.take j)).set q ((dealtOf P groups (es.take j)).getD q [] ++ [⟨xg, xn, xk, xv⟩]) from by rw [HTK.out]; exact dealt_snoc _ _ hq hqP)
          have HT2 := Lib.hid (show ∀ x ∈ es.take (j + 1), x.g < groups from fun x hx => by
            rw [HTK.out] at hx
            rcases List.mem_append.1 hx with hx | hx
            · exact HT.out x hx
            · simp at hx; subst hx; show xg < groups; omega)
          rw [hq] at HCX
          clear hq hq0 hq1 HT HTK HAN
          have hsz : vs.size = P := HR.out.sz.trans HDL.out
          obtain ⟨v, hv⟩ : ∃ v, vs[q]? = some v := ⟨vs[q]'(by omega), Array.getElem?_eq_getElem (by omega)⟩
          have hrl := HRL.out q
          have hown := HR.out.ow q v hv
          generalize hl : (dealtOf P groups (es.take j)).getD q [] = l at *
          obtain ⟨al, cl, rfl, -⟩ := hown.len
          have HHO := Lib.hid HR.out.hO
          have d0 : wr.cell? ⟨w1.heap.size, q, none⟩ = some (.slice al l.length cl) := (mem_cells HR.out.hO q).trans hv
          have HBY := Lib.hid (box_below wr (.cells #[.int .i64 xg, .string xn, .string xk, .string xv] 53))
          have HNB := Lib.hid (heap_alloc_new wr (.cells #[.int .i64 xg, .string xn, .string xk, .string xv] 53))
          have HRY := Lib.hid (HR.out.pure HBY.out)
          have HBB := Lib.hid (HB.out.trans (HBY.out.mono HB.out.size))
          have HV := Lib.hid hv
          have HSZB := Lib.hid HB.out.size
          clear HR hown hv d0 HB HHO
          go_wp2_with fail
          refine (HCX.out _).mono ?_
          rintro e w3 ⟨rfl, rfl⟩
          clear HCX c0 c1 c2 c3
          generalize wr.alloc (.cells #[.int .i64 xg, .string xn, .string xk, .string xv] 53) = Y at *
          generalize wr.heap.size = nb at *
          have n0 : Y.cell? ⟨nb, 0, none⟩ = some (.int .i64 xg) := mem_cells HNB.out 0
          have n1 : Y.cell? ⟨nb, 1, none⟩ = some (.string xn) := mem_cells HNB.out 1
          have n2 : Y.cell? ⟨nb, 2, none⟩ = some (.string xk) := mem_cells HNB.out 2
          have n3 : Y.cell? ⟨nb, 3, none⟩ = some (.string xv) := mem_cells HNB.out 3
          have n4 : Y.cell? ⟨w1.heap.size, q, none⟩ = some (.slice al l.length cl) := (mem_cells HRY.out.hO q).trans HV.out
          have LITB := Lib.hid (show Below Y.heap.size Y (Y.alloc (.cells #[.int .i64 xg, .string xn, .string xk, .string xv] 53)).drew from (box_below Y _).drew)
          have n0' : (Y.alloc (.cells #[.int .i64 xg, .string xn, .string xk, .string xv] 53)).cell? ⟨nb, 0, none⟩ = some (.int .i64 xg) := below_mem (box_below Y _) _ _ _ n0
          have n1' : (Y.alloc (.cells #[.int .i64 xg, .string xn, .string xk, .string xv] 53)).cell? ⟨nb, 1, none⟩ = some (.string xn) := below_mem (box_below Y _) _ _ _ n1
          have n2' : (Y.alloc (.cells #[.int .i64 xg, .string xn, .string xk, .string xv] 53)).cell? ⟨nb, 2, none⟩ = some (.string xk) := below_mem (box_below Y _) _ _ _ n2
          have n3' : (Y.alloc (.cells #[.int .i64 xg, .string xn, .string xk, .string xv] 53)).cell? ⟨nb, 3, none⟩ = some (.string xv) := below_mem (box_below Y _) _ _ _ n3
          have n4' : (Y.alloc (.cells #[.int .i64 xg, .string xn, .string xk, .string xv] 53)).cell? ⟨w1.heap.size, q, none⟩ = some (.slice al l.length cl) := below_mem (box_below Y _) _ _ _ n4
          have HRZ := Lib.hid (HRY.out.pure LITB.out)
          have HOX := Lib.hid (by have := HRZ.out.ow q _ HV.out; rw [hl] at this; exact this)
          have HAT := Lib.hid (show At (mem (Y.alloc (.cells #[.int .i64 xg, .string xn, .string xk, .string xv] 53)).drew) Y.heap.size 0 [.int .i64 xg, .string xn, .string xk, .string xv] from fun i u hi => by
            have := mem_cells (heap_alloc_new Y (.cells #[.int .i64 xg, .string xn, .string xk, .string xv] 53)) (0 + i)
            refine (show mem (Y.alloc (.cells #[.int .i64 xg, .string xn, .string xk, .string xv] 53)).drew Y.heap.size (0 + i) = mem (Y.alloc (.cells #[.int .i64 xg, .string xn, .string xk, .string xv] 53)) Y.heap.size (0 + i) from rfl).trans (this.trans ?_)
            rw [Nat.zero_add]; simpa using hi)
          have HRVX := Lib.hid (fun m => (show tEnt.rv m [.int .i64 xg, .string xn, .string xk, .string xv] ⟨xg, xn, xk, xv⟩ from ⟨rfl, HOK.out⟩))
          have HONE := Lib.hid (show ∀ u ∈ [(.int .i64 xg : Value), .string xn, .string xk, .string xv], u.oneCell' = true from fun u hu => by simp at hu; rcases hu with rfl | rfl | rfl | rfl <;> rfl)
          have HC1 := Lib.hid (show l.length + 1 ≤ maxLen from by unfold maxLen; omega)
          have HC2 := Lib.hid (show (l.length + 1) * 56 ≤ 140737488355328 from by omega)
          have HC3 := Lib.hid (show w1.heap.size ≤ (Y.alloc (.cells #[.int .i64 xg, .string xn, .string xk, .string xv] 53)).drew.heap.size from Nat.le_trans HBB.out.size LITB.out.size)
          clear HOK
          go_upto_region 14 with fail
          go_region_law ((refine step_append_one rfl (.tmp 61) (.tmp 63) 35 rfl tEnt Try.underlying35 infoEnt rfl (by decide) w1.heap.size (.slice al l.length cl) l rfl HOX.out Y.heap.size 1 ⟨xg, xn, xk, xv⟩ rfl [.int .i64 xg, .string xn, .string xk, .string xv] HAT.out (HRVX.out _) HONE.out HC1.out HC2.out HC3.out ?_; intro v5 w5 own5 hg5 hbl5; have HRP := Lib.hid (HRZ.out.put (p := q) HV.out (by rw [hl]; exact own5) hg5 hbl5); have HBP := Lib.hid (HBB.out.trans ((LITB.out.mono HBB.out.size))); have HGP := Lib.hid hg5; have HOWN5 := Lib.hid own5; have z0 : w5.frozen? ⟨w1.heap.size, q, none⟩ = false := frozen_cells HRP.out.1 q; have z1 : w5.cell? ⟨w1.heap.size, q, none⟩ = some (.slice al l.length cl) := (mem_cells HRP.out.1 q).trans HV.out; obtain ⟨a5, c5, rfl, -⟩ := own5.len; clear own5 hg5 hbl5))
          all_goals
            have HRF := Lib.hid (show RowsOf (w5.setCell ⟨w1.heap.size, q, none⟩ (.slice a5 (l.length + 1) c5)) w1.heap.size w1.heap.size (vs.setIfInBounds q (.slice a5 (l.length + 1) c5)) (dealtOf P groups (es.take (j + 1))) from by
              rw [HSN.out]
              have := HRP.out.2
              rw [hl] at this
              rw [List.length_append, List.length_singleton] at this
              exact this)
            have HBF := Lib.hid (show Below w1.heap.size w1 (w5.setCell ⟨w1.heap.size, q, none⟩ (.slice a5 (l.length + 1) c5)) from (HBP.out.grown HGP.out HC3.out (fun b e => ((HOX.out).lt b e).1)).setCell (p := ⟨w1.heap.size, q, none⟩) (Nat.le_refl _) _)
            clear HRP HOWN5 HGP HOX HAT HRVX HONE HRZ HRY HNB n0 n1 n2 n3 n4 n0' n1' n2' n3' n4' LITB HBY HBB HBP HSN
            go_wp2
            go_roundw
            case rel => exact ⟨j + 1, _, by omega, by go_num, HRF, HBF, HT2⟩
            case measure => simp [intOf]; omega
      · obtain rfl : j = es.length := by omega
        rw [List.take_length] at HR HT
        have HA := Lib.hid (show dealtCode o P groups es = 0 from by
          rw [HDC0.out, if_neg (by simp), if_neg]
          simp only [List.any_eq_true, decide_eq_true_eq, not_exists, not_and]
          intro x hx
          have := HT.out x hx
          omega)
        have HRS := Lib.hid (show dealtRes o P groups es = dealtOf P groups es from by rw [HDR.out, if_pos HA.out, Int.toNat_natCast])
        have hdl : (dealtOf P groups es).length = P := by unfold dealtOf; simp
        have HRV := Lib.hid (rows_rv HR.out (by omega) (S := (w.heap.size ≤ ·)) (fun b h => Nat.le_trans HB1.out.size h) HB1.out.size)
        rw [hdl] at HRV
        clear HR HT
        go_wp2
        go_ret2
        exact ⟨es, _, P, HSAY.out, by rw [HA.out, HRS.out, hdl]; rfl, by rw [HRS.out, hdl]; exact HRV.out, HB1.out.trans (HB.out.mono HB1.out.size)⟩
end Go.Proofs.Ytnfolemblnnejaa
