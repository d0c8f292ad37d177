/- Own and Concat of the reference. -/
import Derived.Test.YtkldimaoafgolaaDoorApp
namespace Go.Proofs.YtkldimaoafgolaaDoor
open Go.RowKit

set_option maxRecDepth 100000 in
set_option maxHeartbeats 1000000 in
theorem own_any (xs : List Val) (v : Value) (w : World) (hv : tRow.rv (mem w) [v] xs) (h8 : xs.length ≤ 1000000) :
    Calls Tryd.prog 64 #[v] w fun e w' => ∃ x, e = .returned x ∧ Owns tVal w' w.heap.size 30 x xs ∧ Below w.heap.size w w' := by
  have hb0 : ∀ o, Below w.heap.size w (w.alloc o) := fun o => (Below.refl _ _).alloc (Nat.le_refl _) o
  have hown : ∀ T, T = 30 → Owns tVal (w.alloc (.cells #[] T)) w.heap.size 30 (.slice (some ⟨w.heap.size, 0, none⟩) 0 0) [] := fun T hT => by
    subst hT
    exact ⟨[], rfl, World.ownsRow_lit w #[] 0 (Nat.le_refl _) (Nat.zero_le _) (by simp), fun c h => absurd h (by simp), fun k h => absurd h (by simp)⟩
  obtain ⟨a1, cap1, rfl, hl1, hm1, hv⟩ := slice_form hv
  have HV := Lib.hid (fun o => (tRow.mono _ _ _ _ (below_mem (hb0 o)) hv : tRow.rv (mem (w.alloc o)) _ xs))
  clear hm1 hv
  go_enter Tryd.func64, Tryd.ntmps64
  go_wp2_with (at_builtin; refine wpList_append_flat rfl _ _ 25 rfl tVal_flat tVal_one Tryd.underlying25 Tryd.infoVal rfl (by decide) w.heap.size _ [] xs rfl (hown _ rfl) _ _ _ rfl rfl (HV.out _) ?c1 ?c2 ?c3 ?_)
  case c1 => simp; unfold maxLen; omega
  case c2 => simp; omega
  case c3 => simp
  intro v' w2 hown' hgrow
  have hB : Below w.heap.size w w2 := (hb0 _).grown hgrow (by simp) (fun k hk => by simp [Value.ownBlock] at hk; omega)
  obtain ⟨a', cap', rfl, _⟩ := hown'.len
  clear hown hgrow HV
  go_wp2
  go_ret
  exact ⟨_, rfl, hown', hB⟩

def concOf (a b : List Val) : List Val × Int :=
  if validRow a = true ∧ validRow b = true then (if 8 < a.length + b.length then ([], 4) else (a ++ b, 0)) else ([], 1)
theorem concOf_cases (a b : List Val) : (validRow a = false → concOf a b = ([], 1)) ∧ (validRow b = false → concOf a b = ([], 1)) ∧
    (validRow a = true → validRow b = true → 8 < a.length + b.length → concOf a b = ([], 4)) ∧ (validRow a = true → validRow b = true → ¬ 8 < a.length + b.length → concOf a b = (a ++ b, 0)) := by
  unfold concOf
  refine ⟨fun h => by simp [h], fun h => by simp [h], fun h h2 h3 => ?_, fun h h2 h3 => ?_⟩
  · rw [if_pos ⟨h, h2⟩, if_pos h3]
  · rw [if_pos ⟨h, h2⟩, if_neg h3]
def Conc (a b : List Val) (w : World) (e : Ending) (w' : World) : Prop :=
  ∃ v, e = .returned (.tuple #[v, .int .i64 (concOf a b).2]) ∧ tRow.rv (mem w') [v] (concOf a b).1 ∧ Below w.heap.size w w'

set_option maxRecDepth 100000 in
set_option maxHeartbeats 1000000 in
theorem refConcat_any (a b : List Val) (v u : Value) (w : World) (hv : tRow.rv (mem w) [v] a) (hu : tRow.rv (mem w) [u] b) :
    Calls Tryd.prog 29 #[v, u] w (Conc a b w) := by
  have HV := Lib.hid (refValid_any a v w hv)
  have HW := Lib.hid (fun wr (h : Below w.heap.size w wr) => refValid_any b u wr (tRow.mono _ _ _ _ (below_mem h) hu))
  have HO := Lib.hid (fun wr (h : Below w.heap.size w wr) h8 => own_any a v wr (tRow.mono _ _ _ _ (below_mem h) hv) h8)
  have HP := Lib.hid (concOf_cases a b)
  obtain ⟨a1, cap1, rfl, hl1, hm1, hv⟩ := slice_form hv
  have hcap1 : cap1 ≤ 9223372036854775807 := by unfold maxLen at hm1; exact hm1
  obtain ⟨a2, cap2, rfl, hl2, hm2, hu⟩ := slice_form hu
  have hcap2 : cap2 ≤ 9223372036854775807 := by unfold maxLen at hm2; exact hm2
  clear hm1 hm2 hv
  have H8a := Lib.hid (show validRow a = true → a.length ≤ 8 from fun h => by unfold validRow at h; simp at h; exact h.1)
  have H8b := Lib.hid (show validRow b = true → b.length ≤ 8 from fun h => by unfold validRow at h; simp at h; exact h.1)
  generalize validRow a = va at HV HP H8a
  generalize validRow b = vb at HW HP H8b
  go_enter Tryd.func29, Tryd.ntmps29
  go_wp2_with fail
  refine HV.out.mono ?_
  rintro e w1 ⟨rfl, hB⟩
  clear HV
  cases va
  · have HQ := Lib.hid (HP.out.1 (by trivial))
    go_wp2
    go_ret2
    exact ⟨_, by rw [HQ.out]; rfl, by rw [HQ.out]; exact slice_nil _ _, hB⟩
  · have h8a := H8a.out (by trivial)
    go_wp2_with fail
    refine (HW.out _ hB).mono ?_
    rintro e w2 ⟨rfl, hb2⟩
    have hB2 := pure_trans hB hb2
    clear HW hB hb2
    cases vb
    · have HQ := Lib.hid (HP.out.2.1 (by trivial))
      go_wp2
      go_ret2
      exact ⟨_, by rw [HQ.out]; rfl, by rw [HQ.out]; exact slice_nil _ _, hB2⟩
    · have h8b := H8b.out (by trivial)
      by_cases h8 : 8 < a.length + b.length
      · have HQ := Lib.hid (HP.out.2.2.1 (by trivial) (by trivial) h8)
        go_wp2
        go_ret2
        exact ⟨_, by rw [HQ.out]; rfl, by rw [HQ.out]; exact slice_nil _ _, hB2⟩
      · have HQ := Lib.hid (HP.out.2.2.2 (by trivial) (by trivial) h8)
        go_wp2_with fail
        refine (HO.out _ hB2 (by omega)).mono ?_
        rintro e w3 ⟨x, rfl, hown, hb3⟩
        have hB3 := pure_trans hB2 hb3
        have hsz := hb3.size
        obtain ⟨ax, capx, rfl, _⟩ := hown.len
        have HU := Lib.hid (tRow.mono _ _ _ _ (below_mem hB3) hu)
        go_wp2_with (at_builtin; refine wpList_append_flat rfl _ _ 25 rfl tVal_flat tVal_one Tryd.underlying25 Tryd.infoVal rfl (by decide) w2.heap.size _ a b rfl hown _ _ _ rfl rfl HU.out ?c1 ?c2 ?c3 ?_)
        case c1 => unfold maxLen; omega
        case c2 => omega
        case c3 => omega
        intro v' w4 hown' hgrow
        have hB4 : Below w.heap.size w w4 := hB3.grown hgrow (by have := hB2.size; omega) (fun k hk => by have := (hown.lt k hk).1; have := hB2.size; omega)
        obtain ⟨a', cap', rfl, _⟩ := hown'.len
        clear hown hgrow HU
        go_wp2
        go_ret2
        exact ⟨_, by rw [HQ.out]; rfl, by rw [HQ.out]; exact hown'.rv', hB4⟩
end Go.Proofs.YtkldimaoafgolaaDoor
