/- slices.Clone at schemas. -/
import Derived.Test.YtkldimaoafgolaaDoorPickedR
import Derived.Test.YtkldimaoafgolaaDoorApp
namespace Go.Proofs.YtkldimaoafgolaaDoor
open Go.RowKit Go.Maps

theorem tCol_one : ∀ m cs x, tCol.rv m cs x → ∀ u ∈ cs, u.oneCell' = true := fun m cs x h u hu => by
  obtain ⟨rfl, _⟩ := h
  simp at hu
  rcases hu with rfl | rfl <;> rfl

set_option maxRecDepth 100000 in
set_option maxHeartbeats 1000000 in
theorem cloneSchema_any (xs : List Col) (v : Value) (w : World) (hv : tSchema.rv (mem w) [v] xs) (h8 : xs.length ≤ 1000000) :
    Calls Tryd.prog 75 #[v] w fun e w' => ∃ x, e = .returned x ∧ Owns tCol w' w.heap.size 69 x xs ∧ Below w.heap.size w w' := by
  have hb0 : ∀ o, Below w.heap.size w (w.alloc o) := fun o => (Below.refl _ _).alloc (Nat.le_refl _) o
  have hown : ∀ T, T = 69 → Owns tCol (w.alloc (.cells #[] T)) w.heap.size 69 (.slice (some ⟨w.heap.size, 0, none⟩) 0 0) [] := fun T hT => by
    subst hT
    exact ⟨[], rfl, World.ownsRow_lit w #[] 0 (Nat.le_refl _) (Nat.zero_le _) (by simp), fun c h => absurd h (by simp), fun k h => absurd h (by simp)⟩
  obtain ⟨a1, cap1, rfl, hl1, hm1, hv⟩ := slice_form hv
  have HV := Lib.hid (fun o => (tSchema.mono _ _ _ _ (below_mem (hb0 o)) hv : tSchema.rv (mem (w.alloc o)) _ xs))
  cases a1 with
  | none =>
    have h0 : xs = [] := by
      cases xs with
      | nil => rfl
      | cons x l => obtain ⟨b, o, e, _⟩ := slice_at hv (k := 0) (by simp); cases e
    subst h0
    clear hm1 hv HV
    have hq := fun w => Lib.run_eql_slice_nil (P := Tryd.prog) w 23 _ none 0 cap1 0 0 Tryd.underlying23
    go_enter Tryd.func75, Tryd.ntmps75
    go_wp2
    go_ret
    exact ⟨_, rfl, Owns.nil _ _ _ _, Below.refl _ _⟩
  | some ad =>
    clear hm1 hv
    have hq := fun w => Lib.run_eql_slice_nil (P := Tryd.prog) w 23 _ (some ad) xs.length cap1 0 0 Tryd.underlying23
    go_enter Tryd.func75, Tryd.ntmps75
    go_wp2_with (at_builtin; refine wpList_append_flat rfl _ _ 23 rfl tCol_flat tCol_one Tryd.underlying23 Tryd.infoCol rfl (by decide) w.heap.size _ [] xs rfl (hown _ rfl) _ _ _ rfl rfl (HV.out _) ?c1 ?c2 ?c3 ?_)
    case c1 => simp; unfold maxLen; omega
    case c2 => simp; omega
    case c3 => simp
    intro v' w2 hown' hgrow
    have hB : Below w.heap.size w w2 := (hb0 _).grown hgrow (by simp) (fun k hk => by simp [Value.ownBlock] at hk; omega)
    obtain ⟨a', cap', rfl, _⟩ := hown'.len
    clear hown hgrow HV
    go_wp2
    go_ret
    exact ⟨_, rfl, hown', hB⟩
end Go.Proofs.YtkldimaoafgolaaDoor
