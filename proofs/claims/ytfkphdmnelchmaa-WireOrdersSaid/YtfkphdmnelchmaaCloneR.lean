/- slices.Clone at rows. -/
import Derived.Test.YtfkphdmnelchmaaFlat
namespace Go.Proofs.Ytfkphdmnelchmaa
open Go.RowKit

set_option maxRecDepth 100000 in
set_option maxHeartbeats 1000000 in
theorem cloneRow_any (xs : List Val) (v : Value) (w : World) (hv : tRow.rv (mem w) [v] xs) (h8 : xs.length ≤ 1000000) :
    Calls Try.prog 71 #[v] w fun e w' => ∃ x, e = .returned x ∧ Owns tVal w' w.heap.size 118 x xs ∧ Below w.heap.size w w' := by
  have hb0 : ∀ o, Below w.heap.size w (w.alloc o) := fun o => (Below.refl _ _).alloc (Nat.le_refl _) o
  have hown : ∀ T, T = 118 → Owns tVal (w.alloc (.cells #[] T)) w.heap.size 118 (.slice (some ⟨w.heap.size, 0, none⟩) 0 0) [] := fun T hT => by
    subst hT
    exact ⟨[], rfl, World.ownsRow_lit w #[] 0 (Nat.le_refl _) (Nat.zero_le _) (by simp), fun c h => absurd h (by simp), fun k h => absurd h (by simp)⟩
  obtain ⟨a1, cap1, rfl, hl1, hm1, hv⟩ := slice_form hv
  have HV := Lib.hid (fun o => (tRow.mono _ _ _ _ (below_mem (hb0 o)) hv : tRow.rv (mem (w.alloc o)) _ xs))
  cases a1 with
  | none =>
    have h0 : xs = [] := by
      cases xs with
      | nil => rfl
      | cons x l => obtain ⟨b, o, e, _⟩ := slice_at hv (k := 0) (by simp); cases e
    subst h0
    clear hm1 hv HV
    have hq := fun w => Lib.run_eql_slice_nil (P := Try.prog) w 38 _ none 0 cap1 0 0 Try.underlying38
    go_enter Try.func71, Try.ntmps71
    go_wp2
    go_ret
    exact ⟨_, rfl, Owns.nil _ _ _ _, Below.refl _ _⟩
  | some ad =>
    clear hm1 hv
    have hq := fun w => Lib.run_eql_slice_nil (P := Try.prog) w 38 _ (some ad) xs.length cap1 0 0 Try.underlying38
    go_enter Try.func71, Try.ntmps71
    go_wp2_with (at_builtin; refine wpList_append_flat rfl _ _ 38 rfl tVal_flat tVal_one Try.underlying38 Try.infoVal rfl (by decide) w.heap.size _ [] xs rfl (hown _ rfl) _ _ _ rfl rfl (HV.out _) ?c1 ?c2 ?c3 ?_)
    case c1 => simp; unfold maxLen; omega
    case c2 => simp; omega
    case c3 => simp
    intro v' w2 hown' hgrow
    have hB : Below w.heap.size w w2 := (hb0 _).grown hgrow (by simp) (fun k hk => by simp [Value.ownBlock] at hk; omega)
    obtain ⟨a', cap', rfl, _⟩ := hown'.len
    clear hown hgrow HV
    go_wp2
    go_ret
    exact ⟨_, rfl, hown', hB⟩
end Go.Proofs.Ytfkphdmnelchmaa
