/- row.Concat. -/
import Derived.Test.YtkldimaoafgolaaDoorGrow
namespace Go.Proofs.YtkldimaoafgolaaDoor
open Go.RowKit

theorem rows2 {m : Mem} {b : Nat} {x y : List Val} {u v : Value} (h0 : m b 0 = some u) (h1 : m b 1 = some v) (hx : tRow.rv m [u] x) (hy : tRow.rv m [v] y) :
    tRows.rv m [.slice (some ⟨b, 0, none⟩) 2 2] [x, y] := by
  refine ⟨some ⟨b, 0, none⟩, 2, rfl, Nat.le_refl 2, by unfold maxLen; decide, fun _ => ⟨b, 0, rfl, fun k hk => ?_⟩⟩
  have hk : k < 2 := hk
  match k, hk with
  | 0, _ => exact ⟨[u], fun j v hj => by match j, hj with | 0, hj => simp at hj; subst hj; exact h0, hx⟩
  | 1, _ => exact ⟨[v], fun j v hj => by match j, hj with | 0, hj => simp at hj; subst hj; exact h1, hy⟩

set_option maxRecDepth 100000 in
set_option maxHeartbeats 1000000 in
theorem rowConcat_any (a b : List Val) (v u : Value) (w : World) (hv : tRow.rv (mem w) [v] a) (hu : tRow.rv (mem w) [u] b) :
    Calls Tryd.prog 28 #[v, u] w (Conc a b w) := by
  have HV := Lib.hid (rowValid_any a v w hv)
  have HW := Lib.hid (fun wr (h : Below w.heap.size w wr) => rowValid_any b u wr (tRow.mono _ _ _ _ (below_mem h) hu))
  have HL := Lib.hid (fun wr (h : Below w.heap.size w wr) bk h0 h1 => rows2 (m := mem wr) (b := bk) (u := v) (v := u) h0 h1 (tRow.mono _ _ _ _ (below_mem h) hv) (tRow.mono _ _ _ _ (below_mem h) hu))
  have HP := Lib.hid (concOf_cases a b)
  obtain ⟨a1, cap1, rfl, hl1, hm1, hv⟩ := slice_form hv
  have hcap1 : cap1 ≤ 9223372036854775807 := by unfold maxLen at hm1; exact hm1
  obtain ⟨a2, cap2, rfl, hl2, hm2, hu⟩ := slice_form hu
  have hcap2 : cap2 ≤ 9223372036854775807 := by unfold maxLen at hm2; exact hm2
  clear hm1 hm2 hv hu
  have H8a := Lib.hid (show validRow a = true → a.length ≤ 8 from fun h => by unfold validRow at h; simp at h; exact h.1)
  have H8b := Lib.hid (show validRow b = true → b.length ≤ 8 from fun h => by unfold validRow at h; simp at h; exact h.1)
  generalize validRow a = va at HV HP H8a
  generalize validRow b = vb at HW HP H8b
  go_enter Tryd.func28, Tryd.ntmps28
  go_wp2_with fail
  refine HV.out.mono ?_
  rintro e w1 ⟨rfl, hB⟩
  clear HV
  cases va
  · have HQ := Lib.hid (HP.out.1 (by trivial))
    go_wp2
    go_ret2
    exact ⟨_, by rw [HQ.out]; rfl, by rw [HQ.out]; exact slice_nil _ _, hB⟩
  · have h8a := H8a.out (by trivial)
    go_wp2_with fail
    refine (HW.out _ hB).mono ?_
    rintro e w2 ⟨rfl, hb2⟩
    have hB2 := pure_trans hB hb2
    clear HW hB hb2
    cases vb
    · have HQ := Lib.hid (HP.out.2.1 (by trivial))
      go_wp2
      go_ret2
      exact ⟨_, by rw [HQ.out]; rfl, by rw [HQ.out]; exact slice_nil _ _, hB2⟩
    · have h8b := H8b.out (by trivial)
      by_cases h8 : 8 < a.length + b.length
      · have HQ := Lib.hid (HP.out.2.2.1 (by trivial) (by trivial) h8)
        go_wp2
        go_ret2
        exact ⟨_, by rw [HQ.out]; rfl, by rw [HQ.out]; exact slice_nil _ _, hB2⟩
      · have HQ := Lib.hid (HP.out.2.2.2 (by trivial) (by trivial) h8)
        have hBa : ∀ o, Below w.heap.size w (w2.alloc o) := fun o => hB2.alloc hB2.size o
        go_wp2_with fail
        refine (concat_any [a, b] _ _ (HL.out _ (hBa _) _ (by simp [mem]) (by simp [mem])) (by simp; omega)).mono ?_
        rintro e w3 ⟨x, rfl, hx, hb3⟩
        have hB3 := pure_trans (hBa _) hb3
        have hx : tRow.rv (mem w3) [x] (a ++ b) := by simpa using hx
        clear HL hBa hb3
        go_wp2
        go_ret2
        exact ⟨_, by rw [HQ.out]; rfl, by rw [HQ.out]; exact hx, hB3⟩
end Go.Proofs.YtkldimaoafgolaaDoor
