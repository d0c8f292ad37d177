/- The law WireBacks, walked. -/
import Derived.Test.YtfkphdmnelchmaaBackW
import Derived.Test.YtfkphdmnelchmaaAwake20
namespace Go.Proofs.Ytfkphdmnelchmaa
open Go.RowKit

theorem reads_pairs : Reads Try.prog 22 (tSlice tInt2) := reads_slice Try.underlying22 (by kernel_rfl) (by decide) (reads_int2 Try.underlying75 Try.underlying3 (by kernel_rfl) (by kernel_rfl))
theorem reads_bits : Reads Try.prog 23 (tSlice tBool) := reads_slice Try.underlying23 (by kernel_rfl) (by decide) (reads_bool Try.underlying4)

set_option maxRecDepth 100000 in
set_option maxHeartbeats 2000000 in
theorem wireBacks_any (es : List (Int × Int)) (u : Value) (ws : List Bool) (v : Value) (p : Int) (W : World) (hu : (tSlice tInt2).rv (mem W) [u] es) (hv : (tSlice tBool).rv (mem W) [v] ws) (hp : inI64 p) :
    Calls Try.prog 3 #[u, v, .int .i64 p] W fun e W' => e = .returned (.bool true) ∧ Below W.heap.size W W' := by
  obtain ⟨a1, c1, rfl, hl1, hm1, hu⟩ := slice_form hu
  obtain ⟨a2, c2, rfl, hl2, hm2, hv⟩ := slice_form hv
  have hn1 : es.length ≤ 9223372036854775807 := by unfold maxLen at hm1; omega
  have hn2 : ws.length ≤ 9223372036854775807 := by unfold maxLen at hm2; omega
  have HA := Lib.hid (fun (wq : World) (h : Below W.heap.size W wq) (h1 : es.length ≤ 60) (h2 : ws.length ≤ 60) => back_any es ws p _ _ wq ((tSlice tInt2).mono _ _ _ _ (below_mem h) hu) ((tSlice tBool).mono _ _ _ _ (below_mem h) hv) hp h1 h2)
  have HR := Lib.hid (fun (wq : World) (h : Below W.heap.size W wq) (h1 : es.length ≤ 60) (h2 : ws.length ≤ 60) => refBack_any es ws p _ _ wq ((tSlice tInt2).mono _ _ _ _ (below_mem h) hu) ((tSlice tBool).mono _ _ _ _ (below_mem h) hv) hp h1 h2)
  clear hm1 hm2 hu hv
  go_enter Try.func3, Try.ntmps3
  go_wp2_with fail
  refine (awake20 _).mono ?_
  rintro e w1 ⟨rfl, hb⟩
  have HB := Lib.hid hb
  clear hb
  by_cases q1 : 60 < es.length
  · go_wp2
    go_ret
    exact ⟨rfl, HB.out⟩
  by_cases q2 : 60 < ws.length
  · go_wp2
    go_ret
    exact ⟨rfl, HB.out⟩
  go_wp2_with fail
  refine (HA.out _ HB.out (by omega) (by omega)).mono ?_
  rintro e w2 ⟨x, c, S, rfl, hx, hs, hb⟩
  have HB2 := Lib.hid (HB.out.trans (hb.mono HB.out.size))
  have HS := Lib.hid hs
  have HX := Lib.hid hx
  clear HB hb hs hx
  go_wp2_with fail
  refine (HR.out _ HB2.out (by omega) (by omega)).mono ?_
  rintro e w3 ⟨y, d, S', rfl, hy, hs, hb⟩
  obtain ⟨rfl, rfl⟩ := HS.out.unique hs
  have HB3 := Lib.hid (HB2.out.trans (hb.mono HB2.out.size))
  have HX3 := Lib.hid ((tSlice tInt).mono _ _ _ _ (below_mem hb) HX.out)
  have HY := Lib.hid hy
  clear HB2 HX hb hs hy
  go_wp2_with fail
  refine (sameInts_any S S _ _ _ HX3.out HY.out).mono ?_
  rintro e w4 ⟨rfl, hb⟩
  have HB4 := Lib.hid (HB3.out.trans (hb.mono HB3.out.size))
  clear hb
  rw [decide_eq_true rfl]
  go_wp2
  go_ret
  exact ⟨by simp, HB4.out⟩
end Go.Proofs.Ytfkphdmnelchmaa
