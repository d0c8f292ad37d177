/- many: acts that are more, or larger, than are looked at. -/
import Derived.Test.YtfkphdmnelchmaaNothing20
namespace Go.Proofs.Ytfkphdmnelchmaa
open Go.RowKit Go.Maps

theorem act_at {m : Mem} {b o : Nat} {x : Act20} (h : tAct.at m b o x) : ∃ a c, c ≤ 9223372036854775807 ∧ m b o = some (.int .u8 x.kind) ∧ m b (o + 1) = some (.int .i64 x.n) ∧ m b (o + 2) = some (.int .i64 x.el.kind) ∧ m b (o + 3) = some (.int .i64 x.el.n) ∧ m b (o + 4) = some (.int .i64 x.el.time) ∧
    m b (o + 5) = some (.slice a x.el.row.length c) ∧ m b (o + 6) = some (.int .i64 x.el.cn) ∧ (0 ≤ x.kind ∧ x.kind ≤ 255) ∧ inI64 x.n ∧ x.el.ok ∧ tRow.rv m [.slice a x.el.row.length c] x.el.row := by
  obtain ⟨cs, hc, s, rfl, h1, h2, h3, hr⟩ := h
  obtain ⟨a, c, rfl, _, hm, hr⟩ := slice_form hr
  exact ⟨a, c, (by unfold maxLen at hm; exact hm), hc 0 _ rfl, hc 1 _ rfl, hc 2 _ rfl, hc 3 _ rfl, hc 4 _ rfl, hc 5 _ rfl, hc 6 _ rfl, h1, h2, h3, hr⟩

set_option maxRecDepth 100000 in
set_option maxHeartbeats 2000000 in
theorem many_any (xs : List Act20) (v : Value) (W : World) (hv : (tSlice tAct).rv (mem W) [v] xs) :
    Calls Try.prog 14 #[v] W fun e W' => (∃ q, e = .returned (.bool q) ∧ (q = false → xs.length ≤ 80)) ∧ Below W.heap.size W W' := by
  obtain ⟨a, cap, rfl, hl, hm, hv⟩ := slice_form hv
  have hcap : cap ≤ 9223372036854775807 := by unfold maxLen at hm; exact hm
  have HV := Lib.hid hv
  clear hm hv
  go_enter Try.func14, Try.ntmps14
  go_wp2
  go_loopw [3] (fun i wr => ∃ k : Nat, k ≤ xs.length ∧ i = .int .i64 k ∧ Below W.heap.size W wr) (fun i _ => xs.length - (intOf i).toNat)
  case atStart => exact ⟨0, by omega, by go_num, Below.refl _ _⟩
  case round =>
    obtain ⟨k, hk, rfl, hB⟩ := hrel
    by_cases hlt : k < xs.length
    · obtain ⟨b, o, rfl, hat⟩ := slice_at HV.out hlt
      obtain ⟨ar, cr, hcr, e0, e1, e2, e3, e4, e5, e6, i1, i2, i3, hr⟩ := act_at (Ty.at_mono _ (below_mem hB) hat)
      have e2 : wr.cell? ⟨b, o + k * 7 + 2, none⟩ = some (.int .i64 xs[k].el.kind) := e2
      have e3 : wr.cell? ⟨b, o + k * 7 + 3, none⟩ = some (.int .i64 xs[k].el.n) := e3
      have e4 : wr.cell? ⟨b, o + k * 7 + 4, none⟩ = some (.int .i64 xs[k].el.time) := e4
      have e5 : wr.cell? ⟨b, o + k * 7 + 5, none⟩ = some (.slice ar xs[k].el.row.length cr) := e5
      have e6 : wr.cell? ⟨b, o + k * 7 + 6, none⟩ = some (.int .i64 xs[k].el.cn) := e6
      have HG := Lib.hid (great_any xs[k].el _ wr hr)
      have HB := Lib.hid hB
      clear hat e0 e1 i1 i2 i3 hr hB
      generalize xs[k].el = x at *
      go_wp2_with fail
      refine HG.out.mono ?_
      rintro e w2 ⟨⟨q, rfl, _⟩, hb⟩
      have HB2 := Lib.hid (HB.out.trans (hb.mono HB.out.size))
      clear HB hb e2 e3 e4 e5 e6 HG
      cases q with
      | false =>
        go_wp2
        go_roundw
        case rel => exact ⟨k + 1, by omega, by go_num, HB2.out⟩
        case measure => simp [intOf]; omega
      | true =>
        go_wp2
        try rw [Exit.noGoto_ret]
        go_ret
        exact ⟨⟨true, rfl, fun h => by cases h⟩, HB2.out⟩
    · have HB := Lib.hid hB
      clear hB
      go_wp2
      go_ret
      exact ⟨⟨_, rfl, fun h => by simp at h; omega⟩, HB.out⟩
end Go.Proofs.Ytfkphdmnelchmaa
