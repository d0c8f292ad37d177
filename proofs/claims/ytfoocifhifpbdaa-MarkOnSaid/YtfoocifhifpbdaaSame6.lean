/- The reference's Same. -/
import Derived.Test.YtfoocifhifpbdaaRowA
namespace Go.Proofs.Ytfoocifhifpbdaa
open Go.RowKit

theorem row_cells {m : Mem} {xs : List Val} {a : Option Addr} {n cap : Nat} (h : tRow.rv m [.slice a n cap] xs) {k : Nat} (hk : k < xs.length) :
    ∃ b o, a = some ⟨b, o, none⟩ ∧ m b (o + k * 3) = some (.int .i64 xs[k].kind) ∧ m b (o + k * 3 + 1) = some (.int .i64 xs[k].n) ∧ m b (o + k * 3 + 2) = some (.string xs[k].s) := by
  obtain ⟨b, o, rfl, hat⟩ := slice_at h hk
  obtain ⟨c0, c1, c2, _⟩ := val_at hat
  exact ⟨b, o, rfl, c0, c1, c2⟩

theorem Try.infoVal : (Try.prog.info? 98).map (fun i => (i.zero, i.size, i.bytes)) = some (some (.agg #[.int .i64 0, .int .i64 0, .string ⟨#[]⟩]), tVal.sz, 32) := by kernel_rfl
def valEq (x y : Val) : Bool := x.kind == y.kind && x.n == y.n && x.s.toList == y.s.toList
def sameRow (xs ys : List Val) : Bool := xs.length == ys.length && (xs.zip ys).all fun p => valEq p.1 p.2

theorem sameRow_true {xs ys : List Val} (hl : xs.length = ys.length) (h : ∀ j (h : j < xs.length) (h' : j < ys.length), valEq xs[j] ys[j] = true) : sameRow xs ys = true := by
  unfold sameRow
  rw [Bool.and_eq_true, beq_iff_eq, List.all_eq_true]
  refine ⟨hl, fun p hp => ?_⟩
  obtain ⟨j, hj, rfl⟩ := List.getElem_of_mem hp
  rw [List.length_zip] at hj
  rw [List.getElem_zip]
  exact h j (by omega) (by omega)
theorem sameRow_false {xs ys : List Val} {j : Nat} (h1 : j < xs.length) (h2 : j < ys.length) (h : valEq xs[j] ys[j] = false) : sameRow xs ys = false := by
  unfold sameRow
  rw [Bool.and_eq_false_iff]
  right
  rw [List.all_eq_false]
  exact ⟨(xs.zip ys)[j]'(by rw [List.length_zip]; omega), List.getElem_mem _, by rw [List.getElem_zip]; simpa using h⟩
theorem sameRow_len {xs ys : List Val} (h : xs.length ≠ ys.length) : sameRow xs ys = false := by
  unfold sameRow
  rw [Bool.and_eq_false_iff]
  exact .inl (by simpa using h)
theorem valEq_mk (a b : Int) (s : ByteArray) (c d : Int) (t : ByteArray) : valEq ⟨a, b, s⟩ ⟨c, d, t⟩ = true ↔ a = c ∧ b = d ∧ s.toList = t.toList := by
  simp [valEq, and_assoc]

set_option maxRecDepth 100000 in
set_option maxHeartbeats 1000000 in
theorem same_any (xs ys : List Val) (v u : Value) (w : World) (hv : tRow.rv (mem w) [v] xs) (hu : tRow.rv (mem w) [u] ys) :
    Calls Try.prog 41 #[v, u] w fun e w' => e = .returned (.bool (sameRow xs ys)) ∧ Below w.heap.size w w' := by
  obtain ⟨a1, cap1, rfl, hl1, hm1, hv⟩ := slice_form hv
  have hcap1 : cap1 ≤ 9223372036854775807 := by unfold maxLen at hm1; exact hm1
  obtain ⟨a2, cap2, rfl, hl2, hm2, hu⟩ := slice_form hu
  have hcap2 : cap2 ≤ 9223372036854775807 := by unfold maxLen at hm2; exact hm2
  clear hm1 hm2
  by_cases hle : xs.length = ys.length
  · go_enter Try.func41, Try.ntmps41
    go_wp2
    go_loopw [5] (fun i wr => ∃ k : Nat, k ≤ xs.length ∧ i = .int .i64 k ∧ Hid (∀ j (h : j < xs.length) (h' : j < ys.length), j < k → valEq xs[j] ys[j] = true) ∧ Below w.heap.size w wr) (fun i _ => xs.length - (intOf i).toNat)
    case atStart => exact ⟨0, by omega, rfl, Lib.hid (fun j h h' hj => by omega), Below.refl _ _⟩
    case round =>
      obtain ⟨k, hk, rfl, HT, hB⟩ := hrel
      by_cases hlt : k < xs.length
      · have hlt2 : k < ys.length := by omega
        obtain ⟨b, o, rfl, c0, c1, c2⟩ := row_cells (tRow.mono _ _ _ _ (below_mem hB) hv) hlt
        have c0 : wr.cell? ⟨b, o + k * 3, none⟩ = some (.int .i64 xs[k].kind) := c0
        have c1 : wr.cell? ⟨b, o + k * 3 + 1, none⟩ = some (.int .i64 xs[k].n) := c1
        have c2 : wr.cell? ⟨b, o + k * 3 + 2, none⟩ = some (.string xs[k].s) := c2
        obtain ⟨b2, o2, rfl, d0, d1, d2⟩ := row_cells (tRow.mono _ _ _ _ (below_mem hB) hu) hlt2
        have d0 : wr.cell? ⟨b2, o2 + k * 3, none⟩ = some (.int .i64 ys[k].kind) := d0
        have d1 : wr.cell? ⟨b2, o2 + k * 3 + 1, none⟩ = some (.int .i64 ys[k].n) := d1
        have d2 : wr.cell? ⟨b2, o2 + k * 3 + 2, none⟩ = some (.string ys[k].s) := d2
        have hBd := hB.drew
        have HN := Lib.hid (show valEq xs[k] ys[k] = false → sameRow xs ys = false from fun h => sameRow_false hlt hlt2 h)
        have HY := Lib.hid (show valEq xs[k] ys[k] = true → ∀ j (h : j < xs.length) (h' : j < ys.length), j < k + 1 → valEq xs[j] ys[j] = true from fun h j h1 h2 hj => by
          by_cases hjk : j < k
          · exact HT.out j h1 h2 hjk
          · obtain rfl : j = k := by omega
            exact h)
        have HV := Lib.hid (valEq_mk xs[k].kind xs[k].n xs[k].s ys[k].kind ys[k].n ys[k].s)
        clear hv hu HT
        generalize hx : xs[k] = x at c0 c1 c2 HN HY HV
        generalize hy : ys[k] = y at d0 d1 d2 HN HY HV
        clear hx hy
        obtain ⟨xk, xn, xs'⟩ := x
        obtain ⟨yk, yn, ys'⟩ := y
        simp only at c0 c1 c2 d0 d1 d2 HV
        by_cases he : xk = yk ∧ xn = yn ∧ xs'.toList = ys'.toList
        · have HY2 := Lib.hid (HY.out (HV.out.2 he))
          obtain ⟨e1, e2, e3⟩ := he
          clear HN HY HV
          go_wp2
          go_region
          all_goals
            go_wp2
            go_roundw
            case rel => exact ⟨k + 1, by omega, by go_num, HY2, hBd⟩
            case measure => simp [intOf]; omega
        · have hf : valEq ⟨xk, xn, xs'⟩ ⟨yk, yn, ys'⟩ = false := by
            rw [Bool.eq_false_iff]; exact fun h => he (HV.out.1 h)
          have HN2 := Lib.hid (HN.out hf)
          clear HN HY HV hf
          by_cases e1 : xk = yk
          · by_cases e2 : xn = yn
            · have e3 : ¬ xs'.toList = ys'.toList := fun e3 => he ⟨e1, e2, e3⟩
              clear he
              go_wp2
              go_region
              all_goals
                go_wp2
                go_ret
                exact ⟨by rw [HN2.out]; rfl, hBd⟩
            · clear he
              go_wp2
              go_region
              all_goals
                go_wp2
                go_ret
                exact ⟨by rw [HN2.out]; rfl, hBd⟩
          · clear he
            go_wp2
            go_region
            all_goals
              go_wp2
              go_ret
              exact ⟨by rw [HN2.out]; rfl, hBd⟩
      · obtain rfl : k = xs.length := by omega
        have HR := Lib.hid (sameRow_true hle (fun j h h' => HT.out j h h' h))
        clear HT
        go_wp2
        go_ret
        exact ⟨by rw [HR.out]; rfl, hB⟩
  · have HR := Lib.hid (sameRow_len hle)
    go_enter Try.func41, Try.ntmps41
    go_wp2
    go_ret
    exact ⟨by rw [HR.out]; rfl, Below.refl _ _⟩
end Go.Proofs.Ytfoocifhifpbdaa
