/- Arguments that are structs or arrays, as plain data; pairs of numbers. -/
import Derived.Test.YtbmpoecmjmmngaaLaw
namespace Go.Proofs.Ytbmpoecmjmmngaa
open Go.ChangeShapes Go.WideShapes Go.ChangeAt Go.RowKit

def tInt2 : Ty (Int × Int) := ⟨2, fun _ cs x => cs = [.int .i64 x.1, .int .i64 x.2] ∧ inI64 x.1 ∧ inI64 x.2, fun _ _ _ h => by rw [h.1]; rfl, fun _ _ _ _ _ h => h⟩
theorem tInt2_flat : tInt2.flat := fun _ _ _ _ h => h
theorem int2_at {m : Mem} {b o : Nat} {x : Int × Int} (h : tInt2.at m b o x) : m b o = some (.int .i64 x.1) ∧ m b (o + 1) = some (.int .i64 x.2) ∧ inI64 x.1 ∧ inI64 x.2 := by
  obtain ⟨cs, h1, rfl, h3, h4⟩ := h
  exact ⟨h1 0 _ rfl, h1 1 _ rfl, h3, h4⟩
theorem reads_int2 {P : Program} {T E : TypeId} (ht : P.underlying T = some (.array 2 E)) (hE : P.underlying E = some (.int .i64)) (hc : P.cellsOf E = 1) (hT : P.cellsOf T = 2) : Reads P T tInt2 := fun H enc w n cs d h => by
  obtain ⟨xs, m, _, _, hl, hx, hg⟩ := DataW.trod_array ht h
  rw [hT] at hl
  rw [hc] at hg
  match cs, hl with
  | [c0, c1], _ =>
    have g0 := hg 0 (by omega)
    have g1 := hg 1 (by omega)
    simp only [Nat.zero_mul, List.drop_zero, List.take_succ_cons, List.take_zero, Nat.one_mul, List.drop_succ_cons] at g0 g1
    obtain ⟨x0, r0, i0⟩ := reads_int hE H enc w m [c0] xs[0] (g0.trans (List.getElem?_eq_getElem (by omega)))
    obtain ⟨x1, r1, i1⟩ := reads_int hE H enc w m [c1] xs[1] (g1.trans (List.getElem?_eq_getElem (by omega)))
    simp only [List.cons.injEq, and_true] at r0 r1
    exact ⟨(x0, x1), by rw [r0, r1], i0, i1⟩
theorem arg_array {H : Type} {enc : TypeId × Value → H} {P : Program} {W : World} {T E : TypeId} {k : Nat} {v : Value} {d : DataW H} {p : List MemPlace} {α : Type} {t : Ty α} (hR : Reads P T t) (hT : P.underlying T = some (.array k E)) {r : Reach} {base : Nat}
    (hval : Value.okWide P W r base T v) (h : DataW.Trod enc P W 0 (fun _ => true) true T v d p) : ∃ x cs, v = .agg cs ∧ t.rv (mem W) cs.toList x := by
  unfold Value.okWide at hval
  rw [hT] at hval
  obtain ⟨cs, rfl, _⟩ := hval
  obtain ⟨fuel, hf⟩ := h
  obtain ⟨x, hx⟩ := hR H enc W fuel _ _ hf
  exact ⟨x, cs, rfl, by simpa [Value.cells] using hx⟩
theorem arg_struct {H : Type} {enc : TypeId × Value → H} {P : Program} {W : World} {T : TypeId} {fs : Array Field} {v : Value} {d : DataW H} {p : List MemPlace} {α : Type} {t : Ty α} (hR : Reads P T t) (hT : P.underlying T = some (.struct fs)) {r : Reach} {base : Nat}
    (hval : Value.okWide P W r base T v) (h : DataW.Trod enc P W 0 (fun _ => true) true T v d p) : ∃ x cs, v = .agg cs ∧ t.rv (mem W) cs.toList x := by
  unfold Value.okWide at hval
  rw [hT] at hval
  obtain ⟨cs, rfl, _⟩ := hval
  obtain ⟨fuel, hf⟩ := h
  obtain ⟨x, hx⟩ := hR H enc W fuel _ _ hf
  exact ⟨x, cs, rfl, by simpa [Value.cells] using hx⟩
end Go.Proofs.Ytbmpoecmjmmngaa
