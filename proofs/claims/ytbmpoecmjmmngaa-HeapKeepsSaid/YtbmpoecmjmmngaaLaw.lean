/- The frame of a law's statement: what is common to all laws. -/
import Derived.Test.YtbmpoecmjmmngaaRows
import Derived.Test.YtbmpoecmjmmngaaLib
import Derived.ProofKit
import Derived.OpenShut
import Derived.ShutString
import Derived.ChangeOld
namespace Go.Proofs.Ytbmpoecmjmmngaa
open Go.ChangeShapes Go.WideShapes Go.ChangeAt Go.RowKit

theorem Try.own : ownKnob Try.prog.godebug = none := by kernel_rfl
theorem Try.laidOut : laidOutB Try.prog = true := by kernel_rfl

theorem args_below {H : Type} {enc : TypeId × Value → H} {P : Program} (hl : laidOutB P = true) {W W' : World} (hb : Below W.heap.size W W') : ∀ (ts : List TypeId) (vs : List Value) (ds : List (DataW H)) (ps : List MemPlace),
    (∀ t ∈ ts, P.readableRec t = true ∧ t < P.types.size) → DataW.TrodAll enc P W 0 (fun _ => true) true ts vs ds ps → DataW.TrodAll enc P W' 0 (fun b => decide (b < W.heap.size)) true ts vs ds ps
  | [], [], [], _, _, h => h
  | t :: ts, v :: vs, d :: ds, ps, hr, h => by
    obtain ⟨p, q, h1, h2, rfl⟩ := h
    obtain ⟨r1, r2⟩ := hr t (by simp)
    have lt0 : ∀ x ∈ p, x.block < W.heap.size := by obtain ⟨m, hm⟩ := h1; exact DataW.trod_lt m _ _ _ hm
    exact ⟨p, q, Below.trod hl r1 r2 h1 hb lt0, args_below hl hb ts vs ds q (fun t ht => hr t (by simp [ht])) h2, rfl⟩
  | [], _ :: _, _, _, _, h => h.elim
  | [], [], _ :: _, _, _, h => h.elim
  | _ :: _, [], _, _, _, h => h.elim
  | _ :: _, _ :: _, [], _, _, h => h.elim

theorem law_post {H : Type} {enc : TypeId × Value → H} {P : Program} {f : Func} {s : ChangeSpec} {W W' : World} {args : Array Value} {ds gs : List (DataW H)} {before : List MemPlace} (hl : laidOutB P = true) (hv : s.vars = [])
    (hread : ∀ t ∈ f.params.toList, P.readableRec t = true ∧ t < P.types.size) {T : TypeId} (hres : f.resultTypes = #[T]) (hT : P.underlying T = some .bool)
    (hfr : (s.fn H (ds ++ gs)).results = [.lit (.bool true)]) (hfa : (s.fn H (ds ++ gs)).args = ds) (hfv : (s.fn H (ds ++ gs)).vars = [])
    (hW : DataW.Whole enc P f.params.toList s.vars false W args.toList ds gs before) (hb : Below W.heap.size W W') : s.post enc P f false true false false W args (.bool true) W' := by
  have hW' := hW
  obtain ⟨p, q, hA, hV, rfl, _, _⟩ := hW
  refine ⟨ds, gs, _, [], p, [], hW', ?_, ?_, ?_, hb.frame _, fun h => by cases h⟩
  · rw [hfr, hres]
    exact trodAll_mk1 (shut_bool hT _)
  · rw [hfa]
    exact args_below hl hb _ _ _ _ hread hA
  · rw [hfv, hv]; rfl

/-- A slice among the arguments, as plain data. -/
theorem arg_slice {H : Type} {enc : TypeId × Value → H} {P : Program} {W : World} {T E : TypeId} {v : Value} {d : DataW H} {p : List MemPlace} {α : Type} {t : Ty α} (hR : Reads P T (tSlice t)) (hT : P.underlying T = some (.slice E)) {r : Reach} {base : Nat}
    (hval : Value.okWide P W r base T v) (h : DataW.Trod enc P W 0 (fun _ => true) true T v d p) : ∃ xs, (tSlice t).rv (mem W) [v] xs := by
  obtain ⟨a0, len0, cap0, rfl⟩ := okWide_slice hT hval
  obtain ⟨fuel, hf⟩ := h
  obtain ⟨x, hx⟩ := hR H enc W fuel _ _ hf
  exact ⟨x, by simpa [Value.cells] using hx⟩
theorem arg_int {H : Type} {enc : TypeId × Value → H} {P : Program} {W : World} {T : TypeId} {v : Value} {d : DataW H} {p : List MemPlace} (hT : P.underlying T = some (.int .i64)) {r : Reach} {base : Nat}
    (hval : Value.okWide P W r base T v) (h : DataW.Trod enc P W 0 (fun _ => true) true T v d p) : ∃ n, v = .int .i64 n ∧ inI64 n := by
  obtain ⟨n, rfl, _, _, hw⟩ := open_int hT hval h
  refine ⟨n, rfl, ?_⟩
  have : -9223372036854775808 ≤ n ∧ n ≤ 9223372036854775807 := by simpa [Lit.wf, IntKind.min, IntKind.max, IntKind.signed, IntKind.bits] using hw
  exact this
theorem arg_str {H : Type} {enc : TypeId × Value → H} {P : Program} {W : World} {T : TypeId} {v : Value} {d : DataW H} {p : List MemPlace} (hT : P.underlying T = some .string) {r : Reach} {base : Nat}
    (hval : Value.okWide P W r base T v) (h : DataW.Trod enc P W 0 (fun _ => true) true T v d p) : ∃ s, v = .string s ∧ s.size ≤ maxLen := by
  obtain ⟨s, rfl, _, _, hs⟩ := Go.ChangeMaps.open_string hT hval h
  exact ⟨s, rfl, hs⟩
end Go.Proofs.Ytbmpoecmjmmngaa
