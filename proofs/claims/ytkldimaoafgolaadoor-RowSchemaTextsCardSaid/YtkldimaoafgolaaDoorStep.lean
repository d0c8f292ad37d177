/- Appends as one step of a region that draws its order. No program in sight. -/
import Derived.Test.YtkldimaoafgolaaDoorLib
namespace Go.Proofs.YtkldimaoafgolaaDoor
open Go.RowKit
section
variable {P : Program}
/-- APPEND OF ONE ELEMENT to a row of the call's own, as one step of a region that draws its order. -/
theorem step_append_one {α : Type} {ops : Array Oper} {o : Oper} {a : Act} {w : World} {K : Act → World → Prop} {Q : Exit → Act → World → Prop} {E : Prop} (hgd : o.guard = none) (s x : Operand) (T : TypeId)
    (ho : o.op = .call { callee := .builtin .append, args := #[s, x], argTypes := #[T, T] }) (t : Ty α) {e : TypeId} {z : Value} {bytes : Nat} (hT : P.underlying T = some (.slice e))
    (hinf : (P.info? e).map (fun i => (i.zero, i.size, i.bytes)) = some (some z, t.sz, bytes)) (hzs : z.cells.size = t.sz) (hsz : 0 < t.sz) (B : Nat) (v : Value) (xs : List α) (hs : a.eval s = v) (hown : Owns t w B e v xs)
    (nb c : Nat) (y : α) (hx : a.eval x = .slice (some ⟨nb, 0, none⟩) 1 c) (cs : List Value) (hat : At (mem w) nb 0 cs) (hrv : t.rv ((mem w).on (fun b => some b ≠ v.ownBlock)) cs y) (h1 : ∀ u ∈ cs, u.oneCell' = true)
    (h63 : xs.length + 1 ≤ maxLen) (hbytes : (xs.length + 1) * bytes ≤ 140737488355328) (hbase : B ≤ w.heap.size)
    (h : ∀ v' w', Owns t w' B e v' (xs ++ [y]) → w.grownBy w' v.ownBlock → (v'.ownBlock = v.ownBlock ∨ ∀ k, v'.ownBlock = some k → w.heap.size ≤ k) → K (a.put o.dst v') w') :
    if Region.wanted o (yielded ops a.tmps) = true then Oper.wp P o a w K Q else E := by
  have hw : Region.wanted o (yielded ops a.tmps) = true := by simp [Region.wanted, hgd]
  rw [if_pos hw]
  obtain ⟨i, hi, hz, hsize, hby⟩ := info_parts hinf
  have hown' := hown
  obtain ⟨css, g1, g2, g4, g5⟩ := hown
  have hl : cs.length = 1 * t.sz := by rw [t.len _ _ _ hrv, Nat.one_mul]
  have hnews : ∀ j u, cs[j]? = some u → w.cell? ((⟨nb, 0, none⟩ : Addr).add j) = some u := fun j u hj => by rw [Addr.add_lit]; exact hat j u hj
  obtain ⟨v', w', hr, h2, h3, _⟩ := run_append_own (P := P) w B T o.type e i z t.sz bytes hT hi hz hsize hby hzs hsz v xs.length css.flatten g2 ⟨nb, 0, none⟩ 1 c cs hl hnews h1 h63 hbytes hbase
  have hblk := append_block w B T o.type e i z t.sz bytes hT hi hz hsize hby v xs.length css.flatten g2 ⟨nb, 0, none⟩ 1 c cs hl hnews h1 (by omega) h63 hbytes hr
  have key : Owns t w' B e v' (xs ++ [y]) := by
    refine hown'.snoc (fun css' hc' => ?_) h3 hblk hrv
    obtain ⟨v2, w2, hr2, h22, _, _⟩ := run_append_own (P := P) w B T o.type e i z t.sz bytes hT hi hz hsize hby hzs hsz v xs.length css'.flatten hc' ⟨nb, 0, none⟩ 1 c cs hl hnews h1 h63 hbytes hbase
    rw [hr] at hr2
    injection hr2 with ev ew
    subst ev; subst ew
    exact h22
  unfold Oper.wp execOp
  simp only [ho, resolve, invoke, builtin, Sem.run_bind, Sem.run_pure, Result.andThen_ok, List.map_toArray, List.map_cons, List.map_nil, hs, hx, hr]
  exact h v' w' key h3 hblk
end
end Go.Proofs.YtkldimaoafgolaaDoor
