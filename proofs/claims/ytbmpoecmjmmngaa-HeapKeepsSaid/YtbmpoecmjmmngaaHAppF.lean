/- Append of a whole slice to a row of the call's own, in readings that ask nothing of memory (XApp). -/
import Derived.Test.YtbmpoecmjmmngaaLib
import Derived.Laws.OwnMore
namespace Go.Proofs.Ytbmpoecmjmmngaa
open Go.RowKit

theorem flatten_split {β : Type} {s : Nat} (hs : 0 < s) : ∀ (css : List (List β)), (∀ c ∈ css, c.length = s) → ∀ (j : Nat) (v : β), css.flatten[j]? = some v → ∃ k, ∃ h : k < css.length, ∃ r, j = k * s + r ∧ css[k][r]? = some v
  | [], _, j, v, h => by simp at h
  | c :: css, hl, j, v, h => by
    have hc : c.length = s := hl c List.mem_cons_self
    rw [List.flatten_cons] at h
    by_cases hj : j < c.length
    · rw [List.getElem?_append_left hj] at h
      exact ⟨0, by simp, j, by omega, by simpa using h⟩
    · rw [List.getElem?_append_right (by omega)] at h
      obtain ⟨k, hk, r, e, hv⟩ := flatten_split hs css (fun x hx => hl x (List.mem_cons_of_mem _ hx)) _ _ h
      exact ⟨k + 1, by simp; omega, r, by rw [Nat.add_mul]; omega, by simpa using hv⟩

theorem flatten_len {β : Type} {s : Nat} : ∀ (css : List (List β)), (∀ c ∈ css, c.length = s) → css.flatten.length = css.length * s
  | [], _ => by simp
  | c :: css, hl => by
    rw [List.flatten_cons, List.length_append, flatten_len css (fun x hx => hl x (List.mem_cons_of_mem _ hx)), hl c List.mem_cons_self, List.length_cons, Nat.add_mul]
    omega

theorem slice_css {α : Type} {t : Ty α} {m : Mem} {b o : Nat} {n cap : Nat} {ys : List α} (h : (tSlice t).rv m [.slice (some ⟨b, o, none⟩) n cap] ys) :
    ∃ css : List (List Value), css.length = ys.length ∧ (∀ c ∈ css, c.length = t.sz) ∧ ∀ k, (h : k < css.length) → (h' : k < ys.length) → At m b (o + k * t.sz) css[k] ∧ t.rv m css[k] ys[k] := by
  have hk : ∀ k : Fin ys.length, ∃ cs, At m b (o + k.val * t.sz) cs ∧ t.rv m cs ys[k.val] := fun k => by
    obtain ⟨b', o', e, hat⟩ := slice_at h k.isLt
    injection e with e
    injection e with e1 e2
    subst e1; subst e2
    exact hat
  refine ⟨List.ofFn (fun k => Classical.choose (hk k)), by simp, fun c hc => ?_, fun k h1 h2 => ?_⟩
  · obtain ⟨k, rfl⟩ := List.mem_ofFn.1 hc
    exact t.len _ _ _ (Classical.choose_spec (hk k)).2
  · simp only [List.getElem_ofFn]
    exact Classical.choose_spec (hk ⟨k, h2⟩)

section
variable {P : Program}
theorem run_append_flat {α : Type} {t : Ty α} (hf : t.flat) (hone : ∀ m cs x, t.rv m cs x → ∀ u ∈ cs, u.oneCell' = true) (w : World) (T ty : TypeId) {e : TypeId} {z : Value} {bytes : Nat} (hT : P.underlying T = some (.slice e))
    (hinf : (P.info? e).map (fun i => (i.zero, i.size, i.bytes)) = some (some z, t.sz, bytes)) (hzs : z.cells.size = t.sz) (hsz : 0 < t.sz) (B : Nat) (v : Value) (xs ys : List α) (hown : Owns t w B e v xs)
    (a : Option Addr) (c : Nat) (hy : (tSlice t).rv (mem w) [.slice a ys.length c] ys) (h63 : xs.length + ys.length ≤ maxLen) (hbytes : (xs.length + ys.length) * bytes ≤ 140737488355328) (hbase : B ≤ w.heap.size) :
    ∃ v' w', (Builtin.append_ #[T, T] ty #[v, .slice a ys.length c]).run P w = .ok v' w' ∧ Owns t w' B e v' (xs ++ ys) ∧ w.grownBy w' v.ownBlock := by
  obtain ⟨i, hi, hz, hsize, hby⟩ := info_parts hinf
  obtain ⟨css, g1, g2, g4, g5⟩ := hown
  by_cases h0 : ys.length = 0
  · obtain rfl := List.length_eq_zero_iff.1 h0
    cases a with
    | none =>
      have hr : (Builtin.append_ #[T, T] ty #[v, .slice none 0 c]).run P w = .ok v w := by
        rcases g2.2 with ⟨rfl, _⟩ | ⟨g, cap, cur, rfl, _, _, hnc, _⟩
        · simp [Builtin.append_, run_underlying hT, sizeOf, typeInfo, hi, Builtin.lenOf, Builtin.firstCells]
        · simp [Builtin.append_, run_underlying hT, sizeOf, typeInfo, hi, Builtin.lenOf, Builtin.firstCells, hnc, storeCells]
      exact ⟨v, w, hr, by rw [List.append_nil]; exact ⟨css, g1, g2, g4, g5⟩, ⟨rfl, rfl, rfl, Nat.le_refl _, fun _ _ _ => rfl⟩⟩
    | some ad =>
      obtain ⟨v', w', hr, h2, h3, _⟩ := run_append_own (P := P) w B T ty e i z t.sz bytes hT hi hz hsize hby hzs hsz v xs.length css.flatten g2 ad 0 c [] (by simp) (fun j u hj => by simp at hj) (fun u hu => by simp at hu) (by simpa using h63) (by simpa using hbytes) hbase
      exact ⟨v', w', hr, ⟨css, by simp [g1], by simpa using h2, g4, fun k h h' => by
        have h'' : k < xs.length := by simpa using h'
        have := hf _ ((mem w').on (fun b => some b ≠ v'.ownBlock)) _ _ (g5 k h h'')
        simpa using this⟩, h3⟩
  · obtain ⟨b, o, rfl, _⟩ := slice_at hy (k := 0) (by omega)
    obtain ⟨dss, d1, d2, d3⟩ := slice_css hy
    have hl : dss.flatten.length = ys.length * t.sz := by rw [flatten_len dss d2, d1]
    obtain ⟨v', w', hr, h2, h3, _⟩ := run_append_own (P := P) w B T ty e i z t.sz bytes hT hi hz hsize hby hzs hsz v xs.length css.flatten g2 ⟨b, o, none⟩ ys.length c dss.flatten hl (fun j u hj => by
        obtain ⟨k, hk, r, rfl, hv⟩ := flatten_split hsz dss d2 j u hj
        have := (d3 k hk (by omega)).1 r u hv
        rw [Addr.add_lit, ← Nat.add_assoc]
        exact this) (fun u hu => by
        obtain ⟨l, hl, hu⟩ := List.mem_flatten.1 hu
        obtain ⟨k, hk, rfl⟩ := List.getElem_of_mem hl
        exact hone _ _ _ (d3 k hk (by omega)).2 u hu) h63 hbytes hbase
    refine ⟨v', w', hr, ⟨css ++ dss, by simp [g1, d1], by simpa using h2, fun cc hc => ?_, fun k h h' => ?_⟩, h3⟩
    · rcases List.mem_append.1 hc with hc | hc
      · exact g4 _ hc
      · exact d2 _ hc
    · by_cases hlt : k < xs.length
      · rw [List.getElem_append_left (by omega), List.getElem_append_left hlt]
        exact hf _ _ _ _ (g5 k (by omega) hlt)
      · rw [List.getElem_append_right (by omega), List.getElem_append_right (by omega)]
        have hk : k - xs.length < ys.length := by simp at h'; omega
        have := (d3 (k - xs.length) (by omega) hk).2
        simp only [g1]
        exact hf _ _ _ _ this

theorem wpList_append_flat {α : Type} {ops : Array Oper} {rest : List Oper} {o : Oper} {a : Act} {Q : Exit → Act → World → Prop} {w : World} (hgd : o.guard = none) (s x : Operand) (T : TypeId)
    (ho : o.op = .call { callee := .builtin .append, args := #[s, x], argTypes := #[T, T] }) {t : Ty α} (hf : t.flat) (hone : ∀ m cs x, t.rv m cs x → ∀ u ∈ cs, u.oneCell' = true) {e : TypeId} {z : Value} {bytes : Nat} (hT : P.underlying T = some (.slice e))
    (hinf : (P.info? e).map (fun i => (i.zero, i.size, i.bytes)) = some (some z, t.sz, bytes)) (hzs : z.cells.size = t.sz) (hsz : 0 < t.sz) (B : Nat) (v : Value) (xs ys : List α) (hs : a.eval s = v) (hown : Owns t w B e v xs)
    (ad : Option Addr) (n c : Nat) (hx : a.eval x = .slice ad n c) (hn : n = ys.length) (hy : (tSlice t).rv (mem w) [.slice ad n c] ys) (h63 : xs.length + ys.length ≤ maxLen) (hbytes : (xs.length + ys.length) * bytes ≤ 140737488355328) (hbase : B ≤ w.heap.size)
    (h : ∀ v' w', Owns t w' B e v' (xs ++ ys) → w.grownBy w' v.ownBlock → wpList P ops Q rest (a.put o.dst v') w') : wpList P ops Q (o :: rest) a w := by
  subst hn
  refine wpList_plain hgd fun K hK => ?_
  obtain ⟨v', w', hr, h2, h3⟩ := run_append_flat (P := P) hf hone w T o.type hT hinf hzs hsz B v xs ys hown ad c hy h63 hbytes hbase
  unfold Oper.wp execOp
  simp only [ho, resolve, invoke, builtin, Sem.run_bind, Sem.run_pure, Result.andThen_ok, List.map_toArray, List.map_cons, List.map_nil, hs, hx, hr]
  exact hK _ _ (h v' w' h2 h3)
end
end Go.Proofs.Ytbmpoecmjmmngaa
