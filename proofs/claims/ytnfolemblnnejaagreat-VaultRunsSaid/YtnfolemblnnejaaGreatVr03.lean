/- Part 3 of the texts that the law's proof stands on, merged. -/
import Derived.Deep.RegionLaw
import Derived.Test.YtnfolemblnnejaaGreatVr02
set_option linter.unusedVariables false
set_option linter.unusedSimpArgs false
/- Frames of the reference's functions that return a vault (printed by gen_vfr.py out of chapter 13's texts). -/
namespace Go.Proofs.YtnfolemblnnejaaGreat
open Go.RowKit Go.Maps

section
variable {P : Program}
theorem run_append_os {α : Type} {t : Ty α} (hf : t.flat) (hone : ∀ m cs x, t.rv m cs x → ∀ u ∈ cs, u.oneCell' = true) (w : World) (T ty : TypeId) {e : TypeId} {z : Value} {bytes : Nat} (hT : P.underlying T = some (.slice e))
    (hinf : (P.info? e).map (fun i => (i.zero, i.size, i.bytes)) = some (some z, t.sz, bytes)) (hzs : z.cells.size = t.sz) (hsz : 0 < t.sz) (v : Value) (xs ys : List α) (hown : OwnsO t w e v xs)
    (a : Option Addr) (c : Nat) (hy : (tSlice t).rv (mem w) [.slice a ys.length c] ys) (h63 : xs.length + ys.length ≤ maxLen) (hbytes : (xs.length + ys.length) * bytes ≤ 140737488355328) :
    ∃ v' w', (Builtin.append_ #[T, T] ty #[v, .slice a ys.length c]).run P w = .ok v' w' ∧ OwnsO t w' e v' (xs ++ ys) ∧ AppAt w w' v xs.length ys.length v' := by
  by_cases h0 : ys.length = 0
  · obtain rfl := List.length_eq_zero_iff.1 h0
    refine run_append_o (P := P) w T T ty hT hinf hzs v xs [] hown _ [] ?_ rfl (fun k h => absurd h (by simp)) h63 hbytes
    cases a with
    | none => exact Src.ofNil w hT c
    | some ad => exact Src.ofSlice w hT ad 0 c [] (by simp) (fun j u h => by simp at h) (fun u h => by cases h)
  · obtain ⟨b, o, rfl, _⟩ := slice_at hy (k := 0) (by omega)
    obtain ⟨dss, d1, d2, d3⟩ := slice_css hy
    have hl : dss.flatten.length = ys.length * t.sz := by rw [flatten_len dss d2, d1]
    refine run_append_o (P := P) w T T ty hT hinf hzs v xs ys hown _ dss ?_ d1 (fun k h h' => hf _ _ _ _ (d3 k h h').2) h63 hbytes
    refine Src.ofSlice w hT ⟨b, o, none⟩ ys.length c _ hl (fun j u hj => ?_) (fun u hu => ?_)
    · obtain ⟨k, hk, r, rfl, hv⟩ := flatten_split hsz dss d2 j u hj
      have := (d3 k hk (by omega)).1 r u hv
      rw [Addr.add_lit, ← Nat.add_assoc]
      exact this
    · obtain ⟨l, hl, hu⟩ := List.mem_flatten.1 hu
      obtain ⟨k, hk, rfl⟩ := List.getElem_of_mem hl
      exact hone _ _ _ (d3 k hk (by omega)).2 u hu
theorem step_append_os {α : Type} {ops : Array Oper} {o : Oper} {a : Act} {w : World} {K : Act → World → Prop} {Q : Exit → Act → World → Prop} {E : Prop} (hgd : o.guard = none) (s x : Operand) (T : TypeId)
    (ho : o.op = .call { callee := .builtin .append, args := #[s, x], argTypes := #[T, T] }) (t : Ty α) (hf : t.flat) (hone : ∀ m cs x, t.rv m cs x → ∀ u ∈ cs, u.oneCell' = true) {e : TypeId} {z : Value} {bytes : Nat} (hT : P.underlying T = some (.slice e))
    (hinf : (P.info? e).map (fun i => (i.zero, i.size, i.bytes)) = some (some z, t.sz, bytes)) (hzs : z.cells.size = t.sz) (hsz : 0 < t.sz) (v : Value) (xs ys : List α) (hs : a.eval s = v) (hown : OwnsO t w e v xs)
    (ad : Option Addr) (n c : Nat) (hx : a.eval x = .slice ad n c) (hn : n = ys.length) (hy : (tSlice t).rv (mem w) [.slice ad n c] ys) (h63 : xs.length + ys.length ≤ maxLen) (hbytes : (xs.length + ys.length) * bytes ≤ 140737488355328)
    (h : ∀ v' w', OwnsO t w' e v' (xs ++ ys) → AppAt w w' v xs.length ys.length v' → K (a.put o.dst v') w') :
    if Region.wanted o (yielded ops a.tmps) = true then Oper.wp P o a w K Q else E := by
  have hw : Region.wanted o (yielded ops a.tmps) = true := by simp [Region.wanted, hgd]
  rw [if_pos hw]
  subst hn
  obtain ⟨v', w', hr, h2, h3⟩ := run_append_os (P := P) hf hone w T o.type hT hinf hzs hsz v xs ys hown ad c hy h63 hbytes
  unfold Oper.wp execOp
  simp only [ho, resolve, invoke, builtin, Sem.run_bind, Sem.run_pure, Result.andThen_ok, List.map_toArray, List.map_cons, List.map_nil, hs, hx, hr]
  exact h v' w' h2 h3
theorem size_run {e : TypeId} {sz : Nat} (hs : (P.info? e).map (·.size) = some sz) (w : World) : (sizeOf e).run P w = .ok sz w := by
  cases hq : P.info? e with
  | none => simp [hq] at hs
  | some i => simp only [hq, Option.map_some, Option.some.injEq] at hs; simp [sizeOf, typeInfo, hq, hs]
/-- The first elements of a slice. -/
theorem cut_lo {α : Type} {t : Ty α} {m : Mem} {a : Option Addr} {len cap n : Nat} {xs : List α} (h : (tSlice t).rv m [.slice a len cap] xs) (hn : n ≤ xs.length) {T e : TypeId} (hT : P.underlying T = some (.slice e)) (hs : (P.info? e).map (·.size) = some t.sz) :
    ∃ a' c', (∀ w2, (Instr.slice T (.slice a len cap) none (some (.int .i64 n)) none).run P w2 = .ok (.slice a' n c') w2) ∧ (tSlice t).rv m [.slice a' n c'] (xs.take n) := by
  obtain ⟨rfl, h1, h2⟩ := slice_len h
  obtain ⟨a', cap', eq, _, _, h4⟩ := h
  simp only [List.cons.injEq, Value.slice.injEq, and_true] at eq
  obtain ⟨rfl, _, rfl⟩ := eq
  have hl : (xs.take n).length = n := by simp; omega
  have he : P.elem T = e := by simp [Program.elem, hT]
  refine ⟨a, cap, fun w2 => ?_, a, cap, by rw [hl], by rw [hl]; omega, h2, fun h0 => ?_⟩
  · rw [run_slice_h w2 T _ xs.length cap (by rw [he]; exact hT) .i64 n (by omega) (by omega), he, size_run hs]
    have e0 : a.map (fun x => x.add (0 * t.sz)) = a := by
      cases a with
      | none => rfl
      | some x => simp [Addr.add]
    simp only [Result.andThen_ok, sliced, Int.toNat_natCast, Nat.sub_zero]
    by_cases hc : cap = 0 <;> simp [hc] <;> (cases a <;> simp [Addr.add])
  · rw [hl] at h0
    obtain ⟨b, o, ha, hat⟩ := h4 (by omega)
    exact ⟨b, o, ha, fun k hk => by rw [List.getElem_take]; exact hat k (by omega)⟩
/-- The last elements of a slice. -/
theorem cut_hi {α : Type} {t : Ty α} {m : Mem} {a : Option Addr} {len cap n : Nat} {xs : List α} (h : (tSlice t).rv m [.slice a len cap] xs) (hn : n ≤ xs.length) {T e : TypeId} (hT : P.underlying T = some (.slice e)) (hs : (P.info? e).map (·.size) = some t.sz) :
    ∃ a' c', (∀ w2, (Instr.slice T (.slice a len cap) (some (.int .i64 n)) none none).run P w2 = .ok (.slice a' (len - n) c') w2) ∧ (tSlice t).rv m [.slice a' (len - n) c'] (xs.drop n) := by
  obtain ⟨rfl, h1, h2⟩ := slice_len h
  obtain ⟨a', cap', eq, _, _, h4⟩ := h
  simp only [List.cons.injEq, Value.slice.injEq, and_true] at eq
  obtain ⟨rfl, _, rfl⟩ := eq
  have he : P.elem T = e := by simp [Program.elem, hT]
  refine ⟨if cap = n then a else a.map (·.add (n * t.sz)), cap - n, fun w2 => ?_, _, _, by rw [List.length_drop], by rw [List.length_drop]; omega, by omega, fun h0 => ?_⟩
  · rw [run_slice_l w2 T _ xs.length cap (by rw [he]; exact hT) .i64 n (by omega) (by omega), he, size_run hs]
    simp only [Result.andThen_ok, sliced, Int.toNat_natCast]
  · rw [List.length_drop] at h0
    obtain ⟨b, o, ha, hat⟩ := h4 (by omega)
    subst ha
    refine ⟨b, o + n * t.sz, by rw [if_neg (by omega)]; simp [Addr.add], fun k hk => ?_⟩
    rw [List.length_drop] at hk
    have h := hat (n + k) (by omega)
    rw [List.getElem_drop]
    have e : o + (n + k) * t.sz = o + n * t.sz + k * t.sz := by rw [Nat.add_mul]; omega
    rw [e] at h; exact h
end
theorem lit0_of {α : Type} (t : Ty α) {w : World} {b : Nat} {T : TypeId} (h : w.heap[b]? = some (.cells #[] T (0, 0))) : OwnsO t w T (.slice (some ⟨b, 0, none⟩) 0 0) [] :=
  ⟨[], rfl, fun k h => absurd h (by simp), .inr ⟨b, 0, 0, #[], rfl, h, by simp, by simp, by simp, by simp⟩⟩
theorem app_below {Z wA w5 : World} {n m B : Nat} {v v5 : Value} (hZ : Below B Z wA) (hB : B ≤ wA.heap.size) (happ : AppAt wA w5 v n m v5) (hv : ∀ k, v.ownBlock = some k → B ≤ k) : Below B Z w5 ∧ ∀ k, v5.ownBlock = some k → B ≤ k :=
  ⟨hZ.grown happ.grown hB (fun k e => hv k e), fun k e => by
    rcases happ.block with g | g
    · exact hv k (g ▸ e)
    · exact Nat.le_trans hB (g k e)⟩
theorem OwnsO.formN {α : Type} {t : Ty α} {w : World} {e : TypeId} {v : Value} {xs : List α} (h : OwnsO t w e v xs) : ∃ a n cap, v = .slice a n cap ∧ n = xs.length := by
  obtain ⟨a, cap, rfl, _⟩ := h.form
  exact ⟨a, _, cap, rfl, rfl⟩
theorem slice_to {α : Type} {M m : Mem} {t : Ty α} {v : Value} {xs : List α} (h : (tSlice t).rv M [v] xs) (hM : M.le m) : (tSlice (tIn M t)).rv m [v] xs := by
  obtain ⟨a, cap, h1, h2, h3, h4⟩ := h
  refine ⟨a, cap, h1, h2, h3, fun hp => ?_⟩
  obtain ⟨b, o, ha, hat⟩ := h4 hp
  refine ⟨b, o, ha, fun k hk => ?_⟩
  obtain ⟨cs, hc, hr⟩ := hat k hk
  exact ⟨cs, fun j v hj => hM _ _ _ (hc j v hj), hr⟩
def store5 (w : World) (b : Nat) (v0 v1 v2 v3 v4 : Value) : World := ((((w.setCell ⟨b, 0, none⟩ v0).setCell ⟨b, 1, none⟩ v1).setCell ⟨b, 2, none⟩ v2).setCell ⟨b, 3, none⟩ v3).setCell ⟨b, 4, none⟩ v4
theorem store5_block {w : World} {b : Nat} {T : TypeId} {a0 a1 a2 a3 a4 : Value} (h : w.heap[b]? = some (.cells #[a0, a1, a2, a3, a4] T (0, 0))) (v0 v1 v2 v3 v4 : Value) : (store5 w b v0 v1 v2 v3 v4).heap[b]? = some (.cells #[v0, v1, v2, v3, v4] T (0, 0)) := by
  have h0 : (w.setCell ⟨b, 0, none⟩ v0).heap[b]? = some (.cells #[v0, a1, a2, a3, a4] T (0, 0)) := set_block h
  have h1 : ((w.setCell ⟨b, 0, none⟩ v0).setCell ⟨b, 1, none⟩ v1).heap[b]? = some (.cells #[v0, v1, a2, a3, a4] T (0, 0)) := set_block h0
  have h2 : (((w.setCell ⟨b, 0, none⟩ v0).setCell ⟨b, 1, none⟩ v1).setCell ⟨b, 2, none⟩ v2).heap[b]? = some (.cells #[v0, v1, v2, a3, a4] T (0, 0)) := set_block h1
  have h3 : ((((w.setCell ⟨b, 0, none⟩ v0).setCell ⟨b, 1, none⟩ v1).setCell ⟨b, 2, none⟩ v2).setCell ⟨b, 3, none⟩ v3).heap[b]? = some (.cells #[v0, v1, v2, v3, a4] T (0, 0)) := set_block h2
  exact set_block h3
theorem store5_below {W w : World} {b B : Nat} (h : Below B W w) (hb : B ≤ b) (v0 v1 v2 v3 v4 : Value) : Below B W (store5 w b v0 v1 v2 v3 v4) := by
  unfold store5
  exact ((((h.setCell (p := ⟨b, 0, none⟩) hb _).setCell (p := ⟨b, 1, none⟩) hb _).setCell (p := ⟨b, 2, none⟩) hb _).setCell (p := ⟨b, 3, none⟩) hb _).setCell (p := ⟨b, 4, none⟩) hb _
theorem store5_other {w : World} {b k : Nat} (hk : k ≠ b) (v0 v1 v2 v3 v4 : Value) : (store5 w b v0 v1 v2 v3 v4).heap[k]? = w.heap[k]? := by
  unfold store5
  rw [set_block_other hk, set_block_other hk, set_block_other hk, set_block_other hk, set_block_other hk]
open Classical in
noncomputable def joinM (M : Mem) (W W' : World) : Mem := fun b o => if W.heap.size ≤ b then _root_.Go.Proofs.YtnfolemblnnejaaGreat.mem W' b o else M b o
section
variable {M M2 : Mem} {W W' W1 w w' : World}
theorem joinM_le (hM : M.le (mem W)) : M.le (joinM M W W') := fun b o v e => by
  have := mem_lt (hM _ _ _ e)
  unfold joinM
  rw [if_neg (by omega)]; exact e
theorem joinM_new : ((mem W').on (W.heap.size ≤ ·)).le (joinM M W W') := fun b o v e => by
  obtain ⟨hs, e⟩ := Mem.of_on e
  unfold joinM
  rw [if_pos hs]; exact e
theorem joinM_to (h1 : M.le M2) (h2 : ((mem W').on (W.heap.size ≤ ·)).le M2) : (joinM M W W').le M2 := fun b o v e => by
  unfold joinM at e
  split at e
  · rename_i h; exact h2 _ _ _ (Mem.on_some e h)
  · exact h1 _ _ _ e
/-- Between entry and return: the vault's box, the result's cell. -/
structure Fr (W w : World) (v0 v1 v2 v3 v4 : Value) : Prop where
  bl : Below W.heap.size W w
  sz : W.heap.size + 2 ≤ w.heap.size
  bx : w.heap[W.heap.size]? = some (.cells #[v0, v1, v2, v3, v4] 31 (0, 0))
  rs : w.heap[W.heap.size + 1]? = some (.cells #[.int .i64 0, .int .i64 0, .int .i64 0, .int .i64 0, .slice none 0 0] 31 (0, 0))
variable {v0 v1 v2 v3 v4 : Value}
theorem Fr.start (W : World) (v0 v1 v2 v3 v4 : Value) : Fr W ((W.alloc (.cells #[v0, v1, v2, v3, v4] 31)).alloc (.cells #[.int .i64 0, .int .i64 0, .int .i64 0, .int .i64 0, .slice none 0 0] 31)) v0 v1 v2 v3 v4 :=
  ⟨((Below.refl _ _).alloc (Nat.le_refl _) _).alloc (by simp) _, by simp, alloc_at0 _ _ _, alloc_at1 _ _ _⟩
theorem Fr.pure (h : Fr W w v0 v1 v2 v3 v4) (hb : Below w.heap.size w w') : Fr W w' v0 v1 v2 v3 v4 :=
  ⟨h.bl.trans (hb.mono h.bl.size), Nat.le_trans h.sz hb.size, (hb.block _ (Array.getElem?_eq_some_iff.1 h.bx).1).trans h.bx, (hb.block _ (Array.getElem?_eq_some_iff.1 h.rs).1).trans h.rs⟩
theorem Fr.cells (h : Fr W w v0 v1 v2 v3 v4) : w.cell? ⟨W.heap.size, 0, none⟩ = some v0 ∧ w.cell? ⟨W.heap.size, 1, none⟩ = some v1 ∧ w.cell? ⟨W.heap.size, 2, none⟩ = some v2 ∧ w.cell? ⟨W.heap.size, 3, none⟩ = some v3 ∧ w.cell? ⟨W.heap.size, 4, none⟩ = some v4 := ⟨mem_cells h.bx 0, mem_cells h.bx 1, mem_cells h.bx 2, mem_cells h.bx 3, mem_cells h.bx 4⟩
theorem Fr.thaw (h : Fr W w v0 v1 v2 v3 v4) : ∀ o, w.frozen? ⟨W.heap.size, o, none⟩ = false := frozen_cells h.bx
theorem Fr.res (h : Fr W w v0 v1 v2 v3 v4) : w.cell? ⟨W.heap.size + 1, 0, none⟩ = some (.int .i64 0) ∧ w.cell? ⟨W.heap.size + 1, 1, none⟩ = some (.int .i64 0) ∧ w.cell? ⟨W.heap.size + 1, 2, none⟩ = some (.int .i64 0) ∧ w.cell? ⟨W.heap.size + 1, 3, none⟩ = some (.int .i64 0) ∧ w.cell? ⟨W.heap.size + 1, 4, none⟩ = some (.slice none 0 0) ∧ ∀ o, w.frozen? ⟨W.heap.size + 1, o, none⟩ = false := ⟨mem_cells h.rs 0, mem_cells h.rs 1, mem_cells h.rs 2, mem_cells h.rs 3, mem_cells h.rs 4, frozen_cells h.rs⟩
theorem Fr.set0 (h : Fr W w v0 v1 v2 v3 v4) (v : Value) : Fr W (w.setCell ⟨W.heap.size, 0, none⟩ v) v v1 v2 v3 v4 :=
  ⟨h.bl.setCell (p := ⟨W.heap.size, 0, none⟩) (Nat.le_refl _) _, by simp [World.setCell]; exact h.sz, set_block h.bx, (set_block_other (by omega)).trans h.rs⟩
theorem Fr.set1 (h : Fr W w v0 v1 v2 v3 v4) (v : Value) : Fr W (w.setCell ⟨W.heap.size, 1, none⟩ v) v0 v v2 v3 v4 :=
  ⟨h.bl.setCell (p := ⟨W.heap.size, 1, none⟩) (Nat.le_refl _) _, by simp [World.setCell]; exact h.sz, set_block h.bx, (set_block_other (by omega)).trans h.rs⟩
theorem Fr.set2 (h : Fr W w v0 v1 v2 v3 v4) (v : Value) : Fr W (w.setCell ⟨W.heap.size, 2, none⟩ v) v0 v1 v v3 v4 :=
  ⟨h.bl.setCell (p := ⟨W.heap.size, 2, none⟩) (Nat.le_refl _) _, by simp [World.setCell]; exact h.sz, set_block h.bx, (set_block_other (by omega)).trans h.rs⟩
theorem Fr.set3 (h : Fr W w v0 v1 v2 v3 v4) (v : Value) : Fr W (w.setCell ⟨W.heap.size, 3, none⟩ v) v0 v1 v2 v v4 :=
  ⟨h.bl.setCell (p := ⟨W.heap.size, 3, none⟩) (Nat.le_refl _) _, by simp [World.setCell]; exact h.sz, set_block h.bx, (set_block_other (by omega)).trans h.rs⟩
theorem Fr.set4 (h : Fr W w v0 v1 v2 v3 v4) (v : Value) : Fr W (w.setCell ⟨W.heap.size, 4, none⟩ v) v0 v1 v2 v3 v :=
  ⟨h.bl.setCell (p := ⟨W.heap.size, 4, none⟩) (Nat.le_refl _) _, by simp [World.setCell]; exact h.sz, set_block h.bx, (set_block_other (by omega)).trans h.rs⟩
/-- What has been made behind the box and the result. -/
noncomputable def nw (W w : World) : Mem := (mem w).on (W.heap.size + 2 ≤ ·)
theorem nw_le : (nw W w).le (mem w) := Mem.on_le _ _
theorem nw_pure (hb : Below w.heap.size w w') : (nw W w).le (nw W w') := fun b o v e => by
  obtain ⟨hs, e⟩ := Mem.of_on e
  exact Mem.on_some (below_mem hb _ _ _ e) hs
theorem nw_set {b o : Nat} {u : Value} (hb : b < W.heap.size + 2) : (nw W w).le (nw W (w.setCell ⟨b, o, none⟩ u)) := fun b' o' v e => by
  obtain ⟨hs, e⟩ := Mem.of_on e
  exact Mem.on_some ((mem_of_block (set_block_other (by omega)) _).trans e) hs
theorem nw_store5 (u0 u1 u2 u3 u4 : Value) : (nw W w).le (nw W (store5 w (W.heap.size + 1) u0 u1 u2 u3 u4)) := fun b' o' v e => by
  obtain ⟨hs, e⟩ := Mem.of_on e
  exact Mem.on_some ((mem_of_block (store5_other (by omega) _ _ _ _ _) _).trans e) hs
theorem nw_new (h : W.heap.size + 2 ≤ w.heap.size) : ((mem w').on (w.heap.size ≤ ·)).le (nw W w') := fun b o v e => by
  obtain ⟨hs, e⟩ := Mem.of_on e
  exact Mem.on_some e (by omega)
theorem nw_join : (nw W W').le (joinM M W W') := fun b o v e => by
  obtain ⟨hs, e⟩ := Mem.of_on e
  unfold joinM
  rw [if_pos (by omega)]; exact e
end
theorem tRSn_one (M : Mem) : ∀ m cs x, (tIn M tRSn).rv m cs x → ∀ u ∈ cs, u.oneCell' = true := fun m cs x h u hu => by
  obtain ⟨s1, s2, s3, rfl, -, r1, r2, r3⟩ := h
  obtain ⟨a1, c1, rfl, -⟩ := slice_form r1
  obtain ⟨a2, c2, rfl, -⟩ := slice_form r2
  obtain ⟨a3, c3, rfl, -⟩ := slice_form r3
  simp at hu
  rcases hu with rfl | rfl | rfl | rfl | rfl | rfl <;> rfl
theorem infoRSn : (Tryz.prog.info? 102).map (fun i => (i.zero, i.size, i.bytes)) = some (some (.agg #[.int .i64 0, .string ⟨#[]⟩, .bool false, .slice none 0 0, .slice none 0 0, .slice none 0 0]), 6, 104) := by kernel_rfl
theorem rsnSize : (Tryz.prog.info? 102).map (·.size) = some 6 := by kernel_rfl
end Go.Proofs.YtnfolemblnnejaaGreat
/- The reference of a vault: Decline, Retask, New (printed by gen_vdec.py). -/
namespace Go.Proofs.YtnfolemblnnejaaGreat
open Go.RowKit Go.Maps

theorem del_at {s : VS} (h : VOk s) {j : Nat} {k : Int} {t : Sn} (hj : s.all[j]? = some (k, t)) : s.all.take j ++ s.all.drop (j + 1) = (s.del k).all := by
  obtain ⟨hjl, he⟩ := List.getElem?_eq_some_iff.1 hj
  have hl : s.all = s.all.take j ++ (k, t) :: s.all.drop (j + 1) := by
    conv => lhs; rw [← List.take_append_drop j s.all, List.drop_eq_getElem_cons hjl, he]
  have hu := h.up
  unfold VS.nums at hu
  rw [hl, List.map_append, List.map_cons, List.pairwise_append, List.pairwise_cons] at hu
  obtain ⟨_, ⟨h2, _⟩, h3⟩ := hu
  unfold VS.del
  show _ = s.all.filter _
  conv => rhs; rw [hl]
  rw [List.filter_append, List.filter_cons, if_neg (by simp)]
  rw [List.filter_eq_self.2 (fun x hx => by
    have := h3 x.1 (List.mem_map_of_mem (f := Prod.fst) hx) k List.mem_cons_self
    simp; omega), List.filter_eq_self.2 (fun x hx => by
    have := h2 x.1 (List.mem_map_of_mem (f := Prod.fst) hx)
    simp; omega)]
theorem RV.del {M M' : Mem} {s : VS} {a : Value} (h : RV M s a) {k : Int} {v : Value} (hv : tRSns.rv M' [v] (s.del k).all) : RV M' (s.del k) v := ⟨hv, h.ok.del k⟩
def VS.declined (s : VS) (k : Int) : VS := if decAns (s.find k) = 0 then s.del k else s
set_option maxRecDepth 100000 in
set_option maxHeartbeats 16000000 in
theorem refDecline_any (s : VS) (a : Value) (M : Mem) (W : World) (hM : M.le (mem W)) (h : RV M s a) (hl : s.all.length ≤ 1000) (k : Int) :
    Calls Tryz.prog 17 #[rvV s a, .int .i64 k] W fun e W' => ∃ a', Below W.heap.size W W' ∧ e = .returned (.tuple #[rvV (s.declined k) a', .int .i64 (decAns (s.find k))]) ∧ RV (joinM M W W') (s.declined k) a' := by
  have HM := Lib.hid hM
  have HRS := Lib.hid h
  obtain ⟨aa, ca, rfl, hla, hma, hra⟩ := slice_form h.ha
  have hca : ca ≤ 9223372036854775807 := by unfold maxLen at hma; exact hma
  have HAL := Lib.hid (show s.all.length ≤ 1000000 from by have := all_len h.ok; have := h.ok.l; omega)
  have HF0 := Lib.hid (Fr.start W (.int .i64 s.tasks) (.int .i64 s.most) (.int .i64 s.keep) (.int .i64 ((s.last : Int) + 1)) (.slice aa s.all.length ca))
  have HA := Lib.hid (fun w' (hb : Below W.heap.size W w') => tRSns.mono _ _ _ _ (Mem.le_trans hM (below_mem hb)) hra)
  have HRW := Lib.hid (fun w' (hb : Below W.heap.size W w') => (h.mono (Mem.le_trans hM (below_mem hb)) : RV (mem w') s (.slice aa s.all.length ca)))
  have HQ := Lib.hid hra
  have HP := Lib.hid (fun (w : World) (hb : Below W.heap.size W w) => refPlace_any s _ w (h.mono (Mem.le_trans hM (below_mem hb))) k)
  have HOK := Lib.hid h.ok
  clear hma hra h hM
  go_enter Tryz.func17, Tryz.ntmps17
  go_wp2_with fail
  refine (HP.out _ HF0.out.bl).mono ?_
  rintro e w1 ⟨i, rfl, hf, hb1⟩
  have HF1 := Lib.hid (HF0.out.pure hb1)
  clear hb1 HP HF0
  have c0 : w1.cell? ⟨W.heap.size, 0, none⟩ = some (.int .i64 s.tasks) := HF1.out.cells.1
  have c1 : w1.cell? ⟨W.heap.size, 1, none⟩ = some (.int .i64 s.most) := HF1.out.cells.2.1
  have c2 : w1.cell? ⟨W.heap.size, 2, none⟩ = some (.int .i64 s.keep) := HF1.out.cells.2.2.1
  have c3 : w1.cell? ⟨W.heap.size, 3, none⟩ = some (.int .i64 ((s.last : Int) + 1)) := HF1.out.cells.2.2.2.1
  have c4 : w1.cell? ⟨W.heap.size, 4, none⟩ = some (.slice aa s.all.length ca) := HF1.out.cells.2.2.2.2
  have cz : ∀ o, w1.frozen? ⟨W.heap.size, o, none⟩ = false := HF1.out.thaw
  have d0 : w1.cell? ⟨W.heap.size + 1, 0, none⟩ = some (.int .i64 0) := HF1.out.res.1
  have d1 : w1.cell? ⟨W.heap.size + 1, 1, none⟩ = some (.int .i64 0) := HF1.out.res.2.1
  have d2 : w1.cell? ⟨W.heap.size + 1, 2, none⟩ = some (.int .i64 0) := HF1.out.res.2.2.1
  have d3 : w1.cell? ⟨W.heap.size + 1, 3, none⟩ = some (.int .i64 0) := HF1.out.res.2.2.2.1
  have d4 : w1.cell? ⟨W.heap.size + 1, 4, none⟩ = some (.slice none 0 0) := HF1.out.res.2.2.2.2.1
  have dz : ∀ o, w1.frozen? ⟨W.heap.size + 1, o, none⟩ = false := HF1.out.res.2.2.2.2.2
  rcases hf with ⟨i, t, hj, rfl⟩ | ⟨hn, rfl⟩
  case inr =>
    have hfn : s.find k = none := find_none.2 hn
    have HAE := Lib.hid (show decAns (s.find k) = 8 from by rw [hfn]; rfl)
    have HS := Lib.hid (show s.declined k = s from if_neg (by rw [HAE.out]; decide))
    clear hn hfn
    go_wp2
    have r1 := store5_block HF1.out.rs (.int .i64 s.tasks) (.int .i64 s.most) (.int .i64 s.keep) (.int .i64 ((s.last : Int) + 1)) (.slice aa s.all.length ca)
    have hBz := store5_below HF1.out.bl (Nat.le_succ _) (.int .i64 s.tasks) (.int .i64 s.most) (.int .i64 s.keep) (.int .i64 ((s.last : Int) + 1)) (.slice aa s.all.length ca)
    have hnz : (nw W w1).le (nw W (store5 w1 (W.heap.size + 1) (.int .i64 s.tasks) (.int .i64 s.most) (.int .i64 s.keep) (.int .i64 ((s.last : Int) + 1)) (.slice aa s.all.length ca))) := nw_store5 (.int .i64 s.tasks) (.int .i64 s.most) (.int .i64 s.keep) (.int .i64 ((s.last : Int) + 1)) (.slice aa s.all.length ca)
    show bodyPost _ _ _ _ _ (store5 w1 (W.heap.size + 1) (.int .i64 s.tasks) (.int .i64 s.most) (.int .i64 s.keep) (.int .i64 ((s.last : Int) + 1)) (.slice aa s.all.length ca))
    generalize store5 w1 (W.heap.size + 1) (.int .i64 s.tasks) (.int .i64 s.most) (.int .i64 s.keep) (.int .i64 ((s.last : Int) + 1)) (.slice aa s.all.length ca) = wz at r1 hBz hnz ⊢
    have g0 : wz.cell? ⟨W.heap.size + 1, 0, none⟩ = some (.int .i64 s.tasks) := mem_cells r1 0
    have g1 : wz.cell? ⟨W.heap.size + 1, 1, none⟩ = some (.int .i64 s.most) := mem_cells r1 1
    have g2 : wz.cell? ⟨W.heap.size + 1, 2, none⟩ = some (.int .i64 s.keep) := mem_cells r1 2
    have g3 : wz.cell? ⟨W.heap.size + 1, 3, none⟩ = some (.int .i64 ((s.last : Int) + 1)) := mem_cells r1 3
    have g4 : wz.cell? ⟨W.heap.size + 1, 4, none⟩ = some (.slice aa s.all.length ca) := mem_cells r1 4
    exact bodyPost_ret (v := .tuple #[.agg #[.int .i64 s.tasks, .int .i64 s.most, .int .i64 s.keep, .int .i64 ((s.last : Int) + 1), .slice aa s.all.length ca], .int .i64 8]) (by simp [results, Tryz.results17, go_sem, g0, g1, g2, g3, g4]) rfl ⟨.slice aa s.all.length ca, hBz, by rw [HS.out, HAE.out], by rw [HS.out]; exact HRS.out.mono (joinM_le HM.out)⟩
  have hfs : s.find k = some t := HOK.out.find (List.mem_of_getElem? hj)
  have HJ := Lib.hid hj
  obtain ⟨hil, hie⟩ := List.getElem?_eq_some_iff.1 hj
  obtain ⟨b, o, s1, s2, s3, e, ⟨-, -, q2, -⟩, -⟩ := rsn_at (HA.out _ HF1.out.bl) hil
  subst e
  have e2 : w1.cell? ⟨b, o + i * 6 + 2, none⟩ = some (.bool t.done) := by rw [hie] at q2; exact q2
  have HD := Lib.hid (show decAns (s.find k) = if t.done = true then 10 else 0 from by rw [hfs]; rfl)
  clear q2 hj hfs hie
  cases hd : t.done with
  | true =>
    rw [hd] at e2
    have HAE := Lib.hid (HD.out.trans (if_pos hd))
    have HS := Lib.hid (show s.declined k = s from if_neg (by rw [HAE.out]; decide))
    go_wp2
    have r1 := store5_block HF1.out.rs (.int .i64 s.tasks) (.int .i64 s.most) (.int .i64 s.keep) (.int .i64 ((s.last : Int) + 1)) (.slice (some ⟨b, o, none⟩) s.all.length ca)
    have hBz := store5_below HF1.out.bl (Nat.le_succ _) (.int .i64 s.tasks) (.int .i64 s.most) (.int .i64 s.keep) (.int .i64 ((s.last : Int) + 1)) (.slice (some ⟨b, o, none⟩) s.all.length ca)
    have hnz : (nw W w1).le (nw W (store5 w1 (W.heap.size + 1) (.int .i64 s.tasks) (.int .i64 s.most) (.int .i64 s.keep) (.int .i64 ((s.last : Int) + 1)) (.slice (some ⟨b, o, none⟩) s.all.length ca))) := nw_store5 (.int .i64 s.tasks) (.int .i64 s.most) (.int .i64 s.keep) (.int .i64 ((s.last : Int) + 1)) (.slice (some ⟨b, o, none⟩) s.all.length ca)
    show bodyPost _ _ _ _ _ (store5 w1 (W.heap.size + 1) (.int .i64 s.tasks) (.int .i64 s.most) (.int .i64 s.keep) (.int .i64 ((s.last : Int) + 1)) (.slice (some ⟨b, o, none⟩) s.all.length ca))
    generalize store5 w1 (W.heap.size + 1) (.int .i64 s.tasks) (.int .i64 s.most) (.int .i64 s.keep) (.int .i64 ((s.last : Int) + 1)) (.slice (some ⟨b, o, none⟩) s.all.length ca) = wz at r1 hBz hnz ⊢
    have g0 : wz.cell? ⟨W.heap.size + 1, 0, none⟩ = some (.int .i64 s.tasks) := mem_cells r1 0
    have g1 : wz.cell? ⟨W.heap.size + 1, 1, none⟩ = some (.int .i64 s.most) := mem_cells r1 1
    have g2 : wz.cell? ⟨W.heap.size + 1, 2, none⟩ = some (.int .i64 s.keep) := mem_cells r1 2
    have g3 : wz.cell? ⟨W.heap.size + 1, 3, none⟩ = some (.int .i64 ((s.last : Int) + 1)) := mem_cells r1 3
    have g4 : wz.cell? ⟨W.heap.size + 1, 4, none⟩ = some (.slice (some ⟨b, o, none⟩) s.all.length ca) := mem_cells r1 4
    exact bodyPost_ret (v := .tuple #[.agg #[.int .i64 s.tasks, .int .i64 s.most, .int .i64 s.keep, .int .i64 ((s.last : Int) + 1), .slice (some ⟨b, o, none⟩) s.all.length ca], .int .i64 10]) (by simp [results, Tryz.results17, go_sem, g0, g1, g2, g3, g4]) rfl ⟨.slice (some ⟨b, o, none⟩) s.all.length ca, hBz, by rw [HS.out, HAE.out], by rw [HS.out]; exact HRS.out.mono (joinM_le HM.out)⟩
  | false =>
    rw [hd] at e2
    have HAE := Lib.hid (HD.out.trans (if_neg (by rw [hd]; simp)))
    have HS := Lib.hid (show s.declined k = s.del k from if_pos HAE.out)
    have HB1 := Lib.hid HF1.out.bl
    have hz1 := HF1.out.sz
    obtain ⟨a1, c1', hlo, hr1⟩ := cut_lo (t := tIn M tRSn) (slice_to HQ.out (Mem.le_refl M)) (n := i) (by omega) Tryz.underlying29 rsnSize
    obtain ⟨a2, c2', hhi, hr2⟩ := cut_hi (t := tIn M tRSn) (slice_to HQ.out (Mem.le_refl M)) (n := i + 1) (by omega) Tryz.underlying29 rsnSize
    have hhi' : ∀ w2, (Instr.slice 29 (.slice (some ⟨b, o, none⟩) s.all.length ca) (some (.int .i64 ((i : Int) + 1))) none none).run Tryz.prog w2 = .ok (.slice a2 (s.all.length - (i + 1)) c2') w2 := hhi
    have hw1 : IntKind.i64.wrap ((i : Int) + 1) = (i : Int) + 1 := IntWalk.i64_in _ (by omega)
    have HR1 := Lib.hid (fun w' (hb : Below w1.heap.size w1 w') => (tSlice (tIn M tRSn)).mono _ _ _ _ (Mem.le_trans HM.out (below_mem (HB1.out.trans (hb.mono HB1.out.size)))) hr1)
    have HR2 := Lib.hid (fun w' (hb : Below w1.heap.size w1 w') => (tSlice (tIn M tRSn)).mono _ _ _ _ (Mem.le_trans HM.out (below_mem (HB1.out.trans (hb.mono HB1.out.size)))) hr2)
    have HL1 := Lib.hid (show i = (s.all.take i).length by rw [List.length_take]; omega)
    have HL2 := Lib.hid (show s.all.length - (i + 1) = (s.all.drop (i + 1)).length by rw [List.length_drop])
    have HA1 := Lib.hid (show ([] : List (Int × Sn)).length + (s.all.take i).length ≤ maxLen by rw [← HL1.out]; unfold maxLen; simp; omega)
    have HA2 := Lib.hid (show (([] : List (Int × Sn)).length + (s.all.take i).length) * 104 ≤ 140737488355328 by rw [← HL1.out]; simp; omega)
    have HA3 := Lib.hid (show ([] ++ s.all.take i).length + (s.all.drop (i + 1)).length ≤ maxLen by rw [← HL2.out, List.nil_append, ← HL1.out]; unfold maxLen; omega)
    have HA4 := Lib.hid (show (([] ++ s.all.take i).length + (s.all.drop (i + 1)).length) * 104 ≤ 140737488355328 by rw [← HL2.out, List.nil_append, ← HL1.out]; omega)
    clear hhi hr1 hr2
    have HBa := Lib.hid (show Below w1.heap.size w1 (w1.alloc (.cells #[] 102)).drew from ((Below.refl _ _).alloc (Nat.le_refl _) _).drew)
    have HLa := Lib.hid (show OwnsO (tIn M tRSn) ((w1.alloc (.cells #[] 102)).drew) 102 (.slice (some ⟨w1.heap.size, 0, none⟩) 0 0) [] from lit0_of _ (heap_alloc_new w1 _))
    have HCC := Lib.hid (fun (w' : World) (h : Below w1.heap.size w1 w') => (show w'.cell? ⟨W.heap.size, 4, none⟩ = some (.slice (some ⟨b, o, none⟩) s.all.length ca) from (HF1.out.pure h).cells.2.2.2.2))
    have e3 := HCC.out _ HBa.out
    have e3' : (w1.alloc (.cells #[] 102)).cell? ⟨W.heap.size, 4, none⟩ = some (.slice (some ⟨b, o, none⟩) s.all.length ca) := e3
    clear e3
    go_wp2_with fail
    clear c0 c1 c2 c3 cz d0 d1 d2 d3 d4 dz
    go_region_law (first
      | (refine step_append_os rfl (.tmp 20) (.tmp 24) 29 rfl (tIn M tRSn) (tIn_flat M tRSn) (tRSn_one M) Tryz.underlying29 infoRSn rfl (Nat.succ_pos 5) (.slice (some ⟨w1.heap.size, 0, none⟩) 0 0) [] (s.all.take i) rfl HLa.out _ _ _ rfl HL1.out (HR1.out _ HBa.out) HA1.out HA2.out ?_; intro v5 w5 own5 happ5; obtain ⟨hb5, hg5⟩ := app_below (Z := w1) (B := w1.heap.size) HBa.out HBa.out.size happ5 (fun k e => by cases e; exact Nat.le_refl _); obtain ⟨a5, n5, c5, rfl, -⟩ := own5.formN; have f1 := HCC.out _ hb5; clear happ5)
      | (refine step_append_os rfl (.tmp 25) (.tmp 30) 29 rfl (tIn M tRSn) (tIn_flat M tRSn) (tRSn_one M) Tryz.underlying29 infoRSn rfl (Nat.succ_pos 5) (.slice a5 n5 c5) ([] ++ s.all.take i) (s.all.drop (i + 1)) rfl own5 _ _ _ rfl HL2.out (HR2.out _ hb5) HA3.out HA4.out ?_; intro v7 w7 own7 happ7; obtain ⟨hb7, hg7⟩ := app_below (Z := w1) (B := w1.heap.size) hb5 hb5.size happ7 hg5; obtain ⟨a7, n7, c7, rfl, -⟩ := own7.formN; have HF7 := Lib.hid (HF1.out.pure hb7); have q7 := HF7.out.cells.2.2.2.2; have z7 := HF7.out.thaw 4; clear happ7))
    all_goals
      have HR7 := Lib.hid (show (tSlice (tIn M tRSn)).rv (nw W w7) [.slice a7 n7 c7] (([] ++ s.all.take i) ++ s.all.drop (i + 1)) from own7.rv (tIn_flat M tRSn) (S := (W.heap.size + 2 ≤ ·)) (fun k e => Nat.le_trans hz1 (hg7 k e)))
      have HF8 := Lib.hid (HF7.out.set4 (.slice a7 n7 c7))
      have HN8 := Lib.hid (nw_set (W := W) (w := w7) (b := W.heap.size) (o := 4) (u := .slice a7 n7 c7) (by omega))
      clear own7 hb7 hg7 HF7 q7 z7 hb5 hg5 own5 f1 e3' HBa HLa HCC hlo hhi' c4 e2
      generalize w7.setCell ⟨W.heap.size, 4, none⟩ (.slice a7 n7 c7) = w8 at *
      have c0 : w8.cell? ⟨W.heap.size, 0, none⟩ = some (.int .i64 s.tasks) := HF8.out.cells.1
      have c1 : w8.cell? ⟨W.heap.size, 1, none⟩ = some (.int .i64 s.most) := HF8.out.cells.2.1
      have c2 : w8.cell? ⟨W.heap.size, 2, none⟩ = some (.int .i64 s.keep) := HF8.out.cells.2.2.1
      have c3 : w8.cell? ⟨W.heap.size, 3, none⟩ = some (.int .i64 ((s.last : Int) + 1)) := HF8.out.cells.2.2.2.1
      have c4 : w8.cell? ⟨W.heap.size, 4, none⟩ = some (.slice a7 n7 c7) := HF8.out.cells.2.2.2.2
      have cz : ∀ o, w8.frozen? ⟨W.heap.size, o, none⟩ = false := HF8.out.thaw
      have d0 : w8.cell? ⟨W.heap.size + 1, 0, none⟩ = some (.int .i64 0) := HF8.out.res.1
      have d1 : w8.cell? ⟨W.heap.size + 1, 1, none⟩ = some (.int .i64 0) := HF8.out.res.2.1
      have d2 : w8.cell? ⟨W.heap.size + 1, 2, none⟩ = some (.int .i64 0) := HF8.out.res.2.2.1
      have d3 : w8.cell? ⟨W.heap.size + 1, 3, none⟩ = some (.int .i64 0) := HF8.out.res.2.2.2.1
      have d4 : w8.cell? ⟨W.heap.size + 1, 4, none⟩ = some (.slice none 0 0) := HF8.out.res.2.2.2.2.1
      have dz : ∀ o, w8.frozen? ⟨W.heap.size + 1, o, none⟩ = false := HF8.out.res.2.2.2.2.2
      go_wp2
      have r1 := store5_block HF8.out.rs (.int .i64 s.tasks) (.int .i64 s.most) (.int .i64 s.keep) (.int .i64 ((s.last : Int) + 1)) (.slice a7 n7 c7)
      have hBz := store5_below HF8.out.bl (Nat.le_succ _) (.int .i64 s.tasks) (.int .i64 s.most) (.int .i64 s.keep) (.int .i64 ((s.last : Int) + 1)) (.slice a7 n7 c7)
      have hnz : (nw W w8).le (nw W (store5 w8 (W.heap.size + 1) (.int .i64 s.tasks) (.int .i64 s.most) (.int .i64 s.keep) (.int .i64 ((s.last : Int) + 1)) (.slice a7 n7 c7))) := nw_store5 (.int .i64 s.tasks) (.int .i64 s.most) (.int .i64 s.keep) (.int .i64 ((s.last : Int) + 1)) (.slice a7 n7 c7)
      show bodyPost _ _ _ _ _ (store5 w8 (W.heap.size + 1) (.int .i64 s.tasks) (.int .i64 s.most) (.int .i64 s.keep) (.int .i64 ((s.last : Int) + 1)) (.slice a7 n7 c7))
      generalize store5 w8 (W.heap.size + 1) (.int .i64 s.tasks) (.int .i64 s.most) (.int .i64 s.keep) (.int .i64 ((s.last : Int) + 1)) (.slice a7 n7 c7) = wz at r1 hBz hnz ⊢
      have g0 : wz.cell? ⟨W.heap.size + 1, 0, none⟩ = some (.int .i64 s.tasks) := mem_cells r1 0
      have g1 : wz.cell? ⟨W.heap.size + 1, 1, none⟩ = some (.int .i64 s.most) := mem_cells r1 1
      have g2 : wz.cell? ⟨W.heap.size + 1, 2, none⟩ = some (.int .i64 s.keep) := mem_cells r1 2
      have g3 : wz.cell? ⟨W.heap.size + 1, 3, none⟩ = some (.int .i64 ((s.last : Int) + 1)) := mem_cells r1 3
      have g4 : wz.cell? ⟨W.heap.size + 1, 4, none⟩ = some (.slice a7 n7 c7) := mem_cells r1 4
      exact bodyPost_ret (v := .tuple #[.agg #[.int .i64 s.tasks, .int .i64 s.most, .int .i64 s.keep, .int .i64 ((s.last : Int) + 1), .slice a7 n7 c7], .int .i64 0]) (by simp [results, Tryz.results17, go_sem, g0, g1, g2, g3, g4]) rfl ⟨.slice a7 n7 c7, hBz, by rw [HS.out, HAE.out]; rfl, by rw [HS.out]; exact HRS.out.del (by rw [← del_at HOK.out HJ.out]; exact slice_in ((tSlice (tIn M tRSn)).mono _ _ _ _ (Mem.le_trans (Mem.le_trans HN8.out hnz) nw_join) (by rw [List.nil_append] at HR7; exact HR7.out)) (joinM_le HM.out))⟩
end Go.Proofs.YtnfolemblnnejaaGreat
/- The reference of a vault: Retask, New (printed by gen_vret.py). -/
namespace Go.Proofs.YtnfolemblnnejaaGreat
open Go.RowKit Go.Maps

set_option maxHeartbeats 400000 in
theorem refIn_any (n m : Int) (w : World) :
    Calls Tryz.prog 15 #[.int .i64 n, .int .i64 m] w fun e w' => e = .returned (.bool (decide (1 ≤ n ∧ n ≤ m))) ∧ w = w' := by
  by_cases h1 : 1 ≤ n <;> by_cases h2 : n ≤ m
  all_goals
    go_enter Tryz.func15, Tryz.ntmps15
    go_wp2
    go_ret
    exact ⟨by simp [*], rfl⟩
theorem pend_eq (s : VS) : s.those (fun t => t.done == false) = s.pend := by
  unfold VS.pend
  congr 1
  funext t
  cases t.done <;> rfl
def VS.retasked (s : VS) (n : Int) : VS := if retAns s n = 0 then { s with tasks := n.toNat } else s
set_option maxRecDepth 100000 in
set_option maxHeartbeats 16000000 in
theorem refRetask_any (s : VS) (a : Value) (M : Mem) (W : World) (hM : M.le (mem W)) (h : RV M s a) (n : Int) (h40 : n ≤ 40 ∨ 400 < n) :
    Calls Tryz.prog 23 #[rvV s a, .int .i64 n] W fun e W' => ∃ a', Below W.heap.size W W' ∧ e = .returned (.tuple #[rvV (s.retasked n) a', .int .i64 (retAns s n)]) ∧ RV (joinM M W W') (s.retasked n) a' := by
  have HM := Lib.hid hM
  have HRS := Lib.hid h
  obtain ⟨aa, ca, rfl, hla, hma, hra⟩ := slice_form h.ha
  have hca : ca ≤ 9223372036854775807 := by unfold maxLen at hma; exact hma
  have HAL := Lib.hid (show s.all.length ≤ 1000000 from by have := all_len h.ok; have := h.ok.l; omega)
  have HF0 := Lib.hid (Fr.start W (.int .i64 s.tasks) (.int .i64 s.most) (.int .i64 s.keep) (.int .i64 ((s.last : Int) + 1)) (.slice aa s.all.length ca))
  have HA := Lib.hid (fun w' (hb : Below W.heap.size W w') => tRSns.mono _ _ _ _ (Mem.le_trans hM (below_mem hb)) hra)
  have HRW := Lib.hid (fun w' (hb : Below W.heap.size W w') => (h.mono (Mem.le_trans hM (below_mem hb)) : RV (mem w') s (.slice aa s.all.length ca)))
  have HQ := Lib.hid hra
  have HNU := Lib.hid (fun (w : World) (hb : Below W.heap.size W w) => refNumbers_any s _ w (h.mono (Mem.le_trans hM (below_mem hb))) false)
  rw [pend_eq] at HNU
  have hcl := those_len h.ok (fun t => !t.done)
  change s.pend.length ≤ 1000000 at hcl
  have HOK := Lib.hid h.ok
  have HA0 := Lib.hid (show retAns s n = if n < 1 ∨ 400 < n then 7 else if s.pend = [] then 0 else 10 from rfl)
  have HIN := Lib.hid (fun w => refIn_any n 400 w)
  clear hma hra h hM
  by_cases hin : 1 ≤ n ∧ n ≤ 400
  case neg =>
    have HAE := Lib.hid (show retAns s n = 7 from HA0.out.trans (if_pos (by omega)))
    have HS := Lib.hid (show s.retasked n = s from if_neg (by rw [HAE.out]; decide))
    rw [decide_eq_false hin] at HIN
    go_enter Tryz.func23, Tryz.ntmps23
    go_wp2_with fail
    refine (HIN.out _).mono ?_
    rintro e w1 ⟨rfl, rfl⟩
    generalize ((W.alloc (.cells #[.int .i64 s.tasks, .int .i64 s.most, .int .i64 s.keep, .int .i64 ((s.last : Int) + 1), .slice aa s.all.length ca] 31)).alloc (.cells #[.int .i64 0, .int .i64 0, .int .i64 0, .int .i64 0, .slice none 0 0] 31)) = w1 at *
    have c0 : w1.cell? ⟨W.heap.size, 0, none⟩ = some (.int .i64 s.tasks) := HF0.out.cells.1
    have c1 : w1.cell? ⟨W.heap.size, 1, none⟩ = some (.int .i64 s.most) := HF0.out.cells.2.1
    have c2 : w1.cell? ⟨W.heap.size, 2, none⟩ = some (.int .i64 s.keep) := HF0.out.cells.2.2.1
    have c3 : w1.cell? ⟨W.heap.size, 3, none⟩ = some (.int .i64 ((s.last : Int) + 1)) := HF0.out.cells.2.2.2.1
    have c4 : w1.cell? ⟨W.heap.size, 4, none⟩ = some (.slice aa s.all.length ca) := HF0.out.cells.2.2.2.2
    have cz : ∀ o, w1.frozen? ⟨W.heap.size, o, none⟩ = false := HF0.out.thaw
    have d0 : w1.cell? ⟨W.heap.size + 1, 0, none⟩ = some (.int .i64 0) := HF0.out.res.1
    have d1 : w1.cell? ⟨W.heap.size + 1, 1, none⟩ = some (.int .i64 0) := HF0.out.res.2.1
    have d2 : w1.cell? ⟨W.heap.size + 1, 2, none⟩ = some (.int .i64 0) := HF0.out.res.2.2.1
    have d3 : w1.cell? ⟨W.heap.size + 1, 3, none⟩ = some (.int .i64 0) := HF0.out.res.2.2.2.1
    have d4 : w1.cell? ⟨W.heap.size + 1, 4, none⟩ = some (.slice none 0 0) := HF0.out.res.2.2.2.2.1
    have dz : ∀ o, w1.frozen? ⟨W.heap.size + 1, o, none⟩ = false := HF0.out.res.2.2.2.2.2
    go_wp2
    have r1 := store5_block HF0.out.rs (.int .i64 s.tasks) (.int .i64 s.most) (.int .i64 s.keep) (.int .i64 ((s.last : Int) + 1)) (.slice aa s.all.length ca)
    have hBz := store5_below HF0.out.bl (Nat.le_succ _) (.int .i64 s.tasks) (.int .i64 s.most) (.int .i64 s.keep) (.int .i64 ((s.last : Int) + 1)) (.slice aa s.all.length ca)
    have hnz : (nw W w1).le (nw W (store5 w1 (W.heap.size + 1) (.int .i64 s.tasks) (.int .i64 s.most) (.int .i64 s.keep) (.int .i64 ((s.last : Int) + 1)) (.slice aa s.all.length ca))) := nw_store5 (.int .i64 s.tasks) (.int .i64 s.most) (.int .i64 s.keep) (.int .i64 ((s.last : Int) + 1)) (.slice aa s.all.length ca)
    show bodyPost _ _ _ _ _ (store5 w1 (W.heap.size + 1) (.int .i64 s.tasks) (.int .i64 s.most) (.int .i64 s.keep) (.int .i64 ((s.last : Int) + 1)) (.slice aa s.all.length ca))
    generalize store5 w1 (W.heap.size + 1) (.int .i64 s.tasks) (.int .i64 s.most) (.int .i64 s.keep) (.int .i64 ((s.last : Int) + 1)) (.slice aa s.all.length ca) = wz at r1 hBz hnz ⊢
    have g0 : wz.cell? ⟨W.heap.size + 1, 0, none⟩ = some (.int .i64 s.tasks) := mem_cells r1 0
    have g1 : wz.cell? ⟨W.heap.size + 1, 1, none⟩ = some (.int .i64 s.most) := mem_cells r1 1
    have g2 : wz.cell? ⟨W.heap.size + 1, 2, none⟩ = some (.int .i64 s.keep) := mem_cells r1 2
    have g3 : wz.cell? ⟨W.heap.size + 1, 3, none⟩ = some (.int .i64 ((s.last : Int) + 1)) := mem_cells r1 3
    have g4 : wz.cell? ⟨W.heap.size + 1, 4, none⟩ = some (.slice aa s.all.length ca) := mem_cells r1 4
    exact bodyPost_ret (v := .tuple #[.agg #[.int .i64 s.tasks, .int .i64 s.most, .int .i64 s.keep, .int .i64 ((s.last : Int) + 1), .slice aa s.all.length ca], .int .i64 7]) (by simp [results, Tryz.results23, go_sem, g0, g1, g2, g3, g4]) rfl ⟨.slice aa s.all.length ca, hBz, by rw [HS.out, HAE.out], by rw [HS.out]; exact HRS.out.mono (joinM_le HM.out)⟩
  rw [decide_eq_true hin] at HIN
  rw [if_neg (by omega)] at HA0
  go_enter Tryz.func23, Tryz.ntmps23
  go_wp2_with fail
  refine (HIN.out _).mono ?_
  rintro e w1 ⟨rfl, rfl⟩
  generalize ((W.alloc (.cells #[.int .i64 s.tasks, .int .i64 s.most, .int .i64 s.keep, .int .i64 ((s.last : Int) + 1), .slice aa s.all.length ca] 31)).alloc (.cells #[.int .i64 0, .int .i64 0, .int .i64 0, .int .i64 0, .slice none 0 0] 31)) = w1 at *
  have c0 : w1.cell? ⟨W.heap.size, 0, none⟩ = some (.int .i64 s.tasks) := HF0.out.cells.1
  have c1 : w1.cell? ⟨W.heap.size, 1, none⟩ = some (.int .i64 s.most) := HF0.out.cells.2.1
  have c2 : w1.cell? ⟨W.heap.size, 2, none⟩ = some (.int .i64 s.keep) := HF0.out.cells.2.2.1
  have c3 : w1.cell? ⟨W.heap.size, 3, none⟩ = some (.int .i64 ((s.last : Int) + 1)) := HF0.out.cells.2.2.2.1
  have c4 : w1.cell? ⟨W.heap.size, 4, none⟩ = some (.slice aa s.all.length ca) := HF0.out.cells.2.2.2.2
  have cz : ∀ o, w1.frozen? ⟨W.heap.size, o, none⟩ = false := HF0.out.thaw
  have d0 : w1.cell? ⟨W.heap.size + 1, 0, none⟩ = some (.int .i64 0) := HF0.out.res.1
  have d1 : w1.cell? ⟨W.heap.size + 1, 1, none⟩ = some (.int .i64 0) := HF0.out.res.2.1
  have d2 : w1.cell? ⟨W.heap.size + 1, 2, none⟩ = some (.int .i64 0) := HF0.out.res.2.2.1
  have d3 : w1.cell? ⟨W.heap.size + 1, 3, none⟩ = some (.int .i64 0) := HF0.out.res.2.2.2.1
  have d4 : w1.cell? ⟨W.heap.size + 1, 4, none⟩ = some (.slice none 0 0) := HF0.out.res.2.2.2.2.1
  have dz : ∀ o, w1.frozen? ⟨W.heap.size + 1, o, none⟩ = false := HF0.out.res.2.2.2.2.2
  go_wp2_with fail
  refine (HNU.out _ HF0.out.bl).mono ?_
  rintro e w2 ⟨b, c, rfl, -, hb2⟩
  have HF1 := Lib.hid (HF0.out.pure hb2)
  clear hb2 HNU HF0 c0 c1 c2 c3 c4 cz d0 d1 d2 d3 d4 dz
  have c0 : w2.cell? ⟨W.heap.size, 0, none⟩ = some (.int .i64 s.tasks) := HF1.out.cells.1
  have c1 : w2.cell? ⟨W.heap.size, 1, none⟩ = some (.int .i64 s.most) := HF1.out.cells.2.1
  have c2 : w2.cell? ⟨W.heap.size, 2, none⟩ = some (.int .i64 s.keep) := HF1.out.cells.2.2.1
  have c3 : w2.cell? ⟨W.heap.size, 3, none⟩ = some (.int .i64 ((s.last : Int) + 1)) := HF1.out.cells.2.2.2.1
  have c4 : w2.cell? ⟨W.heap.size, 4, none⟩ = some (.slice aa s.all.length ca) := HF1.out.cells.2.2.2.2
  have cz : ∀ o, w2.frozen? ⟨W.heap.size, o, none⟩ = false := HF1.out.thaw
  have d0 : w2.cell? ⟨W.heap.size + 1, 0, none⟩ = some (.int .i64 0) := HF1.out.res.1
  have d1 : w2.cell? ⟨W.heap.size + 1, 1, none⟩ = some (.int .i64 0) := HF1.out.res.2.1
  have d2 : w2.cell? ⟨W.heap.size + 1, 2, none⟩ = some (.int .i64 0) := HF1.out.res.2.2.1
  have d3 : w2.cell? ⟨W.heap.size + 1, 3, none⟩ = some (.int .i64 0) := HF1.out.res.2.2.2.1
  have d4 : w2.cell? ⟨W.heap.size + 1, 4, none⟩ = some (.slice none 0 0) := HF1.out.res.2.2.2.2.1
  have dz : ∀ o, w2.frozen? ⟨W.heap.size + 1, o, none⟩ = false := HF1.out.res.2.2.2.2.2
  by_cases h0 : s.pend = []
  · have HAE := Lib.hid (show retAns s n = 0 from HA0.out.trans (if_pos h0))
    have HS := Lib.hid (show s.retasked n = { s with tasks := n.toNat } from if_pos HAE.out)
    have hl0 : s.pend.length = 0 := by rw [h0]; rfl
    generalize s.pend.length = ln at *
    subst hl0
    have HF2 := Lib.hid (HF1.out.set0 (.int .i64 n))
    have HN8 := Lib.hid (nw_set (W := W) (w := w2) (b := W.heap.size) (o := 0) (u := .int .i64 n) (by omega))
    have HOK2 := Lib.hid (show VOk { s with tasks := n.toNat } from ⟨by show 1 ≤ n.toNat; omega, by show n.toNat ≤ 40; omega, HOK.out.up, HOK.out.lt, HOK.out.tk, HOK.out.m, HOK.out.k, HOK.out.l⟩)
    have hnn : ((n.toNat : Nat) : Int) = n := Int.toNat_of_nonneg (by omega)
    have HVV := Lib.hid (show rvV { s with tasks := n.toNat } (.slice aa s.all.length ca) = .agg #[.int .i64 n, .int .i64 s.most, .int .i64 s.keep, .int .i64 ((s.last : Int) + 1), .slice aa s.all.length ca] from by
      show Value.agg #[.int .i64 ((n.toNat : Nat) : Int), .int .i64 s.most, .int .i64 s.keep, .int .i64 ((s.last : Int) + 1), .slice aa s.all.length ca] = _
      rw [hnn])
    go_wp2
    have r1 := store5_block HF2.out.rs (.int .i64 n) (.int .i64 s.most) (.int .i64 s.keep) (.int .i64 ((s.last : Int) + 1)) (.slice aa s.all.length ca)
    have hBz := store5_below HF2.out.bl (Nat.le_succ _) (.int .i64 n) (.int .i64 s.most) (.int .i64 s.keep) (.int .i64 ((s.last : Int) + 1)) (.slice aa s.all.length ca)
    have hnz : (nw W (w2.setCell ⟨W.heap.size, 0, none⟩ (.int .i64 n))).le (nw W (store5 (w2.setCell ⟨W.heap.size, 0, none⟩ (.int .i64 n)) (W.heap.size + 1) (.int .i64 n) (.int .i64 s.most) (.int .i64 s.keep) (.int .i64 ((s.last : Int) + 1)) (.slice aa s.all.length ca))) := nw_store5 (.int .i64 n) (.int .i64 s.most) (.int .i64 s.keep) (.int .i64 ((s.last : Int) + 1)) (.slice aa s.all.length ca)
    show bodyPost _ _ _ _ _ (store5 (w2.setCell ⟨W.heap.size, 0, none⟩ (.int .i64 n)) (W.heap.size + 1) (.int .i64 n) (.int .i64 s.most) (.int .i64 s.keep) (.int .i64 ((s.last : Int) + 1)) (.slice aa s.all.length ca))
    generalize store5 (w2.setCell ⟨W.heap.size, 0, none⟩ (.int .i64 n)) (W.heap.size + 1) (.int .i64 n) (.int .i64 s.most) (.int .i64 s.keep) (.int .i64 ((s.last : Int) + 1)) (.slice aa s.all.length ca) = wz at r1 hBz hnz ⊢
    have g0 : wz.cell? ⟨W.heap.size + 1, 0, none⟩ = some (.int .i64 n) := mem_cells r1 0
    have g1 : wz.cell? ⟨W.heap.size + 1, 1, none⟩ = some (.int .i64 s.most) := mem_cells r1 1
    have g2 : wz.cell? ⟨W.heap.size + 1, 2, none⟩ = some (.int .i64 s.keep) := mem_cells r1 2
    have g3 : wz.cell? ⟨W.heap.size + 1, 3, none⟩ = some (.int .i64 ((s.last : Int) + 1)) := mem_cells r1 3
    have g4 : wz.cell? ⟨W.heap.size + 1, 4, none⟩ = some (.slice aa s.all.length ca) := mem_cells r1 4
    exact bodyPost_ret (v := .tuple #[.agg #[.int .i64 n, .int .i64 s.most, .int .i64 s.keep, .int .i64 ((s.last : Int) + 1), .slice aa s.all.length ca], .int .i64 0]) (by simp [results, Tryz.results23, go_sem, g0, g1, g2, g3, g4]) rfl ⟨.slice aa s.all.length ca, hBz, by rw [HS.out, HAE.out, HVV.out], by rw [HS.out]; exact ⟨tRSns.mono _ _ _ _ (joinM_le HM.out) HRS.out.ha, HOK2.out⟩⟩
  · have HAE := Lib.hid (show retAns s n = 10 from HA0.out.trans (if_neg h0))
    have HS := Lib.hid (show s.retasked n = s from if_neg (by rw [HAE.out]; decide))
    have hl0 : 0 < s.pend.length := List.length_pos_iff.2 h0
    generalize s.pend.length = ln at *
    go_wp2
    have r1 := store5_block HF1.out.rs (.int .i64 s.tasks) (.int .i64 s.most) (.int .i64 s.keep) (.int .i64 ((s.last : Int) + 1)) (.slice aa s.all.length ca)
    have hBz := store5_below HF1.out.bl (Nat.le_succ _) (.int .i64 s.tasks) (.int .i64 s.most) (.int .i64 s.keep) (.int .i64 ((s.last : Int) + 1)) (.slice aa s.all.length ca)
    have hnz : (nw W w2).le (nw W (store5 w2 (W.heap.size + 1) (.int .i64 s.tasks) (.int .i64 s.most) (.int .i64 s.keep) (.int .i64 ((s.last : Int) + 1)) (.slice aa s.all.length ca))) := nw_store5 (.int .i64 s.tasks) (.int .i64 s.most) (.int .i64 s.keep) (.int .i64 ((s.last : Int) + 1)) (.slice aa s.all.length ca)
    show bodyPost _ _ _ _ _ (store5 w2 (W.heap.size + 1) (.int .i64 s.tasks) (.int .i64 s.most) (.int .i64 s.keep) (.int .i64 ((s.last : Int) + 1)) (.slice aa s.all.length ca))
    generalize store5 w2 (W.heap.size + 1) (.int .i64 s.tasks) (.int .i64 s.most) (.int .i64 s.keep) (.int .i64 ((s.last : Int) + 1)) (.slice aa s.all.length ca) = wz at r1 hBz hnz ⊢
    have g0 : wz.cell? ⟨W.heap.size + 1, 0, none⟩ = some (.int .i64 s.tasks) := mem_cells r1 0
    have g1 : wz.cell? ⟨W.heap.size + 1, 1, none⟩ = some (.int .i64 s.most) := mem_cells r1 1
    have g2 : wz.cell? ⟨W.heap.size + 1, 2, none⟩ = some (.int .i64 s.keep) := mem_cells r1 2
    have g3 : wz.cell? ⟨W.heap.size + 1, 3, none⟩ = some (.int .i64 ((s.last : Int) + 1)) := mem_cells r1 3
    have g4 : wz.cell? ⟨W.heap.size + 1, 4, none⟩ = some (.slice aa s.all.length ca) := mem_cells r1 4
    exact bodyPost_ret (v := .tuple #[.agg #[.int .i64 s.tasks, .int .i64 s.most, .int .i64 s.keep, .int .i64 ((s.last : Int) + 1), .slice aa s.all.length ca], .int .i64 10]) (by simp [results, Tryz.results23, go_sem, g0, g1, g2, g3, g4]) rfl ⟨.slice aa s.all.length ca, hBz, by rw [HS.out, HAE.out], by rw [HS.out]; exact HRS.out.mono (joinM_le HM.out)⟩
set_option maxRecDepth 100000 in
set_option maxHeartbeats 4000000 in
theorem refNew_any (n m k : Int) (w : World) :
    Calls Tryz.prog 7 #[.int .i64 n, .int .i64 m, .int .i64 k] w fun e w' => Below w.heap.size w w' ∧ ((newAns n m k ≠ 0 ∧ e = .returned (.tuple #[.agg #[.int .i64 0, .int .i64 0, .int .i64 0, .int .i64 0, .slice none 0 0], .int .i64 7])) ∨ (newAns n m k = 0 ∧ e = .returned (.tuple #[.agg #[.int .i64 n, .int .i64 m, .int .i64 k, .int .i64 1, .slice none 0 0], .int .i64 0]))) := by
  have HA := Lib.hid (show newAns n m k = if (1 ≤ n ∧ n ≤ 400) ∧ (1 ≤ m ∧ m ≤ 5) ∧ (1 ≤ k ∧ k ≤ 10) then 0 else 7 from rfl)
  have HI1 := Lib.hid (fun w => refIn_any n 400 w)
  have HI2 := Lib.hid (fun w => refIn_any m 5 w)
  have HI3 := Lib.hid (fun w => refIn_any k 10 w)
  have HB := Lib.hid (fun o => box_below w o)
  by_cases h1 : 1 ≤ n ∧ n ≤ 400
  case neg =>
    have HAE := Lib.hid (show newAns n m k = 7 from HA.out.trans (if_neg (fun h => h1 h.1)))
    rw [decide_eq_false h1] at HI1
    clear h1
    go_enter Tryz.func7, Tryz.ntmps7
    go_wp2_with fail
    refine (HI1.out _).mono ?_
    rintro e w1 ⟨rfl, rfl⟩
    go_wp2
    exact bodyPost_ret (v := .tuple #[.agg #[.int .i64 0, .int .i64 0, .int .i64 0, .int .i64 0, .slice none 0 0], .int .i64 7]) (by simp [results, Tryz.results7, go_sem]) rfl ⟨HB.out _, .inl ⟨by rw [HAE.out]; decide, rfl⟩⟩
  rw [decide_eq_true h1] at HI1
  by_cases h2 : 1 ≤ m ∧ m ≤ 5
  case neg =>
    have HAE := Lib.hid (show newAns n m k = 7 from HA.out.trans (if_neg (fun h => h2 h.2.1)))
    rw [decide_eq_false h2] at HI2
    clear h2 h1
    go_enter Tryz.func7, Tryz.ntmps7
    go_wp2_with fail
    refine (HI1.out _).mono ?_
    rintro e w1 ⟨rfl, rfl⟩
    go_wp2_with fail
    refine (HI2.out _).mono ?_
    rintro e w1 ⟨rfl, rfl⟩
    go_wp2
    exact bodyPost_ret (v := .tuple #[.agg #[.int .i64 0, .int .i64 0, .int .i64 0, .int .i64 0, .slice none 0 0], .int .i64 7]) (by simp [results, Tryz.results7, go_sem]) rfl ⟨HB.out _, .inl ⟨by rw [HAE.out]; decide, rfl⟩⟩
  rw [decide_eq_true h2] at HI2
  by_cases h3 : 1 ≤ k ∧ k ≤ 10
  case neg =>
    have HAE := Lib.hid (show newAns n m k = 7 from HA.out.trans (if_neg (fun h => h3 h.2.2)))
    rw [decide_eq_false h3] at HI3
    clear h3 h2 h1
    go_enter Tryz.func7, Tryz.ntmps7
    go_wp2_with fail
    refine (HI1.out _).mono ?_
    rintro e w1 ⟨rfl, rfl⟩
    go_wp2_with fail
    refine (HI2.out _).mono ?_
    rintro e w1 ⟨rfl, rfl⟩
    go_wp2_with fail
    refine (HI3.out _).mono ?_
    rintro e w1 ⟨rfl, rfl⟩
    go_wp2
    exact bodyPost_ret (v := .tuple #[.agg #[.int .i64 0, .int .i64 0, .int .i64 0, .int .i64 0, .slice none 0 0], .int .i64 7]) (by simp [results, Tryz.results7, go_sem]) rfl ⟨HB.out _, .inl ⟨by rw [HAE.out]; decide, rfl⟩⟩
  rw [decide_eq_true h3] at HI3
  have HAE := Lib.hid (show newAns n m k = 0 from HA.out.trans (if_pos ⟨h1, h2, h3⟩))
  clear h3 h2 h1
  go_enter Tryz.func7, Tryz.ntmps7
  go_wp2_with fail
  refine (HI1.out _).mono ?_
  rintro e w1 ⟨rfl, rfl⟩
  go_wp2_with fail
  refine (HI2.out _).mono ?_
  rintro e w1 ⟨rfl, rfl⟩
  go_wp2_with fail
  refine (HI3.out _).mono ?_
  rintro e w1 ⟨rfl, rfl⟩
  go_wp2
  exact bodyPost_ret (v := .tuple #[.agg #[.int .i64 n, .int .i64 m, .int .i64 k, .int .i64 1, .slice none 0 0], .int .i64 0]) (by simp [results, Tryz.results7, go_sem]) rfl ⟨HB.out _, .inr ⟨HAE.out, rfl⟩⟩
end Go.Proofs.YtnfolemblnnejaaGreat
/- The reference of a vault: Fall (printed by gen_vfall.py). -/
namespace Go.Proofs.YtnfolemblnnejaaGreat
open Go.RowKit Go.Maps

open Classical in
/-- A memory and what was made behind the box and the result. -/
noncomputable def jn (M : Mem) (W w : World) : Mem := fun b o => if W.heap.size + 2 ≤ b then _root_.Go.Proofs.YtnfolemblnnejaaGreat.mem w b o else M b o
section
variable {M : Mem} {W w w' : World}
theorem jn_le (hM : M.le (mem W)) (hb : Below W.heap.size W w) : (jn M W w).le (mem w) := fun b o v e => by
  unfold jn at e
  split at e
  · exact e
  · exact below_mem hb _ _ _ (hM _ _ _ e)
theorem jn_of (hM : M.le (mem W)) : M.le (jn M W w) := fun b o v e => by
  have := mem_lt (hM _ _ _ e)
  unfold jn
  rw [if_neg (by omega)]; exact e
theorem jn_step (hb : Below w.heap.size w w') (hs : W.heap.size + 2 ≤ w.heap.size) : (joinM (jn M W w) w w').le (jn M W w') := fun b o v e => by
  unfold joinM at e
  split at e
  · next h => unfold jn; rw [if_pos (Nat.le_trans hs h)]; exact e
  · unfold jn at e ⊢
    split at e
    · next h => rw [if_pos h]; exact below_mem hb _ _ _ e
    · next h => rw [if_neg h]; exact e
theorem jn_set {b o : Nat} {u : Value} (hb : b < W.heap.size + 2) : (jn M W w).le (jn M W (w.setCell ⟨b, o, none⟩ u)) := fun b' o' v e => by
  unfold jn at e ⊢
  split at e
  · next h => rw [if_pos h]; exact (mem_of_block (set_block_other (by omega)) _).trans e
  · next h => rw [if_neg h]; exact e
theorem jn_join (hM : M.le (mem W)) (hn : (nw W w).le (nw W w')) : (jn M W w).le (joinM M W w') := fun b o v e => by
  unfold jn at e
  split at e
  · next h =>
    have := (Mem.of_on (hn b o v (Mem.on_some e h))).2
    unfold joinM
    rw [if_pos (by omega)]; exact this
  · have := mem_lt (hM _ _ _ e)
    unfold joinM
    rw [if_neg (by omega)]; exact e
end
theorem dels_find {s : VS} (h : VOk s) {k : Int} {t : Sn} (hf : s.find k = some t) {ks : List Int} (hk : k ∉ ks) (h' : VOk (s.dels ks)) : (s.dels ks).find k = some t :=
  h'.find (List.mem_filter.2 ⟨find_mem hf, by simp [hk]⟩)
theorem VOk.dels {s : VS} (h : VOk s) (ks : List Int) : VOk (s.dels ks) := by
  have hsub : ∀ j, j ∈ (s.dels ks).nums → j ∈ s.nums := fun j hj => by
    obtain ⟨x, hx, rfl⟩ := List.mem_map.1 hj
    exact mem_nums (List.mem_filter.1 hx).1
  refine ⟨h.t1, h.t40, ?_, fun j hj => h.lt j (hsub j hj), fun x hx => h.tk x (List.mem_filter.1 hx).1, h.m, h.k, h.l⟩
  have hu := h.up
  unfold VS.nums at hu ⊢
  unfold VS.dels
  rw [List.pairwise_map] at hu ⊢
  exact hu.filter _
theorem pend_mem {s : VS} (h : VOk s) {k : Int} (hk : k ∈ s.pend) : ∃ t, s.find k = some t ∧ t.done = false := by
  obtain ⟨x, hx, rfl⟩ := List.mem_map.1 hk
  obtain ⟨h1, h2⟩ := List.mem_filter.1 hx
  exact ⟨x.2, h.find h1, by simpa using h2⟩
theorem pend_nodup {s : VS} (h : VOk s) : s.pend.Nodup := by
  have hu : (s.all.map Prod.fst).Nodup := h.up.imp (fun h => by omega)
  exact (List.Sublist.nodup (List.Sublist.map _ List.filter_sublist) hu)
theorem declined_pend {s : VS} (h : VOk s) {j : Nat} (hj : j < s.pend.length) : (s.dels (s.pend.take j)).declined s.pend[j] = s.dels (s.pend.take (j + 1)) ∧ decAns ((s.dels (s.pend.take j)).find s.pend[j]) = 0 := by
  obtain ⟨t, hf, hd⟩ := pend_mem h (List.getElem_mem hj)
  have hn : s.pend[j] ∉ s.pend.take j := fun hm => by
    have hnd := pend_nodup h
    have e : s.pend.take (j + 1) = s.pend.take j ++ [s.pend[j]] := List.take_succ_eq_append_getElem hj
    have h2 : (s.pend.take (j + 1)).Nodup := List.Sublist.nodup (List.take_sublist _ _) hnd
    rw [e, List.nodup_append] at h2
    exact h2.2.2 _ hm _ (List.mem_singleton.2 rfl) rfl
  have h0 : decAns ((s.dels (s.pend.take j)).find s.pend[j]) = 0 := by
    rw [dels_find h hf hn (h.dels _)]
    unfold decAns
    simp [hd]
  refine ⟨?_, h0⟩
  unfold VS.declined
  rw [if_pos h0, dels_snoc, List.take_succ_eq_append_getElem hj]
set_option maxRecDepth 100000 in
set_option maxHeartbeats 16000000 in
theorem refFall_any (s : VS) (a : Value) (M : Mem) (W : World) (hM : M.le (mem W)) (h : RV M s a) (hl : s.all.length ≤ 1000) :
    Calls Tryz.prog 20 #[rvV s a] W fun e W' => ∃ a' b c, Below W.heap.size W W' ∧ e = .returned (.tuple #[rvV (s.dels s.pend) a', .slice b s.pend.length c]) ∧ RV (joinM M W W') (s.dels s.pend) a' ∧ (tSlice tInt).rv (mem W') [.slice b s.pend.length c] s.pend := by
  have HM := Lib.hid hM
  have HRS := Lib.hid h
  obtain ⟨aa, ca, rfl, hla, hma, hra⟩ := slice_form h.ha
  have hca : ca ≤ 9223372036854775807 := by unfold maxLen at hma; exact hma
  have HAL := Lib.hid (show s.all.length ≤ 1000000 from by have := all_len h.ok; have := h.ok.l; omega)
  have HF0 := Lib.hid (Fr.start W (.int .i64 s.tasks) (.int .i64 s.most) (.int .i64 s.keep) (.int .i64 ((s.last : Int) + 1)) (.slice aa s.all.length ca))
  have HA := Lib.hid (fun w' (hb : Below W.heap.size W w') => tRSns.mono _ _ _ _ (Mem.le_trans hM (below_mem hb)) hra)
  have HRW := Lib.hid (fun w' (hb : Below W.heap.size W w') => (h.mono (Mem.le_trans hM (below_mem hb)) : RV (mem w') s (.slice aa s.all.length ca)))
  have HQ := Lib.hid hra
  have HNU := Lib.hid (fun (w : World) (hb : Below W.heap.size W w) => refNumbers_any s _ w (h.mono (Mem.le_trans hM (below_mem hb))) false)
  rw [pend_eq] at HNU
  have hcl := those_len h.ok (fun t => !t.done)
  change s.pend.length ≤ 1000000 at hcl
  have HOK := Lib.hid h.ok
  have HDP := Lib.hid (fun (j : Nat) (hj : j < s.pend.length) => declined_pend h.ok hj)
  clear hma hra h hM
  go_enter Tryz.func20, Tryz.ntmps20
  have HF0' : Hid (Fr W ((W.alloc (.cells #[.int .i64 s.tasks, .int .i64 s.most, .int .i64 s.keep, .int .i64 ((s.last : Int) + 1), .slice aa s.all.length ca] 31)).alloc (.cells #[.int .i64 0, .int .i64 0, .int .i64 0, .int .i64 0, .slice none 0 0] 31)) (.int .i64 s.tasks) (.int .i64 s.most) (.int .i64 s.keep) (.int .i64 ((s.last : Int) + 1)) (.slice aa s.all.length ca)) := HF0
  go_wp2_with fail
  refine (HNU.out _ HF0.out.bl).mono ?_
  rintro e w1 ⟨bl, cl, rfl, ho, hb1⟩
  have HF1 := Lib.hid (HF0.out.pure hb1)
  have HRL := Lib.hid (show (tSlice tInt).rv (nw W w1) [.slice bl s.pend.length cl] s.pend from (tSlice tInt).mono _ _ _ _ (fun b o v e => e) (ho.rv (S := (W.heap.size + 2 ≤ ·)) (fun b h => Nat.le_trans HF0.out.sz h) (fun _ _ _ h => h)))
  have hcp : cl ≤ 9223372036854775807 ∧ s.pend.length ≤ cl := by
    obtain ⟨a', k', e', h2, h3, -⟩ := slice_form ho.rv'
    simp only [Value.slice.injEq] at e'
    unfold maxLen at h3
    rw [e'.2.2]; exact ⟨h3, h2⟩
  obtain ⟨hc1, hc2⟩ := hcp
  clear hb1 HNU HF0 HF0' ho
  go_wp2_with fail
  go_loopw [5] (fun iv wr => ∃ (j : Nat) (s' : VS) (aj : Option Addr) (cj : Nat), j ≤ s.pend.length ∧ iv = .int .i64 j ∧ Hid (s' = s.dels (s.pend.take j)) ∧ Hid (Fr W wr (.int .i64 s.tasks) (.int .i64 s.most) (.int .i64 s.keep) (.int .i64 ((s.last : Int) + 1)) (.slice aj s'.all.length cj)) ∧ Hid (RV (jn M W wr) s' (.slice aj s'.all.length cj)) ∧ Hid ((tSlice tInt).rv (nw W wr) [.slice bl s.pend.length cl] s.pend)) (fun iv _ => s.pend.length - (intOf iv).toNat)
  case atStart => exact ⟨0, s, aa, ca, Nat.zero_le _, rfl, Lib.hid (by rw [List.take_zero, dels_nil]), HF1, Lib.hid (HRS.out.mono (jn_of HM.out)), HRL⟩
  case round =>
    clear HF1 HRL
    obtain ⟨j, s', aj, cj, hj, rfl, HS, HF, HRJ, HRL⟩ := hrel
    have c0 : wr.cell? ⟨W.heap.size, 0, none⟩ = some (.int .i64 s.tasks) := HF.out.cells.1
    have c1 : wr.cell? ⟨W.heap.size, 1, none⟩ = some (.int .i64 s.most) := HF.out.cells.2.1
    have c2 : wr.cell? ⟨W.heap.size, 2, none⟩ = some (.int .i64 s.keep) := HF.out.cells.2.2.1
    have c3 : wr.cell? ⟨W.heap.size, 3, none⟩ = some (.int .i64 ((s.last : Int) + 1)) := HF.out.cells.2.2.2.1
    have c4 : wr.cell? ⟨W.heap.size, 4, none⟩ = some (.slice aj s'.all.length cj) := HF.out.cells.2.2.2.2
    have cz : ∀ o, wr.frozen? ⟨W.heap.size, o, none⟩ = false := HF.out.thaw
    have d0 : wr.cell? ⟨W.heap.size + 1, 0, none⟩ = some (.int .i64 0) := HF.out.res.1
    have d1 : wr.cell? ⟨W.heap.size + 1, 1, none⟩ = some (.int .i64 0) := HF.out.res.2.1
    have d2 : wr.cell? ⟨W.heap.size + 1, 2, none⟩ = some (.int .i64 0) := HF.out.res.2.2.1
    have d3 : wr.cell? ⟨W.heap.size + 1, 3, none⟩ = some (.int .i64 0) := HF.out.res.2.2.2.1
    have d4 : wr.cell? ⟨W.heap.size + 1, 4, none⟩ = some (.slice none 0 0) := HF.out.res.2.2.2.2.1
    have dz : ∀ o, wr.frozen? ⟨W.heap.size + 1, o, none⟩ = false := HF.out.res.2.2.2.2.2
    by_cases hlt : j < s.pend.length
    · obtain ⟨b, o, e, hat⟩ := slice_at HRL.out hlt
      subst e
      have dk : wr.cell? ⟨b, o + j, none⟩ = some (.int .i64 s.pend[j]) := by
        have h1 : mem wr b (o + j * tInt.sz) = some (.int .i64 s.pend[j]) := (Mem.of_on (int_at hat).1).2
        simpa [tInt, mem] using h1
      obtain ⟨hdc, hd0⟩ := HDP.out j hlt
      rw [← HS.out] at hdc hd0
      have HDC := Lib.hid hdc
      have hjl : s'.all.length ≤ 1000 := by rw [HS.out]; exact Nat.le_trans (List.length_filter_le _ _) hl
      have hst : s'.tasks = s.tasks ∧ s'.most = s.most ∧ s'.keep = s.keep ∧ s'.last = s.last := by rw [HS.out]; exact ⟨rfl, rfl, rfl, rfl⟩
      have HCD := Lib.hid (show Calls Tryz.prog 17 #[.agg #[.int .i64 s.tasks, .int .i64 s.most, .int .i64 s.keep, .int .i64 ((s.last : Int) + 1), .slice aj s'.all.length cj], .int .i64 s.pend[j]] wr.drew (fun e W' => ∃ a6 c6, Below wr.drew.heap.size wr.drew W' ∧ e = .returned (.tuple #[.agg #[.int .i64 s.tasks, .int .i64 s.most, .int .i64 s.keep, .int .i64 ((s.last : Int) + 1), .slice a6 (s.dels (s.pend.take (j + 1))).all.length c6], .int .i64 0]) ∧ RV (joinM (jn M W wr) wr.drew W') (s.dels (s.pend.take (j + 1))) (.slice a6 (s.dels (s.pend.take (j + 1))).all.length c6)) from by
        have hc := refDecline_any s' (.slice aj s'.all.length cj) (jn M W wr) wr.drew (Mem.le_trans (jn_le HM.out HF.out.bl) (below_mem (Below.refl wr.heap.size wr).drew)) HRJ.out hjl s.pend[j]
        rw [hd0, hdc] at hc
        have ev : rvV s' (.slice aj s'.all.length cj) = .agg #[.int .i64 s.tasks, .int .i64 s.most, .int .i64 s.keep, .int .i64 ((s.last : Int) + 1), .slice aj s'.all.length cj] := by
          show Value.agg _ = _
          rw [hst.1, hst.2.1, hst.2.2.1, hst.2.2.2]
        rw [ev] at hc
        refine hc.mono ?_
        rintro e W' ⟨a', hb, rfl, hr⟩
        obtain ⟨a6, c6, rfl, -, -, -⟩ := slice_form hr.ha
        exact ⟨a6, c6, hb, rfl, hr⟩)
      clear hat hdc hd0 hst
      generalize s.pend[j] = y at *
      have hcj : cj ≤ 9223372036854775807 ∧ s'.all.length ≤ cj := by
        obtain ⟨a', k', e', h2, h3, -⟩ := slice_form HRJ.out.ha
        simp only [Value.slice.injEq] at e'
        unfold maxLen at h3
        rw [e'.2.2]; exact ⟨h3, h2⟩
      obtain ⟨hcj1, hcj2⟩ := hcj
      obtain ⟨S1, hS1⟩ : ∃ S1, s.dels (s.pend.take (j + 1)) = S1 := ⟨_, rfl⟩
      rw [hS1] at HCD
      have HSE := Lib.hid hS1
      clear hS1
      go_wp2_with fail
      go_region_law (go_simp; go_at_call 17; refine HCD.out.mono ?_; rintro e w5 ⟨a6, c6, hb5, rfl, hr5⟩; have HF5 := Lib.hid (HF.out.pure ((Below.refl wr.heap.size wr).drew.trans hb5)); have HB5 := Lib.hid hb5; have HR5 := Lib.hid hr5; obtain ⟨x0, x1, x2, x3, x4⟩ := HF5.out.cells; have xz := HF5.out.thaw; clear hb5 hr5)
      all_goals
        have HF6 := Lib.hid (((((HF5.out.set0 (.int .i64 s.tasks)).set1 (.int .i64 s.most)).set2 (.int .i64 s.keep)).set3 (.int .i64 ((s.last : Int) + 1))).set4 (.slice a6 S1.all.length c6))
        have HJ5 := Lib.hid (show (joinM (jn M W wr) wr.drew w5).le (jn M W w5) from Mem.le_trans (fun b o v e => e) (jn_step (w := wr) ((Below.refl wr.heap.size wr).drew.trans HB5.out) HF.out.sz))
        have HJ6 := Lib.hid (show (jn M W w5).le (jn M W (((((w5.setCell ⟨W.heap.size, 0, none⟩ (.int .i64 s.tasks)).setCell ⟨W.heap.size, 1, none⟩ (.int .i64 s.most)).setCell ⟨W.heap.size, 2, none⟩ (.int .i64 s.keep)).setCell ⟨W.heap.size, 3, none⟩ (.int .i64 ((s.last : Int) + 1))).setCell ⟨W.heap.size, 4, none⟩ (.slice a6 S1.all.length c6))) from
          Mem.le_trans (jn_set (by omega)) (Mem.le_trans (jn_set (by omega)) (Mem.le_trans (jn_set (by omega)) (Mem.le_trans (jn_set (by omega)) (jn_set (by omega))))))
        have HN6 := Lib.hid (show (nw W wr).le (nw W (((((w5.setCell ⟨W.heap.size, 0, none⟩ (.int .i64 s.tasks)).setCell ⟨W.heap.size, 1, none⟩ (.int .i64 s.most)).setCell ⟨W.heap.size, 2, none⟩ (.int .i64 s.keep)).setCell ⟨W.heap.size, 3, none⟩ (.int .i64 ((s.last : Int) + 1))).setCell ⟨W.heap.size, 4, none⟩ (.slice a6 S1.all.length c6))) from
          Mem.le_trans (nw_pure ((Below.refl wr.heap.size wr).drew.trans HB5.out)) (Mem.le_trans (nw_set (by omega)) (Mem.le_trans (nw_set (by omega)) (Mem.le_trans (nw_set (by omega)) (Mem.le_trans (nw_set (by omega)) (nw_set (by omega)))))))
        have HR6 := Lib.hid ((HR5.out.mono HJ5.out).mono HJ6.out)
        have HL6 := Lib.hid ((tSlice tInt).mono _ _ _ _ HN6.out HRL.out)
        clear HJ5 HJ6 HN6 HR5 HB5 HF5 x0 x1 x2 x3 x4 xz HCD HRJ HRL HF c0 c1 c2 c3 c4 cz d0 d1 d2 d3 d4 dz dk
        go_wp2
        go_roundw
        case rel => exact ⟨j + 1, S1, a6, c6, by omega, by go_num, Lib.hid HSE.out.symm, HF6, HR6, HL6⟩
        case measure => simp [intOf]; omega
    · obtain rfl : j = s.pend.length := by omega
      rw [List.take_length] at HS
      have hst : s'.all = (s.dels s.pend).all := by rw [HS.out]
      have HRE := Lib.hid (show RV (jn M W wr) (s.dels s.pend) (.slice aj s'.all.length cj) from by rw [← HS.out]; exact HRJ.out)
      have HV := Lib.hid (show rvV (s.dels s.pend) (.slice aj s'.all.length cj) = .agg #[.int .i64 s.tasks, .int .i64 s.most, .int .i64 s.keep, .int .i64 ((s.last : Int) + 1), .slice aj s'.all.length cj] from rfl)
      clear hst
      go_wp2
      have r1 := store5_block HF.out.rs (.int .i64 s.tasks) (.int .i64 s.most) (.int .i64 s.keep) (.int .i64 ((s.last : Int) + 1)) (.slice aj s'.all.length cj)
      have hBz := store5_below HF.out.bl (Nat.le_succ _) (.int .i64 s.tasks) (.int .i64 s.most) (.int .i64 s.keep) (.int .i64 ((s.last : Int) + 1)) (.slice aj s'.all.length cj)
      have hnz : (nw W wr).le (nw W (store5 wr (W.heap.size + 1) (.int .i64 s.tasks) (.int .i64 s.most) (.int .i64 s.keep) (.int .i64 ((s.last : Int) + 1)) (.slice aj s'.all.length cj))) := nw_store5 (.int .i64 s.tasks) (.int .i64 s.most) (.int .i64 s.keep) (.int .i64 ((s.last : Int) + 1)) (.slice aj s'.all.length cj)
      show bodyPost _ _ _ _ _ (store5 wr (W.heap.size + 1) (.int .i64 s.tasks) (.int .i64 s.most) (.int .i64 s.keep) (.int .i64 ((s.last : Int) + 1)) (.slice aj s'.all.length cj))
      generalize store5 wr (W.heap.size + 1) (.int .i64 s.tasks) (.int .i64 s.most) (.int .i64 s.keep) (.int .i64 ((s.last : Int) + 1)) (.slice aj s'.all.length cj) = wz at r1 hBz hnz ⊢
      have g0 : wz.cell? ⟨W.heap.size + 1, 0, none⟩ = some (.int .i64 s.tasks) := mem_cells r1 0
      have g1 : wz.cell? ⟨W.heap.size + 1, 1, none⟩ = some (.int .i64 s.most) := mem_cells r1 1
      have g2 : wz.cell? ⟨W.heap.size + 1, 2, none⟩ = some (.int .i64 s.keep) := mem_cells r1 2
      have g3 : wz.cell? ⟨W.heap.size + 1, 3, none⟩ = some (.int .i64 ((s.last : Int) + 1)) := mem_cells r1 3
      have g4 : wz.cell? ⟨W.heap.size + 1, 4, none⟩ = some (.slice aj s'.all.length cj) := mem_cells r1 4
      exact bodyPost_ret (v := .tuple #[.agg #[.int .i64 s.tasks, .int .i64 s.most, .int .i64 s.keep, .int .i64 ((s.last : Int) + 1), .slice aj s'.all.length cj], .slice bl s.pend.length cl]) (by simp [results, Tryz.results20, go_sem, g0, g1, g2, g3, g4]) rfl ⟨.slice aj s'.all.length cj, bl, cl, hBz, by rw [HV.out], HRE.out.mono (jn_join HM.out hnz), (tSlice tInt).mono _ _ _ _ (Mem.le_trans hnz nw_le) HRL.out⟩
end Go.Proofs.YtnfolemblnnejaaGreat
/- The reference of a vault: named, missing. -/
namespace Go.Proofs.YtnfolemblnnejaaGreat
open Go.RowKit Go.Maps

def isNamed (nm : ByteArray) (x : Int × Sn) : Bool := x.2.done && (x.2.name.toList == nm.toList)
def NamedSays (s : VS) (nm : ByteArray) (i : Int) : Prop := (∃ (j : Nat) (k : Int) (t : Sn), s.all[j]? = some (k, t) ∧ isNamed nm (k, t) = true ∧ i = j ∧ ∀ x ∈ s.all.take j, isNamed nm x = false) ∨ ((∀ x ∈ s.all, isNamed nm x = false) ∧ i = -1)
set_option maxRecDepth 100000 in
set_option maxHeartbeats 4000000 in
theorem refNamedI_any (s : VS) (a : Value) (W : World) (h : RV (mem W) s a) (nm : ByteArray) :
    Calls Tryz.prog 52 #[rvV s a, .string nm] W fun e w' => ∃ i, e = .returned (.int .i64 i) ∧ NamedSays s nm i ∧ Below W.heap.size W w' := by
  obtain ⟨aa, ca, rfl, hla, hma, hra⟩ := slice_form h.ha
  have hca : ca ≤ 9223372036854775807 := by unfold maxLen at hma; exact hma
  have HAL := Lib.hid (show s.all.length ≤ 1000000 from by have := all_len h.ok; have := h.ok.l; omega)
  have HB := Lib.hid (box_below W (rvB s (.slice aa s.all.length ca)))
  have hbk := heap_alloc_new W (rvB s (.slice aa s.all.length ca))
  have HRA := Lib.hid (tRSns.mono _ _ _ _ (below_mem HB.out) hra)
  clear hma hra h
  go_enter Tryz.func52, Tryz.ntmps52
  go_wp2_with fail
  generalize W.alloc (rvB s (.slice aa s.all.length ca)) = X at *
  have c4 : X.cell? ⟨W.heap.size, 4, none⟩ = some (.slice aa s.all.length ca) := mem_cells hbk 4
  clear hbk
  go_loopw [5] (fun i wr => ∃ j : Nat, j ≤ s.all.length ∧ i = .int .i64 j ∧ wr = X ∧ Hid (∀ x ∈ s.all.take j, isNamed nm x = false)) (fun i _ => s.all.length - (intOf i).toNat)
  case atStart => exact ⟨0, by omega, rfl, rfl, Lib.hid (by simp)⟩
  case round =>
    obtain ⟨j, hj, rfl, rfl, HT⟩ := hrel
    by_cases hlt : j < s.all.length
    · obtain ⟨b, o, s1, s2, s3, e, ⟨-, g1, g2, -⟩, -⟩ := rsn_at HRA.out hlt
      subst e
      have d1 : wr.cell? ⟨b, o + j * 6 + 1, none⟩ = some (.string s.all[j].2.name) := g1
      have d2 : wr.cell? ⟨b, o + j * 6 + 2, none⟩ = some (.bool s.all[j].2.done) := g2
      have HG := Lib.hid (List.getElem?_eq_getElem hlt)
      have HN := Lib.hid (fun (e : isNamed nm s.all[j] = false) => (show ∀ x ∈ s.all.take (j + 1), isNamed nm x = false from fun x hx => by
        rw [List.take_succ_eq_append_getElem hlt] at hx
        rcases List.mem_append.1 hx with hx | hx
        · exact HT.out x hx
        · simp at hx; subst hx; exact e))
      have HI := Lib.hid (show isNamed nm s.all[j] = (s.all[j].2.done && (s.all[j].2.name.toList == nm.toList)) from rfl)
      clear g1 g2
      generalize s.all[j] = y at *
      obtain ⟨y, t⟩ := y
      simp only at d1 d2 HI
      cases hd : t.done with
      | false =>
        rw [hd] at d2
        have HNX := Lib.hid (HN.out (by rw [HI.out, hd]; rfl))
        clear HN HI
        go_wp2
        go_roundw
        case rel => exact ⟨j + 1, by omega, by go_num, by first | rfl | trivial, HNX⟩
        case measure => simp [intOf]; omega
      | true =>
        rw [hd] at d2
        cases he : (t.name.toList == nm.toList) with
        | true =>
          have HY := Lib.hid (show isNamed nm (y, t) = true by rw [HI.out, hd, he]; rfl)
          clear HN HI
          go_wp2
          go_ret
          exact ⟨j, rfl, .inl ⟨j, y, t, HG.out, HY.out, rfl, HT.out⟩, HB.out⟩
        | false =>
          have HNX := Lib.hid (HN.out (by rw [HI.out, hd, he]; rfl))
          clear HN HI
          go_wp2
          go_roundw
          case rel => exact ⟨j + 1, by omega, by go_num, by first | rfl | trivial, HNX⟩
          case measure => simp [intOf]; omega
    · obtain rfl : j = s.all.length := by omega
      rw [List.take_length] at HT
      go_wp2
      go_ret
      exact ⟨-1, rfl, .inr ⟨HT.out, rfl⟩, HB.out⟩
/-- The tasks that have not told. -/
def missOf (bs : List Bool) : List Int := ((List.range bs.length).filter (fun i => !bs.getD i false)).map (fun (i : Nat) => (i : Int))
def missTo (bs : List Bool) (j : Nat) : List Int := ((List.range j).filter (fun i => !bs.getD i false)).map (fun (i : Nat) => (i : Int))
theorem missTo_succ (bs : List Bool) (j : Nat) : missTo bs (j + 1) = if bs.getD j false = true then missTo bs j else missTo bs j ++ [(j : Int)] := by
  unfold missTo
  rw [List.range_succ, List.filter_append, List.map_append]
  cases h : bs.getD j false
  · simp only [List.filter_cons, h, Bool.not_false, if_true, List.filter_nil, List.map_cons, List.map_nil, Bool.false_eq_true, if_false]
  · simp only [List.filter_cons, h, Bool.not_true, Bool.false_eq_true, if_false, List.filter_nil, List.map_nil, List.append_nil, if_true]
theorem miss_nil (bs : List Bool) : missOf bs = [] ↔ bs.all id = true := by
  unfold missOf
  rw [List.map_eq_nil_iff, List.filter_eq_nil_iff, List.all_eq_true]
  constructor
  · intro h x hx
    obtain ⟨i, hi, rfl⟩ := List.getElem_of_mem hx
    have := h i (List.mem_range.2 hi)
    simpa [List.getD_eq_getElem?_getD, hi] using this
  · intro h i hi
    have hi := List.mem_range.1 hi
    have := h _ (List.getElem_mem hi)
    simp [List.getD_eq_getElem?_getD, hi] at this ⊢
    exact this
set_option maxRecDepth 100000 in
set_option maxHeartbeats 4000000 in
theorem refMissing_any (k : Int) (nm : ByteArray) (d : Bool) (s1 s2 s3 : Value) (bs : List Bool) (W : World) (h : tBools.rv (mem W) [s1] bs) (hl : bs.length ≤ 1000) (v2 : ∃ a n c, s2 = .slice a n c) (v3 : ∃ a n c, s3 = .slice a n c) :
    Calls Tryz.prog 55 #[.agg #[.int .i64 k, .string nm, .bool d, s1, s2, s3]] W fun e w' => ∃ b c, e = .returned (.slice b (missOf bs).length c) ∧ Owns tInt w' W.heap.size 3 (.slice b (missOf bs).length c) (missOf bs) ∧ Below W.heap.size W w' := by
  obtain ⟨aa, ca, rfl, hla, hma, hra⟩ := slice_form h
  obtain ⟨a2, n2, c2, rfl⟩ := v2
  obtain ⟨a3, n3, c3, rfl⟩ := v3
  have hca : ca ≤ 9223372036854775807 := by unfold maxLen at hma; exact hma
  have HB := Lib.hid (box_below W (.cells #[.int .i64 k, .string nm, .bool d, .slice aa bs.length ca, .slice a2 n2 c2, .slice a3 n3 c3] 102))
  have HBK := Lib.hid (heap_alloc_new W (.cells #[.int .i64 k, .string nm, .bool d, .slice aa bs.length ca, .slice a2 n2 c2, .slice a3 n3 c3] 102))
  have HRA := Lib.hid (tBools.mono _ _ _ _ (below_mem HB.out) hra)
  have HMO := Lib.hid (show missOf bs = missTo bs bs.length from rfl)
  generalize missOf bs = MO at *
  clear hma hra h
  go_enter Tryz.func55, Tryz.ntmps55
  go_wp2_with fail
  generalize W.alloc (.cells #[.int .i64 k, .string nm, .bool d, .slice aa bs.length ca, .slice a2 n2 c2, .slice a3 n3 c3] 102) = X at *
  have HC := Lib.hid (fun (w' : World) (hb : Below X.heap.size X w') => (show w'.cell? ⟨W.heap.size, 3, none⟩ = some (.slice aa bs.length ca) from mem_cells ((hb.block _ (Array.getElem?_eq_some_iff.1 HBK.out).1).trans HBK.out) 3))
  go_loopw [3, 4] (fun ov iv wr => ∃ j : Nat, j ≤ bs.length ∧ iv = .int .i64 j ∧ Hid (Owns tInt wr X.heap.size 3 ov (missTo bs j)) ∧ Hid (Below X.heap.size X wr)) (fun _ iv _ => bs.length - (intOf iv).toNat)
  case atStart => exact ⟨0, by omega, rfl, Lib.hid (Owns.nil _ _ _ _), Lib.hid (Below.refl _ _)⟩
  case round =>
    obtain ⟨j, hj, rfl, HO, HBR⟩ := hrel
    have c4 := HC.out _ HBR.out
    by_cases hlt : j < bs.length
    · obtain ⟨b, o, e, cs, hat, hrv⟩ := slice_at (tBools.mono _ _ _ _ (below_mem HBR.out) HRA.out) hlt
      subst e
      have hcs : cs = [.bool bs[j]] := hrv
      subst hcs
      have d0 : wr.cell? ⟨b, o + j, none⟩ = some (.bool bs[j]) := by
        have := hat 0 _ rfl
        simpa [tBool, mem] using this
      have hgd : bs.getD j false = bs[j] := by simp [List.getD_eq_getElem?_getD, hlt]
      have HTK := Lib.hid (missTo_succ bs j)
      rw [hgd] at HTK
      have HLL := Lib.hid (show (missTo bs j).length ≤ 1000000000 from by
        unfold missTo
        rw [List.length_map]
        exact Nat.le_trans (List.length_filter_le _ _) (by rw [List.length_range]; omega))
      have HSZ := Lib.hid HBR.out.size
      clear hat hrv hgd
      generalize missTo bs j = l at *
      generalize bs[j] = y at *
      obtain ⟨al, cl, hvl, _⟩ := HO.out.len
      subst hvl
      cases y with
      | true =>
        have HO4 := Lib.hid (show Owns tInt wr X.heap.size 3 (.slice al l.length cl) (missTo bs (j + 1)) by rw [HTK.out, if_pos rfl]; exact HO.out)
        go_wp2
        go_roundw
        case rel => exact ⟨j + 1, by omega, by go_num, HO4, HBR⟩
        case measure => simp [intOf]; omega
      | false =>
        have HTL := Lib.hid (show l ++ [(j : Int)] = missTo bs (j + 1) by rw [HTK.out, if_neg (by simp)])
        clear HTK
        go_wp2_with (at_builtin; refine wpList_append_int rfl _ _ 46 rfl Tryz.underlying46 Tryz.infoInt X.heap.size _ l rfl (HO.out.alloc _) _ _ (j : Int) rfl ?c1 ?c2 ?c3 ?c4 ?_)
        case c1 => simp
        case c2 => unfold inI64; omega
        case c3 => have := HLL.out; omega
        case c4 => have := HSZ.out; simp; omega
        · intro v' w6 own6 hgrow _
          have HB6 := Lib.hid (show Below X.heap.size X w6 from (HBR.out.alloc HBR.out.size _).grown hgrow (by have := HSZ.out; simp; omega) (fun k hk => ((HO.out).lt k hk).1))
          obtain ⟨a6, cap6, rfl, _⟩ := own6.len
          have HO6 := Lib.hid (show Owns tInt w6 X.heap.size 3 (.slice a6 (l ++ [(j : Int)]).length cap6) (missTo bs (j + 1)) by
            rw [← HTL.out]
            exact own6)
          clear own6 hgrow HO
          go_wp2
          go_roundw
          case rel => exact ⟨j + 1, by omega, by go_num, HO6, HB6⟩
          case measure => simp [intOf]; omega
    · obtain rfl : j = bs.length := by omega
      rw [← HMO.out] at HO
      have HO7 := Lib.hid (HO.out.low HB.out.size)
      have HE := Lib.hid (HB.out.trans (HBR.out.mono HB.out.size))
      clear HO
      obtain ⟨a7, c7, hv7, _⟩ := HO7.out.len
      subst hv7
      go_wp2
      go_ret
      exact ⟨a7, c7, rfl, HO7.out, HE.out⟩
end Go.Proofs.YtnfolemblnnejaaGreat
/- The reference of a vault: tidy (printed by gen_vtidy.py). -/
namespace Go.Proofs.YtnfolemblnnejaaGreat
open Go.RowKit Go.Maps

def isOld (x : Int × Sn) : Bool := x.2.done && (x.2.name.toList == [])
/-- What tidy keeps: of the nameless ones the last k. -/
def keepL (k : Nat) : List (Int × Sn) → List (Int × Sn)
  | [] => []
  | x :: l => if isOld x = true ∧ k ≤ (l.filter isOld).length then keepL k l else x :: keepL k l
theorem keepL_filter (k : Nat) : ∀ (l : List (Int × Sn)), (l.map Prod.fst).Nodup → keepL k l = l.filter (fun x => decide (x.1 ∉ ((l.filter isOld).map Prod.fst).take ((l.filter isOld).length - k)))
  | [], _ => rfl
  | x :: l, hn => by
    rw [List.map_cons, List.nodup_cons] at hn
    have ih := keepL_filter k l hn.2
    have hsub : ∀ y, y ∈ ((l.filter isOld).map Prod.fst) → y ∈ l.map Prod.fst := fun y hy => by
      obtain ⟨z, hz, rfl⟩ := List.mem_map.1 hy
      exact List.mem_map_of_mem (f := Prod.fst) (List.mem_filter.1 hz).1
    unfold keepL
    cases hp : isOld x with
    | false =>
      rw [if_neg (by simp), List.filter_cons (p := isOld), if_neg (by rw [hp]; simp), List.filter_cons, if_pos (by simp only [decide_eq_true_eq]; exact fun hm => hn.1 (hsub _ (List.mem_of_mem_take hm))), ih]
    | true =>
      have hc : ((x :: l).filter isOld) = x :: l.filter isOld := by rw [List.filter_cons, if_pos hp]
      rw [hc, List.map_cons, List.length_cons]
      by_cases hk : k ≤ (l.filter isOld).length
      · rw [if_pos ⟨rfl, hk⟩, show (l.filter isOld).length + 1 - k = ((l.filter isOld).length - k) + 1 by omega, List.take_succ_cons, List.filter_cons, if_neg (by simp), ih]
        refine List.filter_congr fun y hy => ?_
        have hne : y.1 ≠ x.1 := fun e => hn.1 (e ▸ List.mem_map_of_mem (f := Prod.fst) hy)
        simp [hne]
      · rw [if_neg (fun h => hk h.2), show (l.filter isOld).length + 1 - k = 0 by omega, List.take_zero, List.filter_cons, if_pos (by simp), ih, show (l.filter isOld).length - k = 0 by omega, List.take_zero]
theorem keepL_all {s : VS} (h : VOk s) : keepL s.keep.toNat s.all = s.dropped.all := by
  rw [keepL_filter _ _ (h.up.imp (fun h => by omega))]
  unfold VS.dropped VS.dels VS.old VS.those
  simp only [List.length_map]
  rfl
theorem keepL_drop {l : List (Int × Sn)} {j : Nat} (hj : j < l.length) (k : Nat) : keepL k (l.drop j) = if isOld l[j] = true ∧ k ≤ ((l.drop (j + 1)).filter isOld).length then keepL k (l.drop (j + 1)) else l[j] :: keepL k (l.drop (j + 1)) := by
  rw [List.drop_eq_getElem_cons hj]
  rfl
theorem cnt_drop {l : List (Int × Sn)} {j : Nat} (hj : j < l.length) : ((l.drop j).filter isOld).length = ((l.drop (j + 1)).filter isOld).length + (if isOld l[j] = true then 1 else 0) := by
  rw [List.drop_eq_getElem_cons hj, List.filter_cons]
  by_cases h : isOld l[j] = true
  · rw [if_pos h, if_pos h]; rfl
  · rw [if_neg h, if_neg h]; rfl
theorem keepL_len (k : Nat) : ∀ l : List (Int × Sn), (keepL k l).length ≤ l.length
  | [] => Nat.le_refl _
  | x :: l => by
    have := keepL_len k l
    unfold keepL
    split
    · rw [List.length_cons]; omega
    · rw [List.length_cons, List.length_cons]; omega
theorem own_one {M : Mem} (w : World) {B : Nat} (hB : B ≤ w.heap.size) {x : Int × Sn} {v0 v1 v2 v3 v4 v5 : Value} (hrv : tRSn.rv M [v0, v1, v2, v3, v4, v5] x) :
    Owns (tIn M tRSn) (w.alloc (.cells #[v0, v1, v2, v3, v4, v5] 102)) B 102 (.slice (some ⟨w.heap.size, 0, none⟩) 1 1) [x] := by
  refine ⟨[[v0, v1, v2, v3, v4, v5]], rfl, ?_, fun c hc => ?_, fun k h h' => ?_⟩
  · have := World.ownsRow_lit (base := B) (e := 102) (size := 6) w #[v0, v1, v2, v3, v4, v5] 1 hB (by unfold maxLen; omega) rfl
    show (w.alloc (.cells #[v0, v1, v2, v3, v4, v5] 102)).ownsRow B 102 6 _ _ _
    simpa using this
  · simp at hc; subst hc; rfl
  · have : k = 0 := by simp at h'; omega
    subst this
    exact hrv
set_option maxRecDepth 100000 in
set_option maxHeartbeats 16000000 in
theorem refTidy_any (s : VS) (a : Value) (M : Mem) (W : World) (hM : M.le (mem W)) (h : RV M s a) (hl : s.all.length ≤ 1000) :
    Calls Tryz.prog 53 #[rvV s a] W fun e W' => ∃ a', Below W.heap.size W W' ∧ e = .returned (rvV s.dropped a') ∧ RV (joinM M W W') s.dropped a' := by
  have HM := Lib.hid hM
  have HRS := Lib.hid h
  obtain ⟨aa, ca, rfl, hla, hma, hra⟩ := slice_form h.ha
  have hca : ca ≤ 9223372036854775807 := by unfold maxLen at hma; exact hma
  have HAL := Lib.hid (show s.all.length ≤ 1000000 from by have := all_len h.ok; have := h.ok.l; omega)
  have HF0 := Lib.hid (Fr.start W (.int .i64 s.tasks) (.int .i64 s.most) (.int .i64 s.keep) (.int .i64 ((s.last : Int) + 1)) (.slice aa s.all.length ca))
  have HA := Lib.hid (fun w' (hb : Below W.heap.size W w') => tRSns.mono _ _ _ _ (Mem.le_trans hM (below_mem hb)) hra)
  have HRW := Lib.hid (fun w' (hb : Below W.heap.size W w') => (h.mono (Mem.le_trans hM (below_mem hb)) : RV (mem w') s (.slice aa s.all.length ca)))
  have HQ := Lib.hid hra
  have HOK := Lib.hid h.ok
  have hkp := h.ok.k
  clear hma hra h hM
  go_enter Tryz.func53, Tryz.ntmps53
  have HF0' : Hid (Fr W ((W.alloc (.cells #[.int .i64 s.tasks, .int .i64 s.most, .int .i64 s.keep, .int .i64 ((s.last : Int) + 1), .slice aa s.all.length ca] 31)).alloc (.cells #[.int .i64 0, .int .i64 0, .int .i64 0, .int .i64 0, .slice none 0 0] 31)) (.int .i64 s.tasks) (.int .i64 s.most) (.int .i64 s.keep) (.int .i64 ((s.last : Int) + 1)) (.slice aa s.all.length ca)) := HF0
  go_wp2_with fail
  generalize ((W.alloc (.cells #[.int .i64 s.tasks, .int .i64 s.most, .int .i64 s.keep, .int .i64 ((s.last : Int) + 1), .slice aa s.all.length ca] 31)).alloc (.cells #[.int .i64 0, .int .i64 0, .int .i64 0, .int .i64 0, .slice none 0 0] 31)) = X at *
  have c0 : X.cell? ⟨W.heap.size, 0, none⟩ = some (.int .i64 s.tasks) := HF0.out.cells.1
  have c1 : X.cell? ⟨W.heap.size, 1, none⟩ = some (.int .i64 s.most) := HF0.out.cells.2.1
  have c2 : X.cell? ⟨W.heap.size, 2, none⟩ = some (.int .i64 s.keep) := HF0.out.cells.2.2.1
  have c3 : X.cell? ⟨W.heap.size, 3, none⟩ = some (.int .i64 ((s.last : Int) + 1)) := HF0.out.cells.2.2.2.1
  have c4 : X.cell? ⟨W.heap.size, 4, none⟩ = some (.slice aa s.all.length ca) := HF0.out.cells.2.2.2.2
  have cz : ∀ o, X.frozen? ⟨W.heap.size, o, none⟩ = false := HF0.out.thaw
  have d0 : X.cell? ⟨W.heap.size + 1, 0, none⟩ = some (.int .i64 0) := HF0.out.res.1
  have d1 : X.cell? ⟨W.heap.size + 1, 1, none⟩ = some (.int .i64 0) := HF0.out.res.2.1
  have d2 : X.cell? ⟨W.heap.size + 1, 2, none⟩ = some (.int .i64 0) := HF0.out.res.2.2.1
  have d3 : X.cell? ⟨W.heap.size + 1, 3, none⟩ = some (.int .i64 0) := HF0.out.res.2.2.2.1
  have d4 : X.cell? ⟨W.heap.size + 1, 4, none⟩ = some (.slice none 0 0) := HF0.out.res.2.2.2.2.1
  have dz : ∀ o, X.frozen? ⟨W.heap.size + 1, o, none⟩ = false := HF0.out.res.2.2.2.2.2
  have hsub : IntKind.i64.wrap ((s.all.length : Int) - 1) = (s.all.length : Int) - 1 := IntWalk.i64_in _ (by omega)
  go_loopw [3, 4, 5] (fun ov nv iv wr => ∃ j : Nat, j ≤ s.all.length ∧ iv = .int .i64 ((j : Int) - 1) ∧ nv = .int .i64 (((s.all.drop j).filter isOld).length : Nat) ∧ Hid (Owns (tIn M tRSn) wr X.heap.size 102 ov (keepL s.keep.toNat (s.all.drop j))) ∧ Hid (Below X.heap.size X wr)) (fun _ _ iv _ => (intOf iv + 1).toNat)
  case atStart => exact ⟨s.all.length, Nat.le_refl _, rfl, by rw [List.drop_length]; rfl, Lib.hid (by rw [List.drop_length]; exact Owns.nil _ _ _ _), Lib.hid (Below.refl _ _)⟩
  case round =>
    obtain ⟨j, hj, rfl, rfl, HO, HBR⟩ := hrel
    have HF := Lib.hid (HF0.out.pure HBR.out)
    clear c0 c1 c2 c3 c4 cz d0 d1 d2 d3 d4 dz
    have c0 : wr.cell? ⟨W.heap.size, 0, none⟩ = some (.int .i64 s.tasks) := HF.out.cells.1
    have c1 : wr.cell? ⟨W.heap.size, 1, none⟩ = some (.int .i64 s.most) := HF.out.cells.2.1
    have c2 : wr.cell? ⟨W.heap.size, 2, none⟩ = some (.int .i64 s.keep) := HF.out.cells.2.2.1
    have c3 : wr.cell? ⟨W.heap.size, 3, none⟩ = some (.int .i64 ((s.last : Int) + 1)) := HF.out.cells.2.2.2.1
    have c4 : wr.cell? ⟨W.heap.size, 4, none⟩ = some (.slice aa s.all.length ca) := HF.out.cells.2.2.2.2
    have cz : ∀ o, wr.frozen? ⟨W.heap.size, o, none⟩ = false := HF.out.thaw
    have d0 : wr.cell? ⟨W.heap.size + 1, 0, none⟩ = some (.int .i64 0) := HF.out.res.1
    have d1 : wr.cell? ⟨W.heap.size + 1, 1, none⟩ = some (.int .i64 0) := HF.out.res.2.1
    have d2 : wr.cell? ⟨W.heap.size + 1, 2, none⟩ = some (.int .i64 0) := HF.out.res.2.2.1
    have d3 : wr.cell? ⟨W.heap.size + 1, 3, none⟩ = some (.int .i64 0) := HF.out.res.2.2.2.1
    have d4 : wr.cell? ⟨W.heap.size + 1, 4, none⟩ = some (.slice none 0 0) := HF.out.res.2.2.2.2.1
    have dz : ∀ o, wr.frozen? ⟨W.heap.size + 1, o, none⟩ = false := HF.out.res.2.2.2.2.2
    cases j with
    | zero =>
      rw [List.drop_zero] at HO
      rw [keepL_all HOK.out] at HO
      obtain ⟨a7, c7, hv7, _⟩ := HO.out.len
      subst hv7
      have HR7 := Lib.hid (show (tSlice (tIn M tRSn)).rv (nw W wr) [.slice a7 s.dropped.all.length c7] s.dropped.all from HO.out.rv (S := (W.heap.size + 2 ≤ ·)) (fun k e => Nat.le_trans HF0.out.sz e) (fun _ _ _ h => h))
      have HF8 := Lib.hid (HF.out.set4 (.slice a7 s.dropped.all.length c7))
      have HN8 := Lib.hid (nw_set (W := W) (w := wr) (b := W.heap.size) (o := 4) (u := .slice a7 s.dropped.all.length c7) (by omega))
      have HOD := Lib.hid (show VOk s.dropped from HOK.out.dels _)
      have HVD := Lib.hid (show rvV s.dropped (.slice a7 s.dropped.all.length c7) = .agg #[.int .i64 s.tasks, .int .i64 s.most, .int .i64 s.keep, .int .i64 ((s.last : Int) + 1), .slice a7 s.dropped.all.length c7] from rfl)
      clear HO
      go_wp2
      have r1 := store5_block HF8.out.rs (.int .i64 s.tasks) (.int .i64 s.most) (.int .i64 s.keep) (.int .i64 ((s.last : Int) + 1)) (.slice a7 s.dropped.all.length c7)
      have hBz := store5_below HF8.out.bl (Nat.le_succ _) (.int .i64 s.tasks) (.int .i64 s.most) (.int .i64 s.keep) (.int .i64 ((s.last : Int) + 1)) (.slice a7 s.dropped.all.length c7)
      have hnz : (nw W (wr.setCell ⟨W.heap.size, 4, none⟩ (.slice a7 s.dropped.all.length c7))).le (nw W (store5 (wr.setCell ⟨W.heap.size, 4, none⟩ (.slice a7 s.dropped.all.length c7)) (W.heap.size + 1) (.int .i64 s.tasks) (.int .i64 s.most) (.int .i64 s.keep) (.int .i64 ((s.last : Int) + 1)) (.slice a7 s.dropped.all.length c7))) := nw_store5 (.int .i64 s.tasks) (.int .i64 s.most) (.int .i64 s.keep) (.int .i64 ((s.last : Int) + 1)) (.slice a7 s.dropped.all.length c7)
      show bodyPost _ _ _ _ _ (store5 (wr.setCell ⟨W.heap.size, 4, none⟩ (.slice a7 s.dropped.all.length c7)) (W.heap.size + 1) (.int .i64 s.tasks) (.int .i64 s.most) (.int .i64 s.keep) (.int .i64 ((s.last : Int) + 1)) (.slice a7 s.dropped.all.length c7))
      generalize store5 (wr.setCell ⟨W.heap.size, 4, none⟩ (.slice a7 s.dropped.all.length c7)) (W.heap.size + 1) (.int .i64 s.tasks) (.int .i64 s.most) (.int .i64 s.keep) (.int .i64 ((s.last : Int) + 1)) (.slice a7 s.dropped.all.length c7) = wz at r1 hBz hnz ⊢
      have g0 : wz.cell? ⟨W.heap.size + 1, 0, none⟩ = some (.int .i64 s.tasks) := mem_cells r1 0
      have g1 : wz.cell? ⟨W.heap.size + 1, 1, none⟩ = some (.int .i64 s.most) := mem_cells r1 1
      have g2 : wz.cell? ⟨W.heap.size + 1, 2, none⟩ = some (.int .i64 s.keep) := mem_cells r1 2
      have g3 : wz.cell? ⟨W.heap.size + 1, 3, none⟩ = some (.int .i64 ((s.last : Int) + 1)) := mem_cells r1 3
      have g4 : wz.cell? ⟨W.heap.size + 1, 4, none⟩ = some (.slice a7 s.dropped.all.length c7) := mem_cells r1 4
      exact bodyPost_ret (v := .agg #[.int .i64 s.tasks, .int .i64 s.most, .int .i64 s.keep, .int .i64 ((s.last : Int) + 1), .slice a7 s.dropped.all.length c7]) (by simp [results, Tryz.results53, go_sem, g0, g1, g2, g3, g4]) rfl ⟨.slice a7 s.dropped.all.length c7, hBz, by rw [HVD.out], ⟨slice_in ((tSlice (tIn M tRSn)).mono _ _ _ _ (Mem.le_trans (Mem.le_trans HN8.out hnz) nw_join) HR7.out) (joinM_le HM.out), HOD.out⟩⟩
    | succ j =>
      have hlt : j < s.all.length := by omega
      have hji : (((j + 1 : Nat) : Int) - 1) = (j : Int) := by omega
      rw [hji]
      obtain ⟨b, o, s1, s2, s3, e, ⟨q0, q1, q2, q3, q4, q5⟩, hr⟩ := rsn_at (HA.out _ HF.out.bl) hlt
      subst e
      obtain ⟨cs, hat, hrvM⟩ : ∃ cs, (∀ j' v, cs[j']? = some v → mem wr b (o + j * 6 + j') = some v) ∧ tRSn.rv M cs s.all[j] := by
        obtain ⟨b', o', e', cs, h1, h2⟩ := slice_at HQ.out hlt
        obtain ⟨rfl, rfl⟩ : b = b' ∧ o = o' := by simpa using e'
        exact ⟨cs, fun j' v hv => below_mem HF.out.bl _ _ _ (HM.out _ _ _ (h1 j' v hv)), h2⟩
      obtain ⟨t1, t2, t3, rfl, hok12, r1, r2, r3⟩ := hrvM
      have e0 : wr.cell? ⟨b, o + j * 6, none⟩ = some (.int .i64 s.all[j].1) := hat 0 _ rfl
      have e1 : wr.cell? ⟨b, o + j * 6 + 1, none⟩ = some (.string s.all[j].2.name) := hat 1 _ rfl
      have e2 : wr.cell? ⟨b, o + j * 6 + 2, none⟩ = some (.bool s.all[j].2.done) := hat 2 _ rfl
      have e3 : wr.cell? ⟨b, o + j * 6 + 3, none⟩ = some t1 := hat 3 _ rfl
      have e4 : wr.cell? ⟨b, o + j * 6 + 4, none⟩ = some t2 := hat 4 _ rfl
      have e5 : wr.cell? ⟨b, o + j * 6 + 5, none⟩ = some t3 := hat 5 _ rfl
      obtain ⟨u1, w1, rfl, -⟩ := slice_form r1
      obtain ⟨u2, w2, rfl, -⟩ := slice_form r2
      obtain ⟨u3, w3, rfl, -⟩ := slice_form r3
      have HRV := Lib.hid (show tRSn.rv M [.int .i64 s.all[j].1, .string s.all[j].2.name, .bool s.all[j].2.done, .slice u1 s.all[j].2.bits.length w1, .slice u2 s.all[j].2.texts.length w2, .slice u3 s.all[j].2.rents.length w3] s.all[j] from ⟨_, _, _, rfl, hok12, r1, r2, r3⟩)
      have HKD := Lib.hid (keepL_drop (l := s.all) hlt s.keep.toNat)
      have HCD := Lib.hid (cnt_drop (l := s.all) hlt)
      have HLC := Lib.hid (show ((s.all.drop (j + 1)).filter isOld).length ≤ 1000 from Nat.le_trans (List.length_filter_le _ _) (by rw [List.length_drop]; omega))
      have HLK := Lib.hid (show (keepL s.keep.toNat (s.all.drop (j + 1))).length ≤ 1000 from Nat.le_trans (keepL_len _ _) (by rw [List.length_drop]; omega))
      have HIO := Lib.hid (show isOld s.all[j] = (s.all[j].2.done && (s.all[j].2.name.toList == [])) from rfl)
      have hlc := HLC.out
      clear hat hok12 r1 r2 r3 hr q0 q1 q2 q3 q4 q5
      generalize ((s.all.drop (j + 1)).filter isOld).length = cn at *
      generalize keepL s.keep.toNat (s.all.drop (j + 1)) = L at *
      generalize s.all[j] = y at *
      obtain ⟨yk, yn, yt⟩ := y
      simp only at e0 e1 e2 e3 e4 e5 HRV HKD HCD HIO
      generalize (Sn.mk yn yt).done = yd at *
      generalize (Sn.mk yn yt).bits.length = m1 at *
      generalize (Sn.mk yn yt).texts.length = m2 at *
      generalize (Sn.mk yn yt).rents.length = m3 at *
      obtain ⟨al, cl, hvl, _⟩ := HO.out.len
      subst hvl
      have HSZ := Lib.hid HBR.out.size
      have HOO := Lib.hid (show Owns (tIn M tRSn) ((wr.alloc (.cells #[.int .i64 yk, .string yn, .bool yd, .slice u1 m1 w1, .slice u2 m2 w2, .slice u3 m3 w3] 102)).alloc (.cells #[.int .i64 yk, .string yn, .bool yd, .slice u1 m1 w1, .slice u2 m2 w2, .slice u3 m3 w3] 102)) X.heap.size 102 (.slice (some ⟨wr.heap.size + 1, 0, none⟩) 1 1) [(yk, ⟨yn, yt⟩)] from by
        have := own_one (wr.alloc (.cells #[.int .i64 yk, .string yn, .bool yd, .slice u1 m1 w1, .slice u2 m2 w2, .slice u3 m3 w3] 102)) (B := X.heap.size) (HBR.out.alloc HBR.out.size (.cells #[.int .i64 yk, .string yn, .bool yd, .slice u1 m1 w1, .slice u2 m2 w2, .slice u3 m3 w3] 102)).size HRV.out
        rw [World.size_alloc] at this
        exact this)
      have HSR := Lib.hid (show (tSlice (tIn M tRSn)).rv (mem ((wr.alloc (.cells #[.int .i64 yk, .string yn, .bool yd, .slice u1 m1 w1, .slice u2 m2 w2, .slice u3 m3 w3] 102)).alloc (.cells #[.int .i64 yk, .string yn, .bool yd, .slice u1 m1 w1, .slice u2 m2 w2, .slice u3 m3 w3] 102))) [.slice al L.length cl] L from ((HO.out.alloc _).alloc _).rv')
      cases hio : isOld (yk, ⟨yn, yt⟩) with
      | false =>
        have HKX := Lib.hid (show keepL s.keep.toNat (s.all.drop j) = [((yk, ⟨yn, yt⟩) : Int × Sn)] ++ L from by rw [HKD.out, if_neg (by rw [hio]; simp)]; rfl)
        have HCX := Lib.hid (show ((s.all.drop j).filter isOld).length = cn from by rw [HCD.out, hio]; simp)
        rw [hio] at HIO
        cases hd : yd with
        | false =>
          subst hd
          clear HKD HCD HIO
          go_wp2_with (at_builtin; refine wpList_append_flat rfl _ _ 29 rfl (tIn_flat M tRSn) (tRSn_one M) Tryz.underlying29 infoRSn rfl (Nat.succ_pos 5) X.heap.size _ [(yk, ⟨yn, yt⟩)] L rfl (HOO.out) _ _ _ rfl rfl (HSR.out) ?c1 ?c2 ?c3 ?_)
          case c1 => have := HLK.out; simp; unfold maxLen; omega
          case c2 => have := HLK.out; simp; omega
          case c3 => have := HSZ.out; simp; omega
          intro v' w6 own6 hgrow
          have HB6 := Lib.hid (show Below X.heap.size X w6 from ((HBR.out.alloc HBR.out.size (.cells #[.int .i64 yk, .string yn, .bool false, .slice u1 m1 w1, .slice u2 m2 w2, .slice u3 m3 w3] 102)).alloc (HBR.out.alloc HBR.out.size (.cells #[.int .i64 yk, .string yn, .bool false, .slice u1 m1 w1, .slice u2 m2 w2, .slice u3 m3 w3] 102)).size (.cells #[.int .i64 yk, .string yn, .bool false, .slice u1 m1 w1, .slice u2 m2 w2, .slice u3 m3 w3] 102)).grown hgrow (by have := HSZ.out; simp; omega) (fun k hk => (HOO.out.lt k hk).1))
          obtain ⟨a6, cap6, rfl, _⟩ := own6.len
          have HO6 := Lib.hid (show Owns (tIn M tRSn) w6 X.heap.size 102 (.slice a6 ([((yk, ⟨yn, yt⟩) : Int × Sn)] ++ L).length cap6) (keepL s.keep.toNat (s.all.drop j)) by
            rw [HKX.out]
            exact own6)
          clear own6 hgrow HO HOO HSR
          go_wp2
          go_roundw
          case rel => exact ⟨j, by omega, rfl, by rw [HCX.out], HO6, HB6⟩
          case measure => simp [intOf] <;> omega
        | true =>
          subst hd
          have hnn : (yn.toList == []) = false := by have := HIO.out; simpa using this.symm
          clear HKD HCD HIO
          go_wp2_with (at_builtin; refine wpList_append_flat rfl _ _ 29 rfl (tIn_flat M tRSn) (tRSn_one M) Tryz.underlying29 infoRSn rfl (Nat.succ_pos 5) X.heap.size _ [(yk, ⟨yn, yt⟩)] L rfl (HOO.out) _ _ _ rfl rfl (HSR.out) ?c1 ?c2 ?c3 ?_)
          case c1 => have := HLK.out; simp; unfold maxLen; omega
          case c2 => have := HLK.out; simp; omega
          case c3 => have := HSZ.out; simp; omega
          intro v' w6 own6 hgrow
          have HB6 := Lib.hid (show Below X.heap.size X w6 from ((HBR.out.alloc HBR.out.size (.cells #[.int .i64 yk, .string yn, .bool true, .slice u1 m1 w1, .slice u2 m2 w2, .slice u3 m3 w3] 102)).alloc (HBR.out.alloc HBR.out.size (.cells #[.int .i64 yk, .string yn, .bool true, .slice u1 m1 w1, .slice u2 m2 w2, .slice u3 m3 w3] 102)).size (.cells #[.int .i64 yk, .string yn, .bool true, .slice u1 m1 w1, .slice u2 m2 w2, .slice u3 m3 w3] 102)).grown hgrow (by have := HSZ.out; simp; omega) (fun k hk => (HOO.out.lt k hk).1))
          obtain ⟨a6, cap6, rfl, _⟩ := own6.len
          have HO6 := Lib.hid (show Owns (tIn M tRSn) w6 X.heap.size 102 (.slice a6 ([((yk, ⟨yn, yt⟩) : Int × Sn)] ++ L).length cap6) (keepL s.keep.toNat (s.all.drop j)) by
            rw [HKX.out]
            exact own6)
          clear own6 hgrow HO HOO HSR
          go_wp2
          go_roundw
          case rel => exact ⟨j, by omega, rfl, by rw [HCX.out], HO6, HB6⟩
          case measure => simp [intOf] <;> omega
      | true =>
        rw [hio] at HIO HKD HCD
        obtain ⟨hd, hnn⟩ : yd = true ∧ (yn.toList == []) = true := by have := HIO.out; simpa using this.symm
        subst hd
        have HCX := Lib.hid (show ((s.all.drop j).filter isOld).length = cn + 1 from by rw [HCD.out]; simp)
        have hwr : IntKind.i64.wrap ((cn : Int) + 1) = (cn : Int) + 1 := IntWalk.i64_in _ (by omega)
        have hx2 : (wr.alloc (.cells #[.int .i64 yk, .string yn, .bool true, .slice u1 m1 w1, .slice u2 m2 w2, .slice u3 m3 w3] 102)).cell? ⟨W.heap.size, 2, none⟩ = some (.int .i64 s.keep) := (HF.out.pure (box_below wr (.cells #[.int .i64 yk, .string yn, .bool true, .slice u1 m1 w1, .slice u2 m2 w2, .slice u3 m3 w3] 102))).cells.2.2.1
        by_cases hgt : s.keep < (cn : Int) + 1
        · have HKX := Lib.hid (show keepL s.keep.toNat (s.all.drop j) = L from by rw [HKD.out, if_pos ⟨rfl, by omega⟩])
          have HO6 := Lib.hid (show Owns (tIn M tRSn) (wr.alloc (.cells #[.int .i64 yk, .string yn, .bool true, .slice u1 m1 w1, .slice u2 m2 w2, .slice u3 m3 w3] 102)) X.heap.size 102 (.slice al L.length cl) (keepL s.keep.toNat (s.all.drop j)) by rw [HKX.out]; exact HO.out.alloc _)
          have HB6 := Lib.hid (HBR.out.alloc HBR.out.size (.cells #[.int .i64 yk, .string yn, .bool true, .slice u1 m1 w1, .slice u2 m2 w2, .slice u3 m3 w3] 102))
          clear HKD HCD HIO HO HOO HSR
          go_wp2
          go_roundw
          case rel => exact ⟨j, by omega, by go_num, by rw [HCX.out]; simp, HO6, HB6⟩
          case measure => simp [intOf] <;> omega
        · have HKX := Lib.hid (show keepL s.keep.toNat (s.all.drop j) = [((yk, ⟨yn, yt⟩) : Int × Sn)] ++ L from by rw [HKD.out, if_neg (fun h => by have := h.2; omega)]; rfl)
          clear HKD HCD HIO
          go_wp2_with (at_builtin; refine wpList_append_flat rfl _ _ 29 rfl (tIn_flat M tRSn) (tRSn_one M) Tryz.underlying29 infoRSn rfl (Nat.succ_pos 5) X.heap.size _ [(yk, ⟨yn, yt⟩)] L rfl (HOO.out) _ _ _ rfl rfl (HSR.out) ?c1 ?c2 ?c3 ?_)
          case c1 => have := HLK.out; simp; unfold maxLen; omega
          case c2 => have := HLK.out; simp; omega
          case c3 => have := HSZ.out; simp; omega
          intro v' w6 own6 hgrow
          have HB6 := Lib.hid (show Below X.heap.size X w6 from ((HBR.out.alloc HBR.out.size (.cells #[.int .i64 yk, .string yn, .bool true, .slice u1 m1 w1, .slice u2 m2 w2, .slice u3 m3 w3] 102)).alloc (HBR.out.alloc HBR.out.size (.cells #[.int .i64 yk, .string yn, .bool true, .slice u1 m1 w1, .slice u2 m2 w2, .slice u3 m3 w3] 102)).size (.cells #[.int .i64 yk, .string yn, .bool true, .slice u1 m1 w1, .slice u2 m2 w2, .slice u3 m3 w3] 102)).grown hgrow (by have := HSZ.out; simp; omega) (fun k hk => (HOO.out.lt k hk).1))
          obtain ⟨a6, cap6, rfl, _⟩ := own6.len
          have HO6 := Lib.hid (show Owns (tIn M tRSn) w6 X.heap.size 102 (.slice a6 ([((yk, ⟨yn, yt⟩) : Int × Sn)] ++ L).length cap6) (keepL s.keep.toNat (s.all.drop j)) by
            rw [HKX.out]
            exact own6)
          clear own6 hgrow HO HOO HSR
          go_wp2
          go_roundw
          case rel => exact ⟨j, by omega, rfl, by rw [HCX.out]; simp, HO6, HB6⟩
          case measure => simp [intOf] <;> omega
end Go.Proofs.YtnfolemblnnejaaGreat
