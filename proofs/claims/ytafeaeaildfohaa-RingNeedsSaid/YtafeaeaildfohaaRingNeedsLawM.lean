/- The statement RingNeedsSaid: for every input the law RingNeeds returns true and leaves its arguments as they were. -/
import Derived.Lib.SliceRun
import Derived.Outline
import Derived.Test.YtafeaeaildfohaaRf07
set_option linter.unusedVariables false
set_option linter.unusedSimpArgs false
/- slices.Clone and slices.DeleteFunc at facts. -/
namespace Go.Proofs.Ytafeaeaildfohaa
open Go.RowKit Go.Maps

section
variable {P : Program}
theorem zero_mem {z : Value} {sz n : Nat} (hz : z.cells.size = sz) (hsz : 0 < sz) {v : Value} (h : v ∈ (Builtin.zeroCells z.cells n).toList) : v ∈ z.cells.toList := by
  simp [Builtin.zeroCells] at h
  obtain ⟨a, _, rfl⟩ := h
  have hlt : a % z.cells.size < z.cells.size := Nat.mod_lt _ (by omega)
  rw [getElem!_pos z.cells _ hlt]
  simp
/-- clear of a slice whose elements are of whatever size. -/
theorem run_clear_k (w : World) (t e : TypeId) (z : Value) (sz : Nat) (ht : P.underlying t = some (.slice e)) (hv : ∀ w, (zeroValue e).run P w = .ok z w) (hz : z.cells.size = sz) (h1 : ∀ u ∈ z.cells.toList, u.oneCell' = true) (hsz : 0 < sz) (b o n c : Nat) (hn : 0 < n)
    (hc : ∀ j, j < n * sz → (w.cell? ⟨b, o + j, none⟩).isSome = true) (hf : ∀ j, w.frozen? ⟨b, j, none⟩ = false) :
    ∃ vs : List Value, ∀ ty, (Builtin.clear_ #[t] ty #[.slice (some ⟨b, o, none⟩) n c]).run P w = .ok (.tuple #[]) (w.setCells b o vs) := by
  have hl : (Builtin.zeroCells z.cells n).toList.length = n * sz := by simp [Builtin.zeroCells, hz]
  have hst := run_storeCells_cells (P := P) b o (Builtin.zeroCells z.cells n).toList 0 w (by rw [hl]; simpa using hc) (fun j _ => hf _) (by
    intro v hv'
    exact h1 v (zero_mem hz hsz hv'))
  simp only [Nat.add_zero] at hst
  obtain ⟨m, rfl⟩ : ∃ m, n = m + 1 := ⟨n - 1, by omega⟩
  exact ⟨(Builtin.zeroCells z.cells (m + 1)).toList, fun ty => by simp [Builtin.clear_, run_underlying ht, hv, hst]⟩
theorem cut_lo_at {T e : TypeId} {sz : Nat} (hT : P.underlying T = some (.slice e)) (hs : (P.info? e).map (·.size) = some sz) {g len cap n : Nat} (hn : n ≤ len) (hlc : len ≤ cap) (hm : cap ≤ maxLen) (h0 : 0 < cap) :
    ∀ w2, (Instr.slice T (.slice (some ⟨g, 0, none⟩) len cap) none (some (.int .i64 n)) none).run P w2 = .ok (.slice (some ⟨g, 0, none⟩) n cap) w2 := fun w2 => by
  have he : P.elem T = e := by simp [Program.elem, hT]
  unfold maxLen at hm
  rw [run_slice_h w2 T _ len cap (by rw [he]; exact hT) .i64 n (by omega) (by omega), he, size_run hs]
  simp only [Result.andThen_ok, sliced, Int.toNat_natCast, Nat.sub_zero]
  have hc : cap ≠ 0 := by omega
  simp [hc, Addr.add]
theorem cut_hi_at {T e : TypeId} {sz : Nat} (hT : P.underlying T = some (.slice e)) (hs : (P.info? e).map (·.size) = some sz) {g len cap n : Nat} (hn : n < len) (hlc : len ≤ cap) (hm : cap ≤ maxLen) :
    ∀ w2, (Instr.slice T (.slice (some ⟨g, 0, none⟩) len cap) (some (.int .i64 n)) none none).run P w2 = .ok (.slice (some ⟨g, n * sz, none⟩) (len - n) (cap - n)) w2 := fun w2 => by
  have he : P.elem T = e := by simp [Program.elem, hT]
  unfold maxLen at hm
  rw [run_slice_l w2 T _ len cap (by rw [he]; exact hT) .i64 n (by omega) (by omega), he, size_run hs]
  simp only [Result.andThen_ok, sliced, Int.toNat_natCast]
  have hc : cap ≠ n := by omega
  simp [hc, Addr.add]
  omega
end
theorem keeps_setCells (b : Nat) : ∀ (vs : List Value) (o : Nat) (w : World), Keeps (fun k => k = b) w (w.setCells b o vs)
  | [], _, w => Keeps.refl _ w
  | v :: r, o, w => ((Keeps.refl (fun k => k = b) w).setCell (p := ⟨b, o, none⟩) (fun _ => rfl) v).trans (keeps_setCells b r (o + 1) _)
/-- A row of facts from a block's first cell on. -/
def RowF (w : World) (g : Nat) (ys : List Fct) : Prop := ∀ k, (h : k < ys.length) → w.cell? ⟨g, k * 3, none⟩ = some (.string ys[k].n) ∧ w.cell? ⟨g, k * 3 + 1, none⟩ = some (.string ys[k].a) ∧ w.cell? ⟨g, k * 3 + 2, none⟩ = some (.string ys[k].b)
theorem RowF.there {w : World} {g : Nat} {ys : List Fct} (h : RowF w g ys) {j : Nat} (hj : j < ys.length * 3) : (w.cell? ⟨g, j, none⟩).isSome = true := by
  have hk : j / 3 < ys.length := by omega
  obtain ⟨h0, h1, h2⟩ := h (j / 3) hk
  have e : j = j / 3 * 3 + j % 3 := by omega
  have h3 : j % 3 = 0 ∨ j % 3 = 1 ∨ j % 3 = 2 := by omega
  rcases h3 with h3 | h3 | h3
  · rw [e, h3, Nat.add_zero, h0]; rfl
  · rw [e, h3, h1]; rfl
  · rw [e, h3, h2]; rfl
theorem RowF.set {w : World} {g : Nat} {ys : List Fct} (h : RowF w g ys) {i : Nat} (hi : i < ys.length) (x : Fct) : RowF (w.setCells g (i * 3) [.string x.n, .string x.a, .string x.b]) g (ys.set i x) := by
  intro k hk
  rw [List.length_set] at hk
  have hex : ∀ j, j < [Value.string x.n, .string x.a, .string x.b].length → (w.cell? ⟨g, i * 3 + j, none⟩).isSome = true := fun j hj => h.there (by simp at hj; omega)
  by_cases e : k = i
  · subst e
    have e0 := World.cell?_setCells_in g [.string x.n, .string x.a, .string x.b] (k * 3) w hex 0 (by simp)
    have e1 := World.cell?_setCells_in g [.string x.n, .string x.a, .string x.b] (k * 3) w hex 1 (by simp)
    have e2 := World.cell?_setCells_in g [.string x.n, .string x.a, .string x.b] (k * 3) w hex 2 (by simp)
    simp only [List.getElem_set_self]
    exact ⟨e0, e1, e2⟩
  · obtain ⟨h0, h1, h2⟩ := h k hk
    rw [List.getElem_set_ne (Ne.symm e)]
    have ho : ∀ j, j < 3 → (w.setCells g (i * 3) [.string x.n, .string x.a, .string x.b]).cell? ⟨g, k * 3 + j, none⟩ = w.cell? ⟨g, k * 3 + j, none⟩ := fun j hj =>
      World.cell?_setCells_out g _ _ w _ (fun _ _ => by show k * 3 + j < i * 3 ∨ i * 3 + 3 ≤ k * 3 + j; omega)
    exact ⟨(ho 0 (by omega)).trans h0, (ho 1 (by omega)).trans h1, (ho 2 (by omega)).trans h2⟩
theorem RowF.clear {w : World} {g : Nat} {ys : List Fct} (h : RowF w g ys) {i : Nat} (hi : i ≤ ys.length) (vs : List Value) : RowF (w.setCells g (i * 3) vs) g (ys.take i) := by
  intro k hk
  rw [List.length_take, Nat.min_eq_left hi] at hk
  obtain ⟨h0, h1, h2⟩ := h k (by omega)
  rw [List.getElem_take]
  have ho : ∀ j, j < 3 → (w.setCells g (i * 3) vs).cell? ⟨g, k * 3 + j, none⟩ = w.cell? ⟨g, k * 3 + j, none⟩ := fun j hj =>
    World.cell?_setCells_out g _ _ w _ (fun _ _ => .inl (by show k * 3 + j < i * 3; omega))
  exact ⟨(ho 0 (by omega)).trans h0, (ho 1 (by omega)).trans h1, (ho 2 (by omega)).trans h2⟩
theorem RowF.rv {w : World} {g c : Nat} {ys : List Fct} (h : RowF w g ys) (hok : ∀ x ∈ ys, okF x) (hc : ys.length ≤ c) (hm : c ≤ maxLen) {S : Nat → Prop} (hS : S g) : tFcts.rv ((mem w).on S) [.slice (some ⟨g, 0, none⟩) ys.length c] ys :=
  ⟨some ⟨g, 0, none⟩, c, rfl, hc, hm, fun _ => ⟨g, 0, rfl, fun k hk => ⟨[.string ys[k].n, .string ys[k].a, .string ys[k].b], fun j u hj => Mem.on_some (by
    obtain ⟨h0, h1, h2⟩ := h k hk
    rw [Nat.zero_add]
    match j, hj with
    | 0, hj => simp at hj; subst hj; exact h0
    | 1, hj => simp at hj; subst hj; exact h1
    | 2, hj => simp at hj; subst hj; exact h2) hS, rfl, hok _ (List.getElem_mem hk)⟩⟩⟩
structure DelSt (w : World) (g : Nat) (p : Fct → Bool) (xs : List Fct) (i j : Nat) (wr : World) : Prop where
  ex : ∃ ys : List Fct, ys.length = xs.length ∧ RowF wr g ys ∧ ys.take i = (xs.take j).filter (fun x => !p x) ∧ ys.drop j = xs.drop j
  kp : Keeps (fun k => k = g ∨ w.heap.size ≤ k) w wr
  fz : ∀ o, wr.frozen? ⟨g, o, none⟩ = false
  il : i = ((xs.take j).filter (fun x => !p x)).length
  lt : i < j
  gl : g < w.heap.size
section
variable {w wr w' : World} {g : Nat} {p : Fct → Bool} {xs : List Fct} {i j : Nat}
theorem DelSt.keeps (h : DelSt w g p xs i j wr) (hb : Below wr.heap.size wr w') : DelSt w g p xs i j w' := by
  obtain ⟨ys, h1, h2, h3, h4⟩ := h.ex
  have hgl : g < wr.heap.size := Nat.lt_of_lt_of_le h.gl h.kp.size
  refine ⟨⟨ys, h1, fun k hk => ?_, h3, h4⟩, h.kp.trans ((below_keeps hb).wide (fun k _ e => .inr (Nat.le_trans h.kp.size e))), fun o => ?_, h.il, h.lt, h.gl⟩
  · obtain ⟨a, b, c⟩ := h2 k hk
    exact ⟨below_mem hb _ _ _ a, below_mem hb _ _ _ b, below_mem hb _ _ _ c⟩
  · have := h.fz o
    simp only [World.frozen?, hb.block g hgl] at this ⊢
    exact this
theorem DelSt.at (h : DelSt w g p xs i j wr) (hj : j < xs.length) : wr.cell? ⟨g, j * 3, none⟩ = some (.string xs[j].n) ∧ wr.cell? ⟨g, j * 3 + 1, none⟩ = some (.string xs[j].a) ∧ wr.cell? ⟨g, j * 3 + 2, none⟩ = some (.string xs[j].b) := by
  obtain ⟨ys, h1, h2, h3, h4⟩ := h.ex
  have e : ys[j]'(by omega) = xs[j] := by
    have h5 : (ys.drop j)[0]'(by simp; omega) = (xs.drop j)[0]'(by simp; omega) := by simp only [h4]
    simpa using h5
  have := h2 j (by omega)
  rwa [e] at this
theorem DelSt.drop (h : DelSt w g p xs i j wr) (hj : j < xs.length) (hp : p xs[j] = true) : DelSt w g p xs i (j + 1) wr := by
  obtain ⟨ys, h1, h2, h3, h4⟩ := h.ex
  have e : (xs.take (j + 1)).filter (fun x => !p x) = (xs.take j).filter (fun x => !p x) := filt_take_no hj (by rw [hp]; rfl)
  refine ⟨⟨ys, h1, h2, by rw [e]; exact h3, ?_⟩, h.kp, h.fz, by rw [e]; exact h.il, Nat.lt_succ_of_lt h.lt, h.gl⟩
  have := congrArg (List.drop 1) h4
  simpa [List.drop_drop, Nat.add_comm] using this
theorem DelSt.keep (h : DelSt w g p xs i j wr) (hj : j < xs.length) (hp : p xs[j] = false) : DelSt w g p xs (i + 1) (j + 1) (wr.setCells g (i * 3) [.string xs[j].n, .string xs[j].a, .string xs[j].b]) := by
  obtain ⟨ys, h1, h2, h3, h4⟩ := h.ex
  have hl := h.lt
  have e : (xs.take (j + 1)).filter (fun x => !p x) = (xs.take j).filter (fun x => !p x) ++ [xs[j]] := filt_take_yes hj (by rw [hp]; rfl)
  refine ⟨⟨ys.set i xs[j], by rw [List.length_set]; exact h1, h2.set (by omega) _, ?_, ?_⟩, h.kp.trans ((keeps_setCells g _ _ _).wide (fun k _ e => .inl e)), fun o => by rw [World.frozen?_setCells]; exact h.fz o, ?_, by omega, h.gl⟩
  · rw [e, ← h3, List.take_succ_eq_append_getElem (by rw [List.length_set]; omega), List.getElem_set_self, List.take_set_of_le (Nat.le_refl _)]
  · rw [List.drop_set_of_lt (by omega)]
    have := congrArg (List.drop 1) h4
    simpa [List.drop_drop, Nat.add_comm] using this
  · rw [e, List.length_append, ← h.il]; rfl
theorem DelSt.start (hr : RowF w g xs) (hfz : ∀ o, w.frozen? ⟨g, o, none⟩ = false) (hgl : g < w.heap.size) (hk : Keeps (fun k => k = g ∨ w.heap.size ≤ k) w w') (hb : Below w.heap.size w w') {k : Nat} (h : k < xs.length) (hp : p xs[k] = true) (hn : ∀ x ∈ xs.take k, p x = false) : DelSt w g p xs k (k + 1) w' := by
  have e : (xs.take k).filter (fun x => !p x) = xs.take k := List.filter_eq_self.2 (fun x hx => by rw [hn x hx]; rfl)
  have e2 : (xs.take (k + 1)).filter (fun x => !p x) = xs.take k := by rw [filt_take_no h (by rw [hp]; rfl), e]
  refine ⟨⟨xs, rfl, fun j hj => ?_, by rw [e2], rfl⟩, hk, fun o => ?_, by rw [e2, List.length_take]; omega, Nat.lt_succ_self _, hgl⟩
  · obtain ⟨a, b, c⟩ := hr j hj
    exact ⟨below_mem hb _ _ _ a, below_mem hb _ _ _ b, below_mem hb _ _ _ c⟩
  · have := hfz o
    simp only [World.frozen?, hb.block g hgl] at this ⊢
    exact this
end
theorem zeroFct (w : World) : (zeroValue 33).run Try.prog w = .ok (.agg #[.string .empty, .string .empty, .string .empty]) w := Try.zeroValue33 w
theorem DelSt.cellsAt {w wr : World} {g : Nat} {p : Fct → Bool} {xs : List Fct} {i j : Nat} (h : DelSt w g p xs i j wr) (hi : i < xs.length) :
    ∃ y0 y1 y2, wr.cell? ⟨g, i * 3, none⟩ = some y0 ∧ wr.cell? ⟨g, i * 3 + 1, none⟩ = some y1 ∧ wr.cell? ⟨g, i * 3 + 2, none⟩ = some y2 ∧ wr.frozen? ⟨g, i * 3, none⟩ = false ∧ wr.frozen? ⟨g, i * 3 + 1, none⟩ = false ∧ wr.frozen? ⟨g, i * 3 + 2, none⟩ = false := by
  obtain ⟨ys, h1, h2, h3, h4⟩ := h.ex
  obtain ⟨a, b, c⟩ := h2 i (by omega)
  exact ⟨_, _, _, a, b, c, h.fz _, h.fz _, h.fz _⟩
theorem DelSt.clr {w wr : World} {g : Nat} {p : Fct → Bool} {xs : List Fct} {i : Nat} (h : DelSt w g p xs i xs.length wr) {c : Nat} :
    ∃ vs : List Value, ∀ ty, (Builtin.clear_ #[23] ty #[.slice (some ⟨g, i * 3, none⟩) (xs.length - i) c]).run Try.prog wr = .ok (.tuple #[]) (wr.setCells g (i * 3) vs) := by
  obtain ⟨ys, h1, h2, h3, h4⟩ := h.ex
  have hl := h.lt
  exact run_clear_k wr 23 33 (.agg #[.string .empty, .string .empty, .string .empty]) 3 Try.underlying23 zeroFct rfl (fun u hu => by simp [Value.cells] at hu; subst hu; rfl) (by omega) g (i * 3) (xs.length - i) c (by omega) (fun j hj => h2.there (by omega)) h.fz
theorem DelSt.res {w wr : World} {g B cap : Nat} {p : Fct → Bool} {xs : List Fct} {i : Nat} (h : DelSt w g p xs i xs.length wr) (hok : ∀ x ∈ xs, okF x) (hgB : B ≤ g) (hlc : xs.length ≤ cap) (hm : cap ≤ maxLen) (vs : List Value) :
    tFcts.rv ((mem (wr.setCells g (i * 3) vs)).on (B ≤ ·)) [.slice (some ⟨g, 0, none⟩) i cap] (xs.filter fun x => !p x) := by
  obtain ⟨ys, h1, h2, h3, h4⟩ := h.ex
  have hl := h.lt
  rw [List.take_length] at h3
  have hr := h2.clear (i := i) (by omega) vs
  rw [h3] at hr
  have hi : i = (xs.filter fun x => !p x).length := by have := h.il; rwa [List.take_length] at this
  have := hr.rv (c := cap) (S := (B ≤ ·)) (fun x hx => hok x (List.mem_filter.1 hx).1) (by omega) hm hgB
  rwa [← hi] at this
theorem filter_all {p : Fct → Bool} {xs : List Fct} (h : ∀ x ∈ xs, p x = false) : xs.filter (fun x => !p x) = xs := List.filter_eq_self.2 (fun x hx => by rw [h x hx]; rfl)
theorem idxOf_neg {p : Fct → Bool} {xs : List Fct} (h : ∀ x ∈ xs, p x = false) : idxOf p xs = -1 := idxOf_none h
theorem any_split (p : Fct → Bool) (xs : List Fct) : (∀ x ∈ xs, p x = false) ∨ ∃ k, ∃ h : k < xs.length, p xs[k] = true ∧ ∀ x ∈ xs.take k, p x = false := by
  induction xs with
  | nil => exact .inl (by simp)
  | cons x xs ih =>
    cases hx : p x with
    | true => exact .inr ⟨0, by simp, hx, by simp⟩
    | false =>
      rcases ih with ih | ⟨k, hk, h1, h2⟩
      · exact .inl (by simpa [hx] using ih)
      · exact .inr ⟨k + 1, by simpa using hk, by simpa using h1, by simpa [hx] using h2⟩
set_option maxRecDepth 100000 in
set_option maxHeartbeats 1000000 in
theorem cloneFcts_any (xs : List Fct) (v : Value) (w : World) (hv : tFcts.rv (mem w) [v] xs) (h8 : xs.length ≤ 1000000) :
    Calls Try.prog 49 #[v] w fun e w' => ∃ x, e = .returned x ∧ Owns tFct w' w.heap.size 33 x xs ∧ Below w.heap.size w w' := by
  have hb0 : ∀ o, Below w.heap.size w (w.alloc o) := fun o => (Below.refl _ _).alloc (Nat.le_refl _) o
  have hown : ∀ T, T = 33 → Owns tFct (w.alloc (.cells #[] T)) w.heap.size 33 (.slice (some ⟨w.heap.size, 0, none⟩) 0 0) [] := fun T hT => by
    subst hT
    exact ⟨[], rfl, World.ownsRow_lit w #[] 0 (Nat.le_refl _) (Nat.zero_le _) (by simp), fun c h => absurd h (by simp), fun k h => absurd h (by simp)⟩
  obtain ⟨a1, cap1, rfl, hl1, hm1, hv⟩ := slice_form hv
  have HV := Lib.hid (fun o => (tFcts.mono _ _ _ _ (below_mem (hb0 o)) hv : tFcts.rv (mem (w.alloc o)) _ xs))
  cases a1 with
  | none =>
    have h0 : xs = [] := by
      cases xs with
      | nil => rfl
      | cons x l => obtain ⟨b, o, e, _⟩ := slice_at hv (k := 0) (by simp); cases e
    subst h0
    clear hm1 hv HV
    have hq := fun w => Lib.run_eql_slice_nil (P := Try.prog) w 23 _ none 0 cap1 0 0 Try.underlying23
    go_enter Try.func49, Try.ntmps49
    go_wp2
    go_ret
    exact ⟨_, rfl, Owns.nil _ _ _ _, Below.refl _ _⟩
  | some ad =>
    clear hm1 hv
    have hq := fun w => Lib.run_eql_slice_nil (P := Try.prog) w 23 _ (some ad) xs.length cap1 0 0 Try.underlying23
    go_enter Try.func49, Try.ntmps49
    go_wp2_with (at_builtin; refine wpList_append_flat rfl _ _ 23 rfl tFct_flat tFct_oneW Try.underlying23 infoFct rfl (by decide) w.heap.size _ [] xs rfl (hown _ rfl) _ _ _ rfl rfl (HV.out _) ?c1 ?c2 ?c3 ?_)
    case c1 => simp; unfold maxLen; omega
    case c2 => simp; omega
    case c3 => simp
    intro v' w2 hown' hgrow
    have hB : Below w.heap.size w w2 := (hb0 _).grown hgrow (by simp) (fun k hk => by simp [Value.ownBlock] at hk; omega)
    obtain ⟨a', cap', rfl, _⟩ := hown'.len
    clear hown hgrow HV
    go_wp2
    go_ret
    exact ⟨_, rfl, hown', hB⟩

theorem owns_row {w : World} {B : Nat} {v : Value} {xs : List Fct} (h : Owns tFct w B 33 v xs) (h0 : 0 < xs.length) : ∃ g cap, v = .slice (some ⟨g, 0, none⟩) xs.length cap ∧ xs.length ≤ cap ∧ cap ≤ maxLen ∧ B ≤ g ∧ g < w.heap.size ∧ RowF w g xs ∧ (∀ o, w.frozen? ⟨g, o, none⟩ = false) := by
  have hrv := h.rv'
  have hok := fcts_okAll hrv
  obtain ⟨css, h1, ⟨h2, h3⟩, h4, h5⟩ := h
  rcases h3 with ⟨rfl, h6⟩ | ⟨g, cap, cur, rfl, hg, hh, hn, hm, hc, ht⟩
  · rw [h6] at h0; cases h0
  · refine ⟨g, cap, rfl, hn, hm, hg, (Array.getElem?_eq_some_iff.1 hh).1, fun k hk => ?_, fun o => frozen_cells hh o⟩
    obtain ⟨b, o, e, ⟨q0, q1, q2⟩, -⟩ := fcts_at hrv hk
    injection e with e
    injection e with e1 e2
    subst e1; subst e2
    simp only [Nat.zero_add] at q0 q1 q2
    exact ⟨q0, q1, q2⟩
set_option maxRecDepth 100000 in
set_option maxHeartbeats 8000000 in
/-- slices.DeleteFunc at facts, of a row of the call's own. -/
theorem deleteFct_any (Fn : FuncId) (capt : Array Value) (p : Fct → Bool) (xs : List Fct) (v : Value) (B : Nat) (w : World) (hv : Owns tFct w B 33 v xs) (hB : B ≤ w.heap.size) (hlen : xs.length ≤ 1000000000)
    (hcf : ∀ args w, Sem.run Try.prog (callFunc Fn args) w = .ok (.enter Fn args) w)
    (hf : ∀ x : Fct, okF x → ∀ wr, Keeps (fun k => v.ownBlock = some k ∨ w.heap.size ≤ k) w wr → Calls Try.prog Fn (#[x.v] ++ capt) wr fun e w' => e = .returned (.bool (p x)) ∧ Below wr.heap.size wr w') :
    Calls Try.prog 48 #[v, .func (.func Fn) #[] capt] w fun e w' => ∃ v', e = .returned v' ∧ tFcts.rv ((mem w').on (B ≤ ·)) [v'] (xs.filter fun x => !p x) ∧ Below B w w' := by
  have HI := Lib.hid (indexFuncFct Fn capt p xs v w hv.rv' hcf (fun x hx wr hb => hf x hx wr ((below_keeps hb).wide (fun k _ e => .inr e))))
  have HOKA := Lib.hid (fcts_okAll hv.rv')
  rcases any_split p xs with hno | ⟨k0, hk0, hp0, hn0⟩
  · rw [idxOf_neg hno] at HI
    have HR := Lib.hid (fun (w' : World) (hb : Below w.heap.size w w') => (show tFcts.rv ((mem w').on (B ≤ ·)) [v] (xs.filter fun x => !p x) from by rw [filter_all hno]; exact (hv.keeps hb).rv (fun b h => h) (fun _ cs _ h => tFct_flat _ _ _ _ h)))
    obtain ⟨a, c, rfl, -⟩ := hv.len
    clear hno hf hcf hv HOKA
    go_enter Try.func48, Try.ntmps48
    go_wp2_with fail
    refine HI.out.mono ?_
    rintro e w1 ⟨rfl, hb1⟩
    have HE := Lib.hid (HR.out w1 hb1)
    have HB1 := Lib.hid (hb1.mono hB)
    clear hb1 HR HI
    go_wp2
    go_ret
    exact ⟨_, rfl, HE.out, HB1.out⟩
  · obtain ⟨g, cap, rfl, hlc, hm, hgB, hgl, hrow, hfz⟩ := owns_row hv (by omega)
    rw [idxOf_at hk0 hp0 hn0] at HI
    have HST := Lib.hid (fun w' (hb : Below w.heap.size w w') => DelSt.start (p := p) hrow hfz hgl ((below_keeps hb).wide (fun k _ e => .inr e)) hb hk0 hp0 hn0)
    have HF := Lib.hid (fun x hx wr (hk : Keeps (fun k => k = g ∨ w.heap.size ≤ k) w wr) => hf x hx wr (hk.wide (fun k _ e => by rcases e with e | e; exact .inl (by rw [e]; rfl); exact .inr e)))
    have HM := Lib.hid hm
    have hcap : cap ≤ 9223372036854775807 := by unfold maxLen at hm; exact hm
    clear hf hv hrow hfz hp0 hn0 hm
    go_enter Try.func48, Try.ntmps48
    go_wp2_with fail
    refine HI.out.mono ?_
    rintro e w1 ⟨rfl, hb1⟩
    have HST1 := Lib.hid (HST.out w1 hb1)
    clear HST HI hb1
    have hk1 : ((k0 : Int) == -1) = false := by rw [beq_eq_false_iff_ne]; omega
    go_wp2_with fail
    go_loopw [5, 6] (fun iv jv wr => ∃ i j : Nat, j ≤ xs.length ∧ iv = .int .i64 i ∧ jv = .int .i64 j ∧ Hid (DelSt w g p xs i j wr)) (fun _ jv _ => xs.length - (intOf jv).toNat)
    case atStart => exact ⟨k0, k0 + 1, by omega, rfl, by go_num, HST1⟩
    case round =>
      clear HST1
      obtain ⟨i, j, hj, rfl, rfl, HS⟩ := hrel
      have hij : i < j := HS.out.lt
      by_cases hlt : j < xs.length
      · obtain ⟨q0, q1, q2⟩ := HS.out.at hlt
        have c0 : wr.cell? ⟨g, j * 3, none⟩ = some (.string xs[j].n) := q0
        have c1 : wr.cell? ⟨g, j * 3 + 1, none⟩ = some (.string xs[j].a) := q1
        have c2 : wr.cell? ⟨g, j * 3 + 2, none⟩ = some (.string xs[j].b) := q2
        have HBB := Lib.hid (boxW wr)
        have HCALL := Lib.hid (fun o => HF.out xs[j] (HOKA.out _ (List.getElem_mem hlt)) (wr.alloc o) ((HS.out.kp).alloc o))
        have HKEEP := Lib.hid (fun (w' : World) (hb : Below wr.heap.size wr w') (e : p xs[j] = false) => (HS.out.keeps hb).keep hlt e)
        have HDROP := Lib.hid (fun (w' : World) (hb : Below wr.heap.size wr w') (e : p xs[j] = true) => (HS.out.keeps hb).drop hlt e)
        have HNEW := Lib.hid (fun o => heap_alloc_new wr o)
        have HII := Lib.hid (fun (w' : World) (hb : Below wr.heap.size wr w') => (HS.out.keeps hb))
        have HIJ := Lib.hid (fun (w' : World) (hb : Below wr.heap.size wr w') => (HII.out w' hb).cellsAt (show i < xs.length by omega))
        clear q0 q1 q2 HS
        generalize xs[j] = x at *
        generalize hpx : p x = t at *
        clear hpx
        obtain ⟨x1, x2, x3⟩ := x
        simp only at c0 c1 c2 HKEEP
        go_wp2_with fail
        refine (HCALL.out _).mono ?_
        rintro e w2 ⟨rfl, hb2⟩
        have hbx := (hb2.block wr.heap.size (by simp)).trans (HNEW.out _)
        have HB2 := Lib.hid (pure_trans (HBB.out _) hb2)
        have d0 : w2.cell? ⟨wr.heap.size, 0, none⟩ = some (.string x1) := mem_cells hbx 0
        have d1 : w2.cell? ⟨wr.heap.size, 1, none⟩ = some (.string x2) := mem_cells hbx 1
        have d2 : w2.cell? ⟨wr.heap.size, 2, none⟩ = some (.string x3) := mem_cells hbx 2
        have hlt2 : wr.heap.size < w2.heap.size := (Array.getElem?_eq_some_iff.1 hbx).1
        clear hb2 hbx HCALL HNEW HBB c0 c1 c2
        cases t with
        | true =>
          have HD := Lib.hid (HDROP.out w2 HB2.out rfl)
          clear HKEEP HDROP HIJ HII d0 d1 d2
          go_wp2
          go_roundw
          case rel => exact ⟨i, j + 1, by omega, rfl, by go_num, HD⟩
          case measure => simp [intOf]; omega
        | false =>
          have HD := Lib.hid (HKEEP.out w2 HB2.out rfl)
          obtain ⟨y0, y1, y2, e0, e1, e2, z0, z1, z2⟩ := HIJ.out w2 HB2.out
          have hi0 : (0 : Int) ≤ (i : Int) := by omega
          have hi1 : (i : Int) < (xs.length : Int) := by omega
          have hi2 : i < xs.length := by omega
          clear HKEEP HDROP HIJ HII
          go_wp2_with fail
          go_roundw
          case rel => exact ⟨i + 1, j + 1, by omega, by go_num, by go_num, HD⟩
          case measure => simp [intOf]; omega
      · obtain rfl : j = xs.length := by omega
        have hi2 : i < xs.length := hij
        obtain ⟨vs, hcl⟩ := HS.out.clr (c := cap - i)
        have hs1 : ∀ w2, (Instr.slice 23 (.slice (some ⟨g, 0, none⟩) xs.length cap) (some (.int .i64 i)) none none).run Try.prog w2 = .ok (.slice (some ⟨g, i * 3, none⟩) (xs.length - i) (cap - i)) w2 := cut_hi_at (P := Try.prog) (T := 23) Try.underlying23 fctSize (g := g) (cap := cap) hij hlc HM.out
        have hs2 := cut_lo_at (P := Try.prog) (T := 23) Try.underlying23 fctSize (g := g) (cap := cap) (Nat.le_of_lt hij) hlc HM.out (by omega)
        have HEE := Lib.hid (show tFcts.rv ((mem (wr.setCells g (i * 3) vs)).on (B ≤ ·)) [.slice (some ⟨g, 0, none⟩) i cap] (xs.filter fun x => !p x) from HS.out.res HOKA.out hgB hlc HM.out vs)
        have HBE := Lib.hid (show Below B w (wr.setCells g (i * 3) vs) from (HS.out.kp.trans ((keeps_setCells g vs (i * 3) wr).wide (fun k _ e => .inl e))).below hB (fun k e => by rcases e with e | e; omega; omega))
        clear HS
        go_wp2_with fail
        go_ret
        exact ⟨_, rfl, HEE.out, HBE.out⟩
end Go.Proofs.Ytafeaeaildfohaa
/- Without which given facts a fact does not follow: plain; the set as it grows; the closure. -/
namespace Go.Proofs.Ytafeaeaildfohaa
open Go.RowKit Go.Maps

/-- The other facts. -/
def others (l : List Fct) (g : Fct) : List Fct := l.filter fun x => !decide (x = g)
theorem others_mem {l : List Fct} {g x : Fct} (h : x ∈ others l g) : x ∈ l := (List.mem_filter.1 h).1
theorem others_less (l : List Fct) (g : Fct) : lessF l [g] = others l g := by
  unfold lessF others
  congr 1
  funext x
  simp
/-- Whether a fact does not follow of the other facts. -/
def needB (rules : List Rul) (l : List Fct) (f g : Fct) : Bool := match followR rules (others l g) with
  | none => true
  | some M => !decide (f ∈ keysR M)
def codeN (rules : List Rul) (l : List Fct) (f : Fct) : Int := if (validP rules && (validG l && validF f)) = false then 1 else match followR rules l with
  | none => 4
  | some M => if f ∈ keysR M then 0 else 8
def factsN (rules : List Rul) (l : List Fct) (f : Fct) : List Fct := if (validP rules && (validG l && validF f)) = false then [] else match followR rules l with
  | none => []
  | some M => if f ∈ keysR M then srt (l.filter (needB rules l f)) else []
def NeedU (rules : List Rul) (l : List Fct) (f : Fct) (w : World) (e : Ending) (w' : World) : Prop := ∃ v, e = .returned (.tuple #[v, .int .i64 (codeN rules l f)]) ∧ tFcts.rv (mem w') [v] (factsN rules l f) ∧ Below w.heap.size w w'
theorem NeedU.bad {rules : List Rul} {l : List Fct} {f : Fct} {w w' : World} (h : (validP rules && (validG l && validF f)) = false) (hb : Below w.heap.size w w') : NeedU rules l f w (.returned (.tuple #[.slice none 0 0, .int .i64 1])) w' :=
  ⟨_, by unfold codeN; rw [if_pos h], by unfold factsN; rw [if_pos h]; exact slice_nil _ _, hb⟩
theorem NeedU.big {rules : List Rul} {l : List Fct} {f : Fct} {w w' : World} (h : (validP rules && (validG l && validF f)) = true) (hf : followR rules l = none) (hb : Below w.heap.size w w') : NeedU rules l f w (.returned (.tuple #[.slice none 0 0, .int .i64 4])) w' :=
  ⟨_, by unfold codeN; rw [if_neg (by rw [h]; simp), hf], by unfold factsN; rw [if_neg (by rw [h]; simp), hf]; exact slice_nil _ _, hb⟩
theorem NeedU.no {rules : List Rul} {l : List Fct} {f : Fct} {w w' : World} {M : Rnds} (h : (validP rules && (validG l && validF f)) = true) (hf : followR rules l = some M) (hm : f ∉ keysR M) (hb : Below w.heap.size w w') : NeedU rules l f w (.returned (.tuple #[.slice none 0 0, .int .i64 8])) w' :=
  ⟨.slice none 0 0, by unfold codeN; rw [if_neg (by rw [h]; simp), hf]; simp only [if_neg hm], by unfold factsN; rw [if_neg (by rw [h]; simp), hf]; simp only [if_neg hm]; exact slice_nil _ _, hb⟩
theorem NeedU.yes {rules : List Rul} {l : List Fct} {f : Fct} {w w' : World} {M : Rnds} {v : Value} (h : (validP rules && (validG l && validF f)) = true) (hf : followR rules l = some M) (hm : f ∈ keysR M) (hv : tFcts.rv (mem w') [v] (srt (l.filter (needB rules l f)))) (hb : Below w.heap.size w w') : NeedU rules l f w (.returned (.tuple #[v, .int .i64 0])) w' :=
  ⟨v, by unfold codeN; rw [if_neg (by rw [h]; simp), hf]; simp only [if_pos hm], by unfold factsN; rw [if_neg (by rw [h]; simp), hf]; simp only [if_pos hm]; exact hv, hb⟩
theorem start_snoc (l : List Fct) (x : Fct) : startR (l ++ [x]) = addR 0 (startR l) x := by unfold startR; rw [addsR_append]; rfl
theorem filtB_yes {P : Fct → Bool} {l : List Fct} {k : Nat} (h : k < l.length) (e : P l[k] = true) : (l.take (k + 1)).filter P = (l.take k).filter P ++ [l[k]] := filt_take_yes h e
theorem filtB_no {P : Fct → Bool} {l : List Fct} {k : Nat} (h : k < l.length) (e : P l[k] = false) : (l.take (k + 1)).filter P = (l.take k).filter P := filt_take_no h e
/-- The set of the needed facts, as it grows. -/
structure NS (w : World) (fcs : Array Value) (mb : Nat) (nl : List Fct) (wr : World) : Prop where
  bl : Below w.heap.size w wr
  mm : FM wr mb (startR nl).length (lkR (startR nl))
  ok : ∀ x ∈ keysR (startR nl), okF x
  bx : wr.heap[w.heap.size]? = some (.cells fcs 33 (0, 0))
  gm : w.heap.size < mb
theorem NS.lt {w wr : World} {cs : Array Value} {mb : Nat} {nl : List Fct} (h : NS w cs mb nl wr) : mb < wr.heap.size := MapOf.lt h.mm
theorem NS.keeps {w wr w' : World} {cs : Array Value} {mb : Nat} {nl : List Fct} (h : NS w cs mb nl wr) (hk : Below wr.heap.size wr w') : NS w cs mb nl w' := by
  have := h.lt
  have := h.gm
  exact ⟨h.bl.trans (hk.mono (by omega)), h.mm.at (hk.block _ h.lt), h.ok, (hk.block _ (by omega)).trans h.bx, h.gm⟩
theorem NS.put {w wr : World} {cs : Array Value} {mb : Nat} {nl : List Fct} (h : NS w cs mb nl wr) (hl : nl.length ≤ 1000) {x : Fct} (hx : okF x) :
    ∃ W', (Instr.mapUpdate 56 (.map (some mb)) x.v (.int .i64 0)).run Try.prog wr = .ok () W' ∧ NS w cs mb (nl ++ [x]) W' := by
  obtain ⟨w6, hput, hfm, hgr⟩ := FM.put0 h.mm (start_nodup _) h.ok (by have := start_len nl; omega) hx (start_zero _)
  rw [← start_snoc nl x] at hfm
  have hlt := h.lt
  have hgm := h.gm
  refine ⟨w6, hput, Below.grown h.bl hgr (by omega) (fun j hj => by cases hj; omega), hfm, fun y hy => ?_, (hgr.block _ (by omega) (fun e => by injection e with e; omega)).trans h.bx, h.gm⟩
  rw [start_snoc] at hy
  rcases (keys_addR _ _ _ _).1 hy with e | e
  · exact h.ok y e
  · rw [e]; exact hx
set_option maxRecDepth 100000 in
set_option maxHeartbeats 2000000 in
theorem need1_any (x y : Fct) (bk : Nat) (w : World) (h0 : w.cell? ⟨bk, 0, none⟩ = some (.string y.n)) (h1 : w.cell? ⟨bk, 1, none⟩ = some (.string y.a)) (h2 : w.cell? ⟨bk, 2, none⟩ = some (.string y.b)) :
    Calls Try.prog 50 #[x.v, ptr0 bk] w fun e w' => e = .returned (.bool (decide (x = y))) ∧ Below w.heap.size w w' := by
  have HB0 := Lib.hid (boxW w)
  have HE := Lib.hid (fct_eqB x y)
  obtain ⟨x1, x2, x3⟩ := x
  obtain ⟨y1, y2, y3⟩ := y
  have n0 : ∀ o, (w.alloc o).cell? ⟨bk, 0, none⟩ = some (.string y1) := fun o => below_mem (HB0.out o) _ _ _ h0
  have n1 : ∀ o, (w.alloc o).cell? ⟨bk, 1, none⟩ = some (.string y2) := fun o => below_mem (HB0.out o) _ _ _ h1
  have n2 : ∀ o, (w.alloc o).cell? ⟨bk, 2, none⟩ = some (.string y3) := fun o => below_mem (HB0.out o) _ _ _ h2
  clear h0 h1 h2
  cases g1 : (x1.toList == y1.toList) <;> cases g2 : (x2.toList == y2.toList) <;> cases g3 : (x3.toList == y3.toList)
  all_goals
    have HQ := Lib.hid (HE.out.trans (by rw [g1, g2, g3]))
    clear HE
    go_enter Try.func50, Try.ntmps50
    go_wp2
    go_ret
    exact ⟨by rw [HQ.out]; rfl, HB0.out _⟩
end Go.Proofs.Ytafeaeaildfohaa
/- ring.Needed. -/
namespace Go.Proofs.Ytafeaeaildfohaa
open Go.RowKit Go.Maps

set_option maxRecDepth 100000 in
set_option maxHeartbeats 8000000 in
theorem ringNeeded_any (rules : List Rul) (l : List Fct) (f : Fct) (rv fv : Value) (w : World) (hr : tRuls.rv (mem w) [rv] rules) (hf : tFcts.rv (mem w) [fv] l) (hok : okF f) :
    Calls Try.prog 21 #[rv, fv, f.v] w (NeedU rules l f w) := by
  have HP := Lib.hid (fun w' (hb : Below w.heap.size w w') => ringProgram_any rules rv w' (tRuls.mono _ _ _ _ (below_mem hb) hr))
  have HG := Lib.hid (fun w' (hb : Below w.heap.size w w') => ringGiven_any l fv w' (tFcts.mono _ _ _ _ (below_mem hb) hf))
  have HV := Lib.hid (fun w' => ringFact_any f w' hok)
  have HF := Lib.hid (fun w' (hb : Below w.heap.size w w') (h1 : validP rules = true) (h2 : validG l = true) => follow_any rules l rv fv w' (tRuls.mono _ _ _ _ (below_mem hb) hr) (tFcts.mono _ _ _ _ (below_mem hb) hf) (by have := validG_len h2; omega) (validP_body h1))
  have HFO := Lib.hid (fun (rest : List Fct) (sv : Value) w' (hb : Below w.heap.size w w') (h1 : validP rules = true) (h2 : rest.length ≤ 60) (hs : tFcts.rv (mem w') [sv] rest) => follow_any rules rest rv sv w' (tRuls.mono _ _ _ _ (below_mem hb) hr) hs (by omega) (validP_body h1))
  have HCL := Lib.hid (fun w' (hb : Below w.heap.size w w') (h : l.length ≤ 60) => cloneFcts_any l fv w' (tFcts.mono _ _ _ _ (below_mem hb) hf) (by omega))
  obtain ⟨ar, cr, rfl, -⟩ := slice_form hr
  obtain ⟨af, cf, rfl, hlf, hmf, -⟩ := slice_form hf
  have hcf : cf ≤ 9223372036854775807 := by unfold maxLen at hmf; exact hmf
  have HL := Lib.hid (fun wr (hb : Below w.heap.size w wr) => tFcts.mono _ _ _ _ (below_mem hb) hf)
  have HOK := Lib.hid hok
  obtain ⟨fcs, hfcs⟩ : ∃ fcs : Array Value, fcs = #[.string f.n, .string f.a, .string f.b] := ⟨_, rfl⟩
  have HFC := Lib.hid hfcs
  obtain ⟨X, hX⟩ : ∃ X, X = w.alloc (.cells fcs 33) := ⟨_, rfl⟩
  have HX := Lib.hid hX
  have HBX := Lib.hid (show Below w.heap.size w X from by rw [hX]; exact boxW w _)
  have HCX := Lib.hid (show X.heap[w.heap.size]? = some (.cells fcs 33 (0, 0)) from by rw [hX]; exact heap_alloc_new w _)
  have HCB := Lib.hid (fun (w' : World) (hb : Below X.heap.size X w') => (show w'.cell? ⟨w.heap.size, 0, none⟩ = some (.string f.n) ∧ w'.cell? ⟨w.heap.size, 1, none⟩ = some (.string f.a) ∧ w'.cell? ⟨w.heap.size, 2, none⟩ = some (.string f.b) from by
    have hb2 := (hb.block _ (Array.getElem?_eq_some_iff.1 HCX.out).1).trans HCX.out
    rw [HFC.out] at hb2
    exact ⟨mem_cells hb2 0, mem_cells hb2 1, mem_cells hb2 2⟩))
  rw [hfcs] at hX
  have HX2 := Lib.hid hX
  have hXs : w.heap.size < X.heap.size := (Array.getElem?_eq_some_iff.1 HCX.out).1
  clear hr hf hok hmf hfcs hX
  go_enter Try.func21, Try.ntmps21
  go_wp2_with fail
  rw [← HX2.out]
  refine (HP.out X HBX.out).mono ?_
  rintro e w1 ⟨rfl, hb1⟩
  cases hp : validP rules with
  | false =>
    have HE := Lib.hid (NeedU.bad (rules := rules) (l := l) (f := f) (by rw [hp]; rfl) (pure_trans HBX.out hb1))
    clear HP HG HF HV HFO HCL hp
    go_wp2
    go_ret2
    exact HE.out
  | true =>
  go_wp2_with fail
  refine (HG.out w1 (pure_trans HBX.out hb1)).mono ?_
  rintro e w2 ⟨rfl, hb2⟩
  have hb2 := pure_trans hb1 hb2
  cases hg : validG l with
  | false =>
    have HE := Lib.hid (NeedU.bad (rules := rules) (l := l) (f := f) (by rw [hp, hg]; rfl) (pure_trans HBX.out hb2))
    clear HP HG HF HV HFO HCL hp
    go_wp2
    go_ret2
    exact HE.out
  | true =>
  obtain ⟨c0, c1, c2⟩ := HCB.out w2 hb2
  go_wp2_with fail
  refine (HV.out w2).mono ?_
  rintro e w3 ⟨rfl, hb3⟩
  have hb3 := pure_trans hb2 hb3
  cases hv : validF f with
  | false =>
    have HE := Lib.hid (NeedU.bad (rules := rules) (l := l) (f := f) (by rw [hp, hg, hv]; rfl) (pure_trans HBX.out hb3))
    clear HP HG HF HV HFO HCL hp c0 c1 c2
    go_wp2
    go_ret2
    exact HE.out
  | true =>
  clear c0 c1 c2
  go_wp2_with fail
  refine (HF.out w3 (pure_trans HBX.out hb3) hp hg).mono ?_
  rintro e w4 ⟨hb4, h⟩
  have HB4 := Lib.hid (pure_trans hb3 hb4)
  have HVV := Lib.hid (show (validP rules && (validG l && validF f)) = true by rw [hp, hg, hv]; rfl)
  have HPP := Lib.hid hp
  have HLL := Lib.hid (validG_len hg)
  clear hb1 hb2 hb3 hb4 HP HG HF HV hp hg hv
  rcases h with ⟨h0, rfl⟩ | ⟨M, mb, h0, rfl, h1, h2, h3, h4⟩
  · have HE := Lib.hid (NeedU.big HVV.out h0 (pure_trans HBX.out HB4.out))
    clear h0 HFO HCL
    go_wp2
    go_ret2
    exact HE.out
  · have HM := Lib.hid h0
    obtain ⟨c0, c1, c2⟩ := HCB.out w4 HB4.out
    have hlk : (Instr.lookup 56 (.map (some mb)) (.agg #[.string f.n, .string f.a, .string f.b]) true).run Try.prog w4 = .ok (.tuple #[.int .i64 (intOr (lkR M f)), .bool (lkR M f).isSome]) w4 := h2.lookOk HOK.out
    have HIS := Lib.hid (lkR_some (M := M) (f := f))
    clear h0 h1 h2 h3 h4
    generalize intOr (lkR M f) = q at *
    cases hs : (lkR M f).isSome with
    | false =>
      rw [hs] at hlk
      have HE := Lib.hid (NeedU.no HVV.out HM.out (fun h => by have := HIS.out.2 h; rw [hs] at this; cases this) (pure_trans HBX.out HB4.out))
      clear HFO HCL hs
      go_wp2
      go_ret2
      exact HE.out
    | true =>
      rw [hs] at hlk
      have HKM := Lib.hid (HIS.out.1 hs)
      have HS0 := Lib.hid (show NS w fcs w4.heap.size [] (w4.alloc (.map #[] 0)) from
        ⟨(pure_trans HBX.out HB4.out).alloc (pure_trans HBX.out HB4.out).size _, MapOf.made w4, by simp [startR, addsR, keysR], (Below.heap_alloc _ _ _ (by have := HB4.out.size; omega)).trans ((HB4.out.block _ hXs).trans HCX.out), by have := HB4.out.size; omega⟩)
      have hmm := @run_makeMap Try.prog
      clear hs HIS HCB
      go_wp2_with fail
      generalize w4.heap.size = sb at *
      clear HB4 hlk c0 c1 c2 HBX HX HX2 HCX hmm
      go_loopw [53] (fun i wr => ∃ k : Nat, k ≤ l.length ∧ i = .int .i64 k ∧ Hid (NS w fcs sb ((l.take k).filter (needB rules l f)) wr)) (fun i _ => l.length - (intOf i).toNat)
      case atStart => exact ⟨0, by omega, rfl, HS0⟩
      case round =>
        clear HS0
        obtain ⟨k, hk, rfl, HI⟩ := hrel
        by_cases hlt : k < l.length
        · obtain ⟨b, o, rfl, ⟨q0, q1, q2⟩, hoky⟩ := fcts_at (HL.out _ HI.out.bl) hlt
          have c0 : wr.cell? ⟨b, o + k * 3, none⟩ = some (.string l[k].n) := q0
          have c1 : wr.cell? ⟨b, o + k * 3 + 1, none⟩ = some (.string l[k].a) := q1
          have c2 : wr.cell? ⟨b, o + k * 3 + 2, none⟩ = some (.string l[k].b) := q2
          have HYES := Lib.hid (fun (e : needB rules l f l[k] = true) => filtB_yes (P := needB rules l f) hlt e)
          have HNO := Lib.hid (fun (e : needB rules l f l[k] = false) => filtB_no (P := needB rules l f) hlt e)
          have HOKY := Lib.hid hoky
          have HNL := Lib.hid (show ((l.take k).filter (needB rules l f)).length ≤ 60 from by
            refine Nat.le_trans (List.length_filter_le _ _) ?_
            rw [List.length_take]
            have := HLL.out
            omega)
          clear q0 q1 q2 hoky
          generalize l[k] = y at *
          generalize (l.take k).filter (needB rules l f) = nl at *
          obtain ⟨y1, y2, y3⟩ := y
          simp only at c0 c1 c2
          obtain ⟨Y, hY⟩ : ∃ Y, Y = wr.alloc (.cells #[.string y1, .string y2, .string y3] 33) := ⟨_, rfl⟩
          have hbY : Below wr.heap.size wr Y := by rw [hY]; exact boxW wr _
          have hcY : Y.heap[wr.heap.size]? = some (.cells #[.string y1, .string y2, .string y3] 33 (0, 0)) := by rw [hY]; exact heap_alloc_new wr _
          have HY := Lib.hid hY
          have HBY := Lib.hid hbY
          have HCY := Lib.hid hcY
          have HIY := Lib.hid (HI.out.keeps hbY)
          have HCC := Lib.hid (HCL.out Y HIY.out.bl HLL.out)
          clear hY hbY hcY
          go_wp2_with fail
          rw [← HY.out]
          refine HCC.out.mono ?_
          rintro e w5 ⟨v5, rfl, hown5, hb5⟩
          have HB5 := Lib.hid hb5
          have HDEL := Lib.hid (deleteFct_any 50 #[ptr0 wr.heap.size] (fun x => decide (x = ⟨y1, y2, y3⟩)) l v5 Y.heap.size w5 hown5 hb5.size (by have := HLL.out; omega) (fun _ _ => rfl) (fun x _ W hk => by
            have hlt5 := hown5.lt
            have hyl : wr.heap.size < Y.heap.size := (Array.getElem?_eq_some_iff.1 HCY.out).1
            have hcw : W.heap[wr.heap.size]? = some (.cells #[.string y1, .string y2, .string y3] 33 (0, 0)) := (hk.block wr.heap.size (Nat.lt_of_lt_of_le hyl hb5.size) (by
              rintro (h | h)
              · have := (hlt5 _ h).1; omega
              · have := hb5.size; omega)).trans ((hb5.block _ hyl).trans HCY.out)
            exact need1_any x ⟨y1, y2, y3⟩ wr.heap.size W (mem_cells hcw 0) (mem_cells hcw 1) (mem_cells hcw 2)))
          obtain ⟨a5, c5, rfl, -⟩ := hown5.len
          clear hown5 hb5 HCC c0 c1 c2
          go_wp2_with fail
          refine HDEL.out.mono ?_
          rintro e w6 ⟨v6, rfl, hv6, hb6⟩
          have HOT := Lib.hid (show l.filter (fun x => !(fun x => decide (x = (⟨y1, y2, y3⟩ : Fct))) x) = others l ⟨y1, y2, y3⟩ from rfl)
          rw [HOT.out] at hv6
          have HB6 := Lib.hid (HB5.out.trans hb6)
          have HI6 := Lib.hid (HIY.out.keeps HB6.out)
          have hol : (others l ⟨y1, y2, y3⟩).length ≤ 60 := Nat.le_trans (List.length_filter_le _ _) HLL.out
          have HFF := Lib.hid (HFO.out (others l ⟨y1, y2, y3⟩) v6 w6 HI6.out.bl HPP.out hol (tFcts.mono _ _ _ _ (Mem.on_le _ _) hv6))
          obtain ⟨M2, hM2, -⟩ := follow_sub HM.out (m := others l ⟨y1, y2, y3⟩) (fun x hx => others_mem hx)
          have HM2 := Lib.hid hM2
          obtain ⟨a6, c6, rfl, -⟩ := slice_form hv6
          clear hv6 hb6 hol HDEL HB5 HIY hM2 HOT
          go_wp2_with fail
          refine HFF.out.mono ?_
          rintro e w7 ⟨hb7, h⟩
          rcases h with ⟨h0, -⟩ | ⟨M3, mb3, h0, rfl, h1, h2, h3, h4⟩
          · rw [HM2.out] at h0; cases h0
          · obtain rfl : M2 = M3 := by rw [HM2.out] at h0; cases h0; rfl
            have HI7 := Lib.hid (HI6.out.keeps hb7)
            have hyl : wr.heap.size < Y.heap.size := (Array.getElem?_eq_some_iff.1 HCY.out).1
            have hcy7 : w7.heap[wr.heap.size]? = some (.cells #[.string y1, .string y2, .string y3] 33 (0, 0)) := (hb7.block _ (Nat.lt_of_lt_of_le hyl HB6.out.size)).trans ((HB6.out.block _ hyl).trans HCY.out)
            have d0 : w7.cell? ⟨wr.heap.size, 0, none⟩ = some (.string y1) := mem_cells hcy7 0
            have d1 : w7.cell? ⟨wr.heap.size, 1, none⟩ = some (.string y2) := mem_cells hcy7 1
            have d2 : w7.cell? ⟨wr.heap.size, 2, none⟩ = some (.string y3) := mem_cells hcy7 2
            have hbf := HI7.out.bx
            rw [HFC.out] at hbf
            have f0 : w7.cell? ⟨w.heap.size, 0, none⟩ = some (.string f.n) := mem_cells hbf 0
            have f1 : w7.cell? ⟨w.heap.size, 1, none⟩ = some (.string f.a) := mem_cells hbf 1
            have f2 : w7.cell? ⟨w.heap.size, 2, none⟩ = some (.string f.b) := mem_cells hbf 2
            have hlk : (Instr.lookup 56 (.map (some mb3)) (.agg #[.string f.n, .string f.a, .string f.b]) true).run Try.prog w7 = .ok (.tuple #[.int .i64 (intOr (lkR M2 f)), .bool (lkR M2 f).isSome]) w7 := h2.lookOk HOK.out
            have HND := Lib.hid (show needB rules l f ⟨y1, y2, y3⟩ = !(lkR M2 f).isSome from by
              unfold needB
              rw [HM2.out]
              show (!decide (f ∈ keysR M2)) = _
              congr 1
              rw [← Bool.coe_iff_coe, decide_eq_true_iff]
              exact (lkR_some).symm)
            clear h0 h1 h2 h3 h4 hb7 hyl hcy7 hbf HFF HB6 HI6
            generalize intOr (lkR M2 f) = q2 at *
            generalize (lkR M2 f).isSome = t at *
            cases t with
            | true =>
              have HX3 := Lib.hid (HNO.out (by rw [HND.out]; rfl))
              clear HYES HNO HND
              go_wp2_with fail
              go_roundw
              case rel => exact ⟨k + 1, by omega, by go_num, by rw [HX3.out]; exact HI7⟩
              case measure => simp [intOf]; omega
            | false =>
              have HX3 := Lib.hid (HYES.out (by rw [HND.out]; rfl))
              obtain ⟨w8, hput, hns⟩ := HI7.out.put (by have := HNL.out; omega) HOKY.out
              have HN8 := Lib.hid hns
              clear HYES HNO HND hns HI7
              go_wp2_with fail
              go_roundw
              case rel => exact ⟨k + 1, by omega, by go_num, by rw [HX3.out]; exact HN8⟩
              case measure => simp [intOf]; omega
        · obtain rfl : k = l.length := by omega
          have HI2 := Lib.hid (show NS w fcs sb (l.filter (needB rules l f)) wr by have := HI.out; rwa [List.take_length] at this)
          have HS := Lib.hid (ringSorted_any sb (startR (l.filter (needB rules l f))).length (lkR (startR (l.filter (needB rules l f)))) wr HI2.out.mm (by have := start_len (l.filter (needB rules l f)); have := List.length_filter_le (needB rules l f) l; have := HLL.out; omega))
          clear HI
          go_wp2_with fail
          refine HS.out.mono ?_
          rintro e w5 ⟨v5, ss, rfl, k1, -, -, k4, hb5⟩
          obtain rfl : srt (l.filter (needB rules l f)) = ss := (srt_start _).symm.trans (srt_eq k1.up (fun x => (k1.mem x).trans lkR_some))
          have HE := Lib.hid (NeedU.yes HVV.out HM.out HKM.out (tFcts.mono _ _ _ _ (Mem.on_le _ _) k4) (pure_trans HI2.out.bl hb5))
          obtain ⟨a5, c5, rfl, -⟩ := slice_form k4
          clear k1 k4 hb5 HS HI2
          go_wp2
          go_ret2
          exact HE.out
end Go.Proofs.Ytafeaeaildfohaa
/- The reference's Needed, Gives. -/
namespace Go.Proofs.Ytafeaeaildfohaa
open Go.RowKit Go.Maps

theorem cut_one {P : Program} {T e : TypeId} {sz : Nat} (hT : P.underlying T = some (.slice e)) (hs : (P.info? e).map (·.size) = some sz) {b o len cap k : Nat} (hk : k < len) (hlc : len ≤ cap) (hm : cap ≤ maxLen) :
    ∀ w2, (Instr.slice T (.slice (some ⟨b, o, none⟩) len cap) (some (.int .i64 k)) (some (.int .i64 (k + 1))) none).run P w2 = .ok (.slice (some ⟨b, o + k * sz, none⟩) 1 (cap - k)) w2 := fun w2 => by
  have he : P.elem T = e := by simp [Program.elem, hT]
  unfold maxLen at hm
  rw [run_slice_lh w2 T _ len cap (by rw [he]; exact hT) .i64 .i64 k (k + 1) (by omega) (by omega) (by omega), he, size_run hs]
  simp only [Result.andThen_ok, sliced, Int.toNat_natCast]
  have hc : cap ≠ k := by omega
  have h1 : ((k : Int) + 1).toNat - k = 1 := by omega
  simp [hc, Addr.add, h1]
theorem one_rv {m : Mem} {b o len cap : Nat} {xs : List Fct} {k : Nat} (h : tFcts.rv m [.slice (some ⟨b, o, none⟩) len cap] xs) (hk : k < xs.length) (hlc : len ≤ cap) (hm : cap ≤ maxLen) (hl : len = xs.length) : tFcts.rv m [.slice (some ⟨b, o + k * 3, none⟩) 1 (cap - k)] [xs[k]] := by
  obtain ⟨b', o', e, ⟨q0, q1, q2⟩, hok⟩ := fcts_at h hk
  injection e with e
  injection e with e1 e2
  subst e1; subst e2
  refine ⟨some ⟨b, o + k * 3, none⟩, cap - k, rfl, by show 1 ≤ _; omega, by unfold maxLen at *; omega, fun _ => ⟨b, o + k * 3, rfl, fun j hj => ?_⟩⟩
  have : j = 0 := by simp at hj; omega
  subst this
  refine ⟨[.string xs[k].n, .string xs[k].a, .string xs[k].b], fun i u hi => ?_, rfl, hok⟩
  match i, hi with
  | 0, hi => simp at hi; subst hi; simpa using q0
  | 1, hi => simp at hi; subst hi; simpa using q1
  | 2, hi => simp at hi; subst hi; simpa using q2
set_option maxRecDepth 100000 in
set_option maxHeartbeats 8000000 in
theorem refNeeded_any (rules : List Rul) (l : List Fct) (f : Fct) (rv fv : Value) (w : World) (hr : tRuls.rv (mem w) [rv] rules) (hf : tFcts.rv (mem w) [fv] l) (hok : okF f) :
    Calls Try.prog 22 #[rv, fv, f.v] w (NeedU rules l f w) := by
  have HP := Lib.hid (fun w' (hb : Below w.heap.size w w') => refProgram_any rules rv w' (tRuls.mono _ _ _ _ (below_mem hb) hr))
  have HG := Lib.hid (fun w' (hb : Below w.heap.size w w') => refFacts_any l fv w' (tFcts.mono _ _ _ _ (below_mem hb) hf))
  have HV := Lib.hid (fun w' => refFact_any f w' hok)
  have HF := Lib.hid (fun (rest : List Fct) (sv : Value) w' (hb : Below w.heap.size w w') (h1 : validP rules = true) (h2 : rest.length ≤ 60) (hs : tFcts.rv (mem w') [sv] rest) => refAll_any rules rest rv sv w' (tRuls.mono _ _ _ _ (below_mem hb) hr) hs (validP_bd h1) (validP_len h1) (by omega))
  obtain ⟨ar, cr, rfl, -⟩ := slice_form hr
  obtain ⟨af, cf, rfl, hlf, hmf, hf⟩ := slice_form hf
  have hcf : cf ≤ 9223372036854775807 := by unfold maxLen at hmf; exact hmf
  have HL := Lib.hid (fun wr (hb : Below w.heap.size w wr) => tFcts.mono _ _ _ _ (below_mem hb) hf)
  have HOK := Lib.hid hok
  have HMF := Lib.hid hmf
  obtain ⟨fcs, hfcs⟩ : ∃ fcs : Array Value, fcs = #[.string f.n, .string f.a, .string f.b] := ⟨_, rfl⟩
  have HFC := Lib.hid hfcs
  obtain ⟨X, hX⟩ : ∃ X, X = w.alloc (.cells fcs 33) := ⟨_, rfl⟩
  have HBX := Lib.hid (show Below w.heap.size w X from by rw [hX]; exact boxW w _)
  have HCX := Lib.hid (show X.heap[w.heap.size]? = some (.cells fcs 33 (0, 0)) from by rw [hX]; exact heap_alloc_new w _)
  have HCB := Lib.hid (fun (w' : World) (hb : Below X.heap.size X w') => (show w'.cell? ⟨w.heap.size, 0, none⟩ = some (.string f.n) ∧ w'.cell? ⟨w.heap.size, 1, none⟩ = some (.string f.a) ∧ w'.cell? ⟨w.heap.size, 2, none⟩ = some (.string f.b) from by
    have hb2 := (hb.block _ (Array.getElem?_eq_some_iff.1 HCX.out).1).trans HCX.out
    rw [HFC.out] at hb2
    exact ⟨mem_cells hb2 0, mem_cells hb2 1, mem_cells hb2 2⟩))
  rw [hfcs] at hX
  have HX2 := Lib.hid hX
  have HIN := Lib.hid (fun (ms : List Fct) (mv : Value) w' (hm : tFcts.rv (mem w') [mv] ms) => (show Calls Try.prog 18 #[mv, .agg #[.string f.n, .string f.a, .string f.b]] w' fun e w2 => e = .returned (.bool (decide (f ∈ ms))) ∧ Below w'.heap.size w' w2 from refIn_any ms f mv w' hm))
  clear hr hf hok hmf hfcs hX
  go_enter Try.func22, Try.ntmps22
  go_wp2_with fail
  rw [← HX2.out]
  refine (HP.out X HBX.out).mono ?_
  rintro e w1 ⟨rfl, hb1⟩
  cases hp : validP rules with
  | false =>
    have HE := Lib.hid (NeedU.bad (rules := rules) (l := l) (f := f) (by rw [hp]; rfl) (pure_trans HBX.out hb1))
    clear HP HG HF HV HIN hp
    go_wp2
    go_ret2
    exact HE.out
  | true =>
  go_wp2_with fail
  refine (HG.out w1 (pure_trans HBX.out hb1)).mono ?_
  rintro e w2 ⟨rfl, hb2⟩
  have hb2 := pure_trans hb1 hb2
  cases hg : validG l with
  | false =>
    have HE := Lib.hid (NeedU.bad (rules := rules) (l := l) (f := f) (by rw [hp, hg]; rfl) (pure_trans HBX.out hb2))
    clear HP HG HF HV HIN hp
    go_wp2
    go_ret2
    exact HE.out
  | true =>
  obtain ⟨c0, c1, c2⟩ := HCB.out w2 hb2
  go_wp2_with fail
  refine (HV.out w2).mono ?_
  rintro e w3 ⟨rfl, hb3⟩
  have hb3 := pure_trans hb2 hb3
  cases hv : validF f with
  | false =>
    have HE := Lib.hid (NeedU.bad (rules := rules) (l := l) (f := f) (by rw [hp, hg, hv]; rfl) (pure_trans HBX.out hb3))
    clear HP HG HF HV HIN hp c0 c1 c2
    go_wp2
    go_ret2
    exact HE.out
  | true =>
  clear c0 c1 c2
  have HLL := Lib.hid (validG_len hg)
  go_wp2_with fail
  refine (HF.out l _ w3 (pure_trans HBX.out hb3) hp HLL.out (HL.out w3 (pure_trans HBX.out hb3))).mono ?_
  rintro e w4 ⟨M, v4, hM, rfl, hv4, hb4⟩
  have HB4 := Lib.hid (pure_trans hb3 hb4)
  have HVV := Lib.hid (show (validP rules && (validG l && validF f)) = true by rw [hp, hg, hv]; rfl)
  have HPP := Lib.hid hp
  have HM0 := Lib.hid hM
  have HIK := Lib.hid (HIN.out (srt (keysR M)) v4 w4 hv4)
  obtain ⟨a4, c4, rfl, -⟩ := slice_form hv4
  clear hb1 hb2 hb3 hb4 HP HG HV hp hg hv hM hv4
  by_cases h400 : M.length ≤ 400
  · have HM := Lib.hid (HM0.out.trans (if_pos h400))
    rw [decide_eq_true (show (M.length : Int) ≤ 400 by omega)]
    obtain ⟨c0, c1, c2⟩ := HCB.out w4 HB4.out
    have HMM := Lib.hid (show decide (f ∈ srt (keysR M)) = decide (f ∈ keysR M) from decide_eq_decide.2 (srt_mem _ _))
    clear h400 HM0
    go_wp2_with fail
    refine HIK.out.mono ?_
    rintro e w5 ⟨rfl, hb5⟩
    rw [HMM.out]
    have HB5 := Lib.hid (pure_trans HB4.out hb5)
    clear hb5 HIK HB4 c0 c1 c2
    by_cases hin : f ∈ keysR M
    · rw [decide_eq_true hin]
      have HKM := Lib.hid hin
      have HBS := Lib.hid (pure_trans HBX.out HB5.out)
      clear hin
      go_wp2_with fail
      go_loopw [10, 11] (fun ov i wr => ∃ k : Nat, k ≤ l.length ∧ i = .int .i64 k ∧ Hid (tFcts.rv ((mem wr).on (w.heap.size ≤ ·)) [ov] (srt ((l.take k).filter (needB rules l f)))) ∧ Hid (Below X.heap.size X wr)) (fun _ i _ => l.length - (intOf i).toNat)
      case atStart => exact ⟨0, by omega, rfl, Lib.hid (slice_nil _ _), HB5⟩
      case round =>
        obtain ⟨k, hk, rfl, HO, HB⟩ := hrel
        by_cases hlt : k < l.length
        · have HBW := Lib.hid (pure_trans HBX.out HB.out)
          have hlv := HL.out wr HBW.out
          obtain ⟨b, o, rfl, ⟨q0, q1, q2⟩, hoky⟩ := fcts_at hlv hlt
          have c0 : wr.cell? ⟨b, o + k * 3, none⟩ = some (.string l[k].n) := q0
          have c1 : wr.cell? ⟨b, o + k * 3 + 1, none⟩ = some (.string l[k].a) := q1
          have c2 : wr.cell? ⟨b, o + k * 3 + 2, none⟩ = some (.string l[k].b) := q2
          have HYES := Lib.hid (fun (e : needB rules l f l[k] = true) => filtB_yes (P := needB rules l f) hlt e)
          have HNO := Lib.hid (fun (e : needB rules l f l[k] = false) => filtB_no (P := needB rules l f) hlt e)
          have HOKY := Lib.hid hoky
          have hcut := cut_one (P := Try.prog) (T := 23) Try.underlying23 fctSize (b := b) (o := o) hlt hlf HMF.out
          have hcut2 : ∀ w2, (Instr.slice 23 (.slice (some ⟨b, o, none⟩) l.length cf) (some (.int .i64 k)) (some (.int .i64 (k + 1))) none).run Try.prog w2 = .ok (.slice (some ⟨b, o + k * 3, none⟩) 1 (cf - k)) w2 := hcut
          have HLS := Lib.hid (refLess_any l [l[k]] _ _ wr hlv (one_rv hlv hlt hlf HMF.out rfl) (by have := HLL.out; omega))
          have HNL := Lib.hid (show (srt ((l.take k).filter (needB rules l f))).length ≤ 60 from by
            refine Nat.le_trans (srt_len_le _) ?_
            refine Nat.le_trans (List.length_filter_le _ _) ?_
            rw [List.length_take]
            have := HLL.out
            omega)
          clear q0 q1 q2 hoky hcut hlv
          generalize l[k] = y at *
          have HSN := Lib.hid (srt_snoc ((l.take k).filter (needB rules l f)) y)
          have HSA := Lib.hid (srt_asc ((l.take k).filter (needB rules l f)))
          generalize (l.take k).filter (needB rules l f) = nl at *
          obtain ⟨y1, y2, y3⟩ := y
          simp only at c0 c1 c2
          go_wp2_with fail
          refine HLS.out.mono ?_
          rintro e w6 ⟨v6, rfl, hv6, hb6⟩
          rw [others_less] at hv6
          have HB6 := Lib.hid (pure_trans HB.out hb6)
          have hol : (others l ⟨y1, y2, y3⟩).length ≤ 60 := Nat.le_trans (List.length_filter_le _ _) HLL.out
          have HFF := Lib.hid (HF.out (others l ⟨y1, y2, y3⟩) v6 w6 (pure_trans HBX.out HB6.out) HPP.out hol hv6.rv')
          obtain ⟨M2, hM2, -⟩ := follow_sub HM.out (m := others l ⟨y1, y2, y3⟩) (fun x hx => others_mem hx)
          have HM2 := Lib.hid hM2
          obtain ⟨a6, c6, rfl, -⟩ := hv6.len
          have HO6 := Lib.hid (tFcts.mono _ _ _ _ (below_onSS hb6 _) HO.out)
          replace c0 := below_mem hb6 _ _ _ c0
          replace c1 := below_mem hb6 _ _ _ c1
          replace c2 := below_mem hb6 _ _ _ c2
          clear hv6 hb6 hol HLS hM2 HO HB hcut2
          go_wp2_with fail
          refine HFF.out.mono ?_
          rintro e w7 ⟨M3, v7, hM3, rfl, hv7, hb7⟩
          have hle3 : M3.length ≤ 400 := by
            by_cases h : M3.length ≤ 400
            · exact h
            · rw [if_neg h, HM2.out] at hM3; cases hM3
          obtain rfl : M2 = M3 := by rw [if_pos hle3, HM2.out] at hM3; cases hM3; rfl
          have HIK := Lib.hid (HIN.out (srt (keysR M2)) v7 w7 hv7)
          have HB7 := Lib.hid (pure_trans HB6.out hb7)
          have HO7 := Lib.hid (tFcts.mono _ _ _ _ (below_onSS hb7 _) HO6.out)
          obtain ⟨a7, c7, rfl, -⟩ := slice_form hv7
          obtain ⟨f0, f1, f2⟩ := HCB.out w7 HB7.out
          have HND := Lib.hid (show needB rules l f ⟨y1, y2, y3⟩ = !decide (f ∈ srt (keysR M2)) from by
            unfold needB
            rw [HM2.out]
            show (!decide (f ∈ keysR M2)) = _
            congr 1
            exact decide_eq_decide.2 (srt_mem _ _).symm)
          replace c0 := below_mem hb7 _ _ _ c0
          replace c1 := below_mem hb7 _ _ _ c1
          replace c2 := below_mem hb7 _ _ _ c2
          clear hM3 hv7 hb7 HFF HB6 HO6
          generalize decide (M2.length ≤ 400) = dd at *
          generalize decide ((M2.length : Int) ≤ 400) = dd2 at *
          clear hle3
          go_wp2_with fail
          refine HIK.out.mono ?_
          rintro e w8 ⟨rfl, hb8⟩
          have HB8 := Lib.hid (pure_trans HB7.out hb8)
          have HO8 := Lib.hid (tFcts.mono _ _ _ _ (below_onSS hb8 _) HO7.out)
          have d0 : w8.cell? ⟨b, o + k * 3, none⟩ = some (.string y1) := below_mem hb8 _ _ _ c0
          have d1 : w8.cell? ⟨b, o + k * 3 + 1, none⟩ = some (.string y2) := below_mem hb8 _ _ _ c1
          have d2 : w8.cell? ⟨b, o + k * 3 + 2, none⟩ = some (.string y3) := below_mem hb8 _ _ _ c2
          clear hb8 HIK HB7 HO7 f0 f1 f2 c0 c1 c2
          generalize decide (f ∈ srt (keysR M2)) = t at *
          cases t with
          | true =>
            have HX3 := Lib.hid (HNO.out (by rw [HND.out]; rfl))
            clear HYES HNO HND
            go_wp2_with fail
            go_roundw
            case rel => exact ⟨k + 1, by omega, by go_num, by rw [HX3.out]; exact HO8, HB8⟩
            case measure => simp [intOf]; omega
          | false =>
            have HX3 := Lib.hid (HYES.out (by rw [HND.out]; rfl))
            have HTT := Lib.hid (show srt (nl ++ [(⟨y1, y2, y3⟩ : Fct)]) = putS (srt nl) ⟨y1, y2, y3⟩ from HSN.out)
            clear HSN
            generalize srt nl = s at *
            obtain ⟨a8, c8, rfl, -⟩ := slice_form HO8.out
            have HPUT := Lib.hid (refPut_any (w.heap.size ≤ ·) s ⟨y1, y2, y3⟩ _ w8 HO8.out HOKY.out HSA.out (by have := HNL.out; omega))
            clear HYES HNO HND
            go_wp2_with fail
            refine HPUT.out.mono ?_
            rintro e w9 ⟨v9, rfl, hv9, hb9⟩
            have HV9 := Lib.hid (tFcts.mono _ _ _ _ (Mem.on_mono _ (fun q (h : w.heap.size ≤ q ∨ w8.heap.size ≤ q) => by
              have h1 := (pure_trans HBX.out HB8.out).size
              rcases h with h | h
              · exact h
              · show w.heap.size ≤ q
                omega)) hv9)
            have HB9 := Lib.hid (pure_trans HB8.out hb9)
            obtain ⟨a9, c9, rfl, -⟩ := slice_form hv9
            clear hv9 hb9 HPUT HO8 HB8
            go_wp2
            go_roundw
            case rel => exact ⟨k + 1, by omega, by go_num, by rw [HX3.out, HTT.out]; exact HV9, HB9⟩
            case measure => simp [intOf]; omega
        · obtain rfl : k = l.length := by omega
          rw [List.take_length] at HO
          have HE := Lib.hid (NeedU.yes (v := u10) HVV.out HM.out HKM.out (tFcts.mono _ _ _ _ (Mem.on_le _ _) HO.out) (pure_trans HBX.out HB.out))
          obtain ⟨a9, c9, rfl, -⟩ := slice_form HO.out
          clear HO HB HIN HF HL
          go_wp2
          go_ret2
          exact HE.out
    · rw [decide_eq_false hin]
      have HE := Lib.hid (NeedU.no HVV.out HM.out hin (pure_trans HBX.out HB5.out))
      clear hin HF HIN
      go_wp2
      go_ret2
      exact HE.out
  · have HM := Lib.hid (HM0.out.trans (if_neg h400))
    rw [decide_eq_false (show ¬ ((M.length : Int) ≤ 400) by omega)]
    have HE := Lib.hid (NeedU.big HVV.out HM.out (pure_trans HBX.out HB4.out))
    clear h400 HM0 HIK HF HIN
    go_wp2
    go_ret2
    exact HE.out
end Go.Proofs.Ytafeaeaildfohaa
/- The reference's Gives; the law RingNeeds, walked. -/
namespace Go.Proofs.Ytafeaeaildfohaa
open Go.RowKit Go.Maps

def codeG (r : Rul) (l : List Fct) : Int := if (validR r && validG l) = false then 1 else if 400 < (srt (heads r (srt l))).length then 4 else 0
def factsG (r : Rul) (l : List Fct) : List Fct := if (validR r && validG l) = false then [] else if 400 < (srt (heads r (srt l))).length then [] else srt (heads r (srt l))
def GiveU (r : Rul) (l : List Fct) (w : World) (e : Ending) (w' : World) : Prop := ∃ v, e = .returned (.tuple #[v, .int .i64 (codeG r l)]) ∧ tFcts.rv (mem w') [v] (factsG r l) ∧ Below w.heap.size w w'
theorem GiveU.bad {r : Rul} {l : List Fct} {w w' : World} (h : (validR r && validG l) = false) (hb : Below w.heap.size w w') : GiveU r l w (.returned (.tuple #[.slice none 0 0, .int .i64 1])) w' :=
  ⟨.slice none 0 0, by unfold codeG; rw [if_pos h], by unfold factsG; rw [if_pos h]; exact slice_nil _ _, hb⟩
theorem GiveU.big {r : Rul} {l : List Fct} {w w' : World} (h : (validR r && validG l) = true) (h4 : 400 < (srt (heads r (srt l))).length) (hb : Below w.heap.size w w') : GiveU r l w (.returned (.tuple #[.slice none 0 0, .int .i64 4])) w' :=
  ⟨.slice none 0 0, by unfold codeG; rw [if_neg (by rw [h]; simp), if_pos h4], by unfold factsG; rw [if_neg (by rw [h]; simp), if_pos h4]; exact slice_nil _ _, hb⟩
theorem GiveU.yes {r : Rul} {l : List Fct} {w w' : World} {v : Value} (h : (validR r && validG l) = true) (h4 : ¬ 400 < (srt (heads r (srt l))).length) (hv : tFcts.rv (mem w') [v] (srt (heads r (srt l)))) (hb : Below w.heap.size w w') : GiveU r l w (.returned (.tuple #[v, .int .i64 0])) w' :=
  ⟨v, by unfold codeG; rw [if_neg (by rw [h]; simp), if_neg h4], by unfold factsG; rw [if_neg (by rw [h]; simp), if_neg h4]; exact hv, hb⟩
theorem GivesAns.uni {r : Rul} {l : List Fct} {w w' : World} {e : Ending} (h : GivesAns r l w w' e) : GiveU r l w e w' := by
  obtain ⟨hb, ⟨h1, rfl⟩ | ⟨h1, h2, rfl⟩ | ⟨v, h1, h2, rfl, h4⟩⟩ := h
  · exact GiveU.bad h1 hb
  · exact GiveU.big h1 h2 hb
  · exact GiveU.yes h1 (by omega) (tFcts.mono _ _ _ _ (Mem.on_le _ _) h4) hb
theorem validR_ok3 {r : Rul} (h : validR r = true) : r.bd.length ≤ 3 := (validR_bd h).2
set_option maxRecDepth 100000 in
set_option maxHeartbeats 8000000 in
theorem refGivesF_any (r : Rul) (l : List Fct) (bv lv : Value) (w : World) (hok : okF r.hd) (hbd : tFcts.rv (mem w) [bv] r.bd) (hl : tFcts.rv (mem w) [lv] l) :
    Calls Try.prog 23 #[r.v bv, lv] w (GiveU r l w) := by
  have HV := Lib.hid (fun w' (hb : Below w.heap.size w w') => refRule_any r bv w' hok (tFcts.mono _ _ _ _ (below_mem hb) hbd))
  have HG := Lib.hid (fun w' (hb : Below w.heap.size w w') => refFacts_any l lv w' (tFcts.mono _ _ _ _ (below_mem hb) hl))
  have HGV := Lib.hid (fun (L : List Fct) (sv : Value) w' (hb : Below w.heap.size w w') (h1 : tFcts.rv (mem w') [sv] L) (h2 : r.bd.length ≤ 3) (h3 : L.length ≤ 400) => refGives_any r L bv sv w' hok (tFcts.mono _ _ _ _ (below_mem hb) hbd) h1 h2 h3)
  obtain ⟨ab, cb, rfl, -, -, -⟩ := slice_form hbd
  obtain ⟨al, cl, rfl, hll, hml, hl⟩ := slice_form hl
  have hcl : cl ≤ 9223372036854775807 := by unfold maxLen at hml; exact hml
  have HL := Lib.hid (fun wr (hb : Below w.heap.size w wr) => tFcts.mono _ _ _ _ (below_mem hb) hl)
  obtain ⟨⟨r1, r2, r3⟩, bd⟩ := r
  obtain ⟨X, hX⟩ : ∃ X, X = w.alloc (.cells #[.string r1, .string r2, .string r3, .slice ab bd.length cb] 31) := ⟨_, rfl⟩
  have HBX := Lib.hid (show Below w.heap.size w X from by rw [hX]; exact boxW w _)
  have HCX := Lib.hid (show X.heap[w.heap.size]? = some (.cells #[.string r1, .string r2, .string r3, .slice ab bd.length cb] 31 (0, 0)) from by rw [hX]; exact heap_alloc_new w _)
  have HX := Lib.hid hX
  have HCB := Lib.hid (fun (w' : World) (hb : Below X.heap.size X w') => (hb.block _ (Array.getElem?_eq_some_iff.1 HCX.out).1).trans HCX.out)
  have hc := HCX.out
  have c0 : X.cell? ⟨w.heap.size, 0, none⟩ = some (.string r1) := mem_cells hc 0
  have c1 : X.cell? ⟨w.heap.size, 1, none⟩ = some (.string r2) := mem_cells hc 1
  have c2 : X.cell? ⟨w.heap.size, 2, none⟩ = some (.string r3) := mem_cells hc 2
  have c3 : X.cell? ⟨w.heap.size, 3, none⟩ = some (.slice ab bd.length cb) := mem_cells hc 3
  clear hX hbd hl hml hok hc
  go_enter Try.func23, Try.ntmps23
  go_wp2_with fail
  rw [← HX.out]
  refine (HV.out X HBX.out).mono ?_
  rintro e w1 ⟨rfl, hb1⟩
  clear c0 c1 c2 c3
  cases hp : validR ⟨⟨r1, r2, r3⟩, bd⟩ with
  | false =>
    have HE := Lib.hid (GiveU.bad (r := ⟨⟨r1, r2, r3⟩, bd⟩) (l := l) (by rw [hp]; rfl) (pure_trans HBX.out hb1))
    clear HV HG HGV hp
    go_wp2
    go_ret2
    exact HE.out
  | true =>
  go_wp2_with fail
  refine (HG.out w1 (pure_trans HBX.out hb1)).mono ?_
  rintro e w2 ⟨rfl, hb2⟩
  have hb2 := pure_trans hb1 hb2
  cases hg : validG l with
  | false =>
    have HE := Lib.hid (GiveU.bad (r := ⟨⟨r1, r2, r3⟩, bd⟩) (l := l) (by rw [hp, hg]; rfl) (pure_trans HBX.out hb2))
    clear HV HG HGV hp
    go_wp2
    go_ret2
    exact HE.out
  | true =>
  have HVV := Lib.hid (show (validR ⟨⟨r1, r2, r3⟩, bd⟩ && validG l) = true by rw [hp, hg]; rfl)
  have HLL := Lib.hid (validG_len hg)
  have HB3 := Lib.hid (validR_ok3 hp)
  have HB2 := Lib.hid hb2
  clear HV HG hp hg hb1 hb2
  go_wp2_with fail
  go_loopw [6, 7] (fun av i wr => ∃ k : Nat, k ≤ l.length ∧ i = .int .i64 k ∧ Hid (tFcts.rv ((mem wr).on (w.heap.size ≤ ·)) [av] (srt (l.take k))) ∧ Hid (Below X.heap.size X wr)) (fun _ i _ => l.length - (intOf i).toNat)
  case atStart => exact ⟨0, by omega, rfl, Lib.hid (slice_nil _ _), HB2⟩
  case round =>
    clear HB2
    obtain ⟨k, hk, rfl, HO, HBR⟩ := hrel
    by_cases hlt : k < l.length
    · obtain ⟨b, o, rfl, ⟨q0, q1, q2⟩, hok⟩ := fcts_at (HL.out _ (pure_trans HBX.out HBR.out)) hlt
      have c0 : wr.cell? ⟨b, o + k * 3, none⟩ = some (.string l[k].n) := q0
      have c1 : wr.cell? ⟨b, o + k * 3 + 1, none⟩ = some (.string l[k].a) := q1
      have c2 : wr.cell? ⟨b, o + k * 3 + 2, none⟩ = some (.string l[k].b) := q2
      have HTT := Lib.hid (show putS (srt (l.take k)) l[k] = srt (l.take (k + 1)) from by rw [List.take_succ_eq_append_getElem hlt, srt_snoc])
      have HA := Lib.hid (srt_asc (l.take k))
      have HLN := Lib.hid (srt_len_take (l := l) hk)
      have HOK := Lib.hid hok
      clear q0 q1 q2 hok
      generalize l[k] = y at *
      generalize srt (l.take k) = s at *
      obtain ⟨a0, e0, rfl, -⟩ := slice_form HO.out
      have HPUT := Lib.hid (refPut_any (w.heap.size ≤ ·) s y _ wr HO.out HOK.out HA.out (by have := HLN.out; have := HLL.out; omega))
      obtain ⟨y1, y2, y3⟩ := y
      simp only at c0 c1 c2
      go_wp2_with fail
      refine HPUT.out.mono ?_
      rintro e w3 ⟨v3, rfl, hv3, hb3⟩
      have HV3 := Lib.hid (tFcts.mono _ _ _ _ (Mem.on_mono _ (fun q (h : w.heap.size ≤ q ∨ wr.heap.size ≤ q) => by
        have h1 := (pure_trans HBX.out HBR.out).size
        rcases h with h | h
        · exact h
        · show w.heap.size ≤ q
          omega)) hv3)
      have HB4 := Lib.hid (pure_trans HBR.out hb3)
      obtain ⟨a1, e1, rfl, -⟩ := slice_form hv3
      clear hv3 hb3 HPUT HO HBR
      go_wp2
      go_roundw
      case rel => exact ⟨k + 1, by omega, by go_num, by rw [← HTT.out]; exact HV3, HB4⟩
      case measure => simp [intOf]; omega
    · obtain rfl : k = l.length := by omega
      rw [List.take_length] at HO
      have hc := HCB.out wr HBR.out
      have d0 : wr.cell? ⟨w.heap.size, 0, none⟩ = some (.string r1) := mem_cells hc 0
      have d1 : wr.cell? ⟨w.heap.size, 1, none⟩ = some (.string r2) := mem_cells hc 1
      have d2 : wr.cell? ⟨w.heap.size, 2, none⟩ = some (.string r3) := mem_cells hc 2
      have d3 : wr.cell? ⟨w.heap.size, 3, none⟩ = some (.slice ab bd.length cb) := mem_cells hc 3
      have HBW := Lib.hid (pure_trans HBX.out HBR.out)
      have HCALL := Lib.hid (HGV.out (srt l) u6 wr HBW.out (tFcts.mono _ _ _ _ (Mem.on_le _ _) HO.out) HB3.out (by have := srt_len_le l; have := HLL.out; omega))
      obtain ⟨a0, e0, rfl, -⟩ := slice_form HO.out
      clear hc HO HGV hk hlt
      go_wp2_with fail
      refine HCALL.out.mono ?_
      rintro e w3 ⟨v3, rfl, hv3, hb3⟩
      have HB4 := Lib.hid (pure_trans HBW.out hb3)
      by_cases h4 : 400 < (srt (heads ⟨⟨r1, r2, r3⟩, bd⟩ (srt l))).length
      · have HE := Lib.hid (GiveU.big HVV.out h4 HB4.out)
        obtain ⟨a1, e1, rfl, -⟩ := slice_form hv3
        clear HCALL hv3 hb3 d0 d1 d2 d3
        generalize (srt (heads ⟨⟨r1, r2, r3⟩, bd⟩ (srt l))).length = n at *
        have h5 : decide ((400 : Int) < (n : Int)) = true := decide_eq_true (by omega)
        clear h4
        go_wp2
        go_ret2
        exact HE.out
      · have HE := Lib.hid (GiveU.yes HVV.out h4 (tFcts.mono _ _ _ _ (Mem.on_le _ _) hv3) HB4.out)
        obtain ⟨a1, e1, rfl, -⟩ := slice_form hv3
        clear HCALL hv3 hb3 d0 d1 d2 d3
        generalize (srt (heads ⟨⟨r1, r2, r3⟩, bd⟩ (srt l))).length = n at *
        have h5 : decide ((400 : Int) < (n : Int)) = false := decide_eq_false (by omega)
        clear h4
        go_wp2
        go_ret2
        exact HE.out
set_option maxRecDepth 100000 in
set_option maxHeartbeats 8000000 in
theorem ringNeeds_any (rules : List Rul) (rv : Value) (l : List Fct) (lv : Value) (f : Fct) (w : World) (hr : tRuls.rv (mem w) [rv] rules) (hf : tFcts.rv (mem w) [lv] l) (hok : okF f) (hsz : l.length * 48 ≤ 140737488355328) :
    Calls Try.prog 5 #[rv, lv, f.v] w fun e w' => e = .returned (.bool true) ∧ Below w.heap.size w w' := by
  have HHV := Lib.hid (fun w' (hb : Below w.heap.size w w') => heavy_any rules l rv lv w' (tRuls.mono _ _ _ _ (below_mem hb) hr) (tFcts.mono _ _ _ _ (below_mem hb) hf) hsz)
  have HN1 := Lib.hid (fun w' (hb : Below w.heap.size w w') => ringNeeded_any rules l f rv lv w' (tRuls.mono _ _ _ _ (below_mem hb) hr) (tFcts.mono _ _ _ _ (below_mem hb) hf) hok)
  have HN2 := Lib.hid (fun w' (hb : Below w.heap.size w w') => refNeeded_any rules l f rv lv w' (tRuls.mono _ _ _ _ (below_mem hb) hr) (tFcts.mono _ _ _ _ (below_mem hb) hf) hok)
  have HG1 := Lib.hid (fun (r : Rul) (bv : Value) w' (hb : Below w.heap.size w w') (h1 : okF r.hd) (h2 : tFcts.rv (mem w') [bv] r.bd) => (ringGives_any r l bv lv w' h1 h2 (tFcts.mono _ _ _ _ (below_mem hb) hf)).mono (fun e w2 h => GivesAns.uni h))
  have HG2 := Lib.hid (fun (r : Rul) (bv : Value) w' (hb : Below w.heap.size w w') (h1 : okF r.hd) (h2 : tFcts.rv (mem w') [bv] r.bd) => refGivesF_any r l bv lv w' h1 h2 (tFcts.mono _ _ _ _ (below_mem hb) hf))
  obtain ⟨ar, cr, rfl, hlr, hmr, hr⟩ := slice_form hr
  obtain ⟨af, cf, rfl, -⟩ := slice_form hf
  have hcr : cr ≤ 9223372036854775807 := by unfold maxLen at hmr; exact hmr
  have HR := Lib.hid (fun wr (hb : Below w.heap.size w wr) => tRuls.mono _ _ _ _ (below_mem hb) hr)
  have HOKF := Lib.hid hok
  obtain ⟨f1, f2, f3⟩ := f
  obtain ⟨X, hX⟩ : ∃ X, X = w.alloc (.cells #[.string f1, .string f2, .string f3] 33) := ⟨_, rfl⟩
  have HBX := Lib.hid (show Below w.heap.size w X from by rw [hX]; exact boxW w _)
  have HCX := Lib.hid (show X.heap[w.heap.size]? = some (.cells #[.string f1, .string f2, .string f3] 33 (0, 0)) from by rw [hX]; exact heap_alloc_new w _)
  have HX := Lib.hid hX
  have HCB := Lib.hid (fun (w' : World) (hb : Below X.heap.size X w') => (show w'.cell? ⟨w.heap.size, 0, none⟩ = some (.string f1) ∧ w'.cell? ⟨w.heap.size, 1, none⟩ = some (.string f2) ∧ w'.cell? ⟨w.heap.size, 2, none⟩ = some (.string f3) from by
    have hb2 := (hb.block _ (Array.getElem?_eq_some_iff.1 HCX.out).1).trans HCX.out
    exact ⟨mem_cells hb2 0, mem_cells hb2 1, mem_cells hb2 2⟩))
  obtain ⟨s1, s2, s3⟩ := hok
  simp only at s1 s2 s3
  unfold maxLen at s1 s2 s3
  clear hr hf hmr hX hsz
  go_enter Try.func5, Try.ntmps5
  go_wp2_with fail
  rw [← HX.out]
  refine (HHV.out X HBX.out).mono ?_
  rintro e w1 ⟨b, rfl, hb1, -⟩
  have HB1 := Lib.hid hb1
  obtain ⟨c0, c1, c2⟩ := HCB.out w1 hb1
  clear hb1 HHV
  cases b with
  | true =>
    clear c0 c1 c2
    go_wp2_with fail
    refine (awake_any w1).mono ?_
    rintro e w2 ⟨rfl, hb2⟩
    have HB2 := Lib.hid (pure_trans HBX.out (pure_trans HB1.out hb2))
    go_wp2
    go_ret
    exact ⟨rfl, HB2.out⟩
  | false =>
  obtain ⟨c, hce⟩ : ∃ c, c = codeN rules l ⟨f1, f2, f3⟩ := ⟨_, rfl⟩
  have HCE := Lib.hid hce
  have hcc : (c != c) = false := by simp
  have hcc2 : (c == c) = true := by simp
  clear hce
  go_wp2_with fail
  · clear c0 c1 c2
    refine (awake_any w1).mono ?_
    rintro e w2 ⟨rfl, hb2⟩
    have HB2 := Lib.hid (pure_trans HBX.out (pure_trans HB1.out hb2))
    go_wp2
    go_ret
    exact ⟨rfl, HB2.out⟩
  · clear c0 c1 c2
    refine (HN1.out w1 (pure_trans HBX.out HB1.out)).mono ?_
    rintro e w4 ⟨v4, rfl, hv4, hb4⟩
    rw [← HCE.out]
    obtain ⟨F, hF⟩ : ∃ F, F = factsN rules l ⟨f1, f2, f3⟩ := ⟨_, rfl⟩
    have HFE := Lib.hid hF
    rw [← hF] at hv4
    have HB4 := Lib.hid (pure_trans HB1.out hb4)
    have HV4 := Lib.hid (fun (w' : World) (hb : Below w4.heap.size w4 w') => tFcts.mono _ _ _ _ (below_mem hb) hv4)
    obtain ⟨a4, c4, rfl, -⟩ := slice_form hv4
    obtain ⟨c0, c1, c2⟩ := HCB.out w4 HB4.out
    clear hv4 hb4 HN1 hF
    go_wp2_with fail
    refine (HN2.out w4 (pure_trans HBX.out HB4.out)).mono ?_
    rintro e w5 ⟨v5, rfl, hv5, hb5⟩
    rw [← HCE.out]
    rw [← HFE.out] at hv5
    have HB5 := Lib.hid (pure_trans HB4.out hb5)
    have HSM := Lib.hid (refSame_any F _ _ w5 (HV4.out w5 hb5) hv5)
    obtain ⟨a5, c5, rfl, -⟩ := slice_form hv5
    clear hv5 hb5 HN2 HV4 HB4 c0 c1 c2
    go_wp2_with fail
    refine HSM.out.mono ?_
    rintro e w6 ⟨rfl, hb6⟩
    have HB6 := Lib.hid (pure_trans HB5.out hb6)
    clear hb6 HSM HB5 HB1
    go_wp2_with fail
    clear hcc hcc2 HCE HFE
    go_loopw [11] (fun i wr => ∃ k : Nat, k ≤ rules.length ∧ i = .int .i64 k ∧ Hid (Below X.heap.size X wr)) (fun i _ => rules.length - (intOf i).toNat)
    case atStart => exact ⟨0, by omega, rfl, HB6⟩
    case round =>
      clear HB6
      obtain ⟨k, hk, rfl, HB⟩ := hrel
      by_cases hlt : k < rules.length
      · obtain ⟨b, o, bv, rfl, ⟨q0, q1, q2, q3⟩, hok, hbd⟩ := ruls_at (HR.out _ (pure_trans HBX.out HB.out)) hlt
        have c0 : wr.cell? ⟨b, o + k * 4, none⟩ = some (.string rules[k].hd.n) := q0
        have c1 : wr.cell? ⟨b, o + k * 4 + 1, none⟩ = some (.string rules[k].hd.a) := q1
        have c2 : wr.cell? ⟨b, o + k * 4 + 2, none⟩ = some (.string rules[k].hd.b) := q2
        have c3 : wr.cell? ⟨b, o + k * 4 + 3, none⟩ = some bv := q3
        have HV1 := Lib.hid (HG1.out rules[k] bv wr (pure_trans HBX.out HB.out) hok hbd)
        have HV2 := Lib.hid (fun (w' : World) (hb : Below wr.heap.size wr w') => HG2.out rules[k] bv w' (pure_trans HBX.out (pure_trans HB.out hb)) hok (tFcts.mono _ _ _ _ (below_mem hb) hbd))
        obtain ⟨ab, cb, rfl, -, -, -⟩ := slice_form hbd
        clear q0 q1 q2 q3 hok hbd
        generalize rules[k] = r at *
        obtain ⟨⟨r1, r2, r3⟩, bd⟩ := r
        simp only at c0 c1 c2 c3
        obtain ⟨c, hce⟩ : ∃ c, c = codeG ⟨⟨r1, r2, r3⟩, bd⟩ l := ⟨_, rfl⟩
        obtain ⟨F, hF⟩ : ∃ F, F = factsG ⟨⟨r1, r2, r3⟩, bd⟩ l := ⟨_, rfl⟩
        have HCE := Lib.hid hce
        have HFE := Lib.hid hF
        have hcc : (c != c) = false := by simp
        have hcc2 : (c == c) = true := by simp
        clear hce hF
        go_wp2_with fail
        refine HV1.out.mono ?_
        rintro e w4 ⟨v4, rfl, hv4, hb4⟩
        rw [← HCE.out]
        rw [← HFE.out] at hv4
        have HV4 := Lib.hid (fun (w' : World) (hb : Below w4.heap.size w4 w') => tFcts.mono _ _ _ _ (below_mem hb) hv4)
        have HW2 := Lib.hid (HV2.out w4 hb4)
        have HB4 := Lib.hid (pure_trans HB.out hb4)
        obtain ⟨a4, c4, rfl, -⟩ := slice_form hv4
        have d0 : w4.cell? ⟨b, o + k * 4, none⟩ = some (.string r1) := below_mem hb4 _ _ _ c0
        have d1 : w4.cell? ⟨b, o + k * 4 + 1, none⟩ = some (.string r2) := below_mem hb4 _ _ _ c1
        have d2 : w4.cell? ⟨b, o + k * 4 + 2, none⟩ = some (.string r3) := below_mem hb4 _ _ _ c2
        have d3 : w4.cell? ⟨b, o + k * 4 + 3, none⟩ = some (.slice ab bd.length cb) := below_mem hb4 _ _ _ c3
        clear hv4 hb4 HV1 HV2 c0 c1 c2 c3 HB
        go_wp2_with fail
        refine HW2.out.mono ?_
        rintro e w5 ⟨v5, rfl, hv5, hb5⟩
        rw [← HCE.out]
        rw [← HFE.out] at hv5
        have HB5 := Lib.hid (pure_trans HB4.out hb5)
        have HSM := Lib.hid (refSame_any F _ _ w5 (HV4.out w5 hb5) hv5)
        obtain ⟨a5, c5, rfl, -⟩ := slice_form hv5
        clear hv5 hb5 HW2 HV4 HB4 d0 d1 d2 d3
        go_wp2_with fail
        refine HSM.out.mono ?_
        rintro e w6 ⟨rfl, hb6⟩
        have HB6 := Lib.hid (pure_trans HB5.out hb6)
        clear hb6 HSM HB5
        go_wp2
        go_roundw
        case rel => exact ⟨k + 1, by omega, by go_num, HB6⟩
        case measure => simp [intOf]; omega
      · obtain rfl : k = rules.length := by omega
        go_wp2_with fail
        refine (awake_any wr).mono ?_
        rintro e w9 ⟨rfl, hb9⟩
        have HB9 := Lib.hid (pure_trans HBX.out (pure_trans HB.out hb9))
        go_wp2
        go_ret
        exact ⟨rfl, HB9.out⟩
end Go.Proofs.Ytafeaeaildfohaa
namespace Go.Proofs.Ytafeaeaildfohaa.lawRingNeeds
open Go.ChangeShapes Go.WideShapes Go.ChangeAt Go.RowKit
set_option maxRecDepth 100000 in
theorem lifted (os : Os) (started : os.Started) (H : Type) (enc : TypeId × Value → H) :
    ReturnsInHanded {} Try.checked os 5 .any (Rows.ringNeedsSpec.pre6 enc Try.prog Try.f5 Rows.ringNeedsRow.domain false) (Rows.ringNeedsSpec.post enc Try.prog Try.f5 false true false false) := by
  refine returnsInHanded_of_change_sized (C := Try.checked) Try.own started (by kernel_rfl) Try.func5
    (ChangeSpec.witness6 (enc := enc) (C := Try.checked) false ⟨#[], #[.slice none 0 0, .slice none 0 0, .agg #[.string .empty, .string .empty, .string .empty]], []⟩ 8 (by kernel_rfl) (by kernel_rfl) (by kernel_rfl) (by kernel_rfl)) ?_
  intro W base args ds gs before hval0 hW hcnd hszs _
  have hval : ∀ (j : Nat) t v, Try.f5.params[j]? = some t → args[j]? = some v → Value.okWide Try.prog W .any base t v := hval0
  have hW' := hW
  obtain ⟨p, q, hA0, hV, rfl, hfz, hnd⟩ := hW
  have hA : DataW.TrodAll enc Try.prog W 0 (fun _ => true) true Try.f5.params.toList args.toList ds p := hA0
  rw [Try.params5] at hA hval
  obtain ⟨v0, vs0, d0, ds0, p0, q0, hargs, rfl, rfl, h0, r0⟩ := trodAll_cons hA
  obtain ⟨v1, vs1, d1, ds1, p1, q1, rfl, rfl, rfl, h1, r1⟩ := trodAll_cons r0
  obtain ⟨v2, vs2, d2, ds2, p2, q2, rfl, rfl, rfl, h2, r2⟩ := trodAll_cons r1
  obtain ⟨rfl, rfl, rfl⟩ := trodAll_nil r2
  obtain rfl : args = #[v0, v1, v2] := by cases args; simp_all
  obtain ⟨rfl, rfl⟩ := trodVars_none hV
  obtain ⟨x0, w0⟩ := arg_slice (t := tRul) reads_ruls Try.underlying22 (hval 0 22 v0 rfl rfl) h0
  obtain ⟨x1, w1⟩ := arg_slice (t := tFct) reads_fcts Try.underlying23 (hval 1 23 v1 rfl rfl) h1
  obtain ⟨x2, cs2, rfl, e2, w2⟩ := arg_struct (t := tFct) reads_fct Try.underlying33 (hval 2 33 v2 rfl rfl) h2
  obtain rfl : cs2 = #[.string x2.n, .string x2.a, .string x2.b] := by cases cs2; simpa using e2
  have hsz := sized_len (t := tFct) (v := v1) 1 48 Try.underlying23 (by kernel_rfl) w1 h1 hszs (by rw [Try.params5]; rfl) rfl
  clear hA0 hval0 hszs
  refine (ringNeeds_any x0 v0 x1 v1 x2 W w0 w1 w2 hsz).mono fun e W' ⟨he, bel⟩ => ?_
  subst he
  exact ⟨_, rfl, law_post Try.laidOut rfl (by rw [Try.params5]; intro t ht; have hs : Try.prog.types.size = Try.prog.types.size := rfl; simp only [List.mem_cons, List.not_mem_nil, or_false] at ht; rcases ht with rfl | rfl | rfl <;> exact ⟨by kernel_rfl, of_decide_eq_true (by kernel_rfl)⟩) (by kernel_rfl) Try.underlying4 rfl rfl rfl hW' bel⟩

theorem proved : Rows.RingNeedsSaid :=
  OpenClaim.holds_of_wide 5 Try.f5 rfl rfl rfl rfl rfl rfl rfl ⟨rfl, rfl, rfl, rfl, rfl⟩ rfl rfl rfl rfl rfl (by kernel_rfl) Try.func5 (by kernel_rfl)
    (of_decide_eq_true (by kernel_rfl)) (by unfold Func.isWrapper; first | (rw [if_pos (by decide +kernel)]; kernel_rfl) | (rw [if_neg (by decide +kernel)]; exact ⟨rfl, rfl⟩))
    (fun os started H enc _ => lifted os started H enc)
#print axioms proved
end Go.Proofs.Ytafeaeaildfohaa.lawRingNeeds
