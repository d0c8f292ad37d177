/- Part 3 of the texts that the law's proof stands on, merged. -/
import Derived.Laws.OwnMore
import Derived.Lib.AppendZerosOnto
import Derived.Lib.AppendZeros
import Derived.Lib.Overlaps
import Derived.Laws.Externs
import Derived.Test.YtjenfhkikbndmaaSn02
set_option linter.unusedVariables false
set_option linter.unusedSimpArgs false
/- What holds of a slab's runs and their uses: counts, bounds (for chapter 14). No program in sight. -/
namespace Go.Proofs.Ytjenfhkikbndmaa
/-- A sum over numbers of runs. -/
def wr (f : Nat → Nat) (l : List Nat) : Nat := (l.map f).sum
theorem wr_nil (f : Nat → Nat) : wr f [] = 0 := rfl
theorem wr_cons (f : Nat → Nat) (n : Nat) (l : List Nat) : wr f (n :: l) = f n + wr f l := by unfold wr; rw [List.map_cons, List.sum_cons]
theorem wr_append (f : Nat → Nat) (l m : List Nat) : wr f (l ++ m) = wr f l + wr f m := by unfold wr; rw [List.map_append, List.sum_append]
theorem wr_congr {f g : Nat → Nat} {l : List Nat} (h : ∀ n ∈ l, f n = g n) : wr f l = wr g l := by unfold wr; rw [List.map_congr_left h]
theorem wr_le {f : Nat → Nat} {l : List Nat} {n : Nat} (h : n ∈ l) : f n ≤ wr f l := by
  induction l with
  | nil => cases h
  | cons m l ih =>
    rw [wr_cons]
    rcases List.mem_cons.1 h with rfl | h
    · omega
    · have := ih h; omega
theorem wr_one (l : List Nat) : wr (fun _ => 1) l = l.length := by
  induction l with
  | nil => rfl
  | cons m l ih => rw [wr_cons, ih, List.length_cons]; omega
/-- How often a number is there. -/
def oneN (n m : Nat) : Nat := if m = n then 1 else 0
theorem cnt_pos {n : Nat} {l : List Nat} : 0 < wr (oneN n) l ↔ n ∈ l := by
  induction l with
  | nil => simp [wr]
  | cons m l ih =>
    rw [wr_cons, List.mem_cons]
    unfold oneN
    by_cases e : m = n
    · subst e; simp; omega
    · rw [if_neg e, Nat.zero_add]
      have e' : ¬ n = m := fun h => e h.symm
      simp only [e', false_or]
      exact ih
theorem cnt_le (n : Nat) (l : List Nat) : wr (oneN n) l ≤ l.length := by
  induction l with
  | nil => exact Nat.le_refl _
  | cons m l ih =>
    rw [wr_cons, List.length_cons]
    unfold oneN at *
    split <;> omega
theorem wr_set (f : Nat → Nat) : ∀ (LL : List (List Nat)) (k : Nat) (row : List Nat), k < LL.length → wr f (LL.set k row).flatten + wr f (lvL LL k) = wr f LL.flatten + wr f row
  | [], k, _, h => absurd h (by simp)
  | l :: LL, 0, row, _ => by
    rw [List.set_cons_zero, List.flatten_cons, List.flatten_cons, wr_append, wr_append]
    show _ + wr f l = _
    omega
  | l :: LL, k + 1, row, h => by
    have ih := wr_set f LL k row (by simpa using h)
    rw [List.set_cons_succ, List.flatten_cons, List.flatten_cons, wr_append, wr_append, lvL_cons]
    omega
theorem ext_flat (LL : List (List Nat)) (n : Nat) : (extL LL n).flatten = LL.flatten := by
  unfold extL
  rw [List.flatten_append]
  have : (List.replicate (n + 1 - LL.length) ([] : List Nat)).flatten = [] := by
    rw [List.flatten_eq_nil_iff]
    intro l hl
    exact (List.mem_replicate.1 hl).2
  rw [this, List.append_nil]
theorem wr_put (f : Nat → Nat) (LL : List (List Nat)) (n x : Nat) : wr f (putLv LL n x).flatten = wr f LL.flatten + f x := by
  have h := wr_set f (extL LL n) n (x :: lvL LL n) (extL_len LL n)
  rw [lvL_ext, ext_flat, wr_cons] at h
  show wr f ((extL LL n).set n (x :: lvL LL n)).flatten = _
  omega
theorem putLv_len (LL : List (List Nat)) (n x : Nat) : (putLv LL n x).length = max LL.length (n + 1) := by
  unfold putLv extL
  rw [List.length_set, List.length_append, List.length_replicate]
  omega
def snCnt (sn : List (Int × List (List Nat))) (n : Nat) : Nat := (sn.map fun x => wr (oneN n) x.2.flatten).sum
def LS.cnt (s : LS) (n : Nat) : Nat := wr (oneN n) s.lv.flatten + snCnt s.sn n
theorem snCnt_le {sn : List (Int × List (List Nat))} {n w : Nat} (h : ∀ x ∈ sn, x.2.flatten.length ≤ w) : snCnt sn n ≤ sn.length * w := by
  unfold snCnt
  induction sn with
  | nil => simp
  | cons x sn ih =>
    rw [List.map_cons, List.sum_cons, List.length_cons, Nat.succ_mul]
    have := ih (fun y hy => h y (List.mem_cons_of_mem _ hy))
    have h2 := cnt_le n x.2.flatten
    have h3 := h x List.mem_cons_self
    omega
/-- Uses are told by levels and snapshots, and by a list besides. -/
structure LS.SoundX (s : LS) (X : List Nat) : Prop where
  use : ∀ n ∈ s.kept, s.use n = ((s.cnt n + wr (oneN n) X : Nat) : Int)
  kept : ∀ n, n ∈ s.kept ↔ 0 < s.cnt n + wr (oneN n) X
  lt : ∀ n ∈ s.kept, 1 ≤ n ∧ n ≤ s.runs
  up : s.kept.Pairwise (· < ·)
  asc : ∀ n ∈ s.kept, AscC recC (s.rc n)
abbrev LS.Sound (s : LS) : Prop := s.SoundX []
theorem LS.SoundX.made {s : LS} {X : List Nat} (h : s.SoundX X) {l : List RecS} (hl : AscC recC l) : (s.made l).SoundX ((s.runs + 1) :: X) := by
  have hn : ¬ (s.runs + 1) ∈ s.kept := fun hk => by have := (h.lt _ hk).2; omega
  have h0 : s.cnt (s.runs + 1) + wr (oneN (s.runs + 1)) X = 0 := by
    have := mt (h.kept (s.runs + 1)).2 hn
    omega
  have hc : ∀ n, (s.made l).cnt n = s.cnt n := fun _ => rfl
  refine ⟨fun n hk => ?_, fun n => ?_, fun n hk => ?_, ?_, fun n hk => ?_⟩
  · show updN s.use (s.runs + 1) 1 n = _
    rw [hc, wr_cons]
    rcases List.mem_append.1 hk with hk | hk
    · have hne : n ≠ s.runs + 1 := fun e => hn (e ▸ hk)
      rw [updN_other _ _ hne, h.use n hk]
      unfold oneN
      rw [if_neg (Ne.symm hne), Nat.zero_add]
    · obtain rfl := List.mem_singleton.1 hk
      rw [updN_same]
      unfold oneN
      rw [if_pos rfl]
      unfold oneN at h0
      omega
  · rw [hc, wr_cons]
    show n ∈ s.kept ++ [s.runs + 1] ↔ _
    rw [List.mem_append, List.mem_singleton, h.kept n]
    unfold oneN
    by_cases e : n = s.runs + 1
    · subst e; simp; omega
    · rw [if_neg (Ne.symm e)]; simp [e]
  · show 1 ≤ n ∧ n ≤ s.runs + 1
    rcases List.mem_append.1 hk with hk | hk
    · have := h.lt n hk; omega
    · have := List.mem_singleton.1 hk; omega
  · show (s.kept ++ [s.runs + 1]).Pairwise (· < ·)
    rw [List.pairwise_append]
    exact ⟨h.up, List.pairwise_singleton _ _, fun a ha b hb => by have := (h.lt a ha).2; have := List.mem_singleton.1 hb; omega⟩
  · show AscC recC (updN s.rc (s.runs + 1) l n)
    rcases List.mem_append.1 hk with hk | hk
    · have hne : n ≠ s.runs + 1 := fun e => hn (e ▸ hk)
      rw [updN_other _ _ hne]; exact h.asc n hk
    · obtain rfl := List.mem_singleton.1 hk; rw [updN_same]; exact hl
/-- What counts alike is as sound. -/
theorem LS.SoundX.same {s t : LS} {X Y : List Nat} (h : s.SoundX X) (hk : t.kept = s.kept) (hu : t.use = s.use) (hr : t.runs = s.runs) (hc : t.rc = s.rc) (hcnt : ∀ n, t.cnt n + wr (oneN n) Y = s.cnt n + wr (oneN n) X) : t.SoundX Y :=
  ⟨fun n hn => by rw [hu, hcnt]; exact h.use n (hk ▸ hn), fun n => by rw [hk, hcnt]; exact h.kept n, fun n hn => by rw [hr]; exact h.lt n (hk ▸ hn), hk ▸ h.up, fun n hn => by rw [hc]; exact h.asc n (hk ▸ hn)⟩
theorem LS.SoundX.put {s : LS} {X : List Nat} {lvl n : Nat} (h : s.SoundX (n :: X)) : ({ s with lv := putLv s.lv lvl n } : LS).SoundX X :=
  h.same rfl rfl rfl rfl (fun m => by
    show wr (oneN m) (putLv s.lv lvl n).flatten + snCnt s.sn m + _ = wr (oneN m) s.lv.flatten + snCnt s.sn m + _
    rw [wr_put, wr_cons]; omega)
theorem LS.SoundX.bare {s : LS} {X : List Nat} {k : Nat} (h : s.SoundX X) (hk : k < s.lv.length) : ({ s with lv := s.lv.set k [] } : LS).SoundX (lvL s.lv k ++ X) :=
  h.same rfl rfl rfl rfl (fun m => by
    show wr (oneN m) (s.lv.set k []).flatten + snCnt s.sn m + _ = wr (oneN m) s.lv.flatten + snCnt s.sn m + _
    have := wr_set (oneN m) s.lv k [] hk
    rw [wr_nil] at this
    rw [wr_append]; omega)
theorem LS.SoundX.mem {s : LS} {X : List Nat} {n : Nat} (h : s.SoundX (n :: X)) : n ∈ s.kept ∧ 1 ≤ s.use n := by
  have hk : n ∈ s.kept := (h.kept n).2 (by rw [wr_cons]; unfold oneN; rw [if_pos rfl]; omega)
  refine ⟨hk, ?_⟩
  rw [h.use n hk, wr_cons]
  unfold oneN
  rw [if_pos rfl]; omega
theorem LS.SoundX.left {s : LS} {X : List Nat} {n : Nat} (h : s.SoundX (n :: X)) : (s.left n).SoundX X := by
  obtain ⟨hk, h1⟩ := h.mem
  have hu := h.use n hk
  have e1 : wr (oneN n) (n :: X) = 1 + wr (oneN n) X := by rw [wr_cons]; unfold oneN; rw [if_pos rfl]
  have e2 : ∀ m, m ≠ n → wr (oneN m) (n :: X) = wr (oneN m) X := fun m hm => by rw [wr_cons]; unfold oneN; rw [if_neg (Ne.symm hm), Nat.zero_add]
  rw [e1] at hu
  unfold LS.left
  by_cases h2 : s.use n = 1
  · rw [if_pos h2]
    have hc : ∀ m, ({ s with use := updN s.use n 0, kept := s.kept.filter (fun m => m != n) } : LS).cnt m = s.cnt m := fun _ => rfl
    refine ⟨fun m hm => ?_, fun m => ?_, fun m hm => h.lt m (List.mem_filter.1 hm).1, h.up.filter _, fun m hm => h.asc m (List.mem_filter.1 hm).1⟩
    · obtain ⟨hm1, hm2⟩ := List.mem_filter.1 hm
      have hne : m ≠ n := by simpa using hm2
      show updN s.use n 0 m = _
      rw [updN_other _ _ hne, hc, h.use m hm1, e2 m hne]
    · rw [hc]
      show m ∈ s.kept.filter (fun m => m != n) ↔ _
      rw [List.mem_filter]
      by_cases e : m = n
      · subst e
        simp
        omega
      · have := h.kept m
        rw [e2 m e] at this
        rw [this]
        simp [e]
  · rw [if_neg h2]
    have hc : ∀ m, ({ s with use := updN s.use n (s.use n - 1) } : LS).cnt m = s.cnt m := fun _ => rfl
    refine ⟨fun m hm => ?_, fun m => ?_, h.lt, h.up, h.asc⟩
    · show updN s.use n (s.use n - 1) m = _
      rw [hc]
      by_cases e : m = n
      · subst e; rw [updN_same]; omega
      · rw [updN_other _ _ e, h.use m hm, e2 m e]
    · rw [hc]
      have := h.kept m
      show m ∈ s.kept ↔ _
      rw [this]
      by_cases e : m = n
      · subst e; rw [e1]; omega
      · rw [e2 m e]
theorem LS.SoundX.lvKept {s : LS} {X : List Nat} (h : s.SoundX X) : ∀ x ∈ s.lv, ∀ n ∈ x, n ∈ s.kept := fun x hx n hn =>
  (h.kept n).2 (by
    have : 0 < wr (oneN n) s.lv.flatten := cnt_pos.2 (List.mem_flatten.2 ⟨x, hx, hn⟩)
    unfold LS.cnt; omega)
end Go.Proofs.Ytjenfhkikbndmaa
/- Append of a whole slice to a row of the call's own, in readings that ask nothing of memory (XApp). -/
namespace Go.Proofs.Ytjenfhkikbndmaa
open Go.RowKit

theorem flatten_split {β : Type} {s : Nat} (hs : 0 < s) : ∀ (css : List (List β)), (∀ c ∈ css, c.length = s) → ∀ (j : Nat) (v : β), css.flatten[j]? = some v → ∃ k, ∃ h : k < css.length, ∃ r, j = k * s + r ∧ css[k][r]? = some v
  | [], _, j, v, h => by simp at h
  | c :: css, hl, j, v, h => by
    have hc : c.length = s := hl c List.mem_cons_self
    rw [List.flatten_cons] at h
    by_cases hj : j < c.length
    · rw [List.getElem?_append_left hj] at h
      exact ⟨0, by simp, j, by omega, by simpa using h⟩
    · rw [List.getElem?_append_right (by omega)] at h
      obtain ⟨k, hk, r, e, hv⟩ := flatten_split hs css (fun x hx => hl x (List.mem_cons_of_mem _ hx)) _ _ h
      exact ⟨k + 1, by simp; omega, r, by rw [Nat.add_mul]; omega, by simpa using hv⟩

theorem flatten_len {β : Type} {s : Nat} : ∀ (css : List (List β)), (∀ c ∈ css, c.length = s) → css.flatten.length = css.length * s
  | [], _ => by simp
  | c :: css, hl => by
    rw [List.flatten_cons, List.length_append, flatten_len css (fun x hx => hl x (List.mem_cons_of_mem _ hx)), hl c List.mem_cons_self, List.length_cons, Nat.add_mul]
    omega

theorem slice_css {α : Type} {t : Ty α} {m : Mem} {b o : Nat} {n cap : Nat} {ys : List α} (h : (tSlice t).rv m [.slice (some ⟨b, o, none⟩) n cap] ys) :
    ∃ css : List (List Value), css.length = ys.length ∧ (∀ c ∈ css, c.length = t.sz) ∧ ∀ k, (h : k < css.length) → (h' : k < ys.length) → At m b (o + k * t.sz) css[k] ∧ t.rv m css[k] ys[k] := by
  have hk : ∀ k : Fin ys.length, ∃ cs, At m b (o + k.val * t.sz) cs ∧ t.rv m cs ys[k.val] := fun k => by
    obtain ⟨b', o', e, hat⟩ := slice_at h k.isLt
    injection e with e
    injection e with e1 e2
    subst e1; subst e2
    exact hat
  refine ⟨List.ofFn (fun k => Classical.choose (hk k)), by simp, fun c hc => ?_, fun k h1 h2 => ?_⟩
  · obtain ⟨k, rfl⟩ := List.mem_ofFn.1 hc
    exact t.len _ _ _ (Classical.choose_spec (hk k)).2
  · simp only [List.getElem_ofFn]
    exact Classical.choose_spec (hk ⟨k, h2⟩)

section
variable {P : Program}
theorem run_append_flat {α : Type} {t : Ty α} (hf : t.flat) (hone : ∀ m cs x, t.rv m cs x → ∀ u ∈ cs, u.oneCell' = true) (w : World) (T ty : TypeId) {e : TypeId} {z : Value} {bytes : Nat} (hT : P.underlying T = some (.slice e))
    (hinf : (P.info? e).map (fun i => (i.zero, i.size, i.bytes)) = some (some z, t.sz, bytes)) (hzs : z.cells.size = t.sz) (hsz : 0 < t.sz) (B : Nat) (v : Value) (xs ys : List α) (hown : Owns t w B e v xs)
    (a : Option Addr) (c : Nat) (hy : (tSlice t).rv (mem w) [.slice a ys.length c] ys) (h63 : xs.length + ys.length ≤ maxLen) (hbytes : (xs.length + ys.length) * bytes ≤ 140737488355328) (hbase : B ≤ w.heap.size) :
    ∃ v' w', (Builtin.append_ #[T, T] ty #[v, .slice a ys.length c]).run P w = .ok v' w' ∧ Owns t w' B e v' (xs ++ ys) ∧ w.grownBy w' v.ownBlock := by
  obtain ⟨i, hi, hz, hsize, hby⟩ := info_parts hinf
  obtain ⟨css, g1, g2, g4, g5⟩ := hown
  by_cases h0 : ys.length = 0
  · obtain rfl := List.length_eq_zero_iff.1 h0
    cases a with
    | none =>
      have hr : (Builtin.append_ #[T, T] ty #[v, .slice none 0 c]).run P w = .ok v w := by
        rcases g2.2 with ⟨rfl, _⟩ | ⟨g, cap, cur, rfl, _, _, hnc, _⟩
        · simp [Builtin.append_, run_underlying hT, sizeOf, typeInfo, hi, Builtin.lenOf, Builtin.firstCells]
        · simp [Builtin.append_, run_underlying hT, sizeOf, typeInfo, hi, Builtin.lenOf, Builtin.firstCells, hnc, storeCells]
      exact ⟨v, w, hr, by rw [List.append_nil]; exact ⟨css, g1, g2, g4, g5⟩, ⟨rfl, rfl, rfl, Nat.le_refl _, fun _ _ _ => rfl⟩⟩
    | some ad =>
      obtain ⟨v', w', hr, h2, h3, _⟩ := run_append_own (P := P) w B T ty e i z t.sz bytes hT hi hz hsize hby hzs hsz v xs.length css.flatten g2 ad 0 c [] (by simp) (fun j u hj => by simp at hj) (fun u hu => by simp at hu) (by simpa using h63) (by simpa using hbytes) hbase
      exact ⟨v', w', hr, ⟨css, by simp [g1], by simpa using h2, g4, fun k h h' => by
        have h'' : k < xs.length := by simpa using h'
        have := hf _ ((mem w').on (fun b => some b ≠ v'.ownBlock)) _ _ (g5 k h h'')
        simpa using this⟩, h3⟩
  · obtain ⟨b, o, rfl, _⟩ := slice_at hy (k := 0) (by omega)
    obtain ⟨dss, d1, d2, d3⟩ := slice_css hy
    have hl : dss.flatten.length = ys.length * t.sz := by rw [flatten_len dss d2, d1]
    obtain ⟨v', w', hr, h2, h3, _⟩ := run_append_own (P := P) w B T ty e i z t.sz bytes hT hi hz hsize hby hzs hsz v xs.length css.flatten g2 ⟨b, o, none⟩ ys.length c dss.flatten hl (fun j u hj => by
        obtain ⟨k, hk, r, rfl, hv⟩ := flatten_split hsz dss d2 j u hj
        have := (d3 k hk (by omega)).1 r u hv
        rw [Addr.add_lit, ← Nat.add_assoc]
        exact this) (fun u hu => by
        obtain ⟨l, hl, hu⟩ := List.mem_flatten.1 hu
        obtain ⟨k, hk, rfl⟩ := List.getElem_of_mem hl
        exact hone _ _ _ (d3 k hk (by omega)).2 u hu) h63 hbytes hbase
    refine ⟨v', w', hr, ⟨css ++ dss, by simp [g1, d1], by simpa using h2, fun cc hc => ?_, fun k h h' => ?_⟩, h3⟩
    · rcases List.mem_append.1 hc with hc | hc
      · exact g4 _ hc
      · exact d2 _ hc
    · by_cases hlt : k < xs.length
      · rw [List.getElem_append_left (by omega), List.getElem_append_left hlt]
        exact hf _ _ _ _ (g5 k (by omega) hlt)
      · rw [List.getElem_append_right (by omega), List.getElem_append_right (by omega)]
        have hk : k - xs.length < ys.length := by simp at h'; omega
        have := (d3 (k - xs.length) (by omega) hk).2
        simp only [g1]
        exact hf _ _ _ _ this

theorem wpList_append_flat {α : Type} {ops : Array Oper} {rest : List Oper} {o : Oper} {a : Act} {Q : Exit → Act → World → Prop} {w : World} (hgd : o.guard = none) (s x : Operand) (T : TypeId)
    (ho : o.op = .call { callee := .builtin .append, args := #[s, x], argTypes := #[T, T] }) {t : Ty α} (hf : t.flat) (hone : ∀ m cs x, t.rv m cs x → ∀ u ∈ cs, u.oneCell' = true) {e : TypeId} {z : Value} {bytes : Nat} (hT : P.underlying T = some (.slice e))
    (hinf : (P.info? e).map (fun i => (i.zero, i.size, i.bytes)) = some (some z, t.sz, bytes)) (hzs : z.cells.size = t.sz) (hsz : 0 < t.sz) (B : Nat) (v : Value) (xs ys : List α) (hs : a.eval s = v) (hown : Owns t w B e v xs)
    (ad : Option Addr) (n c : Nat) (hx : a.eval x = .slice ad n c) (hn : n = ys.length) (hy : (tSlice t).rv (mem w) [.slice ad n c] ys) (h63 : xs.length + ys.length ≤ maxLen) (hbytes : (xs.length + ys.length) * bytes ≤ 140737488355328) (hbase : B ≤ w.heap.size)
    (h : ∀ v' w', Owns t w' B e v' (xs ++ ys) → w.grownBy w' v.ownBlock → wpList P ops Q rest (a.put o.dst v') w') : wpList P ops Q (o :: rest) a w := by
  subst hn
  refine wpList_plain hgd fun K hK => ?_
  obtain ⟨v', w', hr, h2, h3⟩ := run_append_flat (P := P) hf hone w T o.type hT hinf hzs hsz B v xs ys hown ad c hy h63 hbytes hbase
  unfold Oper.wp execOp
  simp only [ho, resolve, invoke, builtin, Sem.run_bind, Sem.run_pure, Result.andThen_ok, List.map_toArray, List.map_cons, List.map_nil, hs, hx, hr]
  exact hK _ _ (h v' w' h2 h3)
end
end Go.Proofs.Ytjenfhkikbndmaa
/- Rows of the call's own: an element replaced; an append of a whole slice as one step of a drawn region (for chapter 14). -/
namespace Go.Proofs.Ytjenfhkikbndmaa
open Go.RowKit
theorem flatten_set_get {β : Type} {s : Nat} : ∀ (css : List (List β)), (∀ c ∈ css, c.length = s) → ∀ (k : Nat), k < css.length → ∀ (cs : List β), cs.length = s → ∀ j, (css.set k cs).flatten[j]? = if k * s ≤ j ∧ j < k * s + s then cs[j - k * s]? else css.flatten[j]?
  | [], _, k, hk, _, _, _ => absurd hk (by simp)
  | c :: css, h, 0, _, cs, hc, j => by
    have hl : c.length = s := h c List.mem_cons_self
    rw [List.set_cons_zero, List.flatten_cons, List.flatten_cons]
    by_cases hj : j < s
    · rw [if_pos (by omega), List.getElem?_append_left (by omega)]; simp
    · rw [if_neg (by omega), List.getElem?_append_right (by omega), List.getElem?_append_right (by omega), hl, hc]
  | c :: css, h, k + 1, hk, cs, hc, j => by
    have hl : c.length = s := h c List.mem_cons_self
    rw [List.set_cons_succ, List.flatten_cons, List.flatten_cons]
    by_cases hj : j < s
    · rw [if_neg (by rw [Nat.succ_mul]; omega), List.getElem?_append_left (by omega), List.getElem?_append_left (by omega)]
    · rw [List.getElem?_append_right (by omega), List.getElem?_append_right (by omega), flatten_set_get css (fun c hc => h c (List.mem_cons_of_mem _ hc)) k (by simpa using hk) cs hc, hl]
      by_cases hk2 : k * s ≤ j - s ∧ j - s < k * s + s
      · rw [if_pos hk2, if_pos (by rw [Nat.succ_mul]; omega)]
        congr 1
        rw [Nat.succ_mul]; omega
      · rw [if_neg hk2, if_neg (by rw [Nat.succ_mul]; omega)]
theorem flatten_len_s {β : Type} {s : Nat} : ∀ (css : List (List β)), (∀ c ∈ css, c.length = s) → css.flatten.length = css.length * s
  | [], _ => by simp
  | c :: css, h => by rw [List.flatten_cons, List.length_append, h c (by simp), flatten_len_s css (fun c hc => h c (by simp [hc])), List.length_cons, Nat.succ_mul]; omega
/-- An element replaced, cell by cell. -/
theorem Owns.setN {α : Type} {t : Ty α} {w W' : World} {B : Nat} {e : TypeId} {g o n c : Nat} {xs : List α} (h : Owns t w B e (.slice (some ⟨g, o, none⟩) n c) xs) (hf : t.flat) {k : Nat} (hk : k < xs.length) {cs : List Value} {y : α} (hy : t.rv noMem cs y)
    {cur cur' : Array Value} (hg : w.heap[g]? = some (.cells cur e (0, 0))) (hg' : W'.heap[g]? = some (.cells cur' e (0, 0))) (hsz : cur'.size = cur.size) (hat : ∀ j : Nat, cur'[j]? = if k * t.sz ≤ j ∧ j < k * t.sz + t.sz then cs[j - k * t.sz]? else cur[j]?) : Owns t W' B e (.slice (some ⟨g, o, none⟩) n c) (xs.set k y) := by
  obtain ⟨css, h1, ⟨h2, h3⟩, h4, h5⟩ := h
  have hcl := t.len _ _ _ hy
  rcases h3 with ⟨e1, _⟩ | ⟨g', cap, cur2, e1, hB, hh, hn, hm, hc, ht⟩
  · cases e1
  · cases e1
    rw [hg] at hh
    injection hh with hh
    injection hh with hh _ _
    subst hh
    have hks : (k + 1) * t.sz ≤ xs.length * t.sz := Nat.mul_le_mul_right _ hk
    rw [Nat.succ_mul] at hks
    have h4' : ∀ c ∈ css.set k cs, c.length = t.sz := fun c hc => by
      rcases List.mem_or_eq_of_mem_set hc with h | h
      · exact h4 c h
      · rw [h]; exact hcl
    refine ⟨css.set k cs, by simp [h1], ⟨?_, .inr ⟨g, c, cur', by simp, hB, hg', by simpa using hn, hm, hsz.trans hc, ?_⟩⟩, h4', fun i hi hi' => ?_⟩
    · rw [flatten_len_s _ h4', List.length_set, List.length_set, h1]
    · rw [List.length_set]
      apply List.ext_getElem?
      intro j
      rw [flatten_set_get css h4 k (by omega) cs hcl j, List.getElem?_take, ← ht, List.getElem?_take]
      by_cases hj : j < xs.length * t.sz
      · rw [if_pos hj, if_pos hj, show cur'.toList[j]? = cur'[j]? from Array.getElem?_toList, show cur.toList[j]? = cur[j]? from Array.getElem?_toList, hat j]
      · rw [if_neg hj, if_neg hj, if_neg (by omega)]
    · rw [List.getElem_set, List.getElem_set]
      by_cases e2 : k = i
      · simp only [e2, if_true]; exact hf _ _ _ _ hy
      · rw [if_neg e2]; simp only [e2, if_false]
        exact hf _ _ _ _ (h5 i (by simpa using hi) (by simpa using hi'))
/-- An element of one cell replaced. -/
theorem Owns.set1 {α : Type} {t : Ty α} {w : World} {B : Nat} {e : TypeId} {g o n c : Nat} {xs : List α} (h : Owns t w B e (.slice (some ⟨g, o, none⟩) n c) xs) (hf : t.flat) (h1 : t.sz = 1) {k : Nat} (hk : k < xs.length) {u : Value} {y : α} (hy : t.rv noMem [u] y) : Owns t (w.setCell ⟨g, k, none⟩ u) B e (.slice (some ⟨g, o, none⟩) n c) (xs.set k y) := by
  have h' := h
  obtain ⟨css, g1, ⟨g2, g3⟩, g4, g5⟩ := h'
  rcases g3 with ⟨e1, _⟩ | ⟨g', cap, cur, e1, hB, hh, hn, hm, hc, ht⟩
  · cases e1
  · cases e1
    refine h.setN hf hk hy hh (setS hh) (by simp) (fun j => ?_)
    rw [h1, Nat.mul_one, Array.getElem?_setIfInBounds]
    by_cases e2 : k = j
    · subst e2
      rw [if_pos rfl, if_pos (by rw [hc, h1]; omega), if_pos ⟨Nat.le_refl _, by omega⟩, Nat.sub_self]; rfl
    · rw [if_neg e2, if_neg (by omega)]
/-- The row's block. -/
theorem Owns.blk {α : Type} {t : Ty α} {w : World} {B : Nat} {e : TypeId} {v : Value} {xs : List α} (h : Owns t w B e v xs) (h0 : 0 < xs.length) : ∃ g c cur, v = .slice (some ⟨g, 0, none⟩) xs.length c ∧ w.heap[g]? = some (.cells cur e (0, 0)) ∧ xs.length ≤ c ∧ c ≤ maxLen ∧ cur.size = c * t.sz := by
  obtain ⟨css, g1, ⟨g2, g3⟩, g4, g5⟩ := h
  rcases g3 with ⟨rfl, h⟩ | ⟨g', cap, cur, rfl, hB, hh, hn, hm, hc, ht⟩
  · omega
  · exact ⟨g', cap, cur, rfl, hh, hn, hm, hc⟩
/-- APPEND OF A WHOLE SLICE to a row of the call's own, as one step of a region that draws its order. -/
theorem step_append_flat {P : Program} {α : Type} {ops : Array Oper} {o : Oper} {a : Act} {w : World} {K : Act → World → Prop} {Q : Exit → Act → World → Prop} {E : Prop} (hgd : o.guard = none) (s x : Operand) (T : TypeId)
    (ho : o.op = .call { callee := .builtin .append, args := #[s, x], argTypes := #[T, T] }) {t : Ty α} (hf : t.flat) (hone : ∀ m cs x, t.rv m cs x → ∀ u ∈ cs, u.oneCell' = true) {e : TypeId} {z : Value} {bytes : Nat} (hT : P.underlying T = some (.slice e))
    (hinf : (P.info? e).map (fun i => (i.zero, i.size, i.bytes)) = some (some z, t.sz, bytes)) (hzs : z.cells.size = t.sz) (hsz : 0 < t.sz) (B : Nat) (v : Value) (xs ys : List α) (hs : a.eval s = v) (hown : Owns t w B e v xs)
    (ad : Option Addr) (n c : Nat) (hx : a.eval x = .slice ad n c) (hn : n = ys.length) (hy : (tSlice t).rv (mem w) [.slice ad n c] ys) (h63 : xs.length + ys.length ≤ maxLen) (hbytes : (xs.length + ys.length) * bytes ≤ 140737488355328) (hbase : B ≤ w.heap.size)
    (h : ∀ v' w', Owns t w' B e v' (xs ++ ys) → w.grownBy w' v.ownBlock → K (a.put o.dst v') w') : if Region.wanted o (yielded ops a.tmps) = true then Oper.wp P o a w K Q else E := by
  subst hn
  have hw : Region.wanted o (yielded ops a.tmps) = true := by simp [Region.wanted, hgd]
  rw [if_pos hw]
  obtain ⟨v', w', hr, h2, h3⟩ := run_append_flat (P := P) hf hone w T o.type hT hinf hzs hsz B v xs ys hown ad c hy h63 hbytes hbase
  unfold Oper.wp execOp
  simp only [ho, resolve, invoke, builtin, Sem.run_bind, Sem.run_pure, Result.andThen_ok, List.map_toArray, List.map_cons, List.map_nil, hs, hx, hr]
  exact h v' w' h2 h3
end Go.Proofs.Ytjenfhkikbndmaa
/- package slab: put (for chapter 14). -/
namespace Go.Proofs.Ytjenfhkikbndmaa
open Go.RowKit Go.Maps

theorem infoRow : (Try.prog.info? 72).map (fun i => (i.zero, i.size, i.bytes)) = some (some (.slice none 0 0), 1, 24) := by kernel_rfl
theorem infoRun : (Try.prog.info? 74).map (fun i => (i.zero, i.size, i.bytes)) = some (some (.pointer none), 1, 8) := by kernel_rfl
def lenAt (W : World) (p o : Nat) : Nat := match W.cell? ⟨p, o, none⟩ with | some (.slice _ n _) => n | _ => 0
theorem lenAt_of {W : World} {p o n c : Nat} {a : Option Addr} (h : W.cell? ⟨p, o, none⟩ = some (.slice a n c)) : lenAt W p o = n := by unfold lenAt; rw [h]
theorem run_one (ad : Nat → Option Nat) : ∀ m cs x, (tRun ad).rv m cs x → ∀ u ∈ cs, u.oneCell' = true := fun m cs x ⟨a, _, h⟩ u hu => by subst h; rw [List.mem_singleton.1 hu]; rfl
section
variable {base p : Nat} {r : HL}
abbrev HL.ext (r : HL) (k : Nat) (v : Value) : HL := { r with s := { r.s with lv := r.s.lv ++ List.replicate k [] }, lvv := v }
theorem LInv.levBlk {W w6 : World} (h : LInv W base p r) {ob : Obj} {v : Value} (hv : r.lvv = v) (hg : (W.alloc ob).grownBy w6 v.ownBlock) : w6.heap[p]? = W.heap[p]? := by
  have hpl := h.kind p (.inl rfl)
  exact (hg.block p (by simp; omega) (fun e => kd_ne (h.kL (hv ▸ e.symm)) h.kP (by decide) rfl)).trans (Below.heap_alloc _ _ _ hpl)
/-- The levels' row has grown, and its variable says so. -/
theorem LStep.levApp {W w6 : World} (h : LInv W base p r) {ob : Obj} {v v' : Value} {l' : List (List Nat)} (hv : r.lvv = v) (o6 : OwnsL r w6 base v' l') (hg : (W.alloc ob).grownBy w6 v.ownBlock) (hb : v'.ownBlock = v.ownBlock ∨ ∀ k, v'.ownBlock = some k → W.heap.size ≤ k) :
    LStep W base p r (w6.setCell ⟨p, 5, none⟩ v') { r with s := { r.s with lv := l' }, lvv := v' } := by
  have hpl := h.kind p (.inl rfl)
  have hp6 := h.levBlk hv hg
  have hset : Keeps (fun k => k = p) w6 (w6.setCell ⟨p, 5, none⟩ v') := (Keeps.refl (fun k => k = p) w6).setCell (p := ⟨p, 5, none⟩) (fun _ => rfl) _
  have hb' : ∀ k, v'.ownBlock = some k → r.lvv.ownBlock = some k ∨ W.heap.size ≤ k := fun k e => by
    rcases hb with hb | hb
    · exact .inl (by rw [hv, ← hb]; exact e)
    · exact .inr (hb k e)
  refine LStep.setLevels h ?_ v' l' hb' (o6.keepsFlat (tIn_flat _ _) hset (fun k e => ?_)) ?_
  · refine ⟨hset.os.trans hg.os, hset.tape.trans hg.tape, hset.output.trans hg.output, Nat.le_trans (Nat.le_trans (by simp) hg.size) hset.size, fun k hk hn => ?_⟩
    refine (hset.block k (Nat.lt_of_lt_of_le (by simp; omega) hg.size) (fun e => hn (.inl e))).trans ((hg.block k (by simp; omega) (fun e => hn (.inr (by rw [hv]; exact e.symm)))).trans (Below.heap_alloc _ _ _ hk))
  · intro e2
    subst e2
    rcases hb' k e with e | e
    · exact kd_ne (h.kL e) h.kP (by decide) rfl
    · omega
  · exact setS (hp6.trans h.hb)
/-- A level is another row, just laid. -/
theorem LStep.levSet {W w5 : World} (h : LInv W base p r) (hb5 : Below W.heap.size W w5) {g n c k : Nat} (hv : r.lvv = .slice (some ⟨g, 0, none⟩) n c) (hk : k < r.s.lv.length) {u : Value} {row : List Nat} (hu : Owns (tRun r.ad) w5 W.heap.size 74 u row) :
    ∃ r', LStep W base p r (w5.setCell ⟨g, k, none⟩ u) r' ∧ r'.s = { r.s with lv := r.s.lv.set k row } ∧ r'.ad = r.ad ∧ r'.tc = r.tc ∧ r'.tv = r.tv ∧ r'.nn = r.nn ∧ r'.lvv = r.lvv := by
  have h2 := (LStep.pure h hb5).grow (fun b => W.heap.size ≤ b) (fun b hb => ⟨.inl hb, fun hm => by have := h.kind b hm; omega⟩)
  have i2 := h2.inv
  have hrv : (tRow r.ad).rv (r.M.ext w5 (fun b => W.heap.size ≤ b)) [u] row := (tRow r.ad).mono _ _ _ _ (ext_new _ _ _) (hu.rv (fun _ h => h) (fun _ _ _ h => h))
  have hset : Keeps (fun b => b = g) w5 (w5.setCell ⟨g, k, none⟩ u) := (Keeps.refl (fun b => b = g) w5).setCell (p := ⟨g, k, none⟩) (fun _ => rfl) _
  have hlb := i2.lb
  have hlb2 : Owns (tIn (r.M.ext w5 (fun b => W.heap.size ≤ b)) (tRow r.ad)) w5 base 72 (.slice (some ⟨g, 0, none⟩) n c) r.s.lv := hv ▸ hlb
  have ho := hlb2.set1 (tIn_flat _ _) rfl hk (u := u) (y := row) hrv
  have hgo : r.lvv.ownBlock = some g := by rw [hv]; rfl
  have h3 := LStep.setLevels i2 (W' := w5.setCell ⟨g, k, none⟩ u) (hset.wide (fun b _ e => .inr (by rw [e]; exact hgo))) r.lvv (r.s.lv.set k row) (fun b e => .inl e) (by rw [hv]; exact ho)
    ((hset.block p (i2.kind p (.inl rfl)) (fun e => kd_ne i2.kP (i2.kL (show r.lvv.ownBlock = some g from hgo)) (by decide) e)).trans i2.hb)
  exact ⟨_, h2.trans h3, rfl, rfl, rfl, rfl, rfl, rfl⟩
theorem putLv_ge {LL : List (List Nat)} {n k x : Nat} (h : n < LL.length + k) (h2 : k = 0 ∨ LL.length + k ≤ n + 1) : (LL ++ List.replicate k []).set n (x :: lvL (LL ++ List.replicate k []) n) = putLv LL n x := by
  have e : LL ++ List.replicate k [] = extL LL n := by
    unfold extL
    congr 2
    omega
  rw [e, lvL_ext]; rfl
set_option maxRecDepth 100000 in
set_option maxHeartbeats 4000000 in
theorem put_any (W : World) (hI : LInv W base p r) (lvl n a : Nat) (ha : r.ad n = some a) (hl : lvl ≤ 1000000000) (hlen : r.s.lv.length ≤ 1000000000) (hrow : ∀ x ∈ r.s.lv, x.length ≤ 1000000000) :
    Calls Try.prog 45 #[ptrS p, .int .i64 lvl, ptrS a] W fun e w' => e = .returned (.tuple #[]) ∧ ∃ r', LStep W base p r w' r' ∧ r'.s = { r.s with lv := putLv r.s.lv lvl n } ∧ r'.ad = r.ad ∧ r'.tc = r.tc ∧ r'.tv = r.tv ∧ r'.nn = r.nn := by
  have H0 := Lib.hid (show LStep W base p r W (r.ext 0 r.lvv) from by
    have := LStep.refl hI
    unfold HL.ext
    simpa using this)
  have HW := Lib.hid hI.bw
  have HROW := Lib.hid hrow
  clear hI hrow
  go_enter Try.func45, Try.ntmps45
  go_wp2_with fail
  go_loopw [6] (fun _ wr => ∃ (k : Nat) (v : Value), Hid (LStep W base p r wr (r.ext k v)) ∧ (k = 0 ∨ r.s.lv.length + k ≤ lvl + 1)) (fun _ wr => lvl + 1 - lenAt wr p 5)
  case atStart => exact ⟨0, r.lvv, H0, .inl rfl⟩
  case round =>
    obtain ⟨k, v, HS, hk⟩ := hrel
    have hlb := HS.out.inv.lb
    have hlb2 : Owns (tIn r.M (tRow r.ad)) wr base 72 v (r.s.lv ++ List.replicate k []) := hlb
    obtain ⟨va, vc, hv, hvm⟩ := hlb2.len
    have hll : (r.s.lv ++ List.replicate k ([] : List Nat)).length = r.s.lv.length + k := by simp
    have HO := Lib.hid hlb2
    have c5 : wr.cell? ⟨p, 5, none⟩ = some (.slice va (r.s.lv ++ List.replicate k ([] : List Nat)).length vc) := by rw [← hv]; exact mem_cells HS.out.inv.hb 5
    have z5 := frozen_cells HS.out.inv.hb 5
    have HM := Lib.hid (lenAt_of c5)
    subst hv
    clear hlb hlb2
    by_cases hle : r.s.lv.length + k ≤ lvl
    · have HL1 := Lib.hid (show r.s.lv ++ List.replicate k ([] : List Nat) ++ [[]] = r.s.lv ++ List.replicate (k + 1) [] by rw [List.append_assoc, List.replicate_succ'])
      generalize r.s.lv ++ List.replicate k ([] : List Nat) = q at *
      have hq2 : (q.length : Int) ≤ (lvl : Int) := by omega
      have hpl : p < wr.heap.size := World.block_lt_of_cell? _ _ c5
      have hq3 : q.length ≤ 2000000000 := by omega
      have HLL := Lib.hid hll
      clear hll
      go_wp2_with (at_builtin; refine wpList_append_one rfl _ _ 61 rfl (tIn r.M (tRow r.ad)) Try.underlying61 infoRow rfl (Nat.succ_pos 0) base _ q rfl (HO.out.alloc _) _ _ ([] : List Nat) rfl [.slice none 0 0] ?a2 (show (tRow r.ad).rv r.M [.slice none 0 0] [] from slice_nil _ _) ?b2 ?c2 ?d2 ?e2 ?_)
      case a2 => exact fun j u hj => by match j, hj with | 0, hj => simp at hj; subst hj; simp [mem]
      case b2 => intro x hx; rw [List.mem_singleton.1 hx]; rfl
      case c2 => unfold maxLen; omega
      case d2 => omega
      case e2 => have := HS.out.inv.bw; simp; omega
      intro v' w6 own6 hgrow hblk
      rw [HL1.out] at own6
      obtain ⟨a6, cap6, rfl, _⟩ := own6.len
      have hst := LStep.levApp HS.out.inv (v := .slice va q.length vc) rfl own6 hgrow (hblk.imp id (fun h j e => by have := h j e; omega))
      have hb6 := HS.out.inv.levBlk (v := .slice va q.length vc) rfl hgrow
      have k5 : w6.cell? ⟨p, 5, none⟩ = some (.slice va q.length vc) := (mem_of_block hb6 5).trans c5
      have l5 : w6.frozen? ⟨p, 5, none⟩ = false := frozen_cells (hb6.trans HS.out.inv.hb) 5
      have HS2 := Lib.hid (HS.out.trans hst)
      have HM2 := Lib.hid (lenAt_of (mem_cells hst.inv.hb 5 : World.cell? _ ⟨p, 5, none⟩ = some (.slice a6 (r.s.lv ++ List.replicate (k + 1) ([] : List Nat)).length cap6)))
      have HL2 := Lib.hid (show (r.s.lv ++ List.replicate (k + 1) ([] : List Nat)).length = q.length + 1 by simp [HLL.out]; omega)
      have hk2 : k + 1 = 0 ∨ r.s.lv.length + (k + 1) ≤ lvl + 1 := .inr (by omega)
      clear own6 hgrow hblk hst hb6 HO HL1
      generalize (r.s.lv ++ List.replicate (k + 1) ([] : List Nat)).length = N at *
      go_wp2
      go_roundw
      case rel => exact ⟨k + 1, .slice a6 N cap6, HS2, hk2⟩
      case measure =>
        rw [HM2.out, HM.out, HL2.out]
        omega
    · have hq2 : ¬ ((r.s.lv ++ List.replicate k ([] : List Nat)).length : Int) ≤ (lvl : Int) := by omega
      have HPL := Lib.hid (putLv_ge (LL := r.s.lv) (n := lvl) (k := k) (x := n) (by omega) hk)
      have hrows : ∀ x ∈ r.s.lv ++ List.replicate k ([] : List Nat), x.length ≤ 1000000000 := fun x hx => by
        rcases List.mem_append.1 hx with h | h
        · exact HROW.out x h
        · rw [(List.mem_replicate.1 h).2]; simp
      have hlt : lvl < (r.s.lv ++ List.replicate k ([] : List Nat)).length := by omega
      have HLV := Lib.hid (lvL_lt hlt)
      have hxl := hrows _ (List.getElem_mem hlt)
      obtain ⟨g, vc2, cur, e1, hgc, hqc, hcm, -⟩ := HO.out.blk (by omega)
      simp only [Value.slice.injEq, true_and] at e1
      obtain ⟨rfl, rfl⟩ := e1
      obtain ⟨g2, o2, e2, hat⟩ := slice_at HO.out.rv' hlt
      simp only [Option.some.injEq, Addr.mk.injEq, and_true] at e2
      obtain ⟨rfl, rfl⟩ := e2
      obtain ⟨cs, hat1, hat2⟩ := hat
      have hat2 : (tRow r.ad).rv r.M cs _ := hat2
      have hl1 := (tRow r.ad).len _ _ _ hat2
      obtain ⟨u, rfl⟩ : ∃ u, cs = [u] := by
        match cs, hl1 with
        | [u], _ => exact ⟨u, rfl⟩
      have hcell : wr.cell? ⟨g, lvl, none⟩ = some u := by have := hat1 0 _ rfl; simpa [tIn, tRow, tSlice, mem] using this
      obtain ⟨ua, uc, rfl, huc, hum, hurv⟩ := slice_form hat2
      have HU := Lib.hid (fun (w' : World) (hb : Below wr.heap.size wr w') => (show (tRow r.ad).rv (mem w') [.slice ua _ uc] _ from (tRow r.ad).mono _ _ _ _ (Mem.le_trans HS.out.inv.ml (below_mem hb)) hurv))
      have hcp : vc ≤ 9223372036854775807 := by unfold maxLen at hcm; exact hcm
      have HBY := Lib.hid (show Below wr.heap.size wr (wr.alloc (.cells #[ptrS a] 74)).drew from ((Below.refl _ wr).alloc (Nat.le_refl _) _).drew)
      have HOY := Lib.hid (show Owns (tRun r.ad) (wr.alloc (.cells #[ptrS a] 74)).drew wr.heap.size 74 (.slice (some ⟨wr.heap.size, 0, none⟩) 1 1) [n] from
        Owns.one (cs := [ptrS a]) (Nat.le_refl _) (heap_alloc_new wr _) rfl (Nat.succ_pos 0) ⟨a, ha, rfl⟩ (fun u hu => by rw [List.mem_singleton.1 hu]; rfl))
      have HZ := Lib.hid (show wr.heap.size ≤ (wr.alloc (.cells #[ptrS a] 74)).drew.heap.size from HBY.out.size)
      have zc := frozen_cells hgc lvl
      have HC5 := Lib.hid (fun (w' : World) (hb : Below wr.heap.size wr w') => (show w'.cell? ⟨p, 5, none⟩ = some (.slice (some ⟨g, 0, none⟩) (r.s.lv ++ List.replicate k ([] : List Nat)).length vc) ∧ w'.cell? ⟨g, lvl, none⟩ = some (.slice ua (r.s.lv ++ List.replicate k ([] : List Nat))[lvl].length uc) ∧ w'.frozen? ⟨g, lvl, none⟩ = false from
        ⟨below_mem hb _ _ _ c5, below_mem hb _ _ _ hcell, frozen_cells ((hb.block g (Array.getElem?_eq_some_iff.1 hgc).1).trans hgc) lvl⟩))
      have HQL := Lib.hid hll
      clear hll hat1 hat2 hl1 hurv huc hum hrows
      have hlt2 : (lvl : Int) < ((r.s.lv ++ List.replicate k ([] : List Nat)).length : Int) := by omega
      generalize hrw : (r.s.lv ++ List.replicate k ([] : List Nat))[lvl] = row at *
      generalize hqq : r.s.lv ++ List.replicate k ([] : List Nat) = q at *
      have hpl : p < wr.heap.size := World.block_lt_of_cell? _ _ c5
      have hgl : g < wr.heap.size := World.block_lt_of_cell? _ _ hcell
      have HLEN := Lib.hid (show [n].length + row.length ≤ maxLen ∧ ([n].length + row.length) * 8 ≤ 140737488355328 from by unfold maxLen; simp; omega)
      go_wp2_with fail
      go_region_law (refine step_append_flat rfl (.tmp 28) (.tmp 35) 72 rfl (tRun_flat r.ad) (run_one r.ad) Try.underlying72 infoRun rfl (Nat.succ_pos 0) wr.heap.size _ [n] row rfl HOY.out _ _ _ rfl rfl (HU.out _ HBY.out) HLEN.out.1 HLEN.out.2 HZ.out ?_; intro v5 w5 own5 hg5; have hb5 := HBY.out.grown hg5 HZ.out (fun k e => by cases e; exact Nat.le_refl _); obtain ⟨d5, dl, dz⟩ := HC5.out w5 hb5; obtain ⟨a5, c5', rfl, -⟩ := own5.len; clear hg5)
      all_goals
        have own6 : Owns (tRun r.ad) w5 wr.heap.size 74 (.slice a5 (row.length + 1) c5') (n :: row) := by simpa using own5
        obtain ⟨r', hst, e1, e2, e3, e4, e5, -⟩ := LStep.levSet HS.out.inv hb5 (g := g) (n := q.length) (c := vc) rfl (k := lvl) (show lvl < (r.s.lv ++ List.replicate k []).length by rw [hqq]; exact hlt) own6
        have hE : r'.s = { r.s with lv := putLv r.s.lv lvl n } := by
          rw [e1, ← HPL.out, HLV.out]
          show ({ r.s with lv := (r.s.lv ++ List.replicate k []).set lvl (n :: row) } : LS) = _
          rw [hqq]
        have HF := Lib.hid (HS.out.trans hst)
        clear own5 own6 hst e1 hb5 d5 dl dz HC5 HU HOY
        go_wp2
        go_end0
        exact ⟨rfl, r', HF.out, hE, e2, e3, e4, e5⟩
end
end Go.Proofs.Ytjenfhkikbndmaa
/- package slab: beyond (for chapter 14). -/
namespace Go.Proofs.Ytjenfhkikbndmaa
open Go.RowKit Go.Maps

theorem beyond1_any (a : Option Addr) (n c : Nat) (W : World) :
    Calls Try.prog 56 #[.slice a n c] W fun e w' => e = .returned (.bool (decide (0 < n))) ∧ w' = W := by
  by_cases h : 0 < n
  · have h2 : (0 : Int) < (n : Int) := by omega
    go_enter Try.func56, Try.ntmps56
    go_wp2
    go_ret
    exact ⟨by simp [h], rfl⟩
  · have h2 : ¬ (0 : Int) < (n : Int) := by omega
    go_enter Try.func56, Try.ntmps56
    go_wp2
    go_ret
    exact ⟨by simp [h], rfl⟩
set_option maxRecDepth 100000 in
set_option maxHeartbeats 1000000 in
theorem idxLev_any (M : Mem) (ad : Nat → Option Nat) (L : List (List Nat)) (v : Value) (W : World) (hv : (tSlice (tIn M (tRow ad))).rv (mem W) [v] L) (hn : L.length ≤ 2000000000) :
    Calls Try.prog 66 #[v, .func (.func 56) #[] #[]] W fun e w' => ∃ i : Int, e = .returned (.int .i64 i) ∧ w' = W ∧ (0 ≤ i ↔ ∃ x ∈ L, x ≠ []) := by
  obtain ⟨a, cap, rfl, hlc, hm, hv⟩ := slice_form hv
  have hcap : cap ≤ 9223372036854775807 := by unfold maxLen at hm; exact hm
  have HV := Lib.hid hv
  clear hv hm
  go_enter Try.func66, Try.ntmps66
  go_wp2_with fail
  go_loopw [8] (fun iv wr => ∃ i : Nat, i ≤ L.length ∧ iv = .int .i64 i ∧ Hid (∀ k, (h : k < L.length) → k < i → L[k] = []) ∧ wr = W) (fun iv _ => L.length - (intOf iv).toNat)
  case atStart => exact ⟨0, Nat.zero_le _, rfl, Lib.hid (fun k _ h => absurd h (by omega)), rfl⟩
  case round =>
    obtain ⟨i, hi, rfl, HF, rfl⟩ := hrel
    by_cases hlt : i < L.length
    · obtain ⟨lb, lo, e, cs, hat1, hat2⟩ := slice_at HV.out hlt
      subst e
      have hat2 : (tRow ad).rv M cs L[i] := hat2
      obtain ⟨u, rfl⟩ : ∃ u, cs = [u] := by
        match cs, (tRow ad).len _ _ _ hat2 with
        | [u], _ => exact ⟨u, rfl⟩
      obtain ⟨ua, uc, rfl, -, -, -⟩ := slice_form hat2
      have c0 : wr.cell? ⟨lb, lo + i, none⟩ = some (.slice ua L[i].length uc) := by have := hat1 0 _ rfl; simpa [tIn, tRow, tSlice, mem] using this
      have HB1 := Lib.hid (beyond1_any ua L[i].length uc wr)
      have HNE := Lib.hid (fun (h : 0 < L[i].length) => (show ∃ x ∈ L, x ≠ [] from ⟨L[i], List.getElem_mem hlt, List.length_pos_iff.1 h⟩))
      have HEM := Lib.hid (fun (h : ¬ 0 < L[i].length) => (show ∀ k, (h : k < L.length) → k < i + 1 → L[k] = [] from fun k hk hki => by
        by_cases e : k = i
        · subst e; exact List.eq_nil_of_length_eq_zero (by omega)
        · exact HF.out k hk (by omega)))
      clear hat1 hat2
      generalize L[i].length = n at *
      have hi64 : (i : Int) < (L.length : Int) := by omega
      go_wp2_with fail
      refine HB1.out.mono ?_
      rintro e w2 ⟨rfl, rfl⟩
      by_cases h0 : 0 < n
      · have hd : decide (0 < n) = true := decide_eq_true h0
        have HX := Lib.hid (HNE.out h0)
        clear HEM HNE HB1
        rw [hd]
        go_wp2
        go_ret
        exact ⟨i, rfl, rfl, ⟨fun _ => HX.out, fun _ => by omega⟩⟩
      · have hd : decide (0 < n) = false := decide_eq_false h0
        have HX := Lib.hid (HEM.out h0)
        clear HEM HNE HB1
        rw [hd]
        go_wp2
        go_roundw
        case rel => exact ⟨i + 1, by omega, by go_num, HX, trivial⟩
        case measure => simp [intOf]; omega
    · obtain rfl : i = L.length := by omega
      go_wp2
      go_ret
      refine ⟨-1, rfl, rfl, ⟨fun h => absurd h (by decide), fun ⟨x, hx, hne⟩ => ?_⟩⟩
      obtain ⟨k, hk, rfl⟩ := List.getElem_of_mem hx
      exact absurd (HF.out k hk hk) hne
set_option maxRecDepth 100000 in
theorem hasLev_any (M : Mem) (ad : Nat → Option Nat) (L : List (List Nat)) (v : Value) (W : World) (hv : (tSlice (tIn M (tRow ad))).rv (mem W) [v] L) (hn : L.length ≤ 2000000000) :
    Calls Try.prog 55 #[v, .func (.func 56) #[] #[]] W fun e w' => ∃ b : Bool, e = .returned (.bool b) ∧ w' = W ∧ (b = true ↔ ∃ x ∈ L, x ≠ []) := by
  have HI := Lib.hid (idxLev_any M ad L v W hv hn)
  obtain ⟨a, cap, rfl, -, -, -⟩ := slice_form hv
  clear hv
  go_enter Try.func55, Try.ntmps55
  go_wp2_with fail
  refine HI.out.mono ?_
  rintro e w2 ⟨i, rfl, rfl, hi⟩
  have HX := Lib.hid hi
  clear hi HI
  by_cases h0 : 0 ≤ i
  · go_wp2
    go_ret
    exact ⟨_, rfl, rfl, by rw [← HX.out]; simp [h0]⟩
  · go_wp2
    go_ret
    exact ⟨_, rfl, rfl, by rw [← HX.out]; simp [h0]⟩
section
variable {base p : Nat} {r : HL}
/-- Whether a level behind one has runs. -/
def LS.past (s : LS) (n : Nat) : Prop := ∃ x ∈ s.lv.drop (n + 1), x ≠ []
theorem slice_dropS {α : Type} {t : Ty α} {m : Mem} {g o n c k : Nat} {xs : List α} (h : (tSlice t).rv m [.slice (some ⟨g, o, none⟩) n c] xs) (hk : k ≤ xs.length) (hkc : k < c) : (tSlice t).rv m [.slice (some ⟨g, o + k * t.sz, none⟩) (n - k) (c - k)] (xs.drop k) := by
  obtain ⟨a, cap, e, h1, h2, h3⟩ := h
  simp only [List.cons.injEq, Value.slice.injEq, and_true] at e
  obtain ⟨e1, e2, e3⟩ := e
  subst e2; subst e3
  refine ⟨some ⟨g, o + k * t.sz, none⟩, c - k, by rw [List.length_drop], by rw [List.length_drop]; omega, by omega, fun h0 => ?_⟩
  rw [List.length_drop] at h0
  obtain ⟨b, o2, e4, hat⟩ := h3 (by omega)
  rw [← e1] at e4
  simp only [Option.some.injEq, Addr.mk.injEq, and_true] at e4
  obtain ⟨rfl, rfl⟩ := e4
  refine ⟨g, o + k * t.sz, rfl, fun j hj => ?_⟩
  rw [List.length_drop] at hj
  have := hat (k + j) (by omega)
  rw [Nat.add_mul, ← Nat.add_assoc] at this
  rw [List.getElem_drop]
  exact this
set_option maxRecDepth 100000 in
set_option maxHeartbeats 1000000 in
theorem beyond_any (W : World) (hI : LInv W base p r) (n : Nat) (hn : n < r.s.lv.length) (hl : r.s.lv.length ≤ 1000000000) :
    Calls Try.prog 38 #[ptrS p, .int .i64 n] W fun e w' => ∃ b : Bool, e = .returned (.bool b) ∧ w' = W ∧ (b = true ↔ r.s.past n) := by
  have hrv := hI.lb.rv'
  obtain ⟨g, c, cur, hv, hg, hlc, hm, -⟩ := hI.lb.blk (by omega)
  have c5 : W.cell? ⟨p, 5, none⟩ = some (.slice (some ⟨g, 0, none⟩) r.s.lv.length c) := by rw [← hv]; exact mem_cells hI.hb 5
  rw [hv] at hrv
  have hc9 : c ≤ 9223372036854775807 := by unfold maxLen at hm; exact hm
  have hw : IntKind.i64.wrap ((n : Int) + 1) = (n : Int) + 1 := IntWalk.i64_in _ (by omega)
  have htn : ((n : Int) + 1).toNat = n + 1 := by omega
  have hb1 : (0 : Int) ≤ (n : Int) + 1 := by omega
  have hb3 : (n : Int) + 1 ≤ (r.s.lv.length : Int) := by omega
  have HP := Lib.hid (show r.s.past n = ∃ x ∈ r.s.lv.drop (n + 1), x ≠ [] from rfl)
  by_cases hcn : c = n + 1
  · have he : r.s.lv.drop (n + 1) = [] := List.drop_of_length_le (by omega)
    have hll : r.s.lv.length - (n + 1) = 0 := by omega
    have HH := Lib.hid (hasLev_any r.M r.ad [] (.slice (some ⟨g, 0, none⟩) 0 0) W ⟨_, _, rfl, Nat.le_refl _, Nat.zero_le _, fun h => absurd h (by simp)⟩ (by simp))
    rw [he] at HP
    rw [HP.out]
    have hcz : c - (n + 1) = 0 := by omega
    clear hrv hI hm hg hv HP he
    generalize r.s.lv.length = N at *
    go_enter Try.func38, Try.ntmps38
    go_wp2_with fail
    refine HH.out.mono ?_
    rintro e w2 ⟨b, rfl, rfl, hb⟩
    go_wp2
    go_ret
    exact ⟨b, rfl, rfl, hb⟩
  · have hd := slice_dropS hrv (k := n + 1) (by omega) (by omega)
    rw [show 0 + (n + 1) * (tIn r.M (tRow r.ad)).sz = n + 1 by show 0 + (n + 1) * 1 = _; omega] at hd
    have HH := Lib.hid (hasLev_any r.M r.ad _ _ W hd (by rw [List.length_drop]; omega))
    rw [HP.out]
    clear hrv hI hm hg hv HP hd
    generalize r.s.lv.drop (n + 1) = D at *
    generalize r.s.lv.length = N at *
    go_enter Try.func38, Try.ntmps38
    go_wp2_with fail
    refine HH.out.mono ?_
    rintro e w2 ⟨b, rfl, rfl, hb⟩
    go_wp2
    go_ret
    exact ⟨b, rfl, rfl, hb⟩
end
end Go.Proofs.Ytjenfhkikbndmaa
/- Merging levels, plainly: what stays, bounds (for chapter 14). No program in sight. -/
namespace Go.Proofs.Ytjenfhkikbndmaa
theorem filter_two {α : Type} (p q : α → Bool) (h : ∀ a, p a = true → q a = true → False) : ∀ l : List α, (l.filter p).length + (l.filter q).length ≤ l.length
  | [] => by simp
  | a :: l => by
    have ih := filter_two p q h l
    rw [List.filter_cons, List.filter_cons, List.length_cons]
    cases hp : p a <;> cases hq : q a
    · simp; omega
    · simp; omega
    · simp; omega
    · exact (h a hp hq).elim
theorem withC_le (l : List RecS) (x : RecS) : (withC recC l x).length ≤ l.length + 1 := by
  unfold withC
  rw [List.length_append, List.length_cons]
  have := filter_two (fun y => decide (recC y x < 0)) (fun y => decide (recC x y < 0)) (fun a h1 h2 => by
    have := recC_good.anti a x
    simp at h1 h2
    omega) l
  omega
theorem foldC_le (l : List RecS) : ∀ m : List RecS, (l.foldl (withC recC) m).length ≤ m.length + l.length := by
  induction l with
  | nil => intro m; exact Nat.le_refl _
  | cons x l ih =>
    intro m
    rw [List.foldl_cons, List.length_cons]
    have := ih (withC recC m x)
    have := withC_le m x
    omega
theorem mergeC_le : ∀ ls : List (List RecS), (mergeC recC ls).length ≤ (ls.map List.length).sum
  | [] => Nat.le_refl _
  | l :: ls => by
    rw [List.map_cons, List.sum_cons]
    have := mergeC_le ls
    have := foldC_le l (mergeC recC ls)
    show (l.foldl (withC recC) (mergeC recC ls)).length ≤ _
    omega
def recW (s : LS) (n : Nat) : Nat := (s.rc n).length
theorem merge_wr (s : LS) (l : List Nat) : (mergeC recC (l.map s.rc)).length ≤ wr (recW s) l := by
  have := mergeC_le (l.map s.rc)
  rw [List.map_map] at this
  exact this
open Classical in
/-- What a level becomes. -/
noncomputable def LS.leftL (s : LS) (n : Nat) : List RecS := (mergeC recC ((lvL s.lv n).map s.rc)).filter (fun r => liveR r || decide (s.past n))
def LS.lefts (s : LS) (X : List Nat) : LS := X.foldl LS.left s
noncomputable def LS.merge1 (s : LS) (n : Nat) : LS :=
  if s.leftL n = [] then ({ s with lv := s.lv.set n [] } : LS).lefts (lvL s.lv n)
  else { (({ s with lv := s.lv.set n [] } : LS).lefts (lvL s.lv n)).made (s.leftL n) with lv := putLv (s.lv.set n []) (n + 1) (s.runs + 1) }
noncomputable def LS.cascF : Nat → Nat → LS → LS
  | 0, _, s => s
  | k + 1, n, s => if n < s.lv.length ∧ s.fan ≤ ((lvL s.lv n).length : Int) then LS.cascF k (n + 1) (s.merge1 n) else s
noncomputable def LS.flush (s : LS) : LS := if s.table = [] then s else LS.cascF (s.lv.length + 3) 0 { ({ s with table := [] } : LS).made s.table with lv := putLv s.lv 0 (s.runs + 1) }
/-- What stays when runs are left. -/
structure SameBut (s t : LS) : Prop where
  groups : t.groups = s.groups
  fill : t.fill = s.fill
  fan : t.fan = s.fan
  count : t.count = s.count
  table : t.table = s.table
  lv : t.lv = s.lv
  sn : t.sn = s.sn
  rc : t.rc = s.rc
  last : t.last = s.last
  runs : t.runs = s.runs
theorem SameBut.refl (s : LS) : SameBut s s := ⟨rfl, rfl, rfl, rfl, rfl, rfl, rfl, rfl, rfl, rfl⟩
theorem SameBut.trans {a b c : LS} (h : SameBut a b) (k : SameBut b c) : SameBut a c :=
  ⟨k.groups.trans h.groups, k.fill.trans h.fill, k.fan.trans h.fan, k.count.trans h.count, k.table.trans h.table, k.lv.trans h.lv, k.sn.trans h.sn, k.rc.trans h.rc, k.last.trans h.last, k.runs.trans h.runs⟩
theorem left_same (s : LS) (n : Nat) : SameBut s (s.left n) := by
  unfold LS.left
  split <;> exact ⟨rfl, rfl, rfl, rfl, rfl, rfl, rfl, rfl, rfl, rfl⟩
theorem lefts_same : ∀ (X : List Nat) (s : LS), SameBut s (s.lefts X)
  | [], s => SameBut.refl s
  | n :: X, s => (left_same s n).trans (lefts_same X (s.left n))
theorem lefts_sound : ∀ (X : List Nat) {s : LS} {Y : List Nat}, s.SoundX (X ++ Y) → (s.lefts X).SoundX Y
  | [], _, _, h => h
  | n :: X, _, _, h => lefts_sound X h.left
/-- What holds while levels merge. -/
structure FlI (s : LS) (L0 w R n : Nat) : Prop where
  snd : s.Sound
  len : s.lv.length ≤ L0 + 1
  top : L0 < s.lv.length → L0 ≤ n ∧ (lvL s.lv L0).length ≤ 1
  num : s.lv.flatten.length ≤ w
  rcd : wr (recW s) s.lv.flatten ≤ w
  sn : ∀ x ∈ s.sn, x.2.flatten.length ≤ w
  snl : s.sn.length ≤ 20
  run : s.runs ≤ R + n
  tab : s.table = []
theorem lvL_set_same {LL : List (List Nat)} {n : Nat} (h : n < LL.length) (x : List Nat) : lvL (LL.set n x) n = x := by rw [lvL_set h, updN_same]
theorem leftL_asc {s : LS} (n : Nat) : AscC recC (s.leftL n) := List.Pairwise.filter _ (mergeC_asc recC_good _)
theorem leftL_le (s : LS) (n : Nat) : (s.leftL n).length ≤ wr (recW s) (lvL s.lv n) := Nat.le_trans (List.length_filter_le _ _) (merge_wr s _)
theorem LS.SoundX.rcKeep {s : LS} {X : List Nat} (h : s.SoundX X) (l : List RecS) : wr (fun m => (updN s.rc (s.runs + 1) l m).length) s.lv.flatten = wr (recW s) s.lv.flatten :=
  wr_congr (fun m hm => by
    obtain ⟨x, hx, hmx⟩ := List.mem_flatten.1 hm
    have := (h.lt m (h.lvKept x hx m hmx)).2
    show (updN s.rc (s.runs + 1) l m).length = (s.rc m).length
    rw [updN_other _ _ (by omega)])
theorem FlI.merge {s : LS} {L0 w R n : Nat} (h : FlI s L0 w R n) (hn : n < s.lv.length) (hf : s.fan ≤ ((lvL s.lv n).length : Int)) (h2 : 2 ≤ s.fan) : FlI (s.merge1 n) L0 w R (n + 1) ∧ n < L0 ∧ (s.merge1 n).fan = s.fan ∧ n + 1 ≤ (s.merge1 n).lv.length := by
  have hlL : s.lv.length ≤ L0 := by
    rcases Nat.lt_or_ge L0 s.lv.length with h1 | h1
    · have hl := h.len
      have ht := h.top h1
      obtain rfl : n = L0 := by omega
      omega
    · exact h1
  have hnL : n < L0 := by omega
  have hs1 : ({ s with lv := s.lv.set n [] } : LS).SoundX (lvL s.lv n) := by have := h.snd.bare hn; rwa [List.append_nil] at this
  have hs2 := lefts_sound (lvL s.lv n) (Y := []) (by rw [List.append_nil]; exact hs1)
  have hsm := lefts_same (lvL s.lv n) { s with lv := s.lv.set n [] }
  have hw1 := wr_set (fun _ => 1) s.lv n [] hn
  have hw2 := wr_set (recW s) s.lv n [] hn
  rw [wr_nil, wr_one, wr_one, wr_one] at hw1
  rw [wr_nil] at hw2
  have hle := leftL_le s n
  have hnum := h.num
  have hrec := h.rcd
  have hrun := h.run
  unfold LS.merge1
  by_cases he : s.leftL n = []
  · rw [if_pos he]
    generalize ({ s with lv := s.lv.set n [] } : LS).lefts (lvL s.lv n) = t at *
    have elv : t.lv = s.lv.set n [] := hsm.lv
    refine ⟨⟨hs2, by rw [elv, List.length_set]; exact h.len, fun h1 => by rw [elv, List.length_set] at h1; omega, by rw [elv]; omega, ?_, by rw [hsm.sn]; exact h.sn, by rw [hsm.sn]; exact h.snl, by rw [hsm.runs]; show s.runs ≤ _; omega, by rw [hsm.table]; exact h.tab⟩, hnL, hsm.fan, by rw [elv, List.length_set]; omega⟩
    · have : recW t = recW s := by funext m; unfold recW; rw [hsm.rc]
      rw [this, elv]; omega
  · rw [if_neg he]
    have hs3 := hs2.made (leftL_asc (s := s) n)
    generalize ({ s with lv := s.lv.set n [] } : LS).lefts (lvL s.lv n) = t at *
    have elv : t.lv = s.lv.set n [] := hsm.lv
    have ern : t.runs = s.runs := hsm.runs
    have hs4 := hs3.put (lvl := n + 1)
    have ep : ({ t.made (s.leftL n) with lv := putLv (t.made (s.leftL n)).lv (n + 1) (t.runs + 1) } : LS) = { t.made (s.leftL n) with lv := putLv (s.lv.set n []) (n + 1) (s.runs + 1) } := by
      rw [show (t.made (s.leftL n)).lv = s.lv.set n [] from elv, ern]
    rw [ep] at hs4
    refine ⟨⟨hs4, ?_, fun h1 => ?_, ?_, ?_, by show ∀ x ∈ t.sn, _; rw [hsm.sn]; exact h.sn, by show t.sn.length ≤ 20; rw [hsm.sn]; exact h.snl, by show t.runs + 1 ≤ _; rw [ern]; omega, by show t.table = []; rw [hsm.table]; exact h.tab⟩, hnL, hsm.fan, by show n + 1 ≤ (putLv (s.lv.set n []) (n + 1) (s.runs + 1)).length; rw [putLv_len, List.length_set]; omega⟩
    · show (putLv (s.lv.set n []) (n + 1) (s.runs + 1)).length ≤ _
      rw [putLv_len, List.length_set]
      have := h.len; omega
    · show L0 ≤ n + 1 ∧ (lvL (putLv (s.lv.set n []) (n + 1) (s.runs + 1)) L0).length ≤ 1
      have h1 : L0 < (putLv (s.lv.set n []) (n + 1) (s.runs + 1)).length := h1
      rw [putLv_len, List.length_set] at h1
      have e : L0 = n + 1 := by omega
      refine ⟨by omega, ?_⟩
      rw [lvL_put, e, updN_same, List.length_cons, lvL_set hn, updN_other _ _ (by omega), lvL_ge (by omega)]
      simp
    · show (putLv (s.lv.set n []) (n + 1) (s.runs + 1)).flatten.length ≤ w
      have := wr_put (fun _ => 1) (s.lv.set n []) (n + 1) (s.runs + 1)
      rw [wr_one, wr_one] at this
      omega
    · show wr (fun m => (updN t.rc (t.runs + 1) (s.leftL n) m).length) (putLv (s.lv.set n []) (n + 1) (s.runs + 1)).flatten ≤ w
      rw [wr_put, ern, updN_same]
      have h5 := hs2.rcKeep (s.leftL n)
      rw [elv, ern] at h5
      have : recW t = recW s := by funext m; unfold recW; rw [hsm.rc]
      rw [h5, this]; omega
end Go.Proofs.Ytjenfhkikbndmaa
/- A flush, plainly: bounds and soundness (for chapter 14). No program in sight. -/
namespace Go.Proofs.Ytjenfhkikbndmaa
/-- Bounds of a slab at rest. -/
structure LS.Bd (s : LS) (w : Nat) : Prop where
  len : s.lv.length ≤ w
  num : s.lv.flatten.length ≤ w
  rcd : wr (recW s) s.lv.flatten + s.table.length ≤ w
  sn : ∀ x ∈ s.sn, x.2.flatten.length ≤ w
  snl : s.sn.length ≤ 20
  run : s.runs ≤ w * (w + 2)
/-- The table has become a run. -/
def LS.tabled (s : LS) : LS := { ({ s with table := [] } : LS).made s.table with lv := putLv s.lv 0 (s.runs + 1) }
theorem LS.flush_eq (s : LS) (h : s.table ≠ []) : s.flush = LS.cascF (s.lv.length + 3) 0 s.tabled := by unfold LS.flush; rw [if_neg h]; rfl
theorem FlI.start {s : LS} {w : Nat} (hs : s.Sound) (hb : s.Bd w) (ha : AscC recC s.table) : FlI s.tabled (max s.lv.length 1) (w + 1) (s.runs + 1) 0 := by
  have h0 : ({ s with table := [] } : LS).SoundX [] := hs.same rfl rfl rfl rfl (fun _ => rfl)
  have h1 := (h0.made ha).put (lvl := 0)
  have hlen : s.tabled.lv.length = max s.lv.length 1 := by
    show (putLv s.lv 0 (s.runs + 1)).length = _
    rw [putLv_len]
  refine ⟨h1, by rw [hlen]; omega, fun h => by rw [hlen] at h; omega, ?_, ?_, fun x hx => by have := hb.sn x hx; omega, hb.snl, Nat.le_refl _, rfl⟩
  · show (putLv s.lv 0 (s.runs + 1)).flatten.length ≤ _
    have := wr_put (fun _ => 1) s.lv 0 (s.runs + 1)
    rw [wr_one, wr_one] at this
    have := hb.num; omega
  · show wr (fun m => (updN s.rc (s.runs + 1) s.table m).length) (putLv s.lv 0 (s.runs + 1)).flatten ≤ _
    rw [wr_put, updN_same]
    have h5 := hs.rcKeep s.table
    have := hb.rcd
    omega
theorem casc_FlI {L0 w R : Nat} : ∀ (k : Nat) {n : Nat} {s : LS}, FlI s L0 w R n → n ≤ L0 → 2 ≤ s.fan → (∃ m, m ≤ L0 ∧ FlI (LS.cascF k n s) L0 w R m) ∧ (LS.cascF k n s).fan = s.fan
  | 0, n, s, h, hn, _ => ⟨⟨n, hn, h⟩, rfl⟩
  | k + 1, n, s, h, hn, h2 => by
    unfold LS.cascF
    by_cases hc : n < s.lv.length ∧ s.fan ≤ ((lvL s.lv n).length : Int)
    · rw [if_pos hc]
      obtain ⟨h3, h4, h5, -⟩ := h.merge hc.1 hc.2 h2
      have ih := casc_FlI k h3 h4 (by rw [h5]; exact h2)
      rw [h5] at ih
      exact ih
    · rw [if_neg hc]; exact ⟨⟨n, hn, h⟩, rfl⟩
/-- A flush keeps what is sound. -/
theorem LS.flush_keeps {s : LS} {w : Nat} (hs : s.Sound) (hb : s.Bd w) (ha : AscC recC s.table) (h2 : 2 ≤ s.fan) : s.flush.Sound ∧ s.flush.Bd (w + 2) ∧ s.flush.table = [] := by
  by_cases h : s.table = []
  · unfold LS.flush
    rw [if_pos h]
    refine ⟨hs, ⟨by have := hb.len; omega, by have := hb.num; omega, by have := hb.rcd; omega, fun x hx => by have := hb.sn x hx; omega, hb.snl, ?_⟩, h⟩
    have := hb.run
    have h3 : w * (w + 2) ≤ (w + 2) * (w + 2 + 2) := Nat.mul_le_mul (by omega) (by omega)
    omega
  · rw [LS.flush_eq s h]
    obtain ⟨⟨m, hm, hF⟩, -⟩ := casc_FlI (s.lv.length + 3) (FlI.start hs hb ha) (Nat.zero_le _) h2
    have h1 := hb.len
    refine ⟨hF.snd, ⟨by have := hF.len; omega, by have := hF.num; omega, by have := hF.rcd; rw [hF.tab]; simp; omega, fun x hx => by have := hF.sn x hx; omega, hF.snl, ?_⟩, hF.tab⟩
    have h4 := hF.run
    have h5 := hb.run
    have h6 : (w + 2) * (w + 2 + 2) = w * (w + 2) + (4 * w + 8) := by
      rw [Nat.add_mul, Nat.mul_add w (w + 2) 2, Nat.mul_add 2]; omega
    omega
end Go.Proofs.Ytjenfhkikbndmaa
/- The marks that ranges over functions leave among the deferred calls, when such ranges stand in a loop (for chapter 14). -/
namespace Go.Proofs.Ytjenfhkikbndmaa
open Go.RowKit Go.Shelf
attribute [local go_sem] Oper.semAt_some
def markD (D : Nat) : Deferred := { target := .collected D, args := #[] }
/-- Blocks of marks, each one another. -/
structure Marks (Ds : List Nat) (W : World) : Prop where
  nd : Ds.Nodup
  at_ : ∀ D ∈ Ds, W.heap[D]? = some (.deferred (some []))
theorem Marks.nil (W : World) : Marks [] W := ⟨List.nodup_nil, fun _ h => (by cases h)⟩
theorem Marks.keep {Ds : List Nat} {W W' : World} {F : Nat → Prop} (h : Marks Ds W) (hk : Keeps F W W') (hF : ∀ D ∈ Ds, ¬ F D) : Marks Ds W' :=
  ⟨h.nd, fun D hD => (hk.block D (Array.getElem?_eq_some_iff.1 (h.at_ D hD)).1 (hF D hD)).trans (h.at_ D hD)⟩
theorem Marks.lt {Ds : List Nat} {W : World} (h : Marks Ds W) : ∀ D ∈ Ds, D < W.heap.size := fun D hD => (Array.getElem?_eq_some_iff.1 (h.at_ D hD)).1
theorem Marks.below {Ds : List Nat} {W W' : World} (h : Marks Ds W) (hb : Below W.heap.size W W') : Marks Ds W' := h.keep (below_keeps hb) (fun D hD e => by have := h.lt D hD; omega)
theorem Marks.cons {Ds : List Nat} {W W' : World} {D n : Nat} (h : Marks Ds W) (h' : Marks Ds W') (hD : W'.heap[D]? = some (.deferred (some []))) (hn : W.heap.size ≤ D) : Marks (D :: Ds) W' :=
  ⟨List.nodup_cons.2 ⟨fun hm => by have := h.lt D hm; omega, h.nd⟩, fun E hE => by
    rcases List.mem_cons.1 hE with rfl | hE
    · exact hD
    · exact h'.at_ E hE⟩
section
variable {base p : Nat} {r r' : HL} {W W' : World}
theorem LInv.notMark (h : LInv W base p r) {Ds : List Nat} (hm : Marks Ds W) : ∀ D ∈ Ds, ¬ mutL p r D := fun D hD e => by
  have hd := hm.at_ D hD
  have hk : kd W D = none := by unfold kd; rw [hd]
  rcases e with e | e | e | e | e | ⟨n, hn, e⟩
  · subst e; rw [h.hb] at hd; cases hd
  · obtain ⟨es, c, h2⟩ := h.sm.obj; rw [← e, hd] at h2; cases h2
  · obtain ⟨es, c, h2⟩ := h.km.obj; rw [← e, hd] at h2; cases h2
  · have := h.kT e; rw [hk] at this; cases this
  · have := h.kL e; rw [hk] at this; cases this
  · have := h.kR hn e; rw [hk] at this; cases this
theorem LStep.marks (h : LStep W base p r W' r') (hi : LInv W base p r) {Ds : List Nat} (hm : Marks Ds W) : Marks Ds W' := hm.keep h.kp (hi.notMark hm)
theorem Marks.noMem {Ds : List Nat} (hm : Marks Ds W) {D : Nat} (hD : D ∈ Ds) (o : Nat) : mem W D o = none := by
  have := hm.at_ D hD
  simp [mem, World.cell?, this]
/-- The marks are taken in. -/
theorem LStep.close {W0 : World} {r0 : HL} (h : LStep W0 base p r0 W r) {Ds : List Nat} (hm : Marks Ds W) (hge : ∀ D ∈ Ds, W0.heap.size ≤ D) (hk : Keeps (fun k => k ∈ Ds) W W') : LStep W0 base p r0 W' r := by
  have i := h.inv
  have hn : ∀ b, mutL p r b → ¬ b ∈ Ds := fun b hb hD => i.notMark hm b hD hb
  have hlt := i.kind
  have hat : ∀ b, mutL p r b → W'.heap[b]? = W.heap[b]? := fun b e => hk.block b (hlt b e) (hn b e)
  refine ⟨⟨(hat p (.inl rfl)).trans i.hb, i.tbK hk (fun k e => hn k (.inr (.inr (.inr (.inl e))))), i.lbK (r' := r) hk (fun k e => hn k (.inr (.inr (.inr (.inr (.inl e)))))) (Mem.le_refl _) (adLe.refl _), i.smK (r' := r) (hat _ (.inr (.inl rfl))) (Mem.le_refl _) (adLe.refl _) rfl,
    i.kmK (r' := r) (hat _ (.inr (.inr (.inl rfl)))) (adLe.refl _) rfl, fun n hn' => i.rnK (r' := r) hn' hk (fun a e => hn a (.inr (.inr (.inr (.inr (.inr ⟨n, hn', e⟩)))))) (Mem.le_refl _) (adLe.refl _), i.inj, fun n a e => ⟨(i.adl n a e).1, Nat.lt_of_lt_of_le (i.adl n a e).2 hk.size⟩, i.ne, fun b o v e => ?_, i.ge, Nat.le_trans i.bw hk.size⟩, ?_, h.mb, h.md, h.ml, h.al⟩
  · obtain ⟨h1, h2⟩ := i.ms b o v e
    refine ⟨(mem_of_block (hk.block b (mem_lt h1) (fun hD => ?_)) o).trans h1, h2⟩
    rw [hm.noMem hD] at h1; cases h1
  · refine ⟨hk.os.trans h.kp.os, hk.tape.trans h.kp.tape, hk.output.trans h.kp.output, Nat.le_trans h.kp.size hk.size, fun b h1 h2 => (hk.block b (Nat.lt_of_lt_of_le h1 h.kp.size) (fun hD => ?_)).trans (h.kp.block b h1 h2)⟩
    have := hge b hD; omega
end
/-- A function without results ends behind such marks. -/
theorem marks_end {P : Program} {fn : Func} {R : Ending → World → Prop} (hr : fn.results = #[]) (tm : Array Value) : ∀ (Ds : List Nat) (W : World), Marks Ds W → (∀ WF, Keeps (fun k => k ∈ Ds) W WF → R (.returned (.tuple #[])) WF) → LeavesInM Fence.wide 0 P fn tm R (Ds.map markD) .returning W
  | [], W, _, hp => by
    refine ⟨.tuple #[], ?_, hp W (Keeps.refl _ _)⟩
    unfold results
    rw [hr]
    simp [go_sem, Result.andThen]
  | D :: Ds, W, hm, hp => by
    have hD := hm.at_ D List.mem_cons_self
    refine ⟨by simp, .inl ⟨_, _, rfl, run_takeDeferred hD, ?_⟩⟩
    have hnd := List.nodup_cons.1 hm.nd
    have hput : Keeps (fun k => k = D) W (W.putObj D (.deferred none)) := Keeps.put rfl
    refine marks_end hr tm Ds _ ⟨hnd.2, fun E hE => ?_⟩ (fun WF hk => hp WF ?_)
    · exact (hput.block E (hm.lt E (List.mem_cons_of_mem _ hE)) (fun e => hnd.1 (e ▸ hE))).trans (hm.at_ E (List.mem_cons_of_mem _ hE))
    · exact (hput.wide (fun k _ e => by rw [e]; exact List.mem_cons_self)).trans (hk.wide (fun k _ e => List.mem_cons_of_mem _ e))
end Go.Proofs.Ytjenfhkikbndmaa
/- slices.Insert at records (for chapter 14). -/
namespace Go.Proofs.Ytjenfhkikbndmaa
open Go.RowKit
theorem infoRec : (Try.prog.info? 54).map (fun i => (i.zero, i.size, i.bytes)) = some (some (.agg #[.int .i64 0, .string ⟨#[]⟩, .string ⟨#[]⟩, .string ⟨#[]⟩, .bool false]), tRecS.sz, 64) := by kernel_rfl
/-- The cells of records. -/
def rowC (l : List RecS) : List Value := (l.map RecS.cells).flatten
theorem rowC_len : ∀ l : List RecS, (rowC l).length = l.length * 5
  | [] => rfl
  | x :: l => by
    show (x.cells ++ rowC l).length = _
    rw [List.length_append, rowC_len l]
    show 5 + l.length * 5 = (l.length + 1) * 5
    omega
theorem rowC_append (l m : List RecS) : rowC (l ++ m) = rowC l ++ rowC m := by unfold rowC; simp
theorem rowC_cons (x : RecS) (l : List RecS) : rowC (x :: l) = x.cells ++ rowC l := rfl
theorem rowC_take (l : List RecS) (i : Nat) (hi : i ≤ l.length) : (rowC l).take (i * 5) = rowC (l.take i) := by
  conv => lhs; rw [← List.take_append_drop i l, rowC_append]
  rw [List.take_append_of_le_length (by rw [rowC_len, List.length_take]; omega), List.take_of_length_le (by rw [rowC_len, List.length_take]; omega)]
theorem rowC_drop (l : List RecS) (i : Nat) (hi : i ≤ l.length) : (rowC l).drop (i * 5) = rowC (l.drop i) := by
  conv => lhs; rw [← List.take_append_drop i l, rowC_append]
  have h : (rowC (l.take i)).length = i * 5 := by rw [rowC_len, List.length_take]; omega
  rw [← h, List.drop_left]
theorem rec_one : ∀ m cs (x : RecS), tRecS.rv m cs x → ∀ u ∈ cs, u.oneCell' = true := fun m cs x h u hu => by
  rw [h.1] at hu
  simp only [RecS.cells, List.mem_cons, List.not_mem_nil, or_false] at hu
  rcases hu with rfl | rfl | rfl | rfl | rfl <;> rfl
theorem row_one (l : List RecS) : ∀ u ∈ rowC l, u.oneCell' = true := fun u hu => by
  obtain ⟨cs, hc, hu⟩ := List.mem_flatten.1 hu
  obtain ⟨x, _, rfl⟩ := List.mem_map.1 hc
  simp only [RecS.cells, List.mem_cons, List.not_mem_nil, or_false] at hu
  rcases hu with rfl | rfl | rfl | rfl | rfl <;> rfl
theorem OwnsT.css {w : World} {B : Nat} {v : Value} {l : List RecS} (h : OwnsT w B v l) : (∀ x ∈ l, x.e.okE) ∧ ((v = .slice none 0 0 ∧ l = []) ∨ ∃ g c cur, v = .slice (some ⟨g, 0, none⟩) l.length c ∧ B ≤ g ∧ w.heap[g]? = some (.cells cur 54 (0, 0)) ∧ l.length ≤ c ∧ c ≤ maxLen ∧ cur.size = c * 5 ∧ cur.toList.take (l.length * 5) = rowC l) := by
  obtain ⟨css, h1, ⟨h2, h3⟩, h4, h5⟩ := h
  have hc : css = l.map RecS.cells := by
    apply List.ext_getElem (by simp [h1])
    intro i hi1 hi2
    rw [List.getElem_map]
    exact (h5 i hi1 (by simpa using hi2)).1
  refine ⟨fun x hx => ?_, ?_⟩
  · obtain ⟨k, hk, rfl⟩ := List.getElem_of_mem hx
    exact (h5 k (by omega) hk).2
  · rcases h3 with ⟨e, h6⟩ | ⟨g, c, cur, e, hB, hh, hn, hm, hs, ht⟩
    · exact .inl ⟨e, List.eq_nil_of_length_eq_zero h6⟩
    · exact .inr ⟨g, c, cur, e, hB, hh, hn, hm, hs, by rw [show l.length * 5 = l.length * tRecS.sz from rfl, ht, hc]; rfl⟩
theorem OwnsT.of {w : World} {B g c : Nat} {cur : Array Value} {l : List RecS} (hok : ∀ x ∈ l, x.e.okE) (hB : B ≤ g) (hh : w.heap[g]? = some (.cells cur 54 (0, 0))) (hn : l.length ≤ c) (hm : c ≤ maxLen) (hs : cur.size = c * 5) (ht : cur.toList.take (l.length * 5) = rowC l) :
    OwnsT w B (.slice (some ⟨g, 0, none⟩) l.length c) l :=
  ⟨l.map RecS.cells, by simp, ⟨by rw [show (l.map RecS.cells).flatten = rowC l from rfl, rowC_len]; rfl, .inr ⟨g, c, cur, rfl, hB, hh, hn, hm, hs, ht⟩⟩, fun cs hc => by obtain ⟨x, _, rfl⟩ := List.mem_map.1 hc; rfl,
    fun k h h' => by rw [List.getElem_map]; exact ⟨rfl, hok _ (List.getElem_mem h')⟩⟩
/-- The row with one more. -/
def insL (l : List RecS) (i : Nat) (x : RecS) : List RecS := l.take i ++ x :: l.drop i
theorem insL_len {l : List RecS} {i : Nat} (hi : i ≤ l.length) (x : RecS) : (insL l i x).length = l.length + 1 := by unfold insL; simp; omega
theorem insL_row (l : List RecS) (i : Nat) (x : RecS) : rowC (insL l i x) = rowC (l.take i) ++ (x.cells ++ rowC (l.drop i)) := by unfold insL; rw [rowC_append, rowC_cons]
theorem insL_ok {l : List RecS} {i : Nat} {x : RecS} (hl : ∀ y ∈ l, y.e.okE) (hx : x.e.okE) : ∀ y ∈ insL l i x, y.e.okE := fun y hy => by
  rcases List.mem_append.1 hy with h | h
  · exact hl y (List.mem_of_mem_take h)
  · rcases List.mem_cons.1 h with rfl | h
    · exact hx
    · exact hl y (List.mem_of_mem_drop h)
theorem own_ins {w : World} {B g c i : Nat} {cur : Array Value} {l : List RecS} {x : RecS} {rest : List Value} (hl : ∀ y ∈ l, y.e.okE) (hx : x.e.okE) (hi : i ≤ l.length) (hB : B ≤ g) (hh : w.heap[g]? = some (.cells cur 54 (0, 0))) (hn : l.length + 1 ≤ c) (hm : c ≤ maxLen) (hs : cur.size = c * 5)
    (ht : cur.toList = rowC (l.take i) ++ (x.cells ++ rowC (l.drop i)) ++ rest) : OwnsT w B (.slice (some ⟨g, 0, none⟩) (l.length + 1) c) (insL l i x) := by
  rw [← insL_len hi x]
  refine OwnsT.of (insL_ok hl hx) hB hh (by rw [insL_len hi]; exact hn) hm hs ?_
  rw [ht, ← insL_row, List.take_append_of_le_length (by rw [rowC_len]; omega), List.take_of_length_le (by rw [rowC_len]; omega)]
/-- What an insertion does. -/
def InsPost (W : World) (B : Nat) (v : Value) (l : List RecS) (i : Nat) (x : RecS) (e : Ending) (w' : World) : Prop :=
  ∃ v', e = .returned v' ∧ OwnsT w' B v' (insL l i x) ∧ W.grownBy w' v.ownBlock ∧ (v'.ownBlock = v.ownBlock ∨ ∀ k, v'.ownBlock = some k → W.heap.size ≤ k)
theorem overlapsRec (w : World) (vb g o la ca lb cb : Nat) {c1 c2 : Array Value} (h1 : w.heap[vb]? = some (.cells c1 54 (0, 0))) (h2 : w.heap[g]? = some (.cells c2 54 (0, 0))) (hne : vb ≠ g) (hc : c2.size ≠ 0) :
    (callFunc 61 #[.slice (some ⟨vb, 0, none⟩) la ca, .slice (some ⟨g, o, none⟩) lb cb]).run Try.prog w = .ok (.value (.bool false)) w := by
  have hsz : ∀ w, (Go.sizeOf 54).run Try.prog w = .ok 5 w := fun w => by
    obtain ⟨i, hi, hz, hs, hb⟩ := info_parts infoRec
    simp [sizeOf, typeInfo, hi, hs, tRecS]
  rw [run_callFunc_extern Try.func61 (by kernel_rfl) (by kernel_rfl) (by kernel_rfl) (e := Extern.SlicesOverlaps.overlaps #[60, 60] #[4]) (by kernel_rfl),
    Lib.run_overlaps_apart w 60 4 54 Try.underlying60 5 hsz ⟨vb, 0, none⟩ ⟨g, o, none⟩ la ca lb cb hne 54 54 c1.size c2.size (by simp [World.shape?, h1]) (by simp [World.shape?, h2]) hc (frozen_cells h1 0) (frozen_cells h1 _)]
  rfl
set_option maxRecDepth 100000 in
set_option maxHeartbeats 4000000 in
/-- At the end. -/
theorem insert_end (W : World) (B : Nat) (v : Value) (l : List RecS) (x : RecS) (vb : Nat) (hown : OwnsT W B v l) (hB : B ≤ W.heap.size) (hn : l.length ≤ 1000) (hx : x.e.okE) (hv : W.heap[vb]? = some (.cells x.cells.toArray 54 (0, 0))) (hne : v.ownBlock ≠ some vb) :
    Calls Try.prog 50 #[v, .int .i64 l.length, .slice (some ⟨vb, 0, none⟩) 1 1] W (InsPost W B v l l.length x) := by
  have HO := Lib.hid hown
  obtain ⟨va, vc, rfl, hvm⟩ := hown.len
  have hvc : vc ≤ 9223372036854775807 ∧ l.length ≤ vc := by
    obtain ⟨a, c, e, h1, h2, -⟩ := slice_form hown.rv'
    simp only [Value.slice.injEq] at e
    unfold maxLen at h2
    rw [e.2.2]; exact ⟨h2, h1⟩
  obtain ⟨hvc1, hvc2⟩ := hvc
  have HIN := Lib.hid (show insL l l.length x = l ++ [x] by unfold insL; simp)
  have HAT := Lib.hid (show At (mem W) vb 0 x.cells from fun j u hj => by rw [Nat.zero_add, mem_cells hv]; simpa using hj)
  have h1 : ¬ ((1 : Int) = 0) := by decide
  clear hown
  unfold InsPost
  rw [HIN.out]
  by_cases hcc : vc = l.length
  · subst hcc
    go_enter Try.func50, Try.ntmps50
    go_wp2_with (at_builtin; refine wpList_append_one rfl _ _ 60 rfl tRecS Try.underlying60 infoRec rfl (by decide) B _ l rfl HO.out _ _ x rfl x.cells ?a2 ⟨rfl, hx⟩ ?b2 ?c2 ?d2 hB ?_)
    case a2 => exact HAT.out
    case b2 => exact rec_one noMem _ x ⟨rfl, hx⟩
    case c2 => unfold maxLen; omega
    case d2 => omega
    intro v' w6 own6 hgrow hblk
    obtain ⟨a6, cap6, rfl, _⟩ := own6.len
    go_wp2
    go_ret
    exact ⟨_, rfl, own6, hgrow, hblk⟩
  · go_enter Try.func50, Try.ntmps50
    go_wp2_with (at_builtin; refine wpList_append_one rfl _ _ 60 rfl tRecS Try.underlying60 infoRec rfl (by decide) B _ l rfl HO.out _ _ x rfl x.cells ?a2 ⟨rfl, hx⟩ ?b2 ?c2 ?d2 hB ?_)
    case a2 => exact HAT.out
    case b2 => exact rec_one noMem _ x ⟨rfl, hx⟩
    case c2 => unfold maxLen; omega
    case d2 => omega
    intro v' w6 own6 hgrow hblk
    obtain ⟨a6, cap6, rfl, _⟩ := own6.len
    go_wp2
    go_ret
    exact ⟨_, rfl, own6, hgrow, hblk⟩
end Go.Proofs.Ytjenfhkikbndmaa
/- slices.Insert at records, in the midst (for chapter 14). -/
namespace Go.Proofs.Ytjenfhkikbndmaa
open Go.RowKit
theorem sizeRec : (Try.prog.info? 54).map (·.size) = some 5 := by
  obtain ⟨i, hi, hz, hs, hb⟩ := info_parts infoRec
  simp [hi, hs, tRecS]
theorem setRow_keepsS (w : World) (g : Nat) (new : Array Value) : Keeps (fun k => k = g) w (w.setRow g new) := ⟨rfl, rfl, rfl, by simp [World.setRow], fun k _ hn => setRow_other w g k _ hn⟩
theorem grown_of_keepsS {w w' : World} {g : Nat} (h : Keeps (fun k => k = g) w w') : w.grownBy w' (some g) := ⟨h.os, h.tape, h.output, h.size, fun k hk hn => h.block k hk (fun e => hn (by rw [e]))⟩
/-- The cells behind both copies. -/
theorem ins_cells {L : List Value} {l : List RecS} {i c : Nat} {x : RecS} (hi : i < l.length) (hroom : l.length + 1 ≤ c) (hs : L.length = c * 5) (ht : L.take (l.length * 5) = rowC l) {L1 : List Value} (e : L1 = L.take ((i + 1) * 5) ++ (rowC (l.drop i) ++ L.drop ((i + 1) * 5 + (rowC (l.drop i)).length))) :
    L1.take (i * 5) ++ x.cells ++ L1.drop (i * 5 + x.cells.length) = rowC (l.take i) ++ (x.cells ++ rowC (l.drop i)) ++ L.drop ((i + 1) * 5 + (rowC (l.drop i)).length) ∧ L1.length = c * 5 := by
  have hl : (L.take ((i + 1) * 5)).length = (i + 1) * 5 := by rw [List.length_take]; omega
  have h1 : L1.take (i * 5) = rowC (l.take i) := by
    rw [e, List.take_append_of_le_length (by omega), List.take_take, ← rowC_take l i (by omega), ← ht, List.take_take]
    congr 1
    omega
  have h2 : L1.drop (i * 5 + x.cells.length) = rowC (l.drop i) ++ L.drop ((i + 1) * 5 + (rowC (l.drop i)).length) := by
    rw [e, show i * 5 + x.cells.length = (L.take ((i + 1) * 5)).length from by rw [hl]; show i * 5 + 5 = _; omega, List.drop_left]
  have hdl : (rowC (l.drop i)).length = (l.length - i) * 5 := by rw [rowC_len, List.length_drop]
  refine ⟨by rw [h1, h2]; simp, ?_⟩
  rw [e, List.length_append, List.length_append, hl, List.length_drop, hs]
  omega
set_option maxRecDepth 100000 in
set_option maxHeartbeats 600000 in
/-- In place. -/
theorem insert_room (W : World) (B : Nat) (l : List RecS) (i : Nat) (x : RecS) (vb g c : Nat) (cur : Array Value) (hok : ∀ y ∈ l, y.e.okE) (hBg : B ≤ g) (hg : W.heap[g]? = some (.cells cur 54 (0, 0))) (hi : i < l.length) (hroom : l.length + 1 ≤ c) (hm : c ≤ maxLen) (hs : cur.size = c * 5) (ht : cur.toList.take (l.length * 5) = rowC l)
    (hn : l.length ≤ 1000) (hx : x.e.okE) (hv : W.heap[vb]? = some (.cells x.cells.toArray 54 (0, 0))) (hne : vb ≠ g) :
    Calls Try.prog 50 #[.slice (some ⟨g, 0, none⟩) l.length c, .int .i64 i, .slice (some ⟨vb, 0, none⟩) 1 1] W (InsPost W B (.slice (some ⟨g, 0, none⟩) l.length c) l i x) := by
  have hc9 : c ≤ 9223372036854775807 := by unfold maxLen at hm; exact hm
  have hov := fun la ca lb cb o => overlapsRec W vb g o la ca lb cb hv hg hne (by rw [hs]; omega)
  have h1 : ¬ ((1 : Int) = 0) := by decide
  have hz2 : ¬ ((i : Int) = (l.length : Int)) := by omega
  have hw1 : IntKind.i64.wrap ((i : Int) + 1) = (i : Int) + 1 := IntWalk.i64_in _ (by omega)
  have hw2 : IntKind.i64.wrap ((l.length : Int) + 1) = (l.length : Int) + 1 := IntWalk.i64_in _ (by omega)
  have hb2 : ¬ (c = i + 1) := by omega
  have hb4 : ¬ (c = i) := by omega
  have hb3 : (i : Int) ≤ (l.length : Int) + 1 := by omega
  have hb5 : ¬ ((c : Int) < (l.length : Int) + 1) := by omega
  have hb1 : (0 : Int) ≤ (i : Int) + 1 := by omega
  have hin : i ≤ l.length := by omega
  have htn : ((i : Int) + 1).toNat = i + 1 := by omega
  have htn2 : ((l.length : Int) + 1).toNat = l.length + 1 := by omega
  go_enter Try.func50, Try.ntmps50
  go_wp2_with (simp only [hov])
  have hsz : rowC (l.drop i) = ((cur.toList.drop (i * 5)).take ((l.length - i) * 5)) := by
    rw [← rowC_drop l i hin, ← ht, List.drop_take, Nat.sub_mul]
  have HSRC := Lib.hid (fun (w' : World) (hb : w'.heap[g]? = some (.cells cur 54 (0, 0))) (j : Nat) (v : Value) (hj : (rowC (l.drop i))[j]? = some v) => (show w'.cell? ⟨g, i * 5 + j, none⟩ = some v from by
    refine (mem_cells hb _).trans ?_
    rw [hsz, List.getElem?_take] at hj
    split at hj
    · rw [List.getElem?_drop] at hj; simpa using hj
    · cases hj))
  have HG := Lib.hid hg
  have hdl : (rowC (l.drop i)).length = (l.length - i) * 5 := by rw [rowC_len, List.length_drop]
  have HSR := Lib.hid (fun (j : Nat) (v : Value) (hj : (rowC (l.drop i))[j]? = some v) => (show W.drew.cell? ((⟨g, i * 5, none⟩ : Addr).add j) = some v from by rw [Addr.add_lit]; exact HSRC.out W.drew hg j v hj))
  have HFIT := Lib.hid (show (i + 1) * 5 + (rowC (l.drop i)).length ≤ cur.size by rw [hdl, hs]; omega)
  have HMN := Lib.hid (show l.length - i = Nat.min (l.length + 1 - i) (l.length - i) by simp only [Nat.min_def]; split <;> omega)
  have HDL := Lib.hid hdl
  clear hsz HSRC hdl
  go_region_law (refine step_copy_cells rfl (.tmp 73) (.tmp 76) 60 60 rfl 54 5 Try.underlying60 sizeRec g ((i + 1) * 5) (l.length - i) (c - (i + 1)) ⟨g, i * 5, none⟩ (l.length + 1 - i) (c - i) (l.length - i) (by simp [Act.eval, Act.put]) (by simp [Act.eval, Act.put]) cur _ HG.out (rowC (l.drop i)) HMN.out HDL.out HSR.out HFIT.out (row_one _) ?_)
  obtain ⟨L1, hL1⟩ : ∃ L1, L1 = cur.toList.take ((i + 1) * 5) ++ (rowC (l.drop i) ++ cur.toList.drop ((i + 1) * 5 + (rowC (l.drop i)).length)) := ⟨_, rfl⟩
  obtain ⟨hfin, hL1l⟩ := ins_cells (x := x) hi hroom (by simpa using hs) ht hL1
  rw [← hL1]
  have hk1 : Keeps (fun k => k = g) W (W.drew.setRow g L1.toArray) := ((Keeps.refl (fun k => k = g) W).drew).trans (setRow_keepsS _ _ _)
  have hg1 : (W.drew.setRow g L1.toArray).heap[g]? = some (.cells L1.toArray 54 (0, 0)) := setRow_heap W.drew g cur L1.toArray _ _ hg
  have hv1 : (W.drew.setRow g L1.toArray).heap[vb]? = some (.cells x.cells.toArray 54 (0, 0)) := (hk1.block _ (Array.getElem?_eq_some_iff.1 hv).1 hne).trans hv
  generalize W.drew.setRow g L1.toArray = W1 at *
  have HG1 := Lib.hid hg1
  have HS1 := Lib.hid (fun (j : Nat) (v : Value) (hj : x.cells[j]? = some v) => (show W1.cell? ((⟨vb, 0, none⟩ : Addr).add j) = some v from by rw [Addr.add_lit, Nat.zero_add]; exact (mem_cells hv1 j).trans (by simpa using hj)))
  have HF1 := Lib.hid (show i * 5 + x.cells.length ≤ L1.toArray.size by rw [List.size_toArray, hL1l]; show i * 5 + 5 ≤ _; omega)
  have HM1 := Lib.hid (show 1 = Nat.min 1 (l.length + 1 - i) by simp only [Nat.min_def]; split <;> omega)
  have HX1 := Lib.hid (rec_one noMem x.cells x ⟨rfl, hx⟩)
  have hz3 : (i : Int) ≤ (l.length : Int) + 1 := by omega
  clear hL1 HSR HFIT HMN HDL hv1
  obtain ⟨L2, hL2⟩ : ∃ L2, L2 = L1.toArray.toList.take (i * 5) ++ x.cells ++ L1.toArray.toList.drop (i * 5 + x.cells.length) := ⟨_, rfl⟩
  have hrun : ∀ ty, (Builtin.copy_ #[60, 60] ty #[.slice (some ⟨g, i * 5, none⟩) (l.length + 1 - i) (c - i), .slice (some ⟨vb, 0, none⟩) 1 1]).run Try.prog W1 = .ok (goInt 1) (W1.setRow g L2.toArray) := fun ty => by
    rw [hL2]
    exact run_copy_cells W1 60 60 ty 54 g (i * 5) (l.length + 1 - i) (c - i) ⟨vb, 0, none⟩ 1 1 1 L1.toArray 54 x.cells 5 Try.underlying60 sizeRec HG1.out HM1.out rfl HS1.out HF1.out HX1.out
  have hg2 : (W1.setRow g L2.toArray).heap[g]? = some (.cells L2.toArray 54 (0, 0)) := setRow_heap W1 g L1.toArray _ _ _ hg1
  have hk2 := hk1.trans (setRow_keepsS W1 g L2.toArray)
  have hL2e : L2 = rowC (l.take i) ++ (x.cells ++ rowC (l.drop i)) ++ cur.toList.drop ((i + 1) * 5 + (rowC (l.drop i)).length) := by rw [hL2]; exact hfin
  have hL2l : L2.length = c * 5 := by
    rw [hL2, List.length_append, List.length_append, List.length_take, List.length_drop]
    show min (i * 5) L1.length + 5 + (L1.length - (i * 5 + 5)) = _
    omega
  have HOUT := Lib.hid (own_ins hok hx hin hBg hg2 hroom hm (by simpa using hL2l) (by simpa using hL2e))
  have HGR := Lib.hid (grown_of_keepsS hk2)
  clear hL2 hL2e hL2l hg2 hk2 hfin
  generalize W1.setRow g L2.toArray = W2 at *
  go_wp2
  go_ret
  exact ⟨_, rfl, HOUT.out, HGR.out, .inl rfl⟩
end Go.Proofs.Ytjenfhkikbndmaa
/- slices.Insert at records, with a new row; the contract (for chapter 14). -/
namespace Go.Proofs.Ytjenfhkikbndmaa
open Go.RowKit
theorem insg_cells {R : List Value} {l : List RecS} {i G : Nat} {x : RecS} (hi : i < l.length) (hroom : l.length + 1 ≤ G) (hs : R.length = G * 5) (ht : R.take (i * 5) = rowC (l.take i)) {RA : List Value} (e : RA = R.take (i * 5) ++ x.cells ++ R.drop (i * 5 + x.cells.length)) :
    RA.take ((i + 1) * 5) ++ rowC (l.drop i) ++ RA.drop ((i + 1) * 5 + (rowC (l.drop i)).length) = rowC (l.take i) ++ (x.cells ++ rowC (l.drop i)) ++ RA.drop ((i + 1) * 5 + (rowC (l.drop i)).length) ∧ RA.length = G * 5 := by
  have hx : x.cells.length = 5 := rfl
  have hl : (R.take (i * 5)).length = i * 5 := by rw [List.length_take]; omega
  have h1 : RA.take ((i + 1) * 5) = rowC (l.take i) ++ x.cells := by
    rw [e, ht, List.take_append_of_le_length (by rw [← ht, List.length_append, hl, hx]; omega), List.take_of_length_le (by rw [← ht, List.length_append, hl, hx]; omega)]
  refine ⟨by rw [h1]; simp, ?_⟩
  rw [e, List.length_append, List.length_append, hl, List.length_drop, hx, hs]
  omega
set_option maxRecDepth 100000 in
set_option maxHeartbeats 600000 in
/-- With a new row. -/
theorem insert_grow (W : World) (B : Nat) (l : List RecS) (i : Nat) (x : RecS) (vb g c : Nat) (cur : Array Value) (hok : ∀ y ∈ l, y.e.okE) (hB : B ≤ W.heap.size) (hg : W.heap[g]? = some (.cells cur 54 (0, 0))) (hi : i < l.length) (hnc : l.length ≤ c) (hroom : c < l.length + 1) (hs : cur.size = c * 5) (ht : cur.toList.take (l.length * 5) = rowC l)
    (hn : l.length ≤ 1000) (hx : x.e.okE) (hv : W.heap[vb]? = some (.cells x.cells.toArray 54 (0, 0))) :
    Calls Try.prog 50 #[.slice (some ⟨g, 0, none⟩) l.length c, .int .i64 i, .slice (some ⟨vb, 0, none⟩) 1 1] W (InsPost W B (.slice (some ⟨g, 0, none⟩) l.length c) l i x) := by
  obtain ⟨i0, hi0, hz0, hz1, hz2⟩ := info_parts infoRec
  have hz1 : i0.size = 5 := hz1
  have hin : i ≤ l.length := by omega
  have hgl : g < W.heap.size := (Array.getElem?_eq_some_iff.1 hg).1
  have hold : (Builtin.firstCells i0.size i (.slice (some ⟨g, 0, none⟩) i c)).run Try.prog W.drew = .ok (rowC (l.take i)).toArray W.drew := by
    rw [hz1]
    exact run_firstCells_some (P := Try.prog) W.drew 5 i ⟨g, 0, none⟩ i c (rowC (l.take i)) (by rw [rowC_len, List.length_take]; omega) (fun j v hj => by
      rw [Addr.add_lit, Nat.zero_add]
      refine (mem_cells (w := W.drew) hg j).trans ?_
      rw [← rowC_take l i hin, ← ht, List.take_take, List.getElem?_take] at hj
      split at hj
      · simpa using hj
      · cases hj)
  have hik : i + (l.length + 1 - i) = l.length + 1 := by omega
  have hrz := fun ty => Lib.run_append_grow_zeros W 60 3 ty 54 i0 _ .i64 .i64 Try.underlying60 Try.underlying3 hi0 hz0 (some ⟨g, 0, none⟩) i c (rowC (l.take i)) hold (l.length + 1 - i) (by omega) (by rw [hz1]; omega) (by omega) (by omega) (by rw [hz2]; omega) (by rw [hz2]; exact growslice_fits (by omega) (by omega))
  rw [hik] at hrz
  have hGn := grownCap_ge W (l.length + 1) c 54
  have hGm := grownCap_le_maxLen W (l.length + 1) c 54 (by unfold maxLen; omega)
  generalize grownCap W (l.length + 1) c 54 = G at *
  obtain ⟨ROW, hROW⟩ : ∃ ROW : Array Value, ROW = (rowC (l.take i)).toArray ++ Builtin.zeroCells (Value.cells (.agg #[.int .i64 0, .string ⟨#[]⟩, .string ⟨#[]⟩, .string ⟨#[]⟩, .bool false])) (l.length + 1 - i) ++ Builtin.zeroCells (Value.cells (.agg #[.int .i64 0, .string ⟨#[]⟩, .string ⟨#[]⟩, .string ⟨#[]⟩, .bool false])) (G - (l.length + 1)) := ⟨_, rfl⟩
  have hzc : (Value.cells (.agg #[.int .i64 0, .string ⟨#[]⟩, .string ⟨#[]⟩, .string ⟨#[]⟩, .bool false])).size = 5 := rfl
  rw [← hROW] at hrz
  have hRs : ROW.size = G * 5 := by
    rw [hROW]
    simp only [Array.size_append, List.size_toArray, size_zeroCells, hzc, rowC_len, List.length_take]
    omega
  have hRt : ROW.toList.take (i * 5) = rowC (l.take i) := by
    rw [hROW]
    simp only [Array.toList_append, List.append_assoc]
    rw [List.take_append_of_le_length (by rw [rowC_len, List.length_take]; omega), List.take_of_length_le (by rw [rowC_len, List.length_take]; omega)]
  have hG9 : G ≤ 9223372036854775807 := by unfold maxLen at hGm; exact hGm
  have hkX : Keeps (fun _ => False) W (W.drew.alloc (.cells ROW 54)) := ((Keeps.refl _ W).drew).alloc _
  have hgX : (W.drew.alloc (.cells ROW 54)).heap[W.heap.size]? = some (.cells ROW 54 (0, 0)) := heap_alloc_new W.drew _
  have hvX : (W.drew.alloc (.cells ROW 54)).heap[vb]? = some (.cells x.cells.toArray 54 (0, 0)) := (hkX.block _ (Array.getElem?_eq_some_iff.1 hv).1 (fun h => h)).trans hv
  have hoX : (W.drew.alloc (.cells ROW 54)).heap[g]? = some (.cells cur 54 (0, 0)) := (hkX.block _ hgl (fun h => h)).trans hg
  have hgW : g ≠ W.heap.size := by omega
  have hvW : vb ≠ W.heap.size := by have := (Array.getElem?_eq_some_iff.1 hv).1; omega
  generalize W.drew.alloc (.cells ROW 54) = X at *
  obtain ⟨RA, hRA⟩ : ∃ RA, RA = ROW.toList.take (i * 5) ++ x.cells ++ ROW.toList.drop (i * 5 + x.cells.length) := ⟨_, rfl⟩
  obtain ⟨hfin, hRAl⟩ := insg_cells hi hGn (by simpa using hRs) hRt hRA
  have hrA : ∀ ty, (Builtin.copy_ #[60, 60] ty #[.slice (some ⟨W.heap.size, i * 5, none⟩) (l.length + 1 - i) (G - i), .slice (some ⟨vb, 0, none⟩) 1 1]).run Try.prog X = .ok (goInt 1) (X.setRow W.heap.size RA.toArray) := fun ty => by
    rw [hRA]
    exact run_copy_cells X 60 60 ty 54 W.heap.size (i * 5) (l.length + 1 - i) (G - i) ⟨vb, 0, none⟩ 1 1 1 ROW 54 x.cells 5 Try.underlying60 sizeRec hgX (by simp only [Nat.min_def]; split <;> omega) rfl
      (fun j v hj => by rw [Addr.add_lit, Nat.zero_add]; exact (mem_cells hvX j).trans (by simpa using hj)) (by rw [hRs]; show i * 5 + 5 ≤ _; omega) (rec_one noMem x.cells x ⟨rfl, hx⟩)
  have hkY : Keeps (fun k => k = W.heap.size) X (X.setRow W.heap.size RA.toArray) := setRow_keepsS _ _ _
  have hgY : (X.setRow W.heap.size RA.toArray).heap[W.heap.size]? = some (.cells RA.toArray 54 (0, 0)) := setRow_heap X W.heap.size ROW _ _ _ hgX
  have hoY : (X.setRow W.heap.size RA.toArray).heap[g]? = some (.cells cur 54 (0, 0)) := (hkY.block _ (Array.getElem?_eq_some_iff.1 hoX).1 hgW).trans hoX
  have hWX : W.heap.size ≤ X.heap.size := hkX.size
  have hkWY : Keeps (fun k => k = W.heap.size) W (X.setRow W.heap.size RA.toArray) := (hkX.wide (fun _ _ h => h.elim)).trans hkY
  generalize X.setRow W.heap.size RA.toArray = Y at *
  have hdl : (rowC (l.drop i)).length = (l.length - i) * 5 := by rw [rowC_len, List.length_drop]
  have hsz : rowC (l.drop i) = ((cur.toList.drop (i * 5)).take ((l.length - i) * 5)) := by
    rw [← rowC_drop l i hin, ← ht, List.drop_take, Nat.sub_mul]
  have HGY := Lib.hid (show Y.drew.heap[W.heap.size]? = some (.cells RA.toArray 54 (0, 0)) from hgY)
  have HSR := Lib.hid (fun (j : Nat) (v : Value) (hj : (rowC (l.drop i))[j]? = some v) => (show Y.drew.cell? ((⟨g, i * 5, none⟩ : Addr).add j) = some v from by
    rw [Addr.add_lit]
    refine (mem_cells (w := Y.drew) hoY _).trans ?_
    rw [hsz, List.getElem?_take] at hj
    split at hj
    · rw [List.getElem?_drop] at hj; simpa using hj
    · cases hj))
  have HFIT := Lib.hid (show (i + 1) * 5 + (rowC (l.drop i)).length ≤ RA.toArray.size by rw [hdl, List.size_toArray, hRAl]; omega)
  have HMN := Lib.hid (show l.length - i = Nat.min (l.length - i) (l.length - i) by simp [Nat.min_def])
  have HDL := Lib.hid hdl
  obtain ⟨RB, hRB⟩ : ∃ RB, RB = RA.take ((i + 1) * 5) ++ (rowC (l.drop i) ++ RA.drop ((i + 1) * 5 + (rowC (l.drop i)).length)) := ⟨_, rfl⟩
  have HRB := Lib.hid hRB
  have hgZ : (Y.drew.setRow W.heap.size RB.toArray).heap[W.heap.size]? = some (.cells RB.toArray 54 (0, 0)) := setRow_heap Y.drew W.heap.size RA.toArray _ _ _ hgY
  have hkZ : Keeps (fun k => k = W.heap.size) W (Y.drew.setRow W.heap.size RB.toArray) := (hkWY.trans ((Keeps.refl _ Y).drew)).trans (setRow_keepsS _ _ _)
  have hRBe : RB = rowC (l.take i) ++ (x.cells ++ rowC (l.drop i)) ++ RA.drop ((i + 1) * 5 + (rowC (l.drop i)).length) := by rw [hRB, ← List.append_assoc]; exact hfin
  have hRBl : RB.length = G * 5 := by
    rw [hRB, List.length_append, List.length_append, List.length_take, List.length_drop, hdl, hRAl]
    omega
  have HOUT := Lib.hid (own_ins hok hx hin hB hgZ hGn hGm (by simpa using hRBl) (by simpa using hRBe))
  have HGR := Lib.hid (show W.grownBy (Y.drew.setRow W.heap.size RB.toArray) (Value.slice (some ⟨g, 0, none⟩) l.length c).ownBlock from ⟨hkZ.os, hkZ.tape, hkZ.output, hkZ.size, fun k hk _ => hkZ.block k hk (fun e => by omega)⟩)
  have hw2 : IntKind.i64.wrap ((l.length : Int) + 1) = (l.length : Int) + 1 := IntWalk.i64_in _ (by omega)
  have hw1 : IntKind.i64.wrap ((i : Int) + 1) = (i : Int) + 1 := IntWalk.i64_in _ (by omega)
  have hw3 : IntKind.i64.wrap ((l.length : Int) + 1 - (i : Int)) = ((l.length + 1 - i : Nat) : Int) := by rw [IntWalk.i64_in _ (by omega)]; omega
  have h1 : ¬ ((1 : Int) = 0) := by decide
  have hz2 : ¬ ((i : Int) = (l.length : Int)) := by omega
  have hz3 : (c : Int) < (l.length : Int) + 1 := by omega
  have hb1 : (0 : Int) ≤ (i : Int) + 1 := by omega
  have htn : ((i : Int) + 1).toNat = i + 1 := by omega
  have hGi : ¬ (G = i) := by omega
  have hGim : ¬ (G = i + 1) := by omega
  have hci : ¬ (c = i) := by omega
  have hb3 : (i : Int) ≤ (l.length : Int) + 1 := by omega
  have hb4 : (i : Int) + 1 ≤ (l.length : Int) + 1 := by omega
  have hc9 : c ≤ 9223372036854775807 := by omega
  have hic : i ≤ c := by omega
  have HRZ := Lib.hid hrz
  clear hrz hold hsz hdl hRA hRAl hfin hRB hRBe hRBl hgZ hkZ hROW hRt hRs hkX hkY hkWY
  go_enter Try.func50, Try.ntmps50
  go_wp2_with (at_builtin; refine Lib.wpList_append_run _ rfl _ _ _ _ rfl _ _ rfl rfl _ _ (HRZ.out _) ?_)
  go_region_law (refine step_copy_cells rfl (.tmp 50) (.tmp 53) 60 60 rfl 54 5 Try.underlying60 sizeRec W.heap.size ((i + 1) * 5) (l.length - i) (G - (i + 1)) ⟨g, i * 5, none⟩ (l.length - i) (c - i) (l.length - i) (by simp [Act.eval, Act.put]) (by simp [Act.eval, Act.put]) RA.toArray _ HGY.out (rowC (l.drop i)) HMN.out HDL.out HSR.out HFIT.out (row_one _) ?_)
  rw [show (RA.toArray.toList.take ((i + 1) * 5) ++ (rowC (l.drop i) ++ RA.toArray.toList.drop ((i + 1) * 5 + (rowC (l.drop i)).length))) = RB from HRB.out.symm]
  generalize Y.drew.setRow W.heap.size RB.toArray = Z at *
  go_wp2
  go_ret
  exact ⟨_, rfl, HOUT.out, HGR.out, .inr (fun k e => by cases e; exact Nat.le_refl _)⟩
/-- slices.Insert at records. -/
theorem insert_any (W : World) (B : Nat) (v : Value) (l : List RecS) (i : Nat) (x : RecS) (vb : Nat) (hown : OwnsT W B v l) (hB : B ≤ W.heap.size) (hi : i ≤ l.length) (hn : l.length ≤ 1000) (hx : x.e.okE) (hv : W.heap[vb]? = some (.cells x.cells.toArray 54 (0, 0))) (hne : v.ownBlock ≠ some vb) :
    Calls Try.prog 50 #[v, .int .i64 i, .slice (some ⟨vb, 0, none⟩) 1 1] W (InsPost W B v l i x) := by
  by_cases he : i = l.length
  · subst he; exact insert_end W B v l x vb hown hB hn hx hv hne
  · obtain ⟨hok, h⟩ := hown.css
    rcases h with ⟨rfl, rfl⟩ | ⟨g, c, cur, rfl, hBg, hg, hlc, hm, hs, ht⟩
    · simp at hi; exact absurd hi he
    · by_cases hr : l.length + 1 ≤ c
      · exact insert_room W B l i x vb g c cur hok hBg hg (by omega) hr hm hs ht hn hx hv (fun e => hne (by rw [e]; rfl))
      · exact insert_grow W B l i x vb g c cur hok hB hg (by omega) hlc (by omega) hs ht hn hx hv
end Go.Proofs.Ytjenfhkikbndmaa
/- package slab: lists, read within a set of blocks (for chapter 14). -/
namespace Go.Proofs.Ytjenfhkikbndmaa
open Go.RowKit
set_option maxRecDepth 100000 in
set_option maxHeartbeats 4000000 in
theorem lists_anyS (T0 : Nat → Prop) (pv : Value) (tbl : List RecS) (L : List (List (Nat × List RecS))) (tv lv : Value) (W : World) (ht : tRecSs.rv ((mem W).on T0) [tv] tbl) (hl : tLevD.rv ((mem W).on T0) [lv] L) (hn : L.length ≤ 1000000000 ∧ L.flatten.length ≤ 1000000000 ∧ ∀ x ∈ L, x.length ≤ 1000000000) :
    Calls Try.prog 34 #[pv, tv, lv] W fun e w' => ∃ a cap, e = .returned (.slice a (listsD tbl L).length cap) ∧ (tSlice tRecSs).rv ((mem w').on (fun k => T0 k ∨ W.heap.size ≤ k)) [.slice a (listsD tbl L).length cap] (listsD tbl L) ∧ Below W.heap.size W w' := by
  obtain ⟨ta, tc, rfl, -, -, ht⟩ := slice_form ht
  obtain ⟨la, lc, rfl, hlc, hlm, hl⟩ := slice_form hl
  obtain ⟨hn1, hn2, hn3⟩ := hn
  have HN3 := Lib.hid hn3
  have HL := Lib.hid hl
  have HT := Lib.hid ht
  have HB0 := Lib.hid ((Below.refl _ W).alloc (Nat.le_refl _) (.cells #[.slice ta tbl.length tc] 60))
  have HO0 := Lib.hid (show Owns (tIn ((mem W).on T0) tRecSs) (W.alloc (.cells #[.slice ta tbl.length tc] 60)) W.heap.size 60 (.slice (some ⟨W.heap.size, 0, none⟩) 1 1) [tbl] from
    Owns.one (cs := [.slice ta tbl.length tc]) (Nat.le_refl _) (heap_alloc_new W _) rfl (Nat.succ_pos 0) ht (fun u hu => by simp at hu; subst hu; rfl))
  clear hl ht hn3
  go_enter Try.func34, Try.ntmps34
  go_wp2_with fail
  go_loopw [7, 16] (fun ov iv wr => ∃ i : Nat, i ≤ L.length ∧ iv = .int .i64 i ∧ Hid (Owns (tIn ((mem W).on T0) tRecSs) wr W.heap.size 60 ov (tbl :: (L.take i).flatten.map Prod.snd)) ∧ Hid (Below W.heap.size W wr)) (fun _ iv _ => L.length - (intOf iv).toNat)
  case atStart => exact ⟨0, Nat.zero_le _, rfl, HO0, HB0⟩
  case round =>
    obtain ⟨i, hi, rfl, HO, HB⟩ := hrel
    by_cases hlt : i < L.length
    · have hlv := HL.out
      obtain ⟨lb, lo, e, hat⟩ := slice_at hlv hlt
      subst e
      obtain ⟨rv, hc, hrow⟩ := slice_cell hat
      obtain ⟨ra, rc, rfl, hrc, hrm, hrow⟩ := slice_form hrow
      have hxl := HN3.out _ (List.getElem_mem hlt)
      have c0 : wr.cell? ⟨lb, lo + i, none⟩ = some (.slice ra L[i].length rc) := below_mem HB.out _ _ _ (Mem.on_le _ _ _ _ _ (by simpa [tRowD, tRunD, tSlice] using hc))
      have HFL := Lib.hid (fun j => flat_le L hlt j)
      have HTF := Lib.hid (fun j hj => take_flat L hlt j hj)
      have HTE := Lib.hid (take_flat1 L hlt)
      have HR := Lib.hid hrow
      clear hlv hat hc hrow
      generalize L[i] = row at *
      have hcr : rc ≤ 9223372036854775807 := by unfold maxLen at hrm; exact hrm
      go_wp2_with fail
      go_loopw [7, 22] (fun ov iv w2 => ∃ j : Nat, j ≤ row.length ∧ iv = .int .i64 j ∧ Hid (Owns (tIn ((mem W).on T0) tRecSs) w2 W.heap.size 60 ov (tbl :: ((L.take i).flatten ++ row.take j).map Prod.snd)) ∧ Hid (Below W.heap.size W w2)) (fun _ iv _ => row.length - (intOf iv).toNat)
      case atStart => exact ⟨0, Nat.zero_le _, rfl, by rw [List.take_zero, List.append_nil]; exact HO, HB⟩
      case round =>
        obtain ⟨j, hj, rfl, HO2, HB2⟩ := hrel
        by_cases hjt : j < row.length
        · obtain ⟨rb, ro, e, hrt⟩ := slice_at HR.out hjt
          subst e
          obtain ⟨rcs, hrc1, aa, uv, rfl, hr0, hr1, hr2⟩ := hrt
          have d0 : wr.cell? ⟨rb, ro + j, none⟩ = some (ptrS aa) := below_mem HB2.out _ _ _ (Mem.on_le _ _ _ _ _ (by have := hrc1 0 _ rfl; simpa [tRunD] using this))
          have d1 : wr.cell? ⟨aa, 1, none⟩ = some uv := below_mem HB2.out _ _ _ (Mem.on_le _ _ _ _ _ hr1)
          obtain ⟨ua, uc, rfl, -, -, hr2⟩ := slice_form hr2
          have HU := Lib.hid (show tRecSs.rv ((mem W).on T0) [.slice ua row[j].2.length uc] row[j].2 from hr2)
          have HTJ := Lib.hid (HTF.out j hjt)
          have hfl := HFL.out j
          have HSZ := Lib.hid HB2.out.size
          clear hrc1 hr0 hr1 hr2
          generalize row[j] = y at *
          obtain ⟨yn, yl⟩ := y
          simp only at HU d1
          generalize hq : tbl :: ((L.take i).flatten ++ row.take j).map Prod.snd = q at *
          have hql : q.length ≤ 1000000001 := by rw [← hq, List.length_cons, List.length_map]; omega
          have HQ := Lib.hid (show tbl :: ((L.take i).flatten ++ row.take (j + 1)).map Prod.snd = q ++ [yl] by rw [HTJ.out, ← hq]; simp)
          obtain ⟨al, cl, hvl, _⟩ := HO2.out.len
          subst hvl
          clear hq hfl
          go_wp2_with (at_builtin; refine wpList_append_one rfl _ _ 77 rfl (tIn ((mem W).on T0) tRecSs) Try.underlying77 infoRecs rfl (Nat.succ_pos 0) W.heap.size _ q rfl (HO2.out.alloc _) _ _ yl rfl [.slice ua yl.length uc] ?a2 HU.out ?b2 ?c2 ?d2 ?e2 ?_)
          case a2 => exact fun j u hj => by match j, hj with | 0, hj => simp at hj; subst hj; simp [mem]
          case b2 => rfl
          case c2 => unfold maxLen; omega
          case d2 => omega
          case e2 => have := HSZ.out; simp; omega
          · intro v' w6 own6 hgrow _
            have HB6 := Lib.hid (show Below W.heap.size W w6 from (HB2.out.alloc HB2.out.size _).grown hgrow (by have := HSZ.out; simp; omega) (fun k hk => ((HO2.out).lt k hk).1))
            rw [← HQ.out] at own6
            have HO6 := Lib.hid own6
            clear own6 hgrow HO2 HB2
            go_wp2
            go_roundw
            case rel => exact ⟨j + 1, by omega, by go_num, HO6, HB6⟩
            case measure => simp [intOf]; omega
        · obtain rfl : j = row.length := by omega
          rw [HTE.out] at HO2
          clear HTE HTF HFL
          go_wp2
          go_roundw
          case rel => exact ⟨i + 1, by omega, by go_num, HO2, HB2⟩
          case measure => simp [intOf]; omega
    · obtain rfl : i = L.length := by omega
      rw [List.take_length] at HO
      obtain ⟨al, cl, hvl, _⟩ := HO.out.len
      subst hvl
      have HR := Lib.hid (show (tSlice tRecSs).rv ((mem wr).on (fun k => T0 k ∨ W.heap.size ≤ k)) [.slice al (listsD tbl L).length cl] (listsD tbl L) from slice_in (HO.out.rv (fun _ h => .inr h) (fun _ _ _ h => h)) (fun b o v e => by
        obtain ⟨h1, h2⟩ := Mem.of_on e
        exact Mem.on_some (below_mem HB.out _ _ _ h2) (.inl h1)))
      go_wp2
      go_ret
      exact ⟨al, cl, rfl, HR.out, HB.out⟩
end Go.Proofs.Ytjenfhkikbndmaa
