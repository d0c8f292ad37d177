/- Part 1 of the texts that the law's proof stands on, merged. -/
import Derived.Deep.AppendSrc
import Derived.Maps.OwnSet
import Derived.Maps.Range
import Derived.Maps.RangeWalk
import Derived.Deep.RegionLaw
import Derived.Deep.QuietTactic
import Derived.BigQuiet
import Derived.Test.YtfkphdmnelchmaaWc00
set_option linter.unusedVariables false
set_option linter.unusedSimpArgs false
/- Readings whose deep parts lie in a memory that is known; slices of the call's own at whatever offset, and appends to them. No program in sight. -/
namespace Go.Proofs.Ytfkphdmnelchmaa
open Go.RowKit

def noMem : Mem := fun _ _ => none
def tIn {α : Type} (M : Mem) (t : Ty α) : Ty α := ⟨t.sz, fun _ cs x => t.rv M cs x, fun _ _ _ h => t.len _ _ _ h, fun _ _ _ _ _ h => h⟩
theorem tIn_flat {α : Type} (M : Mem) (t : Ty α) : (tIn M t).flat := fun _ _ _ _ h => h
theorem slice_in {α : Type} {M m : Mem} {t : Ty α} {v : Value} {xs : List α} (h : (tSlice (tIn M t)).rv m [v] xs) (hM : M.le m) : (tSlice t).rv m [v] xs := by
  obtain ⟨a, cap, h1, h2, h3, h4⟩ := h
  refine ⟨a, cap, h1, h2, h3, fun hp => ?_⟩
  obtain ⟨b, o, ha, hat⟩ := h4 hp
  refine ⟨b, o, ha, fun k hk => ?_⟩
  obtain ⟨cs, hc, hr⟩ := hat k hk
  exact ⟨cs, hc, t.mono _ _ _ _ hM hr⟩

/-- A slice whose block is the call's own; it need not begin at the block's first cell. -/
def OwnsO {α : Type} (t : Ty α) (w : World) (e : TypeId) (v : Value) (xs : List α) : Prop :=
  ∃ css : List (List Value), css.length = xs.length ∧ (∀ k, (h : k < css.length) → (h' : k < xs.length) → t.rv noMem css[k] xs[k]) ∧
   ((v = .slice none 0 0 ∧ xs = []) ∨ ∃ g off cap cur, v = .slice (some ⟨g, off, none⟩) xs.length cap ∧ w.heap[g]? = some (.cells cur e (0, 0)) ∧ xs.length ≤ cap ∧ cap ≤ maxLen ∧ off + cap * t.sz ≤ cur.size ∧ (cur.toList.drop off).take (xs.length * t.sz) = css.flatten)

theorem OwnsO.nil {α : Type} (t : Ty α) (w : World) (e : TypeId) : OwnsO t w e (.slice none 0 0) [] := ⟨[], rfl, fun k h => absurd h (by simp), .inl ⟨rfl, rfl⟩⟩
theorem OwnsO.form {α : Type} {t : Ty α} {w : World} {e : TypeId} {v : Value} {xs : List α} (h : OwnsO t w e v xs) : ∃ a cap, v = .slice a xs.length cap ∧ xs.length ≤ cap ∧ cap ≤ maxLen := by
  obtain ⟨css, _, _, h | ⟨g, off, cap, cur, h1, _, h3, h4, _⟩⟩ := h
  · obtain ⟨rfl, rfl⟩ := h; exact ⟨none, 0, rfl, Nat.le_refl _, Nat.zero_le _⟩
  · exact ⟨_, _, h1, h3, h4⟩
theorem OwnsO.keeps {α : Type} {t : Ty α} {w w' : World} {e : TypeId} {v : Value} {xs : List α} (h : OwnsO t w e v xs) (hk : ∀ k, v.ownBlock = some k → w'.heap[k]? = w.heap[k]?) : OwnsO t w' e v xs := by
  obtain ⟨css, g1, g2, h | ⟨g, off, cap, cur, rfl, h2, r⟩⟩ := h
  · exact ⟨css, g1, g2, .inl h⟩
  · exact ⟨css, g1, g2, .inr ⟨g, off, cap, cur, rfl, by rw [hk g rfl]; exact h2, r⟩⟩
theorem OwnsO.lt {α : Type} {t : Ty α} {w : World} {e : TypeId} {v : Value} {xs : List α} (h : OwnsO t w e v xs) : ∀ k, v.ownBlock = some k → k < w.heap.size := by
  obtain ⟨css, g1, g2, h | ⟨g, off, cap, cur, rfl, h2, r⟩⟩ := h
  · obtain ⟨rfl, _⟩ := h; intro k hk; cases hk
  · intro k hk; cases hk; exact (Array.getElem?_eq_some_iff.1 h2).1
theorem OwnsO.cells {α : Type} {t : Ty α} {w : World} {e : TypeId} {v : Value} {xs : List α} (h : OwnsO t w e v xs) : ∀ k, v.ownBlock = some k → ∃ cur, w.heap[k]? = some (.cells cur e (0, 0)) := by
  obtain ⟨css, g1, g2, h | ⟨g, off, cap, cur, rfl, h2, r⟩⟩ := h
  · obtain ⟨rfl, _⟩ := h; intro k hk; cases hk
  · intro k hk; cases hk; exact ⟨cur, h2⟩
theorem OwnsO.re {α : Type} {M M' : Mem} {t : Ty α} {w : World} {e : TypeId} {v : Value} {xs : List α} (h : OwnsO (tIn M t) w e v xs) (hM : M.le M') : OwnsO (tIn M' t) w e v xs := by
  obtain ⟨css, g1, g2, r⟩ := h
  exact ⟨css, g1, fun k h h' => t.mono _ _ _ _ hM (g2 k h h'), r⟩

theorem take_cell {cur : List Value} {off n k s j : Nat} {css : List (List Value)} {v : Value} (h : (cur.drop off).take (n * s) = css.flatten) (hl : css.length = n) (hs : ∀ c ∈ css, c.length = s) (hk : k < css.length) (e : css[k][j]? = some v) : cur[off + (k * s + j)]? = some v := by
  have hf := flatten_get css hs k hk j v e
  rw [← h, List.getElem?_take] at hf
  split at hf
  · rw [List.getElem?_drop] at hf; exact hf
  · cases hf

theorem OwnsO.lens {α : Type} {t : Ty α} {css : List (List Value)} {xs : List α} (h1 : css.length = xs.length) (h2 : ∀ k, (h : k < css.length) → (h' : k < xs.length) → t.rv noMem css[k] xs[k]) : ∀ c ∈ css, c.length = t.sz := fun c hc => by
  obtain ⟨k, hk, rfl⟩ := List.getElem_of_mem hc
  exact t.len _ _ _ (h2 k hk (by omega))

/-- Its elements, as a reading. -/
theorem OwnsO.rv {α : Type} {t : Ty α} (hf : t.flat) {w : World} {e : TypeId} {v : Value} {xs : List α} (h : OwnsO t w e v xs) {S : Nat → Prop} (hS : ∀ k, v.ownBlock = some k → S k) : (tSlice t).rv ((mem w).on S) [v] xs := by
  obtain ⟨css, g1, g2, h | ⟨g, off, cap, cur, rfl, h2, h3, h4, h5, h6⟩⟩ := h
  · obtain ⟨rfl, rfl⟩ := h; exact slice_nil _ _
  · refine ⟨some ⟨g, off, none⟩, cap, rfl, h3, h4, fun _ => ⟨g, off, rfl, fun k hk => ⟨css[k], fun j u hu => ?_, hf _ _ _ _ (g2 k (by omega) hk)⟩⟩⟩
    have hc := take_cell h6 g1 (OwnsO.lens g1 g2) (by omega) hu
    refine Mem.on_some ?_ (hS g rfl)
    rw [mem_cells h2]
    rw [Nat.add_assoc]
    simpa using hc
theorem OwnsO.rv' {α : Type} {t : Ty α} (hf : t.flat) {w : World} {e : TypeId} {v : Value} {xs : List α} (h : OwnsO t w e v xs) : (tSlice t).rv (mem w) [v] xs :=
  (tSlice t).mono _ _ _ _ (Mem.on_le _ (fun _ => True)) (h.rv hf (fun _ _ => trivial))

/-- What stands at an element's place; the block is not frozen. -/
theorem OwnsO.at {α : Type} {t : Ty α} {w : World} {e : TypeId} {v : Value} {xs : List α} (h : OwnsO t w e v xs) {k : Nat} (hk : k < xs.length) :
    ∃ g off cap cs, v = .slice (some ⟨g, off, none⟩) xs.length cap ∧ xs.length ≤ cap ∧ cap ≤ maxLen ∧ t.rv noMem cs xs[k] ∧ At (mem w) g (off + k * t.sz) cs := by
  obtain ⟨css, g1, g2, h | ⟨g, off, cap, cur, rfl, h2, h3, h4, h5, h6⟩⟩ := h
  · obtain ⟨_, rfl⟩ := h; simp at hk
  · refine ⟨g, off, cap, css[k]'(by omega), rfl, h3, h4, g2 k (by omega) hk, fun j u hu => ?_⟩
    have hc := take_cell h6 g1 (OwnsO.lens g1 g2) (by omega) hu
    rw [mem_cells h2, Nat.add_assoc]
    simpa using hc

theorem drop_take_succ {cur : List Value} {off n s : Nat} {c : List Value} {css : List (List Value)} (h : (cur.drop off).take ((n + 1) * s) = (c :: css).flatten) (hc : c.length = s) : (cur.drop (off + s)).take (n * s) = css.flatten := by
  rw [List.flatten_cons] at h
  have e : (cur.drop (off + s)).take (n * s) = ((cur.drop off).take ((n + 1) * s)).drop s := by
    rw [List.drop_take, List.drop_drop, Nat.succ_mul, Nat.add_sub_cancel]
  rw [e, h, ← hc, List.drop_left]

theorem flatten_length {β : Type} {s : Nat} : ∀ (css : List (List β)), (∀ c ∈ css, c.length = s) → css.flatten.length = css.length * s
  | [], _ => by simp
  | c :: css, h => by rw [List.flatten_cons, List.length_append, h c (by simp), flatten_length css (fun c hc => h c (by simp [hc])), List.length_cons, Nat.succ_mul]; omega

/-- The slice without its first element: 'x[1:]'. -/
theorem OwnsO.tail {α : Type} {P : Program} {t : Ty α} {w : World} {e T : TypeId} {v : Value} {x : α} {xs : List α} (h : OwnsO t w e v (x :: xs)) (hT : P.underlying T = some (.slice e)) (hs : (P.info? e).map (·.size) = some t.sz) :
    ∃ v', (∀ w2, (Instr.slice T v (some (.int .i64 1)) none none).run P w2 = .ok v' w2) ∧ OwnsO t w e v' xs ∧ v'.ownBlock = v.ownBlock ∧ ∃ a c, v' = .slice a xs.length c := by
  obtain ⟨css, g1, g2, h | ⟨g, off, cap, cur, rfl, h2, h3, h4, h5, h6⟩⟩ := h
  · obtain ⟨_, h⟩ := h; cases h
  · have hl := OwnsO.lens g1 g2
    cases css with
    | nil => simp at g1
    | cons c css =>
      have hc : c.length = t.sz := hl c (by simp)
      have hcl : css.length = xs.length := by simpa using g1
      simp only [List.length_cons] at h3 h6
      have h7 := drop_take_succ h6 hc
      have he : P.elem T = e := by simp [Program.elem, hT]
      have hsz : ∀ w2, (sizeOf e).run P w2 = .ok t.sz w2 := fun w2 => by
        cases hq : P.info? e with
        | none => simp [hq] at hs
        | some i => simp only [hq, Option.map_some, Option.some.injEq] at hs; simp [sizeOf, typeInfo, hq, hs]
      refine ⟨.slice (some (if cap = 1 then ⟨g, off, none⟩ else ⟨g, off + t.sz, none⟩)) xs.length (cap - 1), fun w2 => ?_, ⟨css, hcl, fun k h h' => by have := g2 (k + 1) (by simp; omega) (by simp; omega); simpa using this, .inr ?_⟩, ?_, _, _, rfl⟩
      · rw [run_slice_l w2 T _ _ cap (by rw [he]; exact hT) .i64 1 (by omega) (by simp; omega)]
        rw [he, hsz]
        simp only [Result.andThen, sliced, List.length_cons]
        by_cases h1 : cap = 1
        · simp [h1]
        · simp [h1, Addr.add]
      · by_cases h1 : cap = 1
        · have h0 : xs = [] := List.eq_nil_of_length_eq_zero (by omega)
          subst h0
          refine ⟨g, off, cap - 1, cur, by simp [h1], h2, by omega, by omega, by rw [h1] at h5 ⊢; omega, ?_⟩
          have : css = [] := List.eq_nil_of_length_eq_zero (by simpa using hcl)
          subst this; simp
        · refine ⟨g, off + t.sz, cap - 1, cur, by simp [h1], h2, by omega, by omega, ?_, h7⟩
          have e2 : cap * t.sz = (cap - 1) * t.sz + t.sz := by rw [← Nat.succ_mul]; congr 1; omega
          omega
      · by_cases h1 : cap = 1 <;> simp [h1, Value.ownBlock]

section
variable {P : Program}
theorem run_append_room_at (w : World) (t tx ty e : TypeId) (i : TypeInfo) (ht : P.underlying t = some (.slice e)) (hi : P.info? e = some i)
    (g off sLen sCap : Nat) (cur : Array Value) (hg : w.heap[g]? = some (.cells cur e (0, 0))) (x : Value) (n : Nat) (news : List Value) (hs : Src P i.size tx x n news w)
    (hroom : sLen + n ≤ sCap) (hfit : off + sLen * i.size + news.length ≤ cur.size) :
    (Builtin.append_ #[t, tx] ty #[.slice (some ⟨g, off, none⟩) sLen sCap, x]).run P w =
      .ok (.slice (some ⟨g, off, none⟩) (sLen + n) sCap) (w.setRow g (cur.toList.take (off + sLen * i.size) ++ news ++ cur.toList.drop (off + sLen * i.size + news.length)).toArray) := by
  have hst := run_storeCells_at P g (off + sLen * i.size) e news 0 cur w hg (by simpa using hfit) hs.one
  simp only [Nat.add_zero] at hst
  rcases hs.kind with ⟨e', hk⟩ | hk <;> simp [Builtin.append_, run_underlying ht, run_underlying hk, sizeOf, typeInfo, hi, hs.len, hroom, hs.cells, Addr.add_lit, hst]

theorem nextcap_fits {need old bytes : Nat} (h : old < need) (hb : need * bytes ≤ 140737488355328) : Builtin.nextslicecap need old * bytes ≤ 281474976710656 := growslice_fits h hb

theorem run_append_new {α : Type} {t : Ty α} (w : World) (T tx ty : TypeId) {e : TypeId} {z : Value} {bytes : Nat} (hT : P.underlying T = some (.slice e))
    (hinf : (P.info? e).map (fun i => (i.zero, i.size, i.bytes)) = some (some z, t.sz, bytes)) (hzs : z.cells.size = t.sz) (a : Option Addr) (cap : Nat) (xs ys : List α) (css : List (List Value))
    (hold : (Builtin.firstCells t.sz xs.length (.slice a xs.length cap)).run P w.drew = .ok css.flatten.toArray w.drew) (hcl : css.length = xs.length) (hcr : ∀ k, (h : k < css.length) → (h' : k < xs.length) → t.rv noMem css[k] xs[k])
    (x : Value) (dss : List (List Value)) (hs : Src P t.sz tx x ys.length dss.flatten w) (hl : dss.length = ys.length) (hr : ∀ k, (h : k < dss.length) → (h' : k < ys.length) → t.rv noMem dss[k] ys[k])
    (hn : cap < xs.length + ys.length) (h63 : xs.length + ys.length ≤ maxLen) (hbytes : (xs.length + ys.length) * bytes ≤ 140737488355328) :
    ∃ v' w', (Builtin.append_ #[T, tx] ty #[.slice a xs.length cap, x]).run P w = .ok v' w' ∧ OwnsO t w' e v' (xs ++ ys) ∧ Below w.heap.size w w' ∧ v'.ownBlock = some w.heap.size := by
  obtain ⟨i, hi, hz, hsize, hby⟩ := info_parts hinf
  have hsmall : xs.length + ys.length ≤ 9223372036854775807 := by simp only [maxLen] at h63; omega
  rw [← hsize] at hs hold
  rw [← hby] at hbytes
  have hrun := run_append_grow_src (P := P) w T tx ty e i z hT hi hz a xs.length cap css.flatten hold x ys.length dss.flatten hs hn (by omega) (growslice_fits hn hbytes)
  refine ⟨_, _, hrun, ⟨css ++ dss, by simp [hcl, hl], fun k h h' => ?_, .inr ⟨w.heap.size, 0, grownCap w (xs.length + ys.length) cap e, _, ?_, heap_alloc_new w.drew _, ?_, grownCap_le_maxLen w _ _ e h63, ?_, ?_⟩⟩, (Below.refl _ _).drew.alloc (Nat.le_refl _) _, rfl⟩
  · by_cases hk : k < css.length
    · rw [List.getElem_append_left hk, List.getElem_append_left (by omega)]
      exact hcr k hk (by omega)
    · have e1 : (css ++ dss)[k] = dss[k - css.length]'(by simp at h; omega) := List.getElem_append_right (by omega)
      have e2 : (xs ++ ys)[k] = ys[k - css.length]'(by simp at h'; omega) := by rw [List.getElem_append_right (by omega)]; congr 1; omega
      rw [e1, e2]
      exact hr _ _ _
  · rw [List.length_append]
  · rw [List.length_append]; exact grownCap_ge w _ _ e
  · have hge := grownCap_ge w (xs.length + ys.length) cap e
    have h1 : css.flatten.length = xs.length * t.sz := by rw [flatten_length css (OwnsO.lens hcl hcr), hcl]
    have h2 : dss.flatten.length = ys.length * t.sz := by rw [flatten_length dss (OwnsO.lens hl hr), hl]
    simp only [Array.size_append, List.size_toArray, size_zeroCells, hzs, List.length_append, h1, h2, ← Nat.add_mul]
    rw [Nat.zero_add]
    exact Nat.le_of_eq (by congr 1; omega)
  · have h1 : css.flatten.length = xs.length * t.sz := by rw [flatten_length css (OwnsO.lens hcl hcr), hcl]
    have h2 : dss.flatten.length = ys.length * t.sz := by rw [flatten_length dss (OwnsO.lens hl hr), hl]
    simp only [Array.toList_append, List.drop_zero, List.length_append, List.flatten_append]
    rw [Nat.add_mul, ← h1, ← h2, ← List.length_append, List.take_left]

/-- Where an append has put its elements: behind the old ones, where there was room, or all into a new block. -/
def AppAt (w w' : World) (v : Value) (n m : Nat) (v' : Value) : Prop :=
  (v'.ownBlock = v.ownBlock ∧ w.grownBy w' v.ownBlock ∧ ∃ a cap, v = .slice a n cap ∧ n + m ≤ cap) ∨ (Below w.heap.size w w' ∧ v'.ownBlock = some w.heap.size)
theorem AppAt.grown {w w' : World} {v v' : Value} {n m : Nat} (h : AppAt w w' v n m v') : w.grownBy w' v.ownBlock := by
  rcases h with ⟨_, h, _⟩ | ⟨hb, _⟩
  · exact h
  · exact ⟨hb.os, hb.tape, hb.output, hb.size, fun k hk _ => hb.block k hk⟩
theorem AppAt.block {w w' : World} {v v' : Value} {n m : Nat} (h : AppAt w w' v n m v') : v'.ownBlock = v.ownBlock ∨ ∀ k, v'.ownBlock = some k → w.heap.size ≤ k := by
  rcases h with ⟨h, _⟩ | ⟨_, h⟩
  · exact .inl h
  · exact .inr fun k hk => by rw [h] at hk; cases hk; exact Nat.le_refl _

/-- APPEND to a slice of the call's own, of any number of elements. -/
theorem run_append_o {α : Type} {t : Ty α} (w : World) (T tx ty : TypeId) {e : TypeId} {z : Value} {bytes : Nat} (hT : P.underlying T = some (.slice e))
    (hinf : (P.info? e).map (fun i => (i.zero, i.size, i.bytes)) = some (some z, t.sz, bytes)) (hzs : z.cells.size = t.sz) (v : Value) (xs ys : List α) (hown : OwnsO t w e v xs)
    (x : Value) (dss : List (List Value)) (hs : Src P t.sz tx x ys.length dss.flatten w) (hl : dss.length = ys.length) (hr : ∀ k, (h : k < dss.length) → (h' : k < ys.length) → t.rv noMem dss[k] ys[k])
    (h63 : xs.length + ys.length ≤ maxLen) (hbytes : (xs.length + ys.length) * bytes ≤ 140737488355328) :
    ∃ v' w', (Builtin.append_ #[T, tx] ty #[v, x]).run P w = .ok v' w' ∧ OwnsO t w' e v' (xs ++ ys) ∧ AppAt w w' v xs.length ys.length v' := by
  have h2 : dss.flatten.length = ys.length * t.sz := by rw [flatten_length dss (OwnsO.lens hl hr), hl]
  obtain ⟨css, g1, g2, h | ⟨g, off, cap, cur, rfl, hg, h3, h4, h5, h6⟩⟩ := hown
  · obtain ⟨rfl, rfl⟩ := h
    by_cases h0 : ys.length = 0
    · have hy : ys = [] := List.eq_nil_of_length_eq_zero h0
      subst hy
      have hd : dss = [] := List.eq_nil_of_length_eq_zero (by simpa using hl)
      subst hd
      obtain ⟨i, hi, hz, hsize, hby⟩ := info_parts hinf
      refine ⟨.slice none 0 0, w, ?_, OwnsO.nil _ _ _, .inl ⟨rfl, ⟨rfl, rfl, rfl, Nat.le_refl _, fun _ _ _ => rfl⟩, _, _, rfl, Nat.le_refl _⟩⟩
      rw [← hsize] at hs
      rcases hs.kind with ⟨e', hk⟩ | hk <;> (have hc := hs.cells; have hle := hs.len; simp only [List.length_nil] at hc hle; simp [Builtin.append_, run_underlying hT, run_underlying hk, sizeOf, typeInfo, hi, hle, hc])
    · obtain ⟨v', w', hrun, ho, hb, hblk⟩ := run_append_new (P := P) w T tx ty hT hinf hzs none 0 [] ys [] (run_firstCells_none w.drew t.sz 0 0 0) rfl (fun k h => absurd h (by simp)) x dss hs hl hr (by simp; omega) h63 hbytes
      exact ⟨v', w', hrun, ho, .inr ⟨hb, hblk⟩⟩
  · by_cases hroom : xs.length + ys.length ≤ cap
    · obtain ⟨i, hi, hz, hsize, hby⟩ := info_parts hinf
      have hfit : off + xs.length * t.sz + dss.flatten.length ≤ cur.size := by
        have := Nat.mul_le_mul_right t.sz hroom
        rw [Nat.add_mul] at this; omega
      rw [← hsize] at hs
      have hrun := run_append_room_at (P := P) w T tx ty e i hT hi g off xs.length cap cur hg x ys.length dss.flatten hs hroom (by rw [hsize]; exact hfit)
      rw [hsize] at hrun
      refine ⟨_, _, hrun, ⟨css ++ dss, by simp [g1, hl], fun k h h' => ?_, .inr ⟨g, off, cap, _, by rw [List.length_append], setRow_heap w g cur _ e _ hg, by rw [List.length_append]; exact hroom, h4, ?_, ?_⟩⟩, .inl ⟨rfl, ⟨rfl, rfl, rfl, by simp [World.setRow], fun k _ hk => setRow_other w g k _ (fun e => hk (by simp [Value.ownBlock, e]))⟩, _, _, rfl, hroom⟩⟩
      · by_cases hk : k < css.length
        · rw [List.getElem_append_left hk, List.getElem_append_left (by omega)]
          exact g2 k hk (by omega)
        · have e1 : (css ++ dss)[k] = dss[k - css.length]'(by simp at h; omega) := List.getElem_append_right (by omega)
          have e2 : (xs ++ ys)[k] = ys[k - css.length]'(by simp at h'; omega) := by rw [List.getElem_append_right (by omega)]; congr 1; omega
          rw [e1, e2]
          exact hr _ _ _
      · simp only [List.size_toArray, List.length_append, List.length_take, List.length_drop, Array.length_toList]
        omega
      · have h1 : css.flatten.length = xs.length * t.sz := by rw [flatten_length css (OwnsO.lens g1 g2), g1]
        simp only [List.length_append, List.flatten_append]
        have e0 : (cur.toList.take (off + xs.length * t.sz)).drop off = css.flatten := by rw [List.drop_take, ← h6]; congr 1; omega
        have el : off ≤ (cur.toList.take (off + xs.length * t.sz)).length := by simp; omega
        rw [List.append_assoc, List.drop_append_of_le_length el, e0, Nat.add_mul, ← h1, ← h2, ← List.append_assoc, ← List.length_append, List.take_left]
    · have hold : (Builtin.firstCells t.sz xs.length (.slice (some ⟨g, off, none⟩) xs.length cap)).run P w.drew = .ok css.flatten.toArray w.drew := by
        refine run_firstCells_some (P := P) w.drew t.sz xs.length ⟨g, off, none⟩ xs.length cap css.flatten (by rw [flatten_length css (OwnsO.lens g1 g2), g1]) (fun j u hj => ?_)
        rw [Addr.add_lit]
        show w.cell? ⟨g, off + j, none⟩ = some u
        rw [cell_of_row w g (off + j) cur e (0, 0) hg]
        rw [← h6, List.getElem?_take] at hj
        split at hj
        · rw [List.getElem?_drop] at hj; simpa using hj
        · cases hj
      obtain ⟨v', w', hrun, ho, hb, hblk⟩ := run_append_new (P := P) w T tx ty hT hinf hzs (some ⟨g, off, none⟩) cap xs ys css hold g1 g2 x dss hs hl hr (by omega) h63 hbytes
      exact ⟨v', w', hrun, ho, .inr ⟨hb, hblk⟩⟩

theorem run_append_o1 {α : Type} {t : Ty α} (w : World) (T ty : TypeId) {e : TypeId} {z : Value} {bytes : Nat} (hT : P.underlying T = some (.slice e))
    (hinf : (P.info? e).map (fun i => (i.zero, i.size, i.bytes)) = some (some z, t.sz, bytes)) (hzs : z.cells.size = t.sz) (v : Value) (xs : List α) (hown : OwnsO t w e v xs)
    (nb c : Nat) (y : α) (cs : List Value) (hat : At (mem w) nb 0 cs) (hrv : t.rv noMem cs y) (h1 : ∀ u ∈ cs, u.oneCell' = true)
    (h63 : xs.length + 1 ≤ maxLen) (hbytes : (xs.length + 1) * bytes ≤ 140737488355328) :
    ∃ v' w', (Builtin.append_ #[T, T] ty #[v, .slice (some ⟨nb, 0, none⟩) 1 c]).run P w = .ok v' w' ∧ OwnsO t w' e v' (xs ++ [y]) ∧ AppAt w w' v xs.length 1 v' := by
  have hl := t.len _ _ _ hrv
  refine run_append_o (P := P) w T T ty hT hinf hzs v xs [y] hown _ [cs] (Src.ofSlice w hT ⟨nb, 0, none⟩ 1 c _ (by simp [hl]) (fun j u hj => ?_) (by simpa using h1)) rfl (fun k h h' => ?_) h63 hbytes
  · rw [Addr.add_lit]
    exact hat j u (by simpa using hj)
  · have : k = 0 := by simp at h; omega
    subst this; exact hrv

/-- APPEND OF ONE ELEMENT. -/
theorem wpList_append_o1 {α : Type} {ops : Array Oper} {rest : List Oper} {o : Oper} {a : Act} {Q : Exit → Act → World → Prop} {w : World} (hgd : o.guard = none) (s x : Operand) (T : TypeId)
    (ho : o.op = .call { callee := .builtin .append, args := #[s, x], argTypes := #[T, T] }) (t : Ty α) {e : TypeId} {z : Value} {bytes : Nat} (hT : P.underlying T = some (.slice e))
    (hinf : (P.info? e).map (fun i => (i.zero, i.size, i.bytes)) = some (some z, t.sz, bytes)) (hzs : z.cells.size = t.sz) (v : Value) (xs : List α) (hs : a.eval s = v) (hown : OwnsO t w e v xs)
    (nb c : Nat) (y : α) (hx : a.eval x = .slice (some ⟨nb, 0, none⟩) 1 c) (cs : List Value) (hat : At (mem w) nb 0 cs) (hrv : t.rv noMem cs y) (h1 : ∀ u ∈ cs, u.oneCell' = true)
    (h63 : xs.length + 1 ≤ maxLen) (hbytes : (xs.length + 1) * bytes ≤ 140737488355328)
    (h : ∀ v' w', OwnsO t w' e v' (xs ++ [y]) → AppAt w w' v xs.length 1 v' → wpList P ops Q rest (a.put o.dst v') w') : wpList P ops Q (o :: rest) a w := by
  refine wpList_plain hgd fun K hK => ?_
  obtain ⟨v', w', hr, h2, h3⟩ := run_append_o1 (P := P) w T o.type hT hinf hzs v xs hown nb c y cs hat hrv h1 h63 hbytes
  unfold Oper.wp execOp
  simp only [ho, resolve, invoke, builtin, Sem.run_bind, Sem.run_pure, Result.andThen_ok, List.map_toArray, List.map_cons, List.map_nil, hs, hx, hr]
  exact hK _ _ (h v' w' h2 h3)
/-- The same as one step of a region that draws its order. -/
theorem step_append_o1 {α : Type} {ops : Array Oper} {o : Oper} {a : Act} {w : World} {K : Act → World → Prop} {Q : Exit → Act → World → Prop} {E : Prop} (hgd : o.guard = none) (s x : Operand) (T : TypeId)
    (ho : o.op = .call { callee := .builtin .append, args := #[s, x], argTypes := #[T, T] }) (t : Ty α) {e : TypeId} {z : Value} {bytes : Nat} (hT : P.underlying T = some (.slice e))
    (hinf : (P.info? e).map (fun i => (i.zero, i.size, i.bytes)) = some (some z, t.sz, bytes)) (hzs : z.cells.size = t.sz) (v : Value) (xs : List α) (hs : a.eval s = v) (hown : OwnsO t w e v xs)
    (nb c : Nat) (y : α) (hx : a.eval x = .slice (some ⟨nb, 0, none⟩) 1 c) (cs : List Value) (hat : At (mem w) nb 0 cs) (hrv : t.rv noMem cs y) (h1 : ∀ u ∈ cs, u.oneCell' = true)
    (h63 : xs.length + 1 ≤ maxLen) (hbytes : (xs.length + 1) * bytes ≤ 140737488355328)
    (h : ∀ v' w', OwnsO t w' e v' (xs ++ [y]) → AppAt w w' v xs.length 1 v' → K (a.put o.dst v') w') :
    if Region.wanted o (yielded ops a.tmps) = true then Oper.wp P o a w K Q else E := by
  have hw : Region.wanted o (yielded ops a.tmps) = true := by simp [Region.wanted, hgd]
  rw [if_pos hw]
  obtain ⟨v', w', hr, h2, h3⟩ := run_append_o1 (P := P) w T o.type hT hinf hzs v xs hown nb c y cs hat hrv h1 h63 hbytes
  unfold Oper.wp execOp
  simp only [ho, resolve, invoke, builtin, Sem.run_bind, Sem.run_pure, Result.andThen_ok, List.map_toArray, List.map_cons, List.map_nil, hs, hx, hr]
  exact h v' w' h2 h3
end
end Go.Proofs.Ytfkphdmnelchmaa
/- Elements of wires: readings, validity, copies, equality of equal ones. -/
namespace Go.Proofs.Ytfkphdmnelchmaa
open Go.RowKit

structure El where
  kind : Int
  n : Int
  time : Int
  row : List Val
  cn : Int
  deriving Inhabited
def tEl : Ty El := ⟨5, fun m cs x => ∃ s, cs = [.int .i64 x.kind, .int .i64 x.n, .int .i64 x.time, s, .int .i64 x.cn] ∧ (inI64 x.kind ∧ inI64 x.n ∧ inI64 x.time ∧ inI64 x.cn) ∧ tRow.rv m [s] x.row,
  fun _ _ _ h => by obtain ⟨s, rfl, _⟩ := h; rfl, fun m m' cs x hm h => by obtain ⟨s, e, i, r⟩ := h; exact ⟨s, e, i, tRow.mono _ _ _ _ hm r⟩⟩
def tEls : Ty (List El) := tSlice tEl
theorem tEl_one {M : Mem} : ∀ m cs x, (tIn M tEl).rv m cs x → ∀ u ∈ cs, u.oneCell' = true := fun m cs x h u hu => by
  obtain ⟨s, rfl, _, hr⟩ := h
  obtain ⟨a, cap, rfl, _⟩ := slice_form hr
  simp at hu; rcases hu with rfl | rfl | rfl | rfl | rfl <;> rfl
theorem el_at {m : Mem} {b o : Nat} {x : El} (h : tEl.at m b o x) : ∃ a cap, m b o = some (.int .i64 x.kind) ∧ m b (o + 1) = some (.int .i64 x.n) ∧ m b (o + 2) = some (.int .i64 x.time) ∧ m b (o + 3) = some (.slice a x.row.length cap) ∧ m b (o + 4) = some (.int .i64 x.cn) ∧
    (inI64 x.kind ∧ inI64 x.n ∧ inI64 x.time ∧ inI64 x.cn) ∧ tRow.rv m [.slice a x.row.length cap] x.row ∧ cap ≤ maxLen := by
  obtain ⟨cs, hc, s, rfl, hi, hr⟩ := h
  obtain ⟨a, cap, rfl, _, h4, h5⟩ := slice_form hr
  exact ⟨a, cap, hc 0 _ rfl, hc 1 _ rfl, hc 2 _ rfl, hc 3 _ rfl, hc 4 _ rfl, hi, h5, h4⟩
/-- The cells of an element. -/
@[reducible] def elV (x : El) (s : Value) : Value := .agg #[.int .i64 x.kind, .int .i64 x.n, .int .i64 x.time, s, .int .i64 x.cn]

def validCh (t : Int) (r : List Val) (cn : Int) : Bool := decide (-1000000000000 ≤ t ∧ t ≤ 1000000000000) && validRow r && decide (cn ≠ 0 ∧ -1000000 ≤ cn ∧ cn ≤ 1000000)
def validEl (x : El) : Bool :=
  if x.kind = 1 then decide (x.n = 0) && validCh x.time x.row x.cn
  else if x.kind = 2 then decide (x.time = 0 ∧ x.row.length = 0 ∧ x.cn = 0) && decide (-1000000000000 ≤ x.n ∧ x.n ≤ 1000000000001)
  else if x.kind = 3 then decide (x.time = 0 ∧ x.row.length = 0 ∧ x.cn = 0) && decide (1 ≤ x.n ∧ x.n ≤ 1000000) else false
theorem validEl_row {x : El} (h : validEl x = true) : x.row.length ≤ 8 := by
  unfold validEl at h
  split at h
  · simp only [validCh, validRow, Bool.and_eq_true, decide_eq_true_eq] at h; exact h.2.1.2.1
  · split at h
    · simp only [Bool.and_eq_true, decide_eq_true_eq] at h; omega
    · split at h
      · simp only [Bool.and_eq_true, decide_eq_true_eq] at h; omega
      · cases h

set_option maxHeartbeats 400000 in
theorem bagWithin_any (n lo hi : Int) (w : World) :
    Calls Try.prog 77 #[.int .i64 n, .int .i64 lo, .int .i64 hi] w fun e w' => e = .returned (.bool (decide (lo ≤ n ∧ n ≤ hi))) ∧ w = w' := by
  by_cases h1 : lo ≤ n <;> by_cases h2 : n ≤ hi
  all_goals
    go_enter Try.func77, Try.ntmps77
    go_wp2
    go_ret
    exact ⟨by simp [*], rfl⟩
set_option maxHeartbeats 400000 in
theorem ref3Within_any (n lo hi : Int) (w : World) :
    Calls Try.prog 82 #[.int .i64 n, .int .i64 lo, .int .i64 hi] w fun e w' => e = .returned (.bool (decide (lo ≤ n ∧ n ≤ hi))) ∧ w = w' := by
  by_cases h1 : lo ≤ n <;> by_cases h2 : n ≤ hi
  all_goals
    go_enter Try.func82, Try.ntmps82
    go_wp2
    go_ret
    exact ⟨by simp [*], rfl⟩
set_option maxHeartbeats 400000 in
theorem ref1Within_any (n lo hi : Int) (w : World) :
    Calls Try.prog 100 #[.int .i64 n, .int .i64 lo, .int .i64 hi] w fun e w' => e = .returned (.bool (decide (lo ≤ n ∧ n ≤ hi))) ∧ w = w' := by
  by_cases h1 : lo ≤ n <;> by_cases h2 : n ≤ hi
  all_goals
    go_enter Try.func100, Try.ntmps100
    go_wp2
    go_ret
    exact ⟨by simp [*], rfl⟩
set_option maxHeartbeats 400000 in
theorem ref1Valid_any (n : Int) (w : World) :
    Calls Try.prog 80 #[.int .i64 n] w fun e w' => e = .returned (.bool (decide (-1000000000000 ≤ n ∧ n ≤ 1000000000000))) ∧ w = w' := by
  have H := Lib.hid (ref1Within_any n (-1000000000000) 1000000000000)
  generalize decide (-1000000000000 ≤ n ∧ n ≤ 1000000000000) = q at H
  go_enter Try.func80, Try.ntmps80
  go_wp2_with (go_at_call 100; refine (H.out _).mono ?_; rintro e w' ⟨rfl, rfl⟩)
  go_ret
  exact ⟨rfl, rfl⟩
set_option maxHeartbeats 400000 in
theorem bagNumber_any (n : Int) (w : World) :
    Calls Try.prog 79 #[.int .i64 n] w fun e w' => e = .returned (.bool (decide (n ≠ 0 ∧ -1000000 ≤ n ∧ n ≤ 1000000))) ∧ w = w' := by
  have H := Lib.hid (bagWithin_any n (-1000000) 1000000)
  by_cases h : n = 0
  · subst h
    go_enter Try.func79, Try.ntmps79
    go_wp2
    go_ret
    exact ⟨rfl, rfl⟩
  · have h1 : (n == 0) = false := by simpa using h
    have h2 : (n != 0) = true := by simpa using h
    have HE := Lib.hid (show decide (n ≠ 0 ∧ -1000000 ≤ n ∧ n ≤ 1000000) = decide (-1000000 ≤ n ∧ n ≤ 1000000) by simp [h])
    clear h
    generalize decide (-1000000 ≤ n ∧ n ≤ 1000000) = q at H HE
    go_enter Try.func79, Try.ntmps79
    go_wp2_with (go_at_call 77; refine (H.out _).mono ?_; rintro e w' ⟨rfl, rfl⟩)
    go_ret
    exact ⟨by rw [HE.out]; rfl, rfl⟩

set_option maxRecDepth 100000 in
set_option maxHeartbeats 1000000 in
theorem bagChange_any (t : Int) (r : List Val) (cn : Int) (s : Value) (w : World) (hv : tRow.rv (mem w) [s] r) :
    Calls Try.prog 60 #[.agg #[.int .i64 t, s, .int .i64 cn]] w fun e w' => e = .returned (.bool (validCh t r cn)) ∧ Below w.heap.size w w' := by
  have hb0 : ∀ o, Below w.heap.size w (w.alloc o) := fun o => (Below.refl _ _).alloc (Nat.le_refl _) o
  obtain ⟨a, cap, rfl, _, _, hv'⟩ := slice_form hv
  have HV := Lib.hid (fun o => rowValid_any r _ (w.alloc o) (tRow.mono _ _ _ _ (below_mem (hb0 o)) hv'))
  have HT := Lib.hid (bagWithin_any t (-1000000000000) 1000000000000)
  have HN := Lib.hid (bagNumber_any cn)
  have HE := Lib.hid (show validCh t r cn = (decide (-1000000000000 ≤ t ∧ t ≤ 1000000000000) && validRow r && decide (cn ≠ 0 ∧ -1000000 ≤ cn ∧ cn ≤ 1000000)) from rfl)
  have HB0 := Lib.hid hb0
  clear hv hv' hb0
  generalize validRow r = rr at HV HE
  generalize decide (-1000000000000 ≤ t ∧ t ≤ 1000000000000) = q at HT HE
  generalize decide (cn ≠ 0 ∧ -1000000 ≤ cn ∧ cn ≤ 1000000) = z at HN HE
  cases q
  · go_enter Try.func60, Try.ntmps60
    go_wp2_with (go_at_call 77; refine (HT.out _).mono ?_; rintro e w' ⟨rfl, rfl⟩)
    go_ret
    exact ⟨by rw [HE.out]; rfl, HB0.out _⟩
  · cases rr
    · go_enter Try.func60, Try.ntmps60
      go_wp2_with (first | (go_at_call 77; refine (HT.out _).mono ?_; rintro e w' ⟨rfl, rfl⟩) | (go_at_call 78; refine (HV.out _).mono ?_; rintro e w' ⟨rfl, hb⟩))
      go_ret
      exact ⟨by rw [HE.out]; rfl, (HB0.out _).trans (hb.mono (by simp))⟩
    · go_enter Try.func60, Try.ntmps60
      go_wp2_with fail
      refine (HT.out _).mono ?_
      rintro e w' ⟨rfl, rfl⟩
      go_wp2_with fail
      refine (HV.out _).mono ?_
      rintro e w1 ⟨rfl, hb⟩
      obtain ⟨hc, hf⟩ : (∀ o, w1.cell? ⟨w.heap.size, o, none⟩ = (w.alloc (.cells #[.int .i64 t, .slice a r.length cap, .int .i64 cn] 40)).cell? ⟨w.heap.size, o, none⟩) ∧ True := ⟨fun o => mem_of_block (hb.block _ (by simp)) o, trivial⟩
      have c2 : w1.cell? ⟨w.heap.size, 2, none⟩ = some (.int .i64 cn) := (hc 2).trans (cell_new 2 rfl)
      clear hc
      go_wp2_with (go_at_call 79; refine (HN.out _).mono ?_; rintro e w' ⟨rfl, rfl⟩)
      go_ret
      exact ⟨by rw [HE.out]; rfl, (HB0.out _).trans (hb.mono (by simp))⟩

set_option maxRecDepth 100000 in
set_option maxHeartbeats 1000000 in
theorem refChange_any (t : Int) (r : List Val) (cn : Int) (s : Value) (w : World) (hv : tRow.rv (mem w) [s] r) :
    Calls Try.prog 61 #[.agg #[.int .i64 t, s, .int .i64 cn]] w fun e w' => e = .returned (.bool (validCh t r cn)) ∧ Below w.heap.size w w' := by
  have hb0 : ∀ o, Below w.heap.size w (w.alloc o) := fun o => (Below.refl _ _).alloc (Nat.le_refl _) o
  obtain ⟨a, cap, rfl, _, _, hv'⟩ := slice_form hv
  have HV := Lib.hid (fun o => refValid_any r _ (w.alloc o) (tRow.mono _ _ _ _ (below_mem (hb0 o)) hv'))
  have HT := Lib.hid (ref1Valid_any t)
  have HN := Lib.hid (ref3Within_any cn (-1000000) 1000000)
  have HE := Lib.hid (show validCh t r cn = (decide (-1000000000000 ≤ t ∧ t ≤ 1000000000000) && validRow r && (decide (cn ≠ 0) && decide (-1000000 ≤ cn ∧ cn ≤ 1000000))) from by simp [validCh])
  have HB0 := Lib.hid hb0
  clear hv hv' hb0
  generalize validRow r = rr at HV HE
  generalize decide (-1000000000000 ≤ t ∧ t ≤ 1000000000000) = q at HT HE
  generalize decide (-1000000 ≤ cn ∧ cn ≤ 1000000) = z at HN HE
  cases q
  · go_enter Try.func61, Try.ntmps61
    go_wp2_with (go_at_call 80; refine (HT.out _).mono ?_; rintro e w' ⟨rfl, rfl⟩)
    go_ret
    exact ⟨by rw [HE.out]; rfl, HB0.out _⟩
  · cases rr
    · go_enter Try.func61, Try.ntmps61
      go_wp2_with (first | (go_at_call 80; refine (HT.out _).mono ?_; rintro e w' ⟨rfl, rfl⟩) | (go_at_call 81; refine (HV.out _).mono ?_; rintro e w' ⟨rfl, hb⟩))
      go_ret
      exact ⟨by rw [HE.out]; rfl, (HB0.out _).trans (hb.mono (by simp))⟩
    · by_cases h0 : cn = 0
      · subst h0
        go_enter Try.func61, Try.ntmps61
        go_wp2_with fail
        refine (HT.out _).mono ?_
        rintro e w' ⟨rfl, rfl⟩
        go_wp2_with fail
        refine (HV.out _).mono ?_
        rintro e w1 ⟨rfl, hb⟩
        have c2 : w1.cell? ⟨w.heap.size, 2, none⟩ = some (.int .i64 0) := (mem_of_block (hb.block w.heap.size (by simp)) 2).trans (cell_new 2 rfl)
        go_wp2
        go_ret
        exact ⟨by rw [HE.out]; rfl, (HB0.out _).trans (hb.mono (by simp))⟩
      · have h1 : (cn == 0) = false := by simpa using h0
        have h2 : (cn != 0) = true := by simpa using h0
        have HD := Lib.hid (show decide (cn ≠ 0) = true by simpa using h0)
        clear h0
        go_enter Try.func61, Try.ntmps61
        go_wp2_with fail
        refine (HT.out _).mono ?_
        rintro e w' ⟨rfl, rfl⟩
        go_wp2_with fail
        refine (HV.out _).mono ?_
        rintro e w1 ⟨rfl, hb⟩
        have c2 : w1.cell? ⟨w.heap.size, 2, none⟩ = some (.int .i64 cn) := (mem_of_block (hb.block w.heap.size (by simp)) 2).trans (cell_new 2 rfl)
        go_wp2_with (go_at_call 82; refine (HN.out _).mono ?_; rintro e w' ⟨rfl, rfl⟩)
        go_ret
        exact ⟨by rw [HE.out, HD.out]; rfl, (HB0.out _).trans (hb.mono (by simp))⟩

/-- The four ways of 'there is no change'. -/
theorem none_cases (t l c : Int) : (t == 0) = false ∨ t = 0 ∧ (l == 0) = false ∨ t = 0 ∧ l = 0 ∧ (c == 0) = false ∨ t = 0 ∧ l = 0 ∧ c = 0 := by
  by_cases h : t = 0 <;> by_cases h2 : l = 0 <;> by_cases h3 : c = 0 <;> simp [*]

theorem two_alloc {w w1 : World} {o o' : Obj} (hb : Below ((w.alloc o).alloc o').heap.size ((w.alloc o).alloc o') w1) : w1.heap[w.heap.size]? = some o ∧ w1.heap[w.heap.size + 1]? = some o' := by
  have h := heap_alloc_new (w.alloc o) o'
  rw [World.size_alloc] at h
  exact ⟨(hb.block _ (by simp; omega)).trans ((Below.heap_alloc _ _ _ (by simp)).trans (heap_alloc_new w o)), (hb.block _ (by simp)).trans h⟩
theorem set_block {w : World} {g o : Nat} {v : Value} {cur : Array Value} {t : TypeId} {f : Nat × Nat} (h : w.heap[g]? = some (.cells cur t f)) : (w.setCell ⟨g, o, none⟩ v).heap[g]? = some (.cells (cur.setIfInBounds o v) t f) := by
  simp [World.setCell, Array.getElem?_modify, h]
theorem set_block_other {w : World} {g g' o : Nat} {v : Value} (hne : g' ≠ g) : (w.setCell ⟨g, o, none⟩ v).heap[g']? = w.heap[g']? := Below.heap_setCell _ _ _ _ hne

/-- own returns an element that shares nothing. -/
def OwnEl (w : World) (x : El) (e : Ending) (w' : World) : Prop := ∃ a c, e = .returned (elV x (.slice a x.row.length c)) ∧ tRow.rv ((mem w').on (w.heap.size ≤ ·)) [.slice a x.row.length c] x.row ∧ Below w.heap.size w w'
set_option maxRecDepth 100000 in
set_option maxHeartbeats 2000000 in
theorem own_el (x : El) (s : Value) (w : World) (hv : tRow.rv (mem w) [s] x.row) (h8 : x.row.length ≤ 1000000) :
    Calls Try.prog 46 #[elV x s] w (OwnEl w x) := by
  obtain ⟨a, cap, rfl, _, _, hv⟩ := slice_form hv
  have hb2 : ∀ o o', Below w.heap.size w ((w.alloc o).alloc o') := fun o o' => ((Below.refl _ _).alloc (Nat.le_refl _) o).alloc (by simp) o'
  have HO := Lib.hid (fun (wq : World) (h : Below w.heap.size w wq) => cloneRow_any x.row _ wq (tRow.mono _ _ _ _ (below_mem h) hv) h8)
  have HB2 := Lib.hid hb2
  clear hv hb2
  go_enter Try.func46, Try.ntmps46
  go_wp2_with fail
  refine (HO.out _ (HB2.out _ _)).mono ?_
  rintro e w1 ⟨u, rfl, hown, hb⟩
  obtain ⟨a4, cap4, rfl, hm4⟩ := hown.len
  obtain ⟨q0, q1⟩ := two_alloc hb
  have HBB := Lib.hid ((HB2.out _ _).trans (hb.mono (by simp; omega)))
  have HSZ := Lib.hid (show w.heap.size + 2 ≤ w1.heap.size by have := hb.size; simp at this; omega)
  have HOW := Lib.hid (hown.rv (S := (w.heap.size + 2 ≤ ·)) (fun b hb => by simp at hb; omega) (fun _ _ _ h => tVal_flat _ _ _ _ h))
  clear hb hown
  have c0 : w1.cell? ⟨w.heap.size, 0, none⟩ = some (.int .i64 x.kind) := mem_cells q0 0
  have c1 : w1.cell? ⟨w.heap.size, 1, none⟩ = some (.int .i64 x.n) := mem_cells q0 1
  have c2 : w1.cell? ⟨w.heap.size, 2, none⟩ = some (.int .i64 x.time) := mem_cells q0 2
  have c3 : w1.cell? ⟨w.heap.size, 3, none⟩ = some (.slice a x.row.length cap) := mem_cells q0 3
  have c4 : w1.cell? ⟨w.heap.size, 4, none⟩ = some (.int .i64 x.cn) := mem_cells q0 4
  have f3 : w1.frozen? ⟨w.heap.size, 3, none⟩ = false := frozen_cells q0 3
  have d0 : w1.cell? ⟨w.heap.size + 1, 0, none⟩ = some (.int .i64 0) := mem_cells q1 0
  have d1 : w1.cell? ⟨w.heap.size + 1, 1, none⟩ = some (.int .i64 0) := mem_cells q1 1
  have d2 : w1.cell? ⟨w.heap.size + 1, 2, none⟩ = some (.int .i64 0) := mem_cells q1 2
  have d3 : w1.cell? ⟨w.heap.size + 1, 3, none⟩ = some (.slice none 0 0) := mem_cells q1 3
  have d4 : w1.cell? ⟨w.heap.size + 1, 4, none⟩ = some (.int .i64 0) := mem_cells q1 4
  have d : ∀ o, w1.frozen? ⟨w.heap.size + 1, o, none⟩ = false := frozen_cells q1
  have HQ1 := Lib.hid q1
  clear q0 q1
  go_wp2
  have r1 := set_block (o := 4) (v := .int .i64 x.cn) (set_block (o := 3) (v := .slice a4 x.row.length cap4) (set_block (o := 2) (v := .int .i64 x.time) (set_block (o := 1) (v := .int .i64 x.n) (set_block (o := 0) (v := .int .i64 x.kind) ((set_block_other (g := w.heap.size) (o := 3) (v := .slice a4 x.row.length cap4) (by omega)).trans HQ1.out)))))
  have hk : Keeps (fun k => k = w.heap.size ∨ k = w.heap.size + 1) w1 ((((((w1.setCell ⟨w.heap.size, 3, none⟩ (.slice a4 x.row.length cap4)).setCell ⟨w.heap.size + 1, 0, none⟩ (.int .i64 x.kind)).setCell ⟨w.heap.size + 1, 1, none⟩ (.int .i64 x.n)).setCell ⟨w.heap.size + 1, 2, none⟩ (.int .i64 x.time)).setCell ⟨w.heap.size + 1, 3, none⟩ (.slice a4 x.row.length cap4)).setCell ⟨w.heap.size + 1, 4, none⟩ (.int .i64 x.cn)) :=
    ((((((Keeps.refl (fun k => k = w.heap.size ∨ k = w.heap.size + 1) w1).setCell (p := ⟨_, _, none⟩) (fun _ => .inl rfl) _).setCell (p := ⟨_, _, none⟩) (fun _ => .inr rfl) _).setCell (p := ⟨_, _, none⟩) (fun _ => .inr rfl) _).setCell (p := ⟨_, _, none⟩) (fun _ => .inr rfl) _).setCell (p := ⟨_, _, none⟩) (fun _ => .inr rfl) _).setCell (p := ⟨_, _, none⟩) (fun _ => .inr rfl) _
  generalize ((((((w1.setCell ⟨w.heap.size, 3, none⟩ (.slice a4 x.row.length cap4)).setCell ⟨w.heap.size + 1, 0, none⟩ (.int .i64 x.kind)).setCell ⟨w.heap.size + 1, 1, none⟩ (.int .i64 x.n)).setCell ⟨w.heap.size + 1, 2, none⟩ (.int .i64 x.time)).setCell ⟨w.heap.size + 1, 3, none⟩ (.slice a4 x.row.length cap4)).setCell ⟨w.heap.size + 1, 4, none⟩ (.int .i64 x.cn)) = w2 at r1 hk ⊢
  have e0 : w2.cell? ⟨w.heap.size + 1, 0, none⟩ = some (.int .i64 x.kind) := mem_cells r1 0
  have e1 : w2.cell? ⟨w.heap.size + 1, 1, none⟩ = some (.int .i64 x.n) := mem_cells r1 1
  have e2 : w2.cell? ⟨w.heap.size + 1, 2, none⟩ = some (.int .i64 x.time) := mem_cells r1 2
  have e3 : w2.cell? ⟨w.heap.size + 1, 3, none⟩ = some (.slice a4 x.row.length cap4) := mem_cells r1 3
  have e4 : w2.cell? ⟨w.heap.size + 1, 4, none⟩ = some (.int .i64 x.cn) := mem_cells r1 4
  refine bodyPost_ret (v := elV x (.slice a4 x.row.length cap4)) (by simp [results, Try.results46, go_sem, e0, e1, e2, e3, e4]) rfl ⟨a4, cap4, rfl, ?_, ?_⟩
  · exact tRow.mono _ _ _ _ (Mem.le_trans (keeps_mem hk (S := fun b => w.heap.size + 2 ≤ b) (fun b hb => by omega)) (Mem.on_mono _ (fun b hb => by omega))) HOW.out
  · exact Keeps.belowStep HBB.out hk (fun k hk => by omega) (by have := HSZ.out; omega)

set_option maxRecDepth 100000 in
set_option maxHeartbeats 2000000 in
theorem same_el (x : El) (s u : Value) (w : World) (hv : tRow.rv (mem w) [s] x.row) (hu : tRow.rv (mem w) [u] x.row) :
    Calls Try.prog 47 #[elV x s, elV x u] w fun e w' => e = .returned (.bool true) ∧ Below w.heap.size w w' := by
  obtain ⟨a, cap, rfl, _, _, hv⟩ := slice_form hv
  obtain ⟨b, cap', rfl, _, _, hu⟩ := slice_form hu
  have hb2 : ∀ o o', Below w.heap.size w ((w.alloc o).alloc o') := fun o o' => ((Below.refl _ _).alloc (Nat.le_refl _) o).alloc (by simp) o'
  have hc0 : cmpRow x.row x.row = 0 := cmpRow_good.refl _
  have HC := Lib.hid (fun (wq : World) (h : Below w.heap.size w wq) => hc0 ▸ refCmp_any x.row x.row _ _ wq (tRow.mono _ _ _ _ (below_mem h) hv) (tRow.mono _ _ _ _ (below_mem h) hu))
  have HB2 := Lib.hid hb2
  clear hv hu hb2 hc0
  go_enter Try.func47, Try.ntmps47
  go_wp2_with fail
  refine (HC.out _ (HB2.out _ _)).mono ?_
  rintro e w1 ⟨rfl, hb⟩
  obtain ⟨q0, q1⟩ := two_alloc hb
  have c3 : w1.cell? ⟨w.heap.size, 3, none⟩ = some (.slice a x.row.length cap) := mem_cells q0 3
  have d3 : w1.cell? ⟨w.heap.size + 1, 3, none⟩ = some (.slice b x.row.length cap') := mem_cells q1 3
  have HBB := Lib.hid ((HB2.out _ _).trans (hb.mono (by simp; omega)))
  clear hb q0 q1
  go_wp2
  go_ret
  exact ⟨rfl, HBB.out⟩
end Go.Proofs.Ytfkphdmnelchmaa
/- Elements of wires: ValidElement of both texts; SameElements at equal lists; mark. -/
namespace Go.Proofs.Ytfkphdmnelchmaa
open Go.RowKit

theorem validEl_eq (k n t : Int) (row : List Val) (cn : Int) : validEl ⟨k, n, t, row, cn⟩ = if k = 1 then decide (n = 0) && validCh t row cn else if k = 2 then decide (t = 0 ∧ row.length = 0 ∧ cn = 0) && decide (-1000000000000 ≤ n ∧ n ≤ 1000000000001) else if k = 3 then decide (t = 0 ∧ row.length = 0 ∧ cn = 0) && decide (1 ≤ n ∧ n ≤ 1000000) else false := rfl
theorem none_casesL (t : Int) (l : Nat) (c : Int) : (t == 0) = false ∨ t = 0 ∧ ((l : Int) == 0) = false ∨ t = 0 ∧ l = 0 ∧ (c == 0) = false ∨ t = 0 ∧ l = 0 ∧ c = 0 := by
  by_cases h : t = 0 <;> by_cases h2 : l = 0 <;> by_cases h3 : c = 0 <;> simp [*]
theorem none_casesC (t : Int) (l : Nat) (c : Int) : (t == 0) = false ∨ t = 0 ∧ (c == 0) = false ∨ t = 0 ∧ c = 0 ∧ ((l : Int) == 0) = false ∨ t = 0 ∧ l = 0 ∧ c = 0 := by
  by_cases h : t = 0 <;> by_cases h2 : l = 0 <;> by_cases h3 : c = 0 <;> simp [*]

set_option maxRecDepth 100000 in
set_option maxHeartbeats 8000000 in
theorem validEl_any (x : El) (s : Value) (w : World) (hv : tRow.rv (mem w) [s] x.row) :
    Calls Try.prog 32 #[elV x s] w fun e w' => e = .returned (.bool (validEl x)) ∧ Below w.heap.size w w' := by
  obtain ⟨a, cap, rfl, _, _, hv⟩ := slice_form hv
  obtain ⟨k, n, t, row, cn⟩ := x
  simp only at hv ⊢
  have hb1 : ∀ o, Below w.heap.size w (w.alloc o) := fun o => (Below.refl _ _).alloc (Nat.le_refl _) o
  have HC := Lib.hid (fun (wq : World) (h : Below w.heap.size w wq) => bagChange_any t row cn _ wq (tRow.mono _ _ _ _ (below_mem h) hv))
  have HE := Lib.hid (validEl_eq k n t row cn)
  have HB1 := Lib.hid hb1
  have HB2 := Lib.hid (fun o o' => (hb1 o).alloc (by simp) o' : ∀ o o', Below w.heap.size w ((w.alloc o).alloc o'))
  have hcase := none_casesL t row.length cn
  clear hv hb1
  generalize validEl ⟨k, n, t, row, cn⟩ = ve at HE ⊢
  generalize validCh t row cn = vc at HC HE
  generalize row.length = L at hcase HC HE ⊢
  have hno : (t == 0) = false ∨ ((L : Int) == 0) = false ∨ (cn == 0) = false → Hid (¬ (t = 0 ∧ L = 0 ∧ cn = 0)) := fun h => Lib.hid (fun ⟨h1, h2, h3⟩ => by subst h1; subst h2; subst h3; simp at h)
  by_cases hk1 : k = 1
  · subst hk1
    by_cases hn : n = 0
    · subst hn
      have HR := Lib.hid (show ve = vc by rw [HE.out]; simp)
      clear HE hno
      rcases hcase with h1 | ⟨rfl, h1⟩ | ⟨rfl, rfl, h1⟩ | ⟨rfl, rfl, rfl⟩
      all_goals
        go_enter Try.func32, Try.ntmps32
        go_wp2_with fail
        refine (HC.out _ (HB2.out _ _)).mono ?_
        rintro e w1 ⟨rfl, hb⟩
        go_wp2
        go_ret
        exact ⟨by rw [HR.out]; rfl, (HB2.out _ _).trans (hb.mono (by simp; omega))⟩
    · have HR := Lib.hid (show ve = false by rw [HE.out]; simp [hn])
      have hn1 : (n == 0) = false := by simpa using hn
      clear HE hno hn
      rcases hcase with h1 | ⟨rfl, h1⟩ | ⟨rfl, rfl, h1⟩ | ⟨rfl, rfl, rfl⟩
      all_goals
        go_enter Try.func32, Try.ntmps32
        go_wp2
        go_ret
        exact ⟨by rw [HR.out]; rfl, HB2.out _ _⟩
  · by_cases hk23 : k = 2 ∨ k = 3
    · rcases hk23 with rfl | rfl
      · rcases hcase with h1 | ⟨rfl, h1⟩ | ⟨rfl, rfl, h1⟩ | ⟨rfl, rfl, rfl⟩
        · have HR := Lib.hid (show ve = false by rw [HE.out]; simp [(hno (.inl h1)).out])
          clear HE hno hk1
          go_enter Try.func32, Try.ntmps32
          go_wp2
          go_ret
          exact ⟨by rw [HR.out]; rfl, HB2.out _ _⟩
        · have HR := Lib.hid (show ve = false by rw [HE.out]; have := (hno (.inr (.inl h1))).out; simp at this; simp; omega)
          clear HE hno hk1
          go_enter Try.func32, Try.ntmps32
          go_wp2
          go_ret
          exact ⟨by rw [HR.out]; rfl, HB2.out _ _⟩
        · have HR := Lib.hid (show ve = false by rw [HE.out]; have := (hno (.inr (.inr h1))).out; simp at this; simp; omega)
          clear HE hno hk1
          go_enter Try.func32, Try.ntmps32
          go_wp2
          go_ret
          exact ⟨by rw [HR.out]; rfl, HB2.out _ _⟩
        · clear hno hk1
          simp only [and_self, decide_true, Bool.true_and] at HE
          by_cases hl : (-1000000000000) ≤ n
          · by_cases hr : n ≤ 1000000000001
            · have HR := Lib.hid (show ve = true by rw [HE.out]; simp; omega)
              clear HE
              go_enter Try.func32, Try.ntmps32
              go_wp2
              go_ret
              exact ⟨by rw [HR.out]; rfl, HB2.out _ _⟩
            · have HR := Lib.hid (show ve = false by rw [HE.out]; simp; omega)
              clear HE
              go_enter Try.func32, Try.ntmps32
              go_wp2
              go_ret
              exact ⟨by rw [HR.out]; rfl, HB2.out _ _⟩
          · have HR := Lib.hid (show ve = false by rw [HE.out]; simp; omega)
            clear HE
            go_enter Try.func32, Try.ntmps32
            go_wp2
            go_ret
            exact ⟨by rw [HR.out]; rfl, HB2.out _ _⟩
      · rcases hcase with h1 | ⟨rfl, h1⟩ | ⟨rfl, rfl, h1⟩ | ⟨rfl, rfl, rfl⟩
        · have HR := Lib.hid (show ve = false by rw [HE.out]; simp [(hno (.inl h1)).out])
          clear HE hno hk1
          go_enter Try.func32, Try.ntmps32
          go_wp2
          go_ret
          exact ⟨by rw [HR.out]; rfl, HB2.out _ _⟩
        · have HR := Lib.hid (show ve = false by rw [HE.out]; have := (hno (.inr (.inl h1))).out; simp at this; simp; omega)
          clear HE hno hk1
          go_enter Try.func32, Try.ntmps32
          go_wp2
          go_ret
          exact ⟨by rw [HR.out]; rfl, HB2.out _ _⟩
        · have HR := Lib.hid (show ve = false by rw [HE.out]; have := (hno (.inr (.inr h1))).out; simp at this; simp; omega)
          clear HE hno hk1
          go_enter Try.func32, Try.ntmps32
          go_wp2
          go_ret
          exact ⟨by rw [HR.out]; rfl, HB2.out _ _⟩
        · clear hno hk1
          simp only [and_self, decide_true, Bool.true_and] at HE
          by_cases hl : 1 ≤ n
          · by_cases hr : n ≤ 1000000
            · have HR := Lib.hid (show ve = true by rw [HE.out]; simp; omega)
              clear HE
              go_enter Try.func32, Try.ntmps32
              go_wp2
              go_ret
              exact ⟨by rw [HR.out]; rfl, HB2.out _ _⟩
            · have HR := Lib.hid (show ve = false by rw [HE.out]; simp; omega)
              clear HE
              go_enter Try.func32, Try.ntmps32
              go_wp2
              go_ret
              exact ⟨by rw [HR.out]; rfl, HB2.out _ _⟩
          · have HR := Lib.hid (show ve = false by rw [HE.out]; simp; omega)
            clear HE
            go_enter Try.func32, Try.ntmps32
            go_wp2
            go_ret
            exact ⟨by rw [HR.out]; rfl, HB2.out _ _⟩
    · have e1 : (k == 1) = false := by simpa using hk1
      have e2 : (k == 2) = false := by simp; omega
      have e3 : (k == 3) = false := by simp; omega
      have HR := Lib.hid (show ve = false by rw [HE.out, if_neg hk1, if_neg (by omega), if_neg (by omega)])
      clear HE hno hk1 hk23
      rcases hcase with h1 | ⟨rfl, h1⟩ | ⟨rfl, rfl, h1⟩ | ⟨rfl, rfl, rfl⟩
      all_goals
        go_enter Try.func32, Try.ntmps32
        go_wp2
        go_ret
        exact ⟨by rw [HR.out]; rfl, HB2.out _ _⟩

set_option maxRecDepth 100000 in
set_option maxHeartbeats 8000000 in
theorem refValidEl_any (x : El) (s : Value) (w : World) (hv : tRow.rv (mem w) [s] x.row) :
    Calls Try.prog 33 #[elV x s] w fun e w' => e = .returned (.bool (validEl x)) ∧ Below w.heap.size w w' := by
  obtain ⟨a, cap, rfl, _, _, hv⟩ := slice_form hv
  obtain ⟨k, n, t, row, cn⟩ := x
  simp only at hv ⊢
  have hb1 : ∀ o, Below w.heap.size w (w.alloc o) := fun o => (Below.refl _ _).alloc (Nat.le_refl _) o
  have HC := Lib.hid (fun (wq : World) (h : Below w.heap.size w wq) => refChange_any t row cn _ wq (tRow.mono _ _ _ _ (below_mem h) hv))
  have HE := Lib.hid (validEl_eq k n t row cn)
  have HB1 := Lib.hid hb1
  have HB2 := Lib.hid (fun o o' => (hb1 o).alloc (by simp) o' : ∀ o o', Below w.heap.size w ((w.alloc o).alloc o'))
  have hcase := none_casesC t row.length cn
  clear hv hb1
  generalize validEl ⟨k, n, t, row, cn⟩ = ve at HE ⊢
  generalize validCh t row cn = vc at HC HE
  generalize row.length = L at hcase HC HE ⊢
  have hno : (t == 0) = false ∨ ((L : Int) == 0) = false ∨ (cn == 0) = false → Hid (¬ (t = 0 ∧ L = 0 ∧ cn = 0)) := fun h => Lib.hid (fun ⟨h1, h2, h3⟩ => by subst h1; subst h2; subst h3; simp at h)
  by_cases hk1 : k = 1
  · subst hk1
    by_cases hn : n = 0
    · subst hn
      have HR := Lib.hid (show ve = vc by rw [HE.out]; simp)
      clear HE hno
      rcases hcase with h1 | ⟨rfl, h1⟩ | ⟨rfl, rfl, h1⟩ | ⟨rfl, rfl, rfl⟩
      all_goals
        go_enter Try.func33, Try.ntmps33
        go_wp2_with fail
        refine (HC.out _ (HB1.out _)).mono ?_
        rintro e w1 ⟨rfl, hb⟩
        go_wp2
        go_ret
        exact ⟨by rw [HR.out]; rfl, (HB1.out _).trans (hb.mono (by simp))⟩
    · have HR := Lib.hid (show ve = false by rw [HE.out]; simp [hn])
      have hn1 : (n == 0) = false := by simpa using hn
      clear HE hno hn
      rcases hcase with h1 | ⟨rfl, h1⟩ | ⟨rfl, rfl, h1⟩ | ⟨rfl, rfl, rfl⟩
      all_goals
        go_enter Try.func33, Try.ntmps33
        go_wp2
        go_ret
        exact ⟨by rw [HR.out]; rfl, HB1.out _⟩
  · by_cases hk23 : k = 2 ∨ k = 3
    · rcases hk23 with rfl | rfl
      · rcases hcase with h1 | ⟨rfl, h1⟩ | ⟨rfl, rfl, h1⟩ | ⟨rfl, rfl, rfl⟩
        · have HR := Lib.hid (show ve = false by rw [HE.out]; simp [(hno (.inl h1)).out])
          clear HE hno hk1
          go_enter Try.func33, Try.ntmps33
          go_wp2
          go_ret
          exact ⟨by rw [HR.out]; rfl, HB1.out _⟩
        · have HR := Lib.hid (show ve = false by rw [HE.out]; have := (hno (.inr (.inr h1))).out; simp at this; simp; omega)
          clear HE hno hk1
          go_enter Try.func33, Try.ntmps33
          go_wp2
          go_ret
          exact ⟨by rw [HR.out]; rfl, HB1.out _⟩
        · have HR := Lib.hid (show ve = false by rw [HE.out]; have := (hno (.inr (.inl h1))).out; simp at this; simp; omega)
          clear HE hno hk1
          go_enter Try.func33, Try.ntmps33
          go_wp2
          go_ret
          exact ⟨by rw [HR.out]; rfl, HB1.out _⟩
        · clear hno hk1
          simp only [and_self, decide_true, Bool.true_and] at HE
          by_cases hl : (-1000000000000) ≤ n
          · by_cases hr : n ≤ 1000000000001
            · have HR := Lib.hid (show ve = true by rw [HE.out]; simp; omega)
              clear HE
              go_enter Try.func33, Try.ntmps33
              go_wp2
              go_ret
              exact ⟨by rw [HR.out]; rfl, HB1.out _⟩
            · have HR := Lib.hid (show ve = false by rw [HE.out]; simp; omega)
              clear HE
              go_enter Try.func33, Try.ntmps33
              go_wp2
              go_ret
              exact ⟨by rw [HR.out]; rfl, HB1.out _⟩
          · have HR := Lib.hid (show ve = false by rw [HE.out]; simp; omega)
            clear HE
            go_enter Try.func33, Try.ntmps33
            go_wp2
            go_ret
            exact ⟨by rw [HR.out]; rfl, HB1.out _⟩
      · rcases hcase with h1 | ⟨rfl, h1⟩ | ⟨rfl, rfl, h1⟩ | ⟨rfl, rfl, rfl⟩
        · have HR := Lib.hid (show ve = false by rw [HE.out]; simp [(hno (.inl h1)).out])
          clear HE hno hk1
          go_enter Try.func33, Try.ntmps33
          go_wp2
          go_ret
          exact ⟨by rw [HR.out]; rfl, HB1.out _⟩
        · have HR := Lib.hid (show ve = false by rw [HE.out]; have := (hno (.inr (.inr h1))).out; simp at this; simp; omega)
          clear HE hno hk1
          go_enter Try.func33, Try.ntmps33
          go_wp2
          go_ret
          exact ⟨by rw [HR.out]; rfl, HB1.out _⟩
        · have HR := Lib.hid (show ve = false by rw [HE.out]; have := (hno (.inr (.inl h1))).out; simp at this; simp; omega)
          clear HE hno hk1
          go_enter Try.func33, Try.ntmps33
          go_wp2
          go_ret
          exact ⟨by rw [HR.out]; rfl, HB1.out _⟩
        · clear hno hk1
          simp only [and_self, decide_true, Bool.true_and] at HE
          by_cases hl : 1 ≤ n
          · by_cases hr : n ≤ 1000000
            · have HR := Lib.hid (show ve = true by rw [HE.out]; simp; omega)
              clear HE
              go_enter Try.func33, Try.ntmps33
              go_wp2
              go_ret
              exact ⟨by rw [HR.out]; rfl, HB1.out _⟩
            · have HR := Lib.hid (show ve = false by rw [HE.out]; simp; omega)
              clear HE
              go_enter Try.func33, Try.ntmps33
              go_wp2
              go_ret
              exact ⟨by rw [HR.out]; rfl, HB1.out _⟩
          · have HR := Lib.hid (show ve = false by rw [HE.out]; simp; omega)
            clear HE
            go_enter Try.func33, Try.ntmps33
            go_wp2
            go_ret
            exact ⟨by rw [HR.out]; rfl, HB1.out _⟩
    · have e1 : (k == 1) = false := by simpa using hk1
      have e2 : (k == 2) = false := by simp; omega
      have e3 : (k == 3) = false := by simp; omega
      have HR := Lib.hid (show ve = false by rw [HE.out, if_neg hk1, if_neg (by omega), if_neg (by omega)])
      clear HE hno hk1 hk23
      rcases hcase with h1 | ⟨rfl, h1⟩ | ⟨rfl, rfl, h1⟩ | ⟨rfl, rfl, rfl⟩
      all_goals
        go_enter Try.func33, Try.ntmps33
        go_wp2
        go_ret
        exact ⟨by rw [HR.out]; rfl, HB1.out _⟩

set_option maxRecDepth 100000 in
set_option maxHeartbeats 2000000 in
theorem same_els (xs : List El) (v u : Value) (w : World) (hv : tEls.rv (mem w) [v] xs) (hu : tEls.rv (mem w) [u] xs) :
    Calls Try.prog 22 #[v, u] w fun e w' => e = .returned (.bool true) ∧ Below w.heap.size w w' := by
  obtain ⟨a, cap, rfl, hl, hm, hv⟩ := slice_form hv
  obtain ⟨a', cap', rfl, hl', hm', hu⟩ := slice_form hu
  have hcap : cap ≤ 9223372036854775807 := by unfold maxLen at hm; exact hm
  have hcap' : cap' ≤ 9223372036854775807 := by unfold maxLen at hm'; exact hm'
  have HV := Lib.hid hv
  have HU := Lib.hid hu
  clear hm hm' hv hu
  go_enter Try.func22, Try.ntmps22
  go_wp2
  go_loopw [5] (fun i wr => ∃ k : Nat, k ≤ xs.length ∧ i = .int .i64 k ∧ Below w.heap.size w wr) (fun i _ => xs.length - (intOf i).toNat)
  case atStart => exact ⟨0, by omega, rfl, Below.refl _ _⟩
  case round =>
    obtain ⟨k, hk, rfl, hB⟩ := hrel
    by_cases hlt : k < xs.length
    · obtain ⟨b, o, rfl, hat⟩ := slice_at HV.out hlt
      obtain ⟨b', o', rfl, hat'⟩ := slice_at HU.out hlt
      obtain ⟨a2, cap2, c0, c1, c2, c3, c4, i0, hr, hm2⟩ := el_at (tEl.at_mono (below_mem hB) hat)
      obtain ⟨a3, cap3, d0, d1, d2, d3, d4, j0, hr', hm3⟩ := el_at (tEl.at_mono (below_mem hB) hat')
      have c0 : wr.cell? ⟨b, o + k * 5, none⟩ = some (.int .i64 xs[k].kind) := c0
      have c1 : wr.cell? ⟨b, o + k * 5 + 1, none⟩ = some (.int .i64 xs[k].n) := c1
      have c2 : wr.cell? ⟨b, o + k * 5 + 2, none⟩ = some (.int .i64 xs[k].time) := c2
      have c3 : wr.cell? ⟨b, o + k * 5 + 3, none⟩ = some (.slice a2 xs[k].row.length cap2) := c3
      have c4 : wr.cell? ⟨b, o + k * 5 + 4, none⟩ = some (.int .i64 xs[k].cn) := c4
      have d0 : wr.cell? ⟨b', o' + k * 5, none⟩ = some (.int .i64 xs[k].kind) := d0
      have d1 : wr.cell? ⟨b', o' + k * 5 + 1, none⟩ = some (.int .i64 xs[k].n) := d1
      have d2 : wr.cell? ⟨b', o' + k * 5 + 2, none⟩ = some (.int .i64 xs[k].time) := d2
      have d3 : wr.cell? ⟨b', o' + k * 5 + 3, none⟩ = some (.slice a3 xs[k].row.length cap3) := d3
      have d4 : wr.cell? ⟨b', o' + k * 5 + 4, none⟩ = some (.int .i64 xs[k].cn) := d4
      have HS := Lib.hid (same_el xs[k] _ _ wr.drew hr hr')
      clear hat hat' hr hr' hm2 hm3 i0 j0
      generalize xs[k] = x at *
      go_wp2_with fail
      go_region_held3 (fun w' => w'.cell? ⟨b, o + k * 5, none⟩ = some (.int .i64 x.kind) ∧ w'.cell? ⟨b, o + k * 5 + 1, none⟩ = some (.int .i64 x.n) ∧ w'.cell? ⟨b, o + k * 5 + 2, none⟩ = some (.int .i64 x.time) ∧ w'.cell? ⟨b, o + k * 5 + 3, none⟩ = some (.slice a2 x.row.length cap2) ∧ w'.cell? ⟨b, o + k * 5 + 4, none⟩ = some (.int .i64 x.cn) ∧
          w'.cell? ⟨b', o' + k * 5, none⟩ = some (.int .i64 x.kind) ∧ w'.cell? ⟨b', o' + k * 5 + 1, none⟩ = some (.int .i64 x.n) ∧ w'.cell? ⟨b', o' + k * 5 + 2, none⟩ = some (.int .i64 x.time) ∧ w'.cell? ⟨b', o' + k * 5 + 3, none⟩ = some (.slice a3 x.row.length cap3) ∧ w'.cell? ⟨b', o' + k * 5 + 4, none⟩ = some (.int .i64 x.cn))
        (first | go_keep | exact ⟨below_mem (by assumption) _ _ _ c0, below_mem (by assumption) _ _ _ c1, below_mem (by assumption) _ _ _ c2, below_mem (by assumption) _ _ _ c3, below_mem (by assumption) _ _ _ c4, below_mem (by assumption) _ _ _ d0, below_mem (by assumption) _ _ _ d1, below_mem (by assumption) _ _ _ d2, below_mem (by assumption) _ _ _ d3, below_mem (by assumption) _ _ _ d4⟩)
        ((first
          | (go_at_call 47; refine HS.out.mono ?_; rintro e w2 ⟨rfl, hb1⟩; have hb2 : Below wr.heap.size wr w2 := (Below.refl _ _).drew.trans hb1)))
      all_goals
        go_wp2
        go_roundw
        case rel => exact ⟨k + 1, by omega, by go_num, pure_trans hB (by assumption)⟩
        case measure => simp [intOf]; omega
    · obtain rfl : k = xs.length := by omega
      go_wp2
      go_ret
      exact ⟨rfl, hB⟩

set_option maxHeartbeats 400000 in
theorem mark_any (n : Int) (w : World) :
    Calls Try.prog 42 #[.int .i64 n] w fun e w' => e = .returned (elV ⟨2, n, 0, [], 0⟩ (.slice none 0 0)) ∧ Below w.heap.size w w' := by
  go_enter Try.func42, Try.ntmps42
  go_wp2
  exact bodyPost_ret (v := elV ⟨2, n, 0, [], 0⟩ (.slice none 0 0)) (by simp [results, Try.results42, go_sem]) rfl ⟨rfl, (Below.refl _ _).alloc (Nat.le_refl _) _⟩
end Go.Proofs.Ytfkphdmnelchmaa
/- Maps of the call's own, told by what stands at each key, for elements of any kind. No program in sight. -/
namespace Go.Proofs.Ytfkphdmnelchmaa
open Go.RowKit Go.Maps

def rawE : Value → Option (DataW Value × List MemPlace) := fun v => some (.held v, [])
/-- How one value (an element of a map) reads. -/
structure VR (α : Type) where
  rel : Mem → Value → α → Prop
  mono : ∀ m m' v x, m.le m' → rel m v x → rel m' v x
def vBool : VR Bool := ⟨fun _ v x => v = .bool x, fun _ _ _ _ _ h => h⟩
def vInt : VR Int := ⟨fun _ v x => v = .int .i64 x ∧ inI64 x, fun _ _ _ _ _ h => h⟩
def Ty.one {α : Type} (t : Ty α) : VR α := ⟨fun m v x => t.rv m [v] x, fun _ _ _ _ h k => t.mono _ _ _ _ h k⟩

section
variable {κ α : Type} {P : Program} {k : TypeId} {lk : κ → Lit} {vr : VR α}
/-- What the entries are, key by key. -/
def MapSays (lk : κ → Lit) (vr : VR α) (m : Mem) (D : DataW Value) (f : κ → Option α) : Prop :=
  (∀ x, f x = none → Maps.has D (lk x) = false) ∧ (∀ x a, f x = some a → Maps.has D (lk x) = true ∧ ∃ v, (∀ z, D.atKey (lk x) z = .held v) ∧ vr.rel m v a) ∧ (∀ l, Maps.has D l = true → ∃ x, l = lk x)
theorem MapSays.mono {m m' : Mem} {D : DataW Value} {f : κ → Option α} (h : MapSays lk vr m D f) (hm : m.le m') : MapSays lk vr m' D f :=
  ⟨h.1, fun x a e => let ⟨g, v, g1, g2⟩ := h.2.1 x a e; ⟨g, v, g1, vr.mono _ _ _ _ hm g2⟩, h.2.2⟩
def MapOf (P : Program) (k : TypeId) (lk : κ → Lit) (vr : VR α) (w : World) (b n : Nat) (f : κ → Option α) : Prop :=
  ∃ D, w.ownsMap P k rawE b n D ∧ MapSays lk vr (mem w) D f

theorem mapBlock_mem {w : World} {b n : Nat} {D : DataW Value} (h : w.ownsMap P k rawE b n D) (o : Nat) : mem w b o = none := by
  obtain ⟨es, clock, hb, _⟩ := h
  simp [mem, World.cell?, hb]
theorem grown_mem {w w' : World} {b n : Nat} {D : DataW Value} (h : w.ownsMap P k rawE b n D) (hg : w.grownBy w' (some b)) : (mem w).le (mem w') := fun i o v e => by
  by_cases hi : i = b
  · subst hi; rw [mapBlock_mem h] at e; cases e
  · exact (mem_of_block (hg.block i (mem_lt e) (fun e => hi (by injection e))) o).trans e

theorem MapOf.made (w : World) : MapOf P k lk vr (w.alloc (.map #[] 0)) w.heap.size 0 (fun _ => (none : Option α)) :=
  ⟨.map [], World.ownsMap_made w P k rawE, fun _ _ => rfl, fun _ _ h => (by cases h), fun l h => (by simp [Maps.has] at h)⟩
theorem MapOf.lt {w : World} {b n : Nat} {f : κ → Option α} (h : MapOf P k lk vr w b n f) : b < w.heap.size := let ⟨_, h, _⟩ := h; h.lt
theorem MapOf.keeps {w w' : World} {b n : Nat} {f : κ → Option α} (h : MapOf P k lk vr w b n f) {F : Nat → Prop} (hk : Keeps F w w') (hF : ¬ F b) (hm : (mem w).le (mem w')) : MapOf P k lk vr w' b n f := by
  obtain ⟨D, ⟨es, clock, hb, r⟩, g⟩ := h
  exact ⟨D, ⟨es, clock, by rw [hk.block b (Array.getElem?_eq_some_iff.1 hb).1 hF]; exact hb, r⟩, g.mono hm⟩
theorem MapOf.below {w w' : World} {b n : Nat} {f : κ → Option α} (h : MapOf P k lk vr w b n f) (hb : Below w.heap.size w w') : MapOf P k lk vr w' b n f :=
  h.keeps (below_keeps hb) (by have := h.lt; omega) (below_mem hb)
theorem MapOf.mono {w : World} {b n n' : Nat} {f : κ → Option α} (h : MapOf P k lk vr w b n f) (hn : n ≤ n') : MapOf P k lk vr w b n' f :=
  let ⟨D, h1, h2⟩ := h; ⟨D, h1.mono hn, h2⟩
theorem MapOf.alloc {w : World} {b n : Nat} {f : κ → Option α} (h : MapOf P k lk vr w b n f) (o : Obj) : MapOf P k lk vr (w.alloc o) b n f :=
  h.below ((Below.refl _ _).alloc (Nat.le_refl _) o)
theorem MapOf.drew {w : World} {b n : Nat} {f : κ → Option α} (h : MapOf P k lk vr w b n f) : MapOf P k lk vr w.drew b n f :=
  h.below (Below.refl _ _).drew

open Classical in
noncomputable def putAt (f : κ → Option α) (x : κ) (a : α) : κ → Option α := fun y => if y = x then some a else f y
theorem putAt_same (f : κ → Option α) (x : κ) (a : α) : putAt f x a x = some a := by simp [putAt]
theorem putAt_other (f : κ → Option α) {x y : κ} (a : α) (h : y ≠ x) : putAt f x a y = f y := by simp [putAt, h]

theorem MapSays.put {m m' : Mem} {D : DataW Value} {f : κ → Option α} (h : MapSays lk vr m D f) (hm : m.le m') (hD : IsMap D) {x : κ} {a : α} {v : Value} (hinj : ∀ x y, lk x = lk y → x = y) (hk : WideAt.IsKeyLit (lk x)) (hv : vr.rel m' v a) :
    MapSays lk vr m' (D.put (lk x) (.held v)) (putAt f x a) := by
  refine ⟨fun y hy => ?_, fun y c hy => ?_, fun l hl => ?_⟩
  · by_cases e : y = x
    · subst e; rw [putAt_same] at hy; cases hy
    · rw [putAt_other _ _ e] at hy
      rw [has_put_other (fun e' => e (hinj _ _ e'))]
      exact h.1 y hy
  · by_cases e : y = x
    · subst e
      rw [putAt_same] at hy
      cases hy
      exact ⟨has_put_same hD hk _, v, fun z => atKey_put_same hD hk _ z, hv⟩
    · rw [putAt_other _ _ e] at hy
      obtain ⟨g, u, g1, g2⟩ := h.2.1 y c hy
      have hne : lk y ≠ lk x := fun e' => e (hinj _ _ e')
      exact ⟨by rw [has_put_other hne]; exact g, u, fun z => by rw [atKey_put_other hne]; exact g1 z, vr.mono _ _ _ _ hm g2⟩
  · by_cases e : l = lk x
    · exact ⟨x, e⟩
    · rw [has_put_other e] at hl
      exact h.2.2 l hl
end

/-- An operation that is carried out (unguarded, or its guard says yes). -/
theorem wpList_want {P : Program} {ops : Array Oper} {rest : List Oper} {o : Oper} {a : Act} {Q : Exit → Act → World → Prop} {w : World} (hw : Region.wanted o (yielded ops a.tmps) = true)
    (h : ∀ K : Act → World → Prop, (∀ a w, wpList P ops Q rest a w → K a w) → o.wp P a w K Q) : wpList P ops Q (o :: rest) a w :=
  wpList_step fun K hK => by rw [if_pos hw]; exact h K hK

section
variable {κ α : Type} {P : Program} {lk : κ → Lit} {vr : VR α} (w : World) {ops : Array Oper} {rest : List Oper} {o : Oper} {a : Act} {Q : Exit → Act → World → Prop}

/-- 'm[k]'. -/
theorem wpList_lookup_map (hg : Region.wanted o (yielded ops a.tmps) = true) (m x : Operand) (t : TypeId) (hop : o.op = Op.lookup t m x false)
    (k e : TypeId) (K : Keyed P k) (ht : P.underlying t = some (.map k e)) {z : Value} (hz : (zeroValue e).run P w = .ok z w) (b n : Nat) (f : κ → Option α)
    (hm : a.eval m = .map (some b)) (hown : MapOf P k lk vr w b n f) (key : Value) (y : κ) (hx : a.eval x = key) (hkey : keyOf P k key = some (lk y))
    (hK : ∀ v, (f y = none → v = z) → (∀ c, f y = some c → vr.rel (mem w) v c) → wpList P ops Q rest (a.put o.dst v) w) :
    wpList P ops Q (o :: rest) a w := by
  refine wpList_want hg fun K' hK' => ?_
  obtain ⟨D, hown, h1, h2, _⟩ := hown
  obtain ⟨v, ps, hrun, hv⟩ := hown.lookup K ht hz (zd := .held z) (zp := []) rfl hkey
  unfold Oper.wp
  simp [execOp, hop, hm, hx, hrun, Result.andThen]
  simp only [rawE, Option.some.injEq, Prod.mk.injEq] at hv
  refine hK' _ _ (hK v (fun e => ?_) (fun c e => ?_))
  · have := hv.1
    rw [atKey_of_not_has (h1 y e)] at this
    injection this
  · obtain ⟨_, u, g1, g2⟩ := h2 y c e
    have := hv.1
    rw [g1] at this
    injection this with this
    rw [this]; exact g2

theorem wpList_lookup_bool (hg : Region.wanted o (yielded ops a.tmps) = true) (m x : Operand) (t : TypeId) (hop : o.op = Op.lookup t m x false)
    (k e : TypeId) (K : Keyed P k) (ht : P.underlying t = some (.map k e)) (hz : (zeroValue e).run P w = .ok (.bool false) w) (b n : Nat) (f : κ → Option Bool)
    (hm : a.eval m = .map (some b)) (hown : MapOf P k lk vBool w b n f) (key : Value) (y : κ) (hx : a.eval x = key) (hkey : keyOf P k key = some (lk y)) (q : Bool) (hq : (f y).getD false = q)
    (hK : wpList P ops Q rest (a.put o.dst (.bool q)) w) :
    wpList P ops Q (o :: rest) a w := by
  subst hq
  exact wpList_lookup_map w hg m x t hop k e K ht hz b n f hm hown key y hx hkey (fun v g1 g2 => by
    cases hf : f y with
    | none => rw [g1 hf]; rw [hf] at hK; exact hK
    | some c => rw [show v = .bool c from g2 c hf]; rw [hf] at hK; exact hK)
theorem wpList_lookup_int (hg : Region.wanted o (yielded ops a.tmps) = true) (m x : Operand) (t : TypeId) (hop : o.op = Op.lookup t m x false)
    (k e : TypeId) (K : Keyed P k) (ht : P.underlying t = some (.map k e)) (hz : (zeroValue e).run P w = .ok (.int .i64 0) w) (b n : Nat) (f : κ → Option Int)
    (hm : a.eval m = .map (some b)) (hown : MapOf P k lk vInt w b n f) (key : Value) (y : κ) (hx : a.eval x = key) (hkey : keyOf P k key = some (lk y))
    (hK : wpList P ops Q rest (a.put o.dst (.int .i64 ((f y).getD 0))) w) :
    wpList P ops Q (o :: rest) a w :=
  wpList_lookup_map w hg m x t hop k e K ht hz b n f hm hown key y hx hkey (fun v g1 g2 => by
    cases hf : f y with
    | none => rw [g1 hf]; rw [hf] at hK; exact hK
    | some c => rw [(g2 c hf).1]; rw [hf] at hK; exact hK)

/-- 'v, ok := m[k]'. -/
theorem wpList_lookup_ok (hg : Region.wanted o (yielded ops a.tmps) = true) (m x : Operand) (t : TypeId) (hop : o.op = Op.lookup t m x true)
    (k e : TypeId) (K : Keyed P k) (ht : P.underlying t = some (.map k e)) {z : Value} (hz : (zeroValue e).run P w = .ok z w) (b n : Nat) (f : κ → Option α)
    (hm : a.eval m = .map (some b)) (hown : MapOf P k lk vr w b n f) (key : Value) (y : κ) (hx : a.eval x = key) (hkey : keyOf P k key = some (lk y))
    (hK : ∀ v, (f y = none → v = z) → (∀ c, f y = some c → vr.rel (mem w) v c) → wpList P ops Q rest (a.put o.dst (.tuple #[v, .bool (f y).isSome])) w) :
    wpList P ops Q (o :: rest) a w := by
  refine wpList_want hg fun K' hK' => ?_
  obtain ⟨D, hown, h1, h2, _⟩ := hown
  obtain ⟨v, ps, hrun, hv⟩ := hown.look_ok K ht hz (zd := .held z) (zp := []) rfl hkey
  have hs : Maps.has D (lk y) = (f y).isSome := by
    cases hf : f y with
    | none => exact h1 y hf
    | some c => exact (h2 y c hf).1
  rw [hs] at hrun
  unfold Oper.wp
  simp [execOp, hop, hm, hx, hrun, Result.andThen]
  simp only [rawE, Option.some.injEq, Prod.mk.injEq] at hv
  refine hK' _ _ (hK v (fun e => ?_) (fun c e => ?_))
  · have := hv.1
    rw [atKey_of_not_has (h1 y e)] at this
    injection this
  · obtain ⟨_, u, g1, g2⟩ := h2 y c e
    have := hv.1
    rw [g1] at this
    injection this with this
    rw [this]; exact g2

/-- 'm[k] = v'. -/
theorem wpList_update_map (hg : Region.wanted o (yielded ops a.tmps) = true) (m x v : Operand) (t : TypeId) (hop : o.op = Op.mapUpdate t m x v)
    (k e : TypeId) (K : Keyed P k) (ht : P.underlying t = some (.map k e)) (b n : Nat) (f : κ → Option α) (hinj : ∀ x y, lk x = lk y → x = y)
    (hm : a.eval m = .map (some b)) (hown : MapOf P k lk vr w b n f) (hn : n < maxLen) (key val : Value) (y : κ) (c : α) (hx : a.eval x = key) (hv : a.eval v = val) (hkey : keyOf P k key = some (lk y))
    (hval : vr.rel (mem w) val c)
    (hK : ∀ w', MapOf P k lk vr w' b (n + 1) (putAt f y c) → w.grownBy w' (some b) → (mem w).le (mem w') → wpList P ops Q rest (a.put o.dst undef) w') :
    wpList P ops Q (o :: rest) a w := by
  obtain ⟨D, hown, hs⟩ := hown
  refine wpList_want hg fun K' hK' => ?_
  obtain ⟨w', hrun, ho, hgr⟩ := hown.update K ht hn hkey (R := rawE) (val := val) (d := .held val) (ps := []) rfl
  have hle := grown_mem hown hgr
  unfold Oper.wp
  simp [execOp, hop, hm, hx, hv, hrun, Result.andThen]
  refine hK' _ _ ?_
  exact hK w' ⟨_, ho, hs.put hle hown.isMap hinj (K.key hkey) (vr.mono _ _ _ _ hle hval)⟩ hgr hle

/-- 'len(m)'. -/
theorem wpList_len_map (hg : Region.wanted o (yielded ops a.tmps) = true) (m : Operand) (t : TypeId) (hop : o.op = Op.call { callee := Callee.builtin Builtin.len, args := #[m], argTypes := #[t] })
    (k e : TypeId) (ht : P.underlying t = some (.map k e)) (b n : Nat) (f : κ → Option α) (hm : a.eval m = .map (some b)) (hown : MapOf P k lk vr w b n f)
    (hK : ∀ D, w.ownsMap P k rawE b n D → MapSays lk vr (mem w) D f → wpList P ops Q rest (a.put o.dst (.int .i64 (Maps.size D))) w) :
    wpList P ops Q (o :: rest) a w := by
  obtain ⟨D, hown, hs⟩ := hown
  refine wpList_want hg fun K' hK' => ?_
  unfold Oper.wp
  simp [execOp, hop, resolve, invoke, builtin, hm, hown.len ht o.type, Result.andThen]
  exact hK' _ _ (hK D hown hs)
end

/-! ### texts as keys -/
def strKey (s : ByteArray) : Lit := .string s.data.toList
theorem strKey_inj (x y : ByteArray) (h : strKey x = strKey y) : x = y := by
  obtain ⟨⟨l⟩⟩ := x
  obtain ⟨⟨l'⟩⟩ := y
  simpa [strKey] using h
theorem keyOf_str {P : Program} {k : TypeId} (hk : P.underlying k = some .string) {s : ByteArray} (hs : s.size ≤ maxLen) : keyOf P k (.string s) = some (strKey s) := Go.WideMaps.keyOf_string_mk hk hs
end Go.Proofs.Ytfkphdmnelchmaa
/- Wires in memory: the invariant; New and Put. -/
namespace Go.Proofs.Ytfkphdmnelchmaa
open Go.RowKit Go.Maps

structure Item where
  el : El
  of : Option Nat
@[reducible] def ptrTo (a : Nat) : Value := .pointer (some ⟨a, 0, none⟩)
def ofV : Option Nat → Value
  | none => .pointer none
  | some a => ptrTo a
def tItem : Ty Item := ⟨6, fun m cs x => ∃ s, cs = [.int .i64 x.el.kind, .int .i64 x.el.n, .int .i64 x.el.time, s, .int .i64 x.el.cn, ofV x.of] ∧ (inI64 x.el.kind ∧ inI64 x.el.n ∧ inI64 x.el.time ∧ inI64 x.el.cn) ∧ tRow.rv m [s] x.el.row,
  fun _ _ _ h => by obtain ⟨s, rfl, _⟩ := h; rfl, fun m m' cs x hm h => by obtain ⟨s, e, i, r⟩ := h; exact ⟨s, e, i, tRow.mono _ _ _ _ hm r⟩⟩
theorem tItem_one {M : Mem} : ∀ m cs x, (tIn M tItem).rv m cs x → ∀ u ∈ cs, u.oneCell' = true := fun m cs x h u hu => by
  obtain ⟨s, rfl, _, hr⟩ := h
  obtain ⟨a, cap, rfl, _⟩ := slice_form hr
  obtain ⟨_, of⟩ := x
  simp at hu; rcases hu with rfl | rfl | rfl | rfl | rfl | rfl <;> first | rfl | (cases of <;> rfl)

def intKey (n : Int) : Lit := .int .i64 n
theorem intKey_inj (x y : Int) (h : intKey x = intKey y) : x = y := by simpa [intKey] using h
theorem keyOf_i64 {n : Int} (h : inI64 n) : keyOf Try.prog 3 (.int .i64 n) = some (intKey n) := keyOf_int_mk Try.underlying3 (by have := h.1; have := h.2; unfold inI64 at h; simp [Lit.wf, IntKind.min, IntKind.max, IntKind.signed, IntKind.bits]; omega)
def vPtr : VR Nat := ⟨fun _ v x => v = ptrTo x, fun _ _ _ _ _ h => h⟩
@[reducible] def PMap (W : World) (b n : Nat) (f : Int → Option Nat) : Prop := MapOf Try.prog 3 intKey vPtr W b n f
theorem PMap.at {W W' : World} {b n : Nat} {f : Int → Option Nat} (h : PMap W b n f) (hb : W'.heap[b]? = W.heap[b]?) : PMap W' b n f := by
  obtain ⟨D, ⟨es, clock, hh, r⟩, g⟩ := h
  exact ⟨D, ⟨es, clock, by rw [hb]; exact hh, r⟩, g⟩
theorem PMap.obj {W : World} {b n : Nat} {f : Int → Option Nat} (h : PMap W b n f) : ∃ es c, W.heap[b]? = some (.map es c) := by
  obtain ⟨D, ⟨es, clock, hh, r⟩, g⟩ := h
  exact ⟨es, clock, hh⟩

/-- A packet in memory. -/
structure PT where
  ad : Nat
  els : List El
  left : Int
/-- What a wire holds. -/
structure Raw where
  queue : List El
  size : Int
  credits : Int
  room : Int
  next : Int
  turn : Int
  early : Int → Option Nat
  buffer : List Item
  way : Int → Option Nat
  count : Int
  pt : List PT
/-- Where it lies. -/
structure WL where
  qv : Value
  bv : Value
  wm : Nat
  em : Nat
  nw : Nat
  ne : Nat
  fr : Nat → Prop
def full (v : Value) : Prop := ∃ a n, v = .slice a n n
def mutB (b : Nat) (L : WL) (r : Raw) (k : Nat) : Prop := k = b ∨ k = L.wm ∨ k = L.em ∨ (∃ p ∈ r.pt, k = p.ad) ∨ L.bv.ownBlock = some k ∨ (L.qv.ownBlock = some k ∧ ¬ full L.qv)
noncomputable def safe (W : World) (b : Nat) (L : WL) (r : Raw) : Mem := (mem W).on (fun k => ¬ mutB b L r k ∧ ¬ L.fr k)
def wCells (L : WL) (r : Raw) : Array Value := #[L.qv, .int .i64 r.size, .int .i64 r.credits, .int .i64 r.room, .int .i64 r.next, .int .i64 r.turn, .map (some L.em), L.bv, .map (some L.wm), .int .i64 r.count]

structure WireInv (W : World) (base b : Nat) (L : WL) (r : Raw) : Prop where
  hb : W.heap[b]? = some (.cells (wCells L r) 87 (0, 0))
  q : OwnsO (tIn (safe W b L r) tEl) W 42 L.qv r.queue
  bf : OwnsO (tIn (safe W b L r) tItem) W 94 L.bv r.buffer
  wm : PMap W L.wm L.nw r.way
  em : PMap W L.em L.ne r.early
  we : L.wm ≠ L.em
  pk : ∀ p ∈ r.pt, ∃ lv, W.heap[p.ad]? = some (.cells #[lv, .int .i64 p.left] 91 (0, 0)) ∧ tEls.rv (safe W b L r) [lv] p.els
  nd : (r.pt.map (·.ad)).Nodup
  ge : ∀ k, mutB b L r k → base ≤ k
  bw : base ≤ W.heap.size
  fl : ∀ k, L.fr k → k < W.heap.size
  fd : ∀ k, L.fr k → ¬ mutB b L r k ∧ L.qv.ownBlock ≠ some k
/-- Blocks of others are left alone. -/
def FrK (L L' : WL) (W W' : World) : Prop := L'.fr = L.fr ∧ ∀ k, L.fr k → W'.heap[k]? = W.heap[k]?
theorem FrK.trans {L L1 L2 : WL} {W W1 W2 : World} (h : FrK L L1 W W1) (g : FrK L1 L2 W1 W2) : FrK L L2 W W2 :=
  ⟨g.1.trans h.1, fun k hk => (g.2 k (by rw [h.1]; exact hk)).trans (h.2 k hk)⟩

def WStep (base b : Nat) (W : World) (L : WL) (r : Raw) (W' : World) (r' : Raw) : Prop :=
  ∃ L', WireInv W' base b L' r' ∧ Below base W W' ∧ (safe W b L r).le (safe W' b L' r') ∧ L'.nw ≤ L.nw + 1 ∧ L'.ne ≤ L.ne + 1 ∧ FrK L L' W W'

section
variable {W W' : World} {base b : Nat} {L L' : WL} {r r' : Raw}
theorem WireInv.mut_lt (h : WireInv W base b L r) : ∀ k, mutB b L r k → k < W.heap.size := fun k hk => by
  rcases hk with rfl | rfl | rfl | ⟨p, hp, rfl⟩ | hk | ⟨hk, _⟩
  · exact (Array.getElem?_eq_some_iff.1 h.hb).1
  · exact h.wm.lt
  · exact h.em.lt
  · obtain ⟨lv, hh, _⟩ := h.pk p hp; exact (Array.getElem?_eq_some_iff.1 hh).1
  · exact h.bf.lt k hk
  · exact h.q.lt k hk
theorem safe_le (hk : Keeps (mutB b L r) W W') (hm : ∀ k, mutB b L' r' k → mutB b L r k ∨ W.heap.size ≤ k) (hf : L'.fr = L.fr) : (safe W b L r).le (safe W' b L' r') := fun i o v e => by
  obtain ⟨hs, e⟩ := Mem.of_on e
  have hl := mem_lt e
  exact Mem.on_some ((mem_of_block (hk.block i hl hs.1) o).trans e) ⟨fun hx => by rcases hm i hx with h | h
                                                                                  · exact hs.1 h
                                                                                  · omega, fun hx => hs.2 (hf ▸ hx)⟩
theorem WireInv.frK (h : WireInv W base b L r) (hk : Keeps (mutB b L r) W W') (hf : L'.fr = L.fr) : FrK L L' W W' := ⟨hf, fun k hx => hk.block k (h.fl k hx) (h.fd k hx).1⟩
theorem WireInv.frL (h : WireInv W base b L r) (hk : Keeps (mutB b L r) W W') (hf : L'.fr = L.fr) : ∀ k, L'.fr k → k < W'.heap.size := fun k hx => Nat.lt_of_lt_of_le (h.fl k (hf ▸ hx)) hk.size
theorem WireInv.frD (h : WireInv W base b L r) (hm : ∀ k, mutB b L' r' k → mutB b L r k ∨ W.heap.size ≤ k) (hq : ∀ k, L'.qv.ownBlock = some k → L.qv.ownBlock = some k ∨ W.heap.size ≤ k) (hf : L'.fr = L.fr) : ∀ k, L'.fr k → ¬ mutB b L' r' k ∧ L'.qv.ownBlock ≠ some k := fun k hx => by
  rw [hf] at hx
  have hl := h.fl k hx
  refine ⟨fun hy => ?_, fun hy => ?_⟩
  · rcases hm k hy with g | g
    · exact (h.fd k hx).1 g
    · omega
  · rcases hq k hy with g | g
    · exact (h.fd k hx).2 g
    · omega
theorem WireInv.keepsB (h : WireInv W base b L r) (hk : Keeps (mutB b L r) W W') : Below base W W' :=
  ⟨hk.os, hk.tape, hk.output, hk.size, fun k hl => hk.block k (by have := h.bw; omega) (fun hm => by have := h.ge k hm; omega)⟩
theorem WireInv.pure (h : WireInv W base b L r) (hk : Below W.heap.size W W') : WireInv W' base b L r := by
  have hlt := h.mut_lt
  have hs : (safe W b L r).le (safe W' b L r) := safe_le ((below_keeps hk).wide (fun k h1 h2 => by omega)) (fun k hm => .inl hm) rfl
  exact ⟨(hk.block _ (hlt b (.inl rfl))).trans h.hb, (h.q.keeps (fun k e => hk.block k (h.q.lt k e))).re hs, (h.bf.keeps (fun k e => hk.block k (h.bf.lt k e))).re hs,
    h.wm.at (hk.block _ h.wm.lt), h.em.at (hk.block _ h.em.lt), h.we, fun p hp => by
      obtain ⟨lv, h1, h2⟩ := h.pk p hp
      exact ⟨lv, (hk.block _ (hlt _ (.inr (.inr (.inr (.inl ⟨p, hp, rfl⟩)))))).trans h1, tEls.mono _ _ _ _ hs h2⟩, h.nd, h.ge, Nat.le_trans h.bw hk.size, fun k hx => Nat.lt_of_lt_of_le (h.fl k hx) hk.size, h.fd⟩
theorem WireInv.pureStep (h : WireInv W base b L r) (hk : Below W.heap.size W W') : WStep base b W L r W' r :=
  ⟨L, h.pure hk, hk.mono h.bw, safe_le ((below_keeps hk).wide (fun k h1 h2 => by omega)) (fun k hm => .inl hm) rfl, Nat.le_succ _, Nat.le_succ _, rfl, fun k hx => hk.block k (h.fl k hx)⟩
theorem WireInv.safePure (h : WireInv W base b L r) (hk : Below W.heap.size W W') : (safe W b L r).le (safe W' b L r) := (fun _ => safe_le ((below_keeps hk).wide (fun k h1 h2 => by omega)) (fun k hm => .inl hm) rfl) h.bw
theorem WireInv.pureFr (h : WireInv W base b L r) (hk : Below W.heap.size W W') : FrK L L W W' := ⟨rfl, fun k hx => hk.block k (h.fl k hx)⟩
theorem WireInv.fresh {α : Type} {t : Ty α} (h : WireInv W base b L r) (hk : Below W.heap.size W W') {cs : List Value} {x : α} (hu : t.rv ((mem W').on (W.heap.size ≤ ·)) cs x) (o : Obj) : t.rv (safe (W'.alloc o) b L r) cs x :=
  t.mono _ _ _ _ (fun i j v e => by
    obtain ⟨hs, e⟩ := Mem.of_on e
    exact Mem.on_some (below_mem ((Below.refl _ _).alloc (Nat.le_refl _) o) _ _ _ e) ⟨fun hm => by have := h.mut_lt i hm; omega, fun hm => by have := h.fl i hm; omega⟩) hu
theorem WireInv.cell (h : WireInv W base b L r) (o : Nat) : W.cell? ⟨b, o, none⟩ = (wCells L r)[o]? := mem_cells h.hb o
theorem WireInv.frozen (h : WireInv W base b L r) (o : Nat) : W.frozen? ⟨b, o, none⟩ = false := frozen_cells h.hb o
/-- Blocks of different kinds are different. -/
theorem WireInv.apart (h : WireInv W base b L r) : b ≠ L.wm ∧ b ≠ L.em ∧ (∀ p ∈ r.pt, p.ad ≠ b ∧ p.ad ≠ L.wm ∧ p.ad ≠ L.em) ∧
    (∀ k, L.bv.ownBlock = some k → k ≠ b ∧ k ≠ L.wm ∧ k ≠ L.em ∧ (∀ p ∈ r.pt, k ≠ p.ad)) ∧ (∀ k, L.qv.ownBlock = some k → k ≠ b ∧ k ≠ L.wm ∧ k ≠ L.em ∧ (∀ p ∈ r.pt, k ≠ p.ad) ∧ L.bv.ownBlock ≠ some k) := by
  obtain ⟨es, c, hw⟩ := h.wm.obj
  obtain ⟨es', c', he⟩ := h.em.obj
  have hb := h.hb
  refine ⟨fun e => (by rw [e, hw] at hb; cases hb), fun e => (by rw [e, he] at hb; cases hb), fun p hp => ?_, fun k hk => ?_, fun k hk => ?_⟩
  · obtain ⟨lv, hp', _⟩ := h.pk p hp
    exact ⟨fun e => (by rw [e, hb] at hp'; simp at hp'), fun e => (by rw [e, hw] at hp'; cases hp'), fun e => (by rw [e, he] at hp'; cases hp')⟩
  · obtain ⟨cur, hc⟩ := h.bf.cells k hk
    exact ⟨fun e => (by rw [e, hb] at hc; cases hc), fun e => (by rw [e, hw] at hc; cases hc), fun e => (by rw [e, he] at hc; cases hc), fun p hp e => (by obtain ⟨lv, hp', _⟩ := h.pk p hp; rw [e, hp'] at hc; cases hc)⟩
  · obtain ⟨cur, hc⟩ := h.q.cells k hk
    exact ⟨fun e => (by rw [e, hb] at hc; cases hc), fun e => (by rw [e, hw] at hc; cases hc), fun e => (by rw [e, he] at hc; cases hc), fun p hp e => (by obtain ⟨lv, hp', _⟩ := h.pk p hp; rw [e, hp'] at hc; cases hc), fun e => (by obtain ⟨cur', hc'⟩ := h.bf.cells k e; rw [hc] at hc'; cases hc')⟩
end

def newRaw (size credits room : Int) : Raw := ⟨[], size, credits, room, 0, 0, fun _ => none, [], fun _ => none, 0, []⟩
def okNew (size credits room : Int) : Prop := (1 ≤ size ∧ size ≤ 100) ∧ (1 ≤ credits ∧ credits ≤ 100) ∧ (1 ≤ room ∧ room ≤ 1000)
def NewOut (F : Nat → Prop) (W : World) (size credits room : Int) (e : Ending) (W' : World) : Prop :=
  Below W.heap.size W W' ∧ ((okNew size credits room ∧ ∃ b L, e = .returned (.tuple #[ptrTo b, .int .i64 0]) ∧ WireInv W' W.heap.size b L (newRaw size credits room) ∧ L.nw = 0 ∧ L.ne = 0 ∧ W.heap.size < W'.heap.size ∧ L.fr = F) ∨ (¬ okNew size credits room ∧ e = .returned (.tuple #[.pointer none, .int .i64 7])))

theorem new_inv (W : World) (size credits room : Int) (F : Nat → Prop) (hF : ∀ k, F k → k < W.heap.size) : WireInv (((W.alloc (.map #[] 0)).alloc (.map #[] 0)).alloc (.cells #[.slice none 0 0, .int .i64 size, .int .i64 credits, .int .i64 room, .int .i64 0, .int .i64 0, .map (some W.heap.size), .slice none 0 0, .map (some (W.heap.size + 1)), .int .i64 0] 87)) W.heap.size (W.heap.size + 2)
    ⟨.slice none 0 0, .slice none 0 0, W.heap.size + 1, W.heap.size, 0, 0, F⟩ (newRaw size credits room) := by
  have hge : ∀ k, mutB (W.heap.size + 2) ⟨.slice none 0 0, .slice none 0 0, W.heap.size + 1, W.heap.size, 0, 0, F⟩ (newRaw size credits room) k → W.heap.size ≤ k := fun k hk => by
    rcases hk with rfl | rfl | rfl | ⟨p, hp, _⟩ | hk | ⟨hk, _⟩
    · omega
    · show W.heap.size ≤ W.heap.size + 1; omega
    · exact Nat.le_refl _
    · cases hp
    · cases hk
    · cases hk
  refine ⟨?_, OwnsO.nil _ _ _, OwnsO.nil _ _ _, ?_, ?_, by simp, fun p hp => absurd hp (by simp [newRaw]), by simp [newRaw], hge, by simp; omega, fun k hk => by have := hF k hk; simp; omega, fun k hk => ⟨fun hm => by have := hge k hm; have := hF k hk; omega, by simp [Value.ownBlock]⟩⟩
  · have h := heap_alloc_new ((W.alloc (.map #[] 0)).alloc (.map #[] 0)) (.cells #[.slice none 0 0, .int .i64 size, .int .i64 credits, .int .i64 room, .int .i64 0, .int .i64 0, .map (some W.heap.size), .slice none 0 0, .map (some (W.heap.size + 1)), .int .i64 0] 87)
    simp only [World.size_alloc] at h
    exact h
  · have h := MapOf.made (P := Try.prog) (k := 3) (lk := intKey) (vr := vPtr) (W.alloc (.map #[] 0))
    rw [World.size_alloc] at h
    exact h.alloc _
  · exact ((MapOf.made (P := Try.prog) (k := 3) (lk := intKey) (vr := vPtr) W).alloc _).alloc _

set_option maxRecDepth 100000 in
set_option maxHeartbeats 1000000 in
theorem new_any (size credits room : Int) (F : Nat → Prop) (W : World) (hF : ∀ k, F k → k < W.heap.size) :
    Calls Try.prog 15 #[.int .i64 size, .int .i64 credits, .int .i64 room] W (NewOut F W size credits room) := by
  have hmm := @run_makeMap Try.prog
  by_cases h : okNew size credits room
  · obtain ⟨⟨a1, a2⟩, ⟨b1, b2⟩, c1, c2⟩ := h
    have HN := Lib.hid (show okNew size credits room from ⟨⟨a1, a2⟩, ⟨b1, b2⟩, c1, c2⟩)
    go_enter Try.func15, Try.ntmps15
    go_wp2
    go_ret2
    exact ⟨(((Below.refl _ _).alloc (Nat.le_refl _) _).alloc (by simp) _).alloc (by simp; omega) _, .inl ⟨HN.out, _, _, rfl, new_inv W size credits room F hF, rfl, rfl, by simp; omega, rfl⟩⟩
  · have HN := Lib.hid h
    clear hmm
    by_cases a1 : 1 ≤ size
    · by_cases a2 : size ≤ 100
      · by_cases b1 : 1 ≤ credits
        · by_cases b2 : credits ≤ 100
          · by_cases c1 : 1 ≤ room
            · by_cases c2 : room ≤ 1000
              · exact absurd ⟨⟨a1, a2⟩, ⟨b1, b2⟩, c1, c2⟩ h
              · clear h
                go_enter Try.func15, Try.ntmps15
                go_wp2
                go_ret2
                exact ⟨Below.refl _ _, .inr ⟨HN.out, rfl⟩⟩
            · clear h
              go_enter Try.func15, Try.ntmps15
              go_wp2
              go_ret2
              exact ⟨Below.refl _ _, .inr ⟨HN.out, rfl⟩⟩
          · clear h
            go_enter Try.func15, Try.ntmps15
            go_wp2
            go_ret2
            exact ⟨Below.refl _ _, .inr ⟨HN.out, rfl⟩⟩
        · clear h
          go_enter Try.func15, Try.ntmps15
          go_wp2
          go_ret2
          exact ⟨Below.refl _ _, .inr ⟨HN.out, rfl⟩⟩
      · clear h
        go_enter Try.func15, Try.ntmps15
        go_wp2
        go_ret2
        exact ⟨Below.refl _ _, .inr ⟨HN.out, rfl⟩⟩
    · clear h
      go_enter Try.func15, Try.ntmps15
      go_wp2
      go_ret2
      exact ⟨Below.refl _ _, .inr ⟨HN.out, rfl⟩⟩
end Go.Proofs.Ytfkphdmnelchmaa
/- Wires: Put. -/
namespace Go.Proofs.Ytfkphdmnelchmaa
open Go.RowKit Go.Maps

theorem infoEl (M : Mem) : (Try.prog.info? 42).map (fun i => (i.zero, i.size, i.bytes)) = some (some (.agg #[.int .i64 0, .int .i64 0, .int .i64 0, .slice none 0 0, .int .i64 0]), (tIn M tEl).sz, 56) := by
  show _ = some (some (Value.agg #[.int .i64 0, .int .i64 0, .int .i64 0, .slice none 0 0, .int .i64 0]), 5, 56)
  kernel_rfl
structure El.ok (x : El) : Prop where
  k : inI64 x.kind
  n : inI64 x.n
  t : inI64 x.time
  c : inI64 x.cn
def putE (r : Raw) (x : El) : Int := if validEl x = true then (if r.count = 4000 then 4 else 0) else 1
def putR (r : Raw) (x : El) : Raw := if validEl x = true then (if r.count = 4000 then r else { r with queue := r.queue ++ [x], count := r.count + 1 }) else r

theorem el_cells {w : World} {x : El} {a : Option Addr} {c : Nat} {T : TypeId} : At (mem (w.alloc (.cells #[.int .i64 x.kind, .int .i64 x.n, .int .i64 x.time, .slice a x.row.length c, .int .i64 x.cn] T))) w.heap.size 0 [.int .i64 x.kind, .int .i64 x.n, .int .i64 x.time, .slice a x.row.length c, .int .i64 x.cn] := fun j u hj => by
  rw [Nat.zero_add]
  show World.cell? _ ⟨w.heap.size, j, none⟩ = some u
  rw [cell_new j rfl]; simpa using hj

theorem el_one {x : El} {a : Option Addr} {c : Nat} : ∀ u ∈ [Value.int .i64 x.kind, .int .i64 x.n, .int .i64 x.time, .slice a x.row.length c, .int .i64 x.cn], u.oneCell' = true := fun u hu => by
  simp at hu; rcases hu with rfl | rfl | rfl | rfl | rfl <;> rfl
/-- The queue has grown. -/
theorem WireInv.queued {W A C : World} {base b : Nat} {qv bv v' : Value} {wm em nw ne : Nat} {fr : Nat → Prop} {r : Raw} {x : El} {o : Obj} (hI : WireInv A base b ⟨qv, bv, wm, em, nw, ne, fr⟩ r) (own : OwnsO (tIn (safe (A.alloc o) b ⟨qv, bv, wm, em, nw, ne, fr⟩ r) tEl) C 42 v' (r.queue ++ [x]))
    (happ : AppAt (A.alloc o) C qv r.queue.length 1 v') (hs : (safe W b ⟨qv, bv, wm, em, nw, ne, fr⟩ r).le (safe A b ⟨qv, bv, wm, em, nw, ne, fr⟩ r)) (hB : Below base W A) (hfW : FrK ⟨qv, bv, wm, em, nw, ne, fr⟩ ⟨qv, bv, wm, em, nw, ne, fr⟩ W A) :
    WStep base b W ⟨qv, bv, wm, em, nw, ne, fr⟩ r ((C.setCell ⟨b, 0, none⟩ v').setCell ⟨b, 9, none⟩ (.int .i64 (r.count + 1))) { r with queue := r.queue ++ [x], count := r.count + 1 } := by
  have hA : WireInv (A.alloc o) base b ⟨qv, bv, wm, em, nw, ne, fr⟩ r := hI.pure ((Below.refl _ _).alloc (Nat.le_refl _) o)
  have hsA : (safe A b ⟨qv, bv, wm, em, nw, ne, fr⟩ r).le (safe (A.alloc o) b ⟨qv, bv, wm, em, nw, ne, fr⟩ r) := safe_le ((below_keeps ((Below.refl _ _).alloc (Nat.le_refl _) o)).wide (fun k h1 h2 => by omega)) (fun k hm => .inl hm) rfl
  have hBA : Below base W (A.alloc o) := hB.alloc hI.bw o
  have hfA : FrK ⟨qv, bv, wm, em, nw, ne, fr⟩ ⟨qv, bv, wm, em, nw, ne, fr⟩ W (A.alloc o) := hfW.trans ⟨rfl, fun k hx => ((Below.refl _ _).alloc (Nat.le_refl _) o : Below A.heap.size A (A.alloc o)).block k (hI.fl k hx)⟩
  generalize A.alloc o = X at hA hsA hBA hfA own happ
  have hk : Keeps (mutB b ⟨qv, bv, wm, em, nw, ne, fr⟩ r) X C := by
    rcases happ with ⟨_, hg, a, cap, e, hroom⟩ | ⟨hb, _⟩
    · refine (grown_keeps hg).wide (fun k _ hk => .inr (.inr (.inr (.inr (.inr ⟨hk.symm, fun ⟨a', n, e'⟩ => ?_⟩)))))
      rw [show (⟨qv, bv, wm, em, nw, ne, fr⟩ : WL).qv = qv from rfl] at e'
      rw [e] at e'; cases e'; omega
    · exact (below_keeps hb).wide (fun k h1 h2 => by omega)
  have hk2 : Keeps (mutB b ⟨qv, bv, wm, em, nw, ne, fr⟩ r) X ((C.setCell ⟨b, 0, none⟩ v').setCell ⟨b, 9, none⟩ (.int .i64 (r.count + 1))) := (hk.setCell (p := ⟨b, 0, none⟩) (fun _ => .inl rfl) _).setCell (p := ⟨b, 9, none⟩) (fun _ => .inl rfl) _
  have hmv : ∀ k, v'.ownBlock = some k → (qv.ownBlock = some k) ∨ X.heap.size ≤ k := fun k h => by
    rcases happ with ⟨e, _⟩ | ⟨_, e⟩
    · exact .inl (by rw [← e]; exact h)
    · right; rw [e] at h; cases h; exact Nat.le_refl _
  have hm : ∀ k, mutB b ⟨v', bv, wm, em, nw, ne, fr⟩ { r with queue := r.queue ++ [x], count := r.count + 1 } k → mutB b ⟨qv, bv, wm, em, nw, ne, fr⟩ r k ∨ X.heap.size ≤ k := fun k hk => by
    rcases hk with h | h | h | h | h | ⟨h, hf⟩
    · exact .inl (.inl h)
    · exact .inl (.inr (.inl h))
    · exact .inl (.inr (.inr (.inl h)))
    · exact .inl (.inr (.inr (.inr (.inl h))))
    · exact .inl (.inr (.inr (.inr (.inr (.inl h)))))
    · rcases happ with ⟨e, _, a, cap, e2, hroom⟩ | ⟨_, e⟩
      · refine .inl (.inr (.inr (.inr (.inr (.inr ⟨by rw [← e]; exact h, fun ⟨a', n, e'⟩ => ?_⟩)))))
        rw [show (⟨qv, bv, wm, em, nw, ne, fr⟩ : WL).qv = qv from rfl, e2] at e'
        cases e'; omega
      · right; rw [show (⟨v', bv, wm, em, nw, ne, fr⟩ : WL).qv = v' from rfl, e] at h; cases h; exact Nat.le_refl _
  have hsafe := safe_le (L' := ⟨v', bv, wm, em, nw, ne, fr⟩) (r' := { r with queue := r.queue ++ [x], count := r.count + 1 }) hk2 hm rfl
  have hap := hA.apart
  have hlt := hA.mut_lt
  -- blocks that the append has left alone
  have hold : ∀ k, k < X.heap.size → (qv.ownBlock ≠ some k) → C.heap[k]? = X.heap[k]? := fun k h1 h2 => happ.grown.block k h1 (fun e => h2 e.symm)
  have hset : ∀ k, k ≠ b → ((C.setCell ⟨b, 0, none⟩ v').setCell ⟨b, 9, none⟩ (.int .i64 (r.count + 1))).heap[k]? = C.heap[k]? := fun k hk => (set_block_other hk).trans (set_block_other hk)
  have hqb : qv.ownBlock ≠ some b := fun e => (hap.2.2.2.2 b e).1 rfl
  have hb5 : C.heap[b]? = some (.cells (wCells ⟨qv, bv, wm, em, nw, ne, fr⟩ r) 87 (0, 0)) := (hold b (hlt b (.inl rfl)) hqb).trans hA.hb
  have hvb : v'.ownBlock ≠ some b := fun e => by
    rcases hmv b e with h | h
    · exact hqb h
    · have := hlt b (.inl rfl); omega
  refine ⟨⟨v', bv, wm, em, nw, ne, fr⟩, ⟨?_, (own.keeps (fun k e => hset k (fun e2 => hvb (e2 ▸ e)))).re hsafe, (hA.bf.keeps (fun k e => ?_)).re hsafe, hA.wm.at ?_, hA.em.at ?_, hA.we, fun p hp => ?_, hA.nd, fun k hk => ?_, Nat.le_trans hA.bw hk2.size, hA.frL hk2 rfl, hA.frD hm hmv rfl⟩, ?_, Mem.le_trans hs (Mem.le_trans hsA hsafe), Nat.le_succ _, Nat.le_succ _, hfA.trans (hA.frK hk2 rfl)⟩
  · exact set_block (set_block hb5)
  · have h1 := hap.2.2.2.1 k e
    exact (hset k h1.1).trans (hold k (hA.bf.lt k e) (fun e2 => (hap.2.2.2.2 k e2).2.2.2.2 e))
  · exact (hset _ (fun e => hap.1 e.symm)).trans (hold _ hA.wm.lt (fun e => (hap.2.2.2.2 _ e).2.1 rfl))
  · exact (hset _ (fun e => hap.2.1 e.symm)).trans (hold _ hA.em.lt (fun e => (hap.2.2.2.2 _ e).2.2.1 rfl))
  · obtain ⟨lv, h1, h2⟩ := hA.pk p hp
    exact ⟨lv, ((hset _ (hap.2.2.1 p hp).1).trans (hold _ (Array.getElem?_eq_some_iff.1 h1).1 (fun e => (hap.2.2.2.2 _ e).2.2.2.1 p hp rfl))).trans h1, tEls.mono _ _ _ _ hsafe h2⟩
  · rcases hm k hk with h | h
    · exact hA.ge k h
    · exact Nat.le_trans hA.bw h
  · exact hBA.trans (hA.keepsB hk2)

theorem WireInv.afterApp {A C : World} {base b : Nat} {L : WL} {r : Raw} {v' : Value} {n m : Nat} {o : Obj} (hI : WireInv A base b L r) (happ : AppAt (A.alloc o) C L.qv n m v') : C.heap[b]? = some (.cells (wCells L r) 87 (0, 0)) :=
  (happ.grown.block b (by have := hI.mut_lt b (.inl rfl); simp; omega) (fun e => (hI.apart.2.2.2.2 b e.symm).1 rfl)).trans (hI.pure ((Below.refl _ _).alloc (Nat.le_refl _) o)).hb

set_option maxRecDepth 100000 in
set_option maxHeartbeats 4000000 in
theorem put_any (base b : Nat) (L : WL) (r : Raw) (x : El) (s : Value) (W : World) (hI : WireInv W base b L r) (hx : x.ok) (hv : tRow.rv (mem W) [s] x.row) (hc0 : 0 ≤ r.count) (hc1 : r.count ≤ 4000) (hq : r.queue.length ≤ 4000) :
    Calls Try.prog 16 #[.pointer (some ⟨b, 0, none⟩), elV x s] W fun e W' => e = .returned (.int .i64 (putE r x)) ∧ WStep base b W L r W' (putR r x) := by
  obtain ⟨qv, bv, wm, em, nw, ne, fr⟩ := L
  obtain ⟨aq, cq, hqv, hq1, hq2⟩ := hI.q.form
  simp only at hqv
  subst hqv
  obtain ⟨a, cap, rfl, _, _, hv⟩ := slice_form hv
  have hb1 : ∀ o, Below W.heap.size W (W.alloc o) := fun o => (Below.refl _ _).alloc (Nat.le_refl _) o
  have HV0 := fun o => validEl_any x _ (W.alloc o) (tRow.mono _ _ _ _ (below_mem (hb1 o)) hv)
  have HB1 := Lib.hid hb1
  have HRow := Lib.hid hv
  clear hv hb1
  cases hval : validEl x
  · rw [hval] at HV0
    have HV := Lib.hid HV0
    have HR := Lib.hid (show putE r x = 1 ∧ putR r x = r from ⟨by simp [putE, hval], by simp [putR, hval]⟩)
    have HI := Lib.hid hI
    clear HV0 hval hI
    go_enter Try.func16, Try.ntmps16
    go_wp2_with fail
    refine (HV.out _).mono ?_
    rintro e w1 ⟨rfl, hb⟩
    go_wp2
    go_ret
    exact ⟨by rw [HR.out.1]; rfl, by rw [HR.out.2]; exact HI.out.pureStep ((HB1.out _).trans (hb.mono (by simp)))⟩
  · rw [hval] at HV0
    have HV := Lib.hid HV0
    have h8 := validEl_row hval
    by_cases h4 : r.count = 4000
    · have HR := Lib.hid (show putE r x = 4 ∧ putR r x = r from ⟨by simp [putE, hval, h4], by simp [putR, hval, h4]⟩)
      have HI := Lib.hid hI
      have h41 : (r.count == 4000) = true := by simpa using h4
      clear HV0 hval hI h4
      go_enter Try.func16, Try.ntmps16
      go_wp2_with fail
      refine (HV.out _).mono ?_
      rintro e w1 ⟨rfl, hb⟩
      have hbw := (HB1.out _).trans (hb.mono (by simp))
      have HS := Lib.hid (HI.out.pureStep hbw)
      have c9 : w1.cell? ⟨b, 9, none⟩ = some (.int .i64 r.count) := (HI.out.pure hbw).cell 9
      clear hb hbw
      go_wp2
      go_ret
      exact ⟨by rw [HR.out.1]; rfl, by rw [HR.out.2]; exact HS.out⟩
    · have HR := Lib.hid (show putE r x = 0 ∧ putR r x = { r with queue := r.queue ++ [x], count := r.count + 1 } from ⟨by simp [putE, hval, h4], by simp [putR, hval, h4]⟩)
      have HI := Lib.hid hI
      have h41 : (r.count == 4000) = false := by simpa using h4
      clear HV0 hval hI h4
      go_enter Try.func16, Try.ntmps16
      go_wp2_with fail
      refine (HV.out _).mono ?_
      rintro e w1 ⟨rfl, hb⟩
      have hbw := (HB1.out _).trans (hb.mono (by simp))
      have c9 : w1.cell? ⟨b, 9, none⟩ = some (.int .i64 r.count) := (HI.out.pure hbw).cell 9
      have c0 : w1.cell? ⟨b, 0, none⟩ = some (.slice aq r.queue.length cq) := (HI.out.pure hbw).cell 0
      have x0 : w1.cell? ⟨W.heap.size, 0, none⟩ = some (.int .i64 x.kind) := below_mem hb _ _ _ (cell_new 0 rfl)
      have x1 : w1.cell? ⟨W.heap.size, 1, none⟩ = some (.int .i64 x.n) := below_mem hb _ _ _ (cell_new 1 rfl)
      have x2 : w1.cell? ⟨W.heap.size, 2, none⟩ = some (.int .i64 x.time) := below_mem hb _ _ _ (cell_new 2 rfl)
      have x3 : w1.cell? ⟨W.heap.size, 3, none⟩ = some (.slice a x.row.length cap) := below_mem hb _ _ _ (cell_new 3 rfl)
      have x4 : w1.cell? ⟨W.heap.size, 4, none⟩ = some (.int .i64 x.cn) := below_mem hb _ _ _ (cell_new 4 rfl)
      have HI1 := Lib.hid (HI.out.pure hbw)
      have HS1 := Lib.hid (HI.out.safePure hbw)
      have HF1 := Lib.hid (HI.out.pureFr hbw)
      have HBW := Lib.hid hbw
      have HO := Lib.hid (own_el x _ w1.drew (tRow.mono _ _ _ _ (below_mem (hbw.drew : Below W.heap.size W w1.drew)) HRow.out) (by omega))
      clear hb hbw
      have HL1 := Lib.hid (show r.queue.length + 1 ≤ maxLen by unfold maxLen; omega)
      have HL2 := Lib.hid (show (r.queue.length + 1) * 56 ≤ 140737488355328 by omega)
      go_wp2_with fail
      go_region_law (first
        | (go_simp; go_at_call 46; refine HO.out.mono ?_; rintro e w4 ⟨a4, c4, rfl, hu, hb4⟩; have hb4' := (Below.refl _ _).drew.trans hb4; have HI4 := Lib.hid (HI1.out.pure hb4'); have HB4 := Lib.hid ((HBW.out.mono HI.out.bw).trans (hb4'.mono (Nat.le_trans HI.out.bw HBW.out.size))); have HS4 := Lib.hid (Mem.le_trans HS1.out (HI1.out.safePure hb4')); have HF4 := Lib.hid (HF1.out.trans (HI1.out.pureFr hb4')); have HRow4 := Lib.hid (fun o => (⟨_, rfl, ⟨hx.k, hx.n, hx.t, hx.c⟩, HI1.out.fresh hb4' hu o⟩ : (tIn (safe (w4.alloc o) b ⟨.slice aq r.queue.length cq, bv, wm, em, nw, ne, fr⟩ r) tEl).rv noMem [.int .i64 x.kind, .int .i64 x.n, .int .i64 x.time, .slice a4 x.row.length c4, .int .i64 x.cn] x)); have c04 : ∀ o, (w4.alloc o).cell? ⟨b, 0, none⟩ = some (.slice aq r.queue.length cq) := fun o => (HI4.out.pure ((Below.refl _ _).alloc (Nat.le_refl _) o)).cell 0; have d04 : w4.cell? ⟨b, 0, none⟩ = some (.slice aq r.queue.length cq) := HI4.out.cell 0; clear hb4 hb4' hu)
        | (refine step_append_o1 rfl (.tmp 24) (.tmp 27) 36 rfl (tIn (safe (w4.alloc (.cells #[.int .i64 x.kind, .int .i64 x.n, .int .i64 x.time, .slice a4 x.row.length c4, .int .i64 x.cn] 42)) b ⟨.slice aq r.queue.length cq, bv, wm, em, nw, ne, fr⟩ r) tEl) Try.underlying36 (infoEl _) rfl _ r.queue rfl (HI4.out.pure ((Below.refl _ _).alloc (Nat.le_refl _) _)).q _ _ x rfl _ el_cells (HRow4.out _) el_one HL1.out HL2.out ?_; intro v' w5 own5 happ; obtain ⟨a5, c5, rfl, _⟩ := own5.form; have HQ := Lib.hid (HI4.out.queued own5 happ HS4.out HB4.out HF4.out); have hb5 := HI4.out.afterApp happ; have c05 : w5.cell? ⟨b, 0, none⟩ = some (.slice aq r.queue.length cq) := mem_cells hb5 0; have c95 : w5.cell? ⟨b, 9, none⟩ = some (.int .i64 r.count) := mem_cells hb5 9; have f05 : ∀ o, w5.frozen? ⟨b, o, none⟩ = false := frozen_cells hb5; clear own5 happ hb5))
      all_goals
        go_wp2
        go_ret
        exact ⟨by rw [HR.out.1]; rfl, by rw [HR.out.2]; have h := HQ.out; simp only [List.length_append, List.length_cons, List.length_nil, Nat.zero_add] at h; exact h⟩
end Go.Proofs.Ytfkphdmnelchmaa
/- Wires: Resize, Lose and what is told of a wire. -/
namespace Go.Proofs.Ytfkphdmnelchmaa
open Go.RowKit Go.Maps

section
variable {W W' : World} {base b : Nat} {L : WL} {r : Raw}
/-- Numbers of the wire alone have changed. -/
theorem WireInv.nums (hI : WireInv W base b L r) (hk : Keeps (fun k => k = b) W W') (n : Raw) (hq : n.queue = r.queue) (hbf : n.buffer = r.buffer) (he : n.early = r.early) (hw : n.way = r.way) (hp : n.pt = r.pt)
    (hb' : W'.heap[b]? = some (.cells (wCells L n) 87 (0, 0))) : WireInv W' base b L n ∧ (safe W b L r).le (safe W' b L n) := by
  obtain ⟨n1, n2, n3, n4, n5, n6, n7, n8, n9, n10, n11⟩ := n
  simp only at hq hbf he hw hp
  subst hq; subst hbf; subst he; subst hw; subst hp
  have hm : ∀ k, mutB b L ⟨r.queue, n2, n3, n4, n5, n6, r.early, r.buffer, r.way, n10, r.pt⟩ k → mutB b L r k ∨ W.heap.size ≤ k := fun k h => .inl h
  have hs := safe_le (L' := L) (r' := ⟨r.queue, n2, n3, n4, n5, n6, r.early, r.buffer, r.way, n10, r.pt⟩) (hk.wide (fun k _ h => .inl h)) hm rfl
  have hap := hI.apart
  refine ⟨⟨hb', (hI.q.keeps (fun k e => ?_)).re hs, (hI.bf.keeps (fun k e => ?_)).re hs, hI.wm.at ?_, hI.em.at ?_, hI.we, fun p hp => ?_, hI.nd, hI.ge, Nat.le_trans hI.bw hk.size, fun k hx => Nat.lt_of_lt_of_le (hI.fl k hx) hk.size, hI.fd⟩, hs⟩
  · exact hk.block k (hI.q.lt k e) (hap.2.2.2.2 k e).1
  · exact hk.block k (hI.bf.lt k e) (hap.2.2.2.1 k e).1
  · exact hk.block _ hI.wm.lt (fun e => hap.1 e.symm)
  · exact hk.block _ hI.em.lt (fun e => hap.2.1 e.symm)
  · obtain ⟨lv, h1, h2⟩ := hI.pk p hp
    exact ⟨lv, (hk.block _ (Array.getElem?_eq_some_iff.1 h1).1 (hap.2.2.1 p hp).1).trans h1, tEls.mono _ _ _ _ hs h2⟩
theorem WireInv.numsStep (hI : WireInv W base b L r) (hk : Keeps (fun k => k = b) W W') (n : Raw) (hq : n.queue = r.queue) (hbf : n.buffer = r.buffer) (he : n.early = r.early) (hw : n.way = r.way) (hp : n.pt = r.pt)
    (hb' : W'.heap[b]? = some (.cells (wCells L n) 87 (0, 0))) : WStep base b W L r W' n :=
  let h := hI.nums hk n hq hbf he hw hp hb'
  ⟨L, h.1, hI.keepsB (hk.wide (fun _ _ h => .inl h)), h.2, Nat.le_succ _, Nat.le_succ _, hI.frK (hk.wide (fun _ _ h => .inl h)) rfl⟩
theorem WireInv.drewN (hI : WireInv W base b L r) (n : Nat) : WStep base b W L r (W.drewN n) r := hI.pureStep ⟨rfl, rfl, rfl, Nat.le_refl _, fun _ _ => rfl⟩
theorem WireInv.same (hI : WireInv W base b L r) : WStep base b W L r W r := hI.pureStep (Below.refl _ _)
end

set_option maxHeartbeats 400000 in
theorem resize_any (base b : Nat) (L : WL) (r : Raw) (n : Int) (W : World) (hI : WireInv W base b L r) :
    Calls Try.prog 21 #[.pointer (some ⟨b, 0, none⟩), .int .i64 n] W fun e W' => e = .returned (.int .i64 (if 1 ≤ n ∧ n ≤ 100 then 0 else 7)) ∧ WStep base b W L r W' (if 1 ≤ n ∧ n ≤ 100 then { r with size := n } else r) := by
  by_cases h1 : 1 ≤ n
  · by_cases h2 : n ≤ 100
    · have c1 : W.cell? ⟨b, 1, none⟩ = some (.int .i64 r.size) := hI.cell 1
      have f1 := hI.frozen 1
      have HI := Lib.hid hI
      rw [if_pos ⟨h1, h2⟩, if_pos ⟨h1, h2⟩]
      clear hI
      go_enter Try.func21, Try.ntmps21
      go_wp2
      go_ret
      exact ⟨rfl, HI.out.numsStep ((Keeps.refl (fun k => k = b) W).setCell (p := ⟨b, 1, none⟩) (fun _ => rfl) _) { r with size := n } rfl rfl rfl rfl rfl (set_block HI.out.hb)⟩
    · rw [if_neg (fun h => h2 h.2), if_neg (fun h => h2 h.2)]
      have HI := Lib.hid hI
      clear hI
      go_enter Try.func21, Try.ntmps21
      go_wp2
      go_ret
      exact ⟨rfl, HI.out.same⟩
  · rw [if_neg (fun h => h1 h.1), if_neg (fun h => h1 h.1)]
    have HI := Lib.hid hI
    clear hI
    go_enter Try.func21, Try.ntmps21
    go_wp2
    go_ret
    exact ⟨rfl, HI.out.same⟩

theorem zeroPk (w : World) : (zeroValue 89).run Try.prog w = .ok (.pointer none) w := by kernel_rfl

set_option maxHeartbeats 1000000 in
theorem lose_any (base b : Nat) (L : WL) (r : Raw) (n : Int) (W : World) (hI : WireInv W base b L r) (hn : inI64 n) :
    Calls Try.prog 19 #[.pointer (some ⟨b, 0, none⟩), .int .i64 n] W fun e W' => e = .returned (.int .i64 (if (r.way n).isSome then 0 else 8)) ∧ W = W' := by
  have c8 : W.cell? ⟨b, 8, none⟩ = some (.map (some L.wm)) := hI.cell 8
  have HM := Lib.hid hI.wm
  cases hw : r.way n with
  | none =>
    have HW := Lib.hid hw
    clear hw hI
    go_enter Try.func19, Try.ntmps19
    go_wp2_with (at_lookup; refine wpList_lookup_ok _ rfl _ _ 82 rfl 3 89 (int_keyed Try.underlying3) Try.underlying82 (zeroPk _) L.wm L.nw r.way rfl HM.out _ n rfl (keyOf_i64 hn) ?_; rw [HW.out]; intro v h1 _; obtain rfl := h1 rfl)
    go_ret
    exact ⟨rfl, rfl⟩
  | some a =>
    have HW := Lib.hid hw
    clear hw hI
    go_enter Try.func19, Try.ntmps19
    go_wp2_with (at_lookup; refine wpList_lookup_ok _ rfl _ _ 82 rfl 3 89 (int_keyed Try.underlying3) Try.underlying82 (zeroPk _) L.wm L.nw r.way rfl HM.out _ n rfl (keyOf_i64 hn) ?_; rw [HW.out]; intro v _ h1; obtain rfl : v = ptrTo a := h1 a rfl)
    go_ret
    exact ⟨rfl, rfl⟩

set_option maxHeartbeats 400000 in
theorem credits_any (base b : Nat) (L : WL) (r : Raw) (W : World) (hI : WireInv W base b L r) :
    Calls Try.prog 28 #[.pointer (some ⟨b, 0, none⟩)] W fun e W' => e = .returned (.int .i64 r.credits) ∧ W = W' := by
  have c2 : W.cell? ⟨b, 2, none⟩ = some (.int .i64 r.credits) := hI.cell 2
  clear hI
  go_enter Try.func28, Try.ntmps28
  go_wp2
  go_ret
  exact ⟨rfl, rfl⟩
set_option maxHeartbeats 400000 in
theorem queue_any (base b : Nat) (L : WL) (r : Raw) (W : World) (hI : WireInv W base b L r) :
    Calls Try.prog 30 #[.pointer (some ⟨b, 0, none⟩)] W fun e W' => e = .returned (.int .i64 r.queue.length) ∧ W = W' := by
  obtain ⟨aq, cq, hqv, hq1, hq2⟩ := hI.q.form
  have c0 : W.cell? ⟨b, 0, none⟩ = some (.slice aq r.queue.length cq) := by rw [← hqv]; exact hI.cell 0
  clear hI hqv
  go_enter Try.func30, Try.ntmps30
  go_wp2
  go_ret
  exact ⟨rfl, rfl⟩
set_option maxHeartbeats 400000 in
theorem buffer_any (base b : Nat) (L : WL) (r : Raw) (W : World) (hI : WireInv W base b L r) :
    Calls Try.prog 31 #[.pointer (some ⟨b, 0, none⟩)] W fun e W' => e = .returned (.int .i64 r.buffer.length) ∧ W = W' := by
  obtain ⟨aq, cq, hqv, hq1, hq2⟩ := hI.bf.form
  have c0 : W.cell? ⟨b, 7, none⟩ = some (.slice aq r.buffer.length cq) := by rw [← hqv]; exact hI.cell 7
  clear hI hqv
  go_enter Try.func31, Try.ntmps31
  go_wp2
  go_ret
  exact ⟨rfl, rfl⟩
set_option maxHeartbeats 400000 in
theorem waits_any (base b : Nat) (L : WL) (r : Raw) (W : World) (hI : WireInv W base b L r) :
    Calls Try.prog 29 #[.pointer (some ⟨b, 0, none⟩)] W fun e W' => e = .returned (.bool (decide (0 < r.queue.length) && decide (r.credits = 0))) ∧ W = W' := by
  obtain ⟨aq, cq, hqv, hq1, hq2⟩ := hI.q.form
  have c0 : W.cell? ⟨b, 0, none⟩ = some (.slice aq r.queue.length cq) := by rw [← hqv]; exact hI.cell 0
  have c2 : W.cell? ⟨b, 2, none⟩ = some (.int .i64 r.credits) := hI.cell 2
  clear hI hqv
  by_cases hz : 0 < r.queue.length
  · have HR := Lib.hid (show (decide (0 < r.queue.length) && decide (r.credits = 0)) = (r.credits == 0) by rw [decide_eq_true hz]; by_cases h : r.credits = 0 <;> simp [h])
    have hz1 : (0 : Int) < (r.queue.length : Int) := by omega
    go_enter Try.func29, Try.ntmps29
    go_wp2
    go_ret
    exact ⟨by rw [HR.out]; rfl, rfl⟩
  · have hz0 : r.queue.length = 0 := by omega
    have HR := Lib.hid (show (decide (0 < r.queue.length) && decide (r.credits = 0)) = false by rw [hz0]; simp)
    rw [hz0] at c0
    clear hz hq1
    go_enter Try.func29, Try.ntmps29
    go_wp2
    go_ret
    exact ⟨by rw [HR.out]; rfl, rfl⟩
set_option maxHeartbeats 1000000 in
theorem spilled_any (base b : Nat) (L : WL) (r : Raw) (W : World) (hI : WireInv W base b L r) (h1 : 1 ≤ r.room) (h2 : r.room ≤ 1000) (hq : r.queue.length ≤ 4000) :
    Calls Try.prog 37 #[.pointer (some ⟨b, 0, none⟩)] W fun e W' => e = .returned (.int .i64 (max 0 ((r.queue.length : Int) - r.room))) ∧ ∃ n, W' = W.drewN n := by
  obtain ⟨aq, cq, hqv, hq1, hq2⟩ := hI.q.form
  have c0 : W.cell? ⟨b, 0, none⟩ = some (.slice aq r.queue.length cq) := by rw [← hqv]; exact hI.cell 0
  have c3 : W.cell? ⟨b, 3, none⟩ = some (.int .i64 r.room) := hI.cell 3
  clear hI hqv
  generalize r.queue.length = n at *
  generalize r.room = m at *
  go_enter Try.func37, Try.ntmps37
  go_wp2
  go_region
  all_goals
    go_wp2
    all_goals
      go_ret
      first | exact ⟨by rw [show max 0 ((n : Int) - m) = (n : Int) - m by omega]; rfl, 1, rfl⟩ | exact ⟨by rw [show max 0 ((n : Int) - m) = 0 by omega]; rfl, 1, rfl⟩
end Go.Proofs.Ytfkphdmnelchmaa
/- Wires: Peek and Receive. -/
namespace Go.Proofs.Ytfkphdmnelchmaa
open Go.RowKit Go.Maps

def store5 (w : World) (p : Nat) (v0 v1 v2 v3 v4 : Value) : World := ((((w.setCell ⟨p, 0, none⟩ v0).setCell ⟨p, 1, none⟩ v1).setCell ⟨p, 2, none⟩ v2).setCell ⟨p, 3, none⟩ v3).setCell ⟨p, 4, none⟩ v4
theorem store5_block {w : World} {p : Nat} {a0 a1 a2 a3 a4 : Value} {T : TypeId} (h : w.heap[p]? = some (.cells #[a0, a1, a2, a3, a4] T (0, 0))) (v0 v1 v2 v3 v4 : Value) :
    (store5 w p v0 v1 v2 v3 v4).heap[p]? = some (.cells #[v0, v1, v2, v3, v4] T (0, 0)) := set_block (o := 4) (set_block (o := 3) (set_block (o := 2) (set_block (o := 1) (set_block (o := 0) h))))
theorem store5_keeps (w : World) (p : Nat) (v0 v1 v2 v3 v4 : Value) : Keeps (fun k => k = p) w (store5 w p v0 v1 v2 v3 v4) :=
  (((((Keeps.refl (fun k => k = p) w).setCell (p := ⟨p, 0, none⟩) (fun _ => rfl) _).setCell (p := ⟨p, 1, none⟩) (fun _ => rfl) _).setCell (p := ⟨p, 2, none⟩) (fun _ => rfl) _).setCell (p := ⟨p, 3, none⟩) (fun _ => rfl) _).setCell (p := ⟨p, 4, none⟩) (fun _ => rfl) _

def noEl : El := ⟨0, 0, 0, [], 0⟩
/-- Peek's answer: the first element, or none. -/
def PeekOut (W : World) (r : Raw) (e : Ending) (W' : World) : Prop :=
  Below W.heap.size W W' ∧ ((r.buffer = [] ∧ e = .returned (.tuple #[elV noEl (.slice none 0 0), .int .i64 8])) ∨ ∃ i is a c, r.buffer = i :: is ∧ e = .returned (.tuple #[elV i.el (.slice a i.el.row.length c), .int .i64 0]) ∧ tRow.rv ((mem W').on (W.heap.size ≤ ·)) [.slice a i.el.row.length c] i.el.row)

theorem WireInv.head {W : World} {base b : Nat} {L : WL} {r : Raw} {i : Item} {is : List Item} (hI : WireInv W base b L r) (hbu : r.buffer = i :: is) : ∃ g off cq a c, L.bv = .slice (some ⟨g, off, none⟩) (is.length + 1) cq ∧ is.length + 1 ≤ cq ∧ cq ≤ maxLen ∧
    W.cell? ⟨g, off, none⟩ = some (.int .i64 i.el.kind) ∧ W.cell? ⟨g, off + 1, none⟩ = some (.int .i64 i.el.n) ∧ W.cell? ⟨g, off + 2, none⟩ = some (.int .i64 i.el.time) ∧ W.cell? ⟨g, off + 3, none⟩ = some (.slice a i.el.row.length c) ∧ W.cell? ⟨g, off + 4, none⟩ = some (.int .i64 i.el.cn) ∧
    W.cell? ⟨g, off + 5, none⟩ = some (ofV i.of) ∧ tRow.rv (mem W) [.slice a i.el.row.length c] i.el.row ∧ i.el.ok := by
  obtain ⟨g, off, cap, cs, h1, h2, h3, ⟨s, rfl, hb, hr⟩, h5⟩ := hI.bf.at (k := 0) (by rw [hbu]; simp)
  have h0 : r.buffer[0]'(by rw [hbu]; simp) = i := by simp [hbu]
  rw [h0] at hr hb h5
  obtain ⟨a, c, rfl, _, _, hr⟩ := slice_form hr
  rw [Nat.zero_mul, Nat.add_zero] at h5
  rw [hbu] at h1 h2
  exact ⟨g, off, cap, a, c, h1, h2, h3, h5 0 _ rfl, h5 1 _ rfl, h5 2 _ rfl, h5 3 _ rfl, h5 4 _ rfl, h5 5 _ rfl, tRow.mono _ _ _ _ (Mem.on_le _ _) hr, ⟨hb.1, hb.2.1, hb.2.2.1, hb.2.2.2⟩⟩

set_option maxRecDepth 100000 in
set_option maxHeartbeats 2000000 in
theorem peek_any (base b : Nat) (L : WL) (r : Raw) (W : World) (hI : WireInv W base b L r) (h8 : ∀ i ∈ r.buffer, i.el.row.length ≤ 1000000) :
    Calls Try.prog 36 #[.pointer (some ⟨b, 0, none⟩)] W (PeekOut W r) := by
  obtain ⟨qv, bv, wm, em, nw, ne, fr⟩ := L
  have hb1 : ∀ o, Below W.heap.size W (W.alloc o) := fun o => (Below.refl _ _).alloc (Nat.le_refl _) o
  have HB1 := Lib.hid hb1
  cases hbu : r.buffer with
  | nil =>
    obtain ⟨aq, cq, hqv, hq1, hq2⟩ := hI.bf.form
    simp only [hbu, List.length_nil] at hqv
    subst hqv
    have c7 : ∀ o, (W.alloc o).cell? ⟨b, 7, none⟩ = some (.slice aq 0 cq) := fun o => (hI.pure (hb1 o)).cell 7
    have HBU := Lib.hid hbu
    clear hI hb1 hbu h8 hq1
    go_enter Try.func36, Try.ntmps36
    go_wp2
    exact bodyPost_ret (v := .tuple #[elV noEl (.slice none 0 0), .int .i64 8]) (by simp [results, Try.results36, go_sem, noEl]) rfl ⟨HB1.out _, .inl ⟨HBU.out, rfl⟩⟩
  | cons i is =>
    obtain ⟨g, off, cq, a, c, hqv, hq1, hq2, c0, c1, c2, c3, c4, _, hr, hok⟩ := hI.head hbu
    simp only at hqv
    subst hqv
    have hg : g < W.heap.size := mem_lt c0
    have h8i := h8 i (by rw [hbu]; simp)
    have c7 : ∀ o, (W.alloc o).cell? ⟨b, 7, none⟩ = some (.slice (some ⟨g, off, none⟩) (is.length + 1) cq) := fun o => (hI.pure (hb1 o)).cell 7
    have d0 : ∀ o, (W.alloc o).cell? ⟨g, off, none⟩ = some (.int .i64 i.el.kind) := fun o => below_mem (hb1 o) _ _ _ c0
    have d1 : ∀ o, (W.alloc o).cell? ⟨g, off + 1, none⟩ = some (.int .i64 i.el.n) := fun o => below_mem (hb1 o) _ _ _ c1
    have d2 : ∀ o, (W.alloc o).cell? ⟨g, off + 2, none⟩ = some (.int .i64 i.el.time) := fun o => below_mem (hb1 o) _ _ _ c2
    have d3 : ∀ o, (W.alloc o).cell? ⟨g, off + 3, none⟩ = some (.slice a i.el.row.length c) := fun o => below_mem (hb1 o) _ _ _ c3
    have d4 : ∀ o, (W.alloc o).cell? ⟨g, off + 4, none⟩ = some (.int .i64 i.el.cn) := fun o => below_mem (hb1 o) _ _ _ c4
    have hpos : (0 : Int) < ((is.length + 1 : Nat) : Int) := by omega
    have HBU := Lib.hid hbu
    have HO := Lib.hid (fun o => own_el i.el _ (W.alloc o) (tRow.mono _ _ _ _ (below_mem (hb1 o)) hr) h8i)
    clear hI hb1 hbu h8 h8i c0 c1 c2 c3 c4 hr hok
    go_enter Try.func36, Try.ntmps36
    go_wp2_with fail
    refine (HO.out _).mono ?_
    rintro e w1 ⟨a4, c4, rfl, hu, hb⟩
    have q := (hb.block W.heap.size (by simp)).trans (heap_alloc_new W _)
    have e0 : w1.cell? ⟨W.heap.size, 0, none⟩ = some (.int .i64 0) := mem_cells q 0
    have e1 : w1.cell? ⟨W.heap.size, 1, none⟩ = some (.int .i64 0) := mem_cells q 1
    have e2 : w1.cell? ⟨W.heap.size, 2, none⟩ = some (.int .i64 0) := mem_cells q 2
    have e3 : w1.cell? ⟨W.heap.size, 3, none⟩ = some (.slice none 0 0) := mem_cells q 3
    have e4 : w1.cell? ⟨W.heap.size, 4, none⟩ = some (.int .i64 0) := mem_cells q 4
    have f : ∀ o, w1.frozen? ⟨W.heap.size, o, none⟩ = false := frozen_cells q
    have HQ := Lib.hid q
    have HU := Lib.hid hu
    have HB := Lib.hid ((HB1.out _).trans (hb.mono (by simp)))
    have HSZ := Lib.hid (show W.heap.size + 1 ≤ w1.heap.size by have := hb.size; simpa using this)
    clear q hu hb d0 d1 d2 d3 d4 c7
    go_wp2
    have r1 := store5_block HQ.out (.int .i64 i.el.kind) (.int .i64 i.el.n) (.int .i64 i.el.time) (.slice a4 i.el.row.length c4) (.int .i64 i.el.cn)
    have hk := store5_keeps w1 W.heap.size (.int .i64 i.el.kind) (.int .i64 i.el.n) (.int .i64 i.el.time) (.slice a4 i.el.row.length c4) (.int .i64 i.el.cn)
    show bodyPost _ _ _ _ _ (store5 w1 W.heap.size (.int .i64 i.el.kind) (.int .i64 i.el.n) (.int .i64 i.el.time) (.slice a4 i.el.row.length c4) (.int .i64 i.el.cn))
    generalize store5 w1 W.heap.size (.int .i64 i.el.kind) (.int .i64 i.el.n) (.int .i64 i.el.time) (.slice a4 i.el.row.length c4) (.int .i64 i.el.cn) = w2 at r1 hk ⊢
    have g0 : w2.cell? ⟨W.heap.size, 0, none⟩ = some (.int .i64 i.el.kind) := mem_cells r1 0
    have g1 : w2.cell? ⟨W.heap.size, 1, none⟩ = some (.int .i64 i.el.n) := mem_cells r1 1
    have g2 : w2.cell? ⟨W.heap.size, 2, none⟩ = some (.int .i64 i.el.time) := mem_cells r1 2
    have g3 : w2.cell? ⟨W.heap.size, 3, none⟩ = some (.slice a4 i.el.row.length c4) := mem_cells r1 3
    have g4 : w2.cell? ⟨W.heap.size, 4, none⟩ = some (.int .i64 i.el.cn) := mem_cells r1 4
    refine bodyPost_ret (v := .tuple #[elV i.el (.slice a4 i.el.row.length c4), .int .i64 0]) (by simp [results, Try.results36, go_sem, g0, g1, g2, g3, g4]) rfl ⟨?_, .inr ⟨i, is, a4, c4, HBU.out, rfl, ?_⟩⟩
    · exact Keeps.belowStep HB.out hk (fun k hk => by omega) HB.out.size
    · exact tRow.mono _ _ _ _ (Mem.le_trans (keeps_mem hk (S := fun b => W.heap.size + 1 ≤ b) (fun b hb => by omega)) (Mem.on_mono _ (fun b hb => by omega))) (by simpa using HU.out)
end Go.Proofs.Ytfkphdmnelchmaa
