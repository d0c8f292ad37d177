/- Part 0 of the texts that the law's proof stands on, merged. -/
import Derived.WalkKit
import Derived.WalkSpells
import Derived.WalkLawsBesides
import Derived.Deep.QuietTactic
import Derived.BigQuiet
import Derived.Lib.Hide
import Derived.ChangeArms
import Derived.Deep.Slices
import Derived.DataReads
import Derived.Carry
import Derived.Deep.RegionLaw
import Derived.Test.YtnfolemblnnejaaGreatRows
import Derived.ProofKit
import Derived.OpenShut
import Derived.ShutString
import Derived.ChangeOld
import Derived.Shelf.SlIterI.Keys
import Derived.Shelf.SlIterI.Sorted
import Derived.Shelf.SlIterI.Nil
import Derived.Shelf.SortM.Plain
import Derived.Shelf.SortM.SortNone
import Derived.Ground.GgzProg
import Derived.Ground.SlgmProg
import Derived.Test.YtnfolemblnnejaaGreatProg
import Derived.Maps.OwnSet
import Derived.Maps.Range
import Derived.Maps.RangeWalk
import Derived.Deep.RegionHeld3
set_option linter.unusedVariables false
set_option linter.unusedSimpArgs false
/- Own words of these proofs: memory as a function of places, readings of Go's types as plain data (Ty), what a call keeps (Keeps), rows of the call's own. No program in sight. -/
namespace Go.Proofs.YtnfolemblnnejaaGreat
open Go.RowKit

def Mem := Nat → Nat → Option Value
def mem (w : World) : Mem := fun b o => w.cell? ⟨b, o, none⟩
open Classical in
noncomputable def Mem.on (m : Mem) (S : Nat → Prop) : Mem := fun b o => if S b then m b o else none
def Mem.le (m m' : Mem) : Prop := ∀ b o v, m b o = some v → m' b o = some v

theorem Mem.le_refl (m : Mem) : m.le m := fun _ _ _ h => h
theorem Mem.le_trans {a b c : Mem} (h : a.le b) (k : b.le c) : a.le c := fun x y v e => k x y v (h x y v e)
theorem Mem.on_le (m : Mem) (S : Nat → Prop) : (m.on S).le m := fun b o v h => by
  unfold Mem.on at h
  split at h
  · exact h
  · cases h
theorem Mem.on_mono (m : Mem) {S S' : Nat → Prop} (h : ∀ b, S b → S' b) : (m.on S).le (m.on S') := fun b o v e => by
  unfold Mem.on at *
  split at e
  · rename_i hs
    rw [if_pos (h b hs)]; exact e
  · cases e
theorem Mem.on_some {m : Mem} {S : Nat → Prop} {b o : Nat} {v : Value} (h : m b o = some v) (hs : S b) : m.on S b o = some v := by
  unfold Mem.on; rw [if_pos hs]; exact h
theorem Mem.of_on {m : Mem} {S : Nat → Prop} {b o : Nat} {v : Value} (h : m.on S b o = some v) : S b ∧ m b o = some v := by
  unfold Mem.on at h
  split at h
  · exact ⟨‹_›, h⟩
  · cases h
theorem mem_lt {w : World} {b o : Nat} {v : Value} (h : mem w b o = some v) : b < w.heap.size := World.block_lt_of_cell? w ⟨b, o, none⟩ h

/-- What a call keeps: outside the blocks F all that was there is there. -/
structure Keeps (F : Nat → Prop) (w w' : World) : Prop where
  os : w'.os = w.os
  tape : w'.tape = w.tape
  output : w'.output = w.output
  size : w.heap.size ≤ w'.heap.size
  block : ∀ k, k < w.heap.size → ¬ F k → w'.heap[k]? = w.heap[k]?

theorem Keeps.refl (F : Nat → Prop) (w : World) : Keeps F w w := ⟨rfl, rfl, rfl, Nat.le_refl _, fun _ _ _ => rfl⟩
theorem Keeps.wide {F G : Nat → Prop} {w w' : World} (h : Keeps F w w') (hFG : ∀ k, k < w.heap.size → F k → G k) : Keeps G w w' :=
  ⟨h.os, h.tape, h.output, h.size, fun k hk hg => h.block k hk (fun hf => hg (hFG k hk hf))⟩
theorem Keeps.trans {F : Nat → Prop} {a b c : World} (h : Keeps F a b) (k : Keeps F b c) : Keeps F a c :=
  ⟨k.os.trans h.os, k.tape.trans h.tape, k.output.trans h.output, Nat.le_trans h.size k.size,
   fun i hi hf => (k.block i (Nat.lt_of_lt_of_le hi h.size) hf).trans (h.block i hi hf)⟩
theorem below_keeps {B : Nat} {w w' : World} (h : Below B w w') : Keeps (fun k => B ≤ k) w w' :=
  ⟨h.os, h.tape, h.output, h.size, fun k _ hk => h.block k (by omega)⟩
theorem Keeps.below {F : Nat → Prop} {w w' : World} (h : Keeps F w w') {B : Nat} (hB : B ≤ w.heap.size) (hF : ∀ k, F k → B ≤ k) : Below B w w' :=
  ⟨h.os, h.tape, h.output, h.size, fun k hk => h.block k (by omega) (fun hf => by have := hF k hf; omega)⟩
theorem below_step {B : Nat} {w wr w1 : World} (h : Below B w wr) (k : Below wr.heap.size wr w1) (hB : B ≤ wr.heap.size) : Below B w w1 := h.trans (k.mono hB)
theorem pure_trans {w wr w1 : World} (h : Below w.heap.size w wr) (k : Below wr.heap.size wr w1) : Below w.heap.size w w1 := h.trans (k.mono h.size)
theorem grown_keeps {w w' : World} {r : Option Nat} (h : w.grownBy w' r) : Keeps (fun k => some k = r) w w' :=
  ⟨h.os, h.tape, h.output, h.size, fun k hk hf => h.block k hk hf⟩
theorem Keeps.alloc {F : Nat → Prop} {a w : World} (h : Keeps F a w) (o : Obj) : Keeps F a (w.alloc o) :=
  h.trans ⟨rfl, rfl, rfl, by simp, fun k hk _ => Below.heap_alloc _ _ _ hk⟩
theorem Keeps.drew {F : Nat → Prop} {a w : World} (h : Keeps F a w) : Keeps F a w.drew := ⟨h.os, h.tape, h.output, h.size, h.block⟩
theorem Keeps.drewN {F : Nat → Prop} {a w : World} (h : Keeps F a w) (n : Nat) : Keeps F a (w.drewN n) := ⟨h.os, h.tape, h.output, h.size, h.block⟩
theorem Keeps.setCell {F : Nat → Prop} {a w : World} (h : Keeps F a w) {p : Addr} (hp : p.block < a.heap.size → F p.block) (u : Value) : Keeps F a (w.setCell p u) :=
  ⟨h.os, h.tape, h.output, by have := h.size; simpa [World.setCell] using this, fun k hk hf => (Below.heap_setCell _ _ _ _ (fun e => hf (by subst e; exact hp hk))).trans (h.block k hk hf)⟩
theorem Keeps.belowStep {F : Nat → Prop} {B : Nat} {w wr w1 : World} (h : Below B w wr) (k : Keeps F wr w1) (hF : ∀ k, F k → B ≤ k) (hB : B ≤ wr.heap.size) : Below B w w1 := h.trans (k.below hB hF)
theorem Keeps.pure {F : Nat → Prop} {a w w' : World} (h : Keeps F a w) (k : Below w.heap.size w w') : Keeps F a w' :=
  ⟨k.os.trans h.os, k.tape.trans h.tape, k.output.trans h.output, Nat.le_trans h.size k.size, fun i hi hf => (k.block i (Nat.lt_of_lt_of_le hi h.size)).trans (h.block i hi hf)⟩

theorem mem_of_block {w w' : World} {b : Nat} (h : w'.heap[b]? = w.heap[b]?) (o : Nat) : mem w' b o = mem w b o := World.cell?_of_block (w := w) (w' := w') (a := ⟨b, o, none⟩) h
theorem keeps_mem {F : Nat → Prop} {w w' : World} (h : Keeps F w w') {S : Nat → Prop} (hS : ∀ b, S b → ¬ F b) : ((mem w).on S).le ((mem w').on S) := fun b o v e => by
  obtain ⟨hs, e⟩ := Mem.of_on e
  exact Mem.on_some ((mem_of_block (h.block b (mem_lt e) (hS b hs)) o).trans e) hs
theorem keeps_mem' {F : Nat → Prop} {w w' : World} (h : Keeps F w w') {S : Nat → Prop} (hS : ∀ b, S b → ¬ F b) : ((mem w).on S).le (mem w') := Mem.le_trans (keeps_mem h hS) (Mem.on_le _ _)
theorem below_mem {w w' : World} (h : Below w.heap.size w w') : (mem w).le (mem w') := fun b o v e => (mem_of_block (h.block b (mem_lt e)) o).trans e
theorem below_memOn {B : Nat} {w w' : World} (h : Below B w w') : ((mem w).on (· < B)).le ((mem w').on (· < B)) := keeps_mem (below_keeps h) (fun b hb hn => by omega)
theorem mem_on_lt (w : World) : (mem w).le ((mem w).on (· < w.heap.size)) := fun _ _ _ e => Mem.on_some e (mem_lt e)
theorem mem_drewN (w : World) (n : Nat) : mem (w.drewN n) = mem w := rfl
theorem mem_drew (w : World) : mem w.drew = mem w := rfl

/-- How the cells of a value read as plain data. -/
structure Ty (α : Type) where
  sz : Nat
  rv : Mem → List Value → α → Prop
  len : ∀ m cs x, rv m cs x → cs.length = sz
  mono : ∀ m m' cs x, m.le m' → rv m cs x → rv m' cs x

def inI64 (n : Int) : Prop := -9223372036854775808 ≤ n ∧ n ≤ 9223372036854775807

def tInt : Ty Int := ⟨1, fun _ cs x => cs = [.int .i64 x] ∧ inI64 x, fun _ _ _ h => by rw [h.1]; rfl, fun _ _ _ _ _ h => h⟩
def tBool : Ty Bool := ⟨1, fun _ cs x => cs = [.bool x], fun _ _ _ h => by rw [h]; rfl, fun _ _ _ _ _ h => h⟩
def tStr : Ty ByteArray := ⟨1, fun _ cs x => cs = [.string x] ∧ x.size ≤ maxLen, fun _ _ _ h => by rw [h.1]; rfl, fun _ _ _ _ _ h => h⟩

/-- The cells of an element at a place. -/
def At (m : Mem) (b o : Nat) (cs : List Value) : Prop := ∀ j v, cs[j]? = some v → m b (o + j) = some v
theorem At.mono {m m' : Mem} {b o : Nat} {cs : List Value} (h : m.le m') (k : At m b o cs) : At m' b o cs := fun j v e => h _ _ _ (k j v e)
def Ty.at {α : Type} (t : Ty α) (m : Mem) (b o : Nat) (x : α) : Prop := ∃ cs, At m b o cs ∧ t.rv m cs x
theorem Ty.at_mono {α : Type} (t : Ty α) {m m' : Mem} {b o : Nat} {x : α} (h : m.le m') (k : t.at m b o x) : t.at m' b o x :=
  let ⟨cs, h1, h2⟩ := k; ⟨cs, h1.mono h, t.mono _ _ _ _ h h2⟩

def SliceRv {α : Type} (t : Ty α) (m : Mem) (cs : List Value) (xs : List α) : Prop :=
  ∃ a cap, cs = [.slice a xs.length cap] ∧ xs.length ≤ cap ∧ cap ≤ maxLen ∧
    (0 < xs.length → ∃ b o, a = some ⟨b, o, none⟩ ∧ ∀ k, (hk : k < xs.length) → t.at m b (o + k * t.sz) xs[k])
def tSlice {α : Type} (t : Ty α) : Ty (List α) where
  sz := 1
  rv := SliceRv t
  len := fun _ _ _ ⟨_, _, h, _⟩ => by rw [h]; rfl
  mono := fun m m' _ _ h ⟨a, cap, h1, h2, h3, h4⟩ => ⟨a, cap, h1, h2, h3, fun h0 => let ⟨b, o, e, hk⟩ := h4 h0; ⟨b, o, e, fun k hk' => t.at_mono h (hk k hk')⟩⟩

theorem slice_nil {α : Type} (t : Ty α) (m : Mem) : (tSlice t).rv m [.slice none 0 0] [] := ⟨none, 0, rfl, Nat.le_refl _, Nat.zero_le _, fun h => absurd h (by simp)⟩

/-- A slice's element: the cells at its place. -/
theorem slice_at {α : Type} {t : Ty α} {m : Mem} {a : Option Addr} {n cap : Nat} {xs : List α} (h : (tSlice t).rv m [.slice a n cap] xs) {k : Nat} (hk : k < xs.length) :
    ∃ b o, a = some ⟨b, o, none⟩ ∧ t.at m b (o + k * t.sz) xs[k] := by
  obtain ⟨a', cap', e, _, _, h4⟩ := h
  obtain ⟨b, o, ha, hat⟩ := h4 (by omega)
  simp only [List.cons.injEq, Value.slice.injEq, and_true] at e
  exact ⟨b, o, e.1.trans ha, hat k hk⟩
theorem slice_len {α : Type} {t : Ty α} {m : Mem} {a : Option Addr} {n cap : Nat} {xs : List α} (h : (tSlice t).rv m [.slice a n cap] xs) : n = xs.length ∧ xs.length ≤ cap ∧ cap ≤ maxLen := by
  obtain ⟨a', cap', e, h1, h2, _⟩ := h
  simp only [List.cons.injEq, Value.slice.injEq, and_true] at e
  obtain ⟨rfl, rfl, rfl⟩ := e
  exact ⟨rfl, h1, h2⟩
theorem slice_form {α : Type} {t : Ty α} {m : Mem} {v : Value} {xs : List α} (h : (tSlice t).rv m [v] xs) : ∃ a cap, v = .slice a xs.length cap ∧ xs.length ≤ cap ∧ cap ≤ maxLen ∧ (tSlice t).rv m [.slice a xs.length cap] xs := by
  have h0 := h
  obtain ⟨a', cap', e, h1, h2, _⟩ := h
  simp only [List.cons.injEq, and_true] at e
  exact ⟨a', cap', e, h1, h2, e ▸ h0⟩
/-- Elements of one cell. -/
theorem int_at {m : Mem} {b o : Nat} {x : Int} (h : tInt.at m b o x) : m b o = some (.int .i64 x) ∧ inI64 x := by
  obtain ⟨cs, h1, rfl, h3⟩ := h
  exact ⟨h1 0 _ rfl, h3⟩
theorem str_at {m : Mem} {b o : Nat} {x : ByteArray} (h : tStr.at m b o x) : m b o = some (.string x) ∧ x.size ≤ maxLen := by
  obtain ⟨cs, h1, rfl, h3⟩ := h
  exact ⟨h1 0 _ rfl, h3⟩
theorem slice_cell {α : Type} {t : Ty α} {m : Mem} {b o : Nat} {xs : List α} (h : (tSlice t).at m b o xs) : ∃ v, m b o = some v ∧ (tSlice t).rv m [v] xs := by
  obtain ⟨cs, h1, h2⟩ := h
  have hl := (tSlice t).len _ _ _ h2
  match cs, hl with
  | [v], _ => exact ⟨v, h1 0 _ rfl, h2⟩

/-! ### Rows of the call's own -/

/-- The slice value v owns its elements: they read as xs, and their deep parts do not lie in the row itself. -/
def Owns {α : Type} (t : Ty α) (w : World) (B : Nat) (e : TypeId) (v : Value) (xs : List α) : Prop :=
  ∃ css : List (List Value), css.length = xs.length ∧ w.ownsRow B e t.sz v xs.length css.flatten ∧ (∀ c ∈ css, c.length = t.sz) ∧
    ∀ k, (h : k < css.length) → (h' : k < xs.length) → t.rv ((mem w).on (fun b => some b ≠ v.ownBlock)) css[k] xs[k]

theorem Owns.nil {α : Type} (t : Ty α) (w : World) (B : Nat) (e : TypeId) : Owns t w B e (.slice none 0 0) [] :=
  ⟨[], rfl, World.ownsRow_nil w B e t.sz, fun c h => absurd h (by simp), fun k h => absurd h (by simp)⟩

theorem flatten_get {β : Type} {s : Nat} : ∀ (css : List (List β)), (∀ c ∈ css, c.length = s) → ∀ (k : Nat) (h : k < css.length) (j : Nat) (v : β), css[k][j]? = some v → css.flatten[k * s + j]? = some v
  | c :: css, hc, 0, _, j, v, e => by
    simp only [List.getElem_cons_zero] at e
    rw [List.flatten_cons, Nat.zero_mul, Nat.zero_add, List.getElem?_append_left (List.getElem?_eq_some_iff.1 e).1]
    exact e
  | c :: css, hc, k + 1, h, j, v, e => by
    have hl : c.length = s := hc c (by simp)
    rw [List.flatten_cons, List.getElem?_append_right (by rw [hl, Nat.succ_mul]; omega), hl, show (k + 1) * s + j - s = k * s + j by rw [Nat.succ_mul]; omega]
    exact flatten_get css (fun c hm => hc c (by simp [hm])) k (by simpa using h) j v (by simpa using e)

theorem Owns.rv {α : Type} {t : Ty α} {w : World} {B : Nat} {e : TypeId} {v : Value} {xs : List α} (h : Owns t w B e v xs) {S : Nat → Prop} (hS : ∀ b, B ≤ b → S b)
    (hd : ∀ k cs, (hk : k < xs.length) → t.rv ((mem w).on (fun b => some b ≠ v.ownBlock)) cs xs[k] → t.rv ((mem w).on S) cs xs[k]) : (tSlice t).rv ((mem w).on S) [v] xs := by
  obtain ⟨css, h1, ⟨h2, h3⟩, h4, h5⟩ := h
  rcases h3 with ⟨rfl, h6⟩ | ⟨g, cap, cur, rfl, hg, hh, hn, hm, hc, ht⟩
  · have : xs = [] := List.eq_nil_of_length_eq_zero h6
    subst this
    exact slice_nil t _
  · refine ⟨some ⟨g, 0, none⟩, cap, rfl, hn, hm, fun _ => ⟨g, 0, rfl, fun k hk => ⟨css[k], fun j u hu => ?_, hd k _ hk (h5 k (by omega) hk)⟩⟩⟩
    have hf := flatten_get css h4 k (by omega) j u hu
    rw [← ht] at hf
    rw [List.getElem?_take] at hf
    split at hf
    · rw [Nat.zero_add]
      refine Mem.on_some ?_ (hS g hg)
      show World.cell? w ⟨g, k * t.sz + j, none⟩ = some u
      rw [cell_of_row w g (k * t.sz + j) cur e (0, 0) hh]
      simpa using hf
    · cases hf

theorem Owns.rv' {α : Type} {t : Ty α} {w : World} {B : Nat} {e : TypeId} {v : Value} {xs : List α} (h : Owns t w B e v xs) : (tSlice t).rv (mem w) [v] xs :=
  (tSlice t).mono _ _ _ _ (Mem.on_le _ (fun _ => True)) (h.rv (fun _ _ => trivial) (fun _ cs _ hk => t.mono _ _ cs _ (Mem.on_mono _ (fun _ _ => trivial)) hk))
theorem Owns.len {α : Type} {t : Ty α} {w : World} {B : Nat} {e : TypeId} {v : Value} {xs : List α} (h : Owns t w B e v xs) : ∃ a cap, v = .slice a xs.length cap ∧ xs.length ≤ maxLen := by
  obtain ⟨a, cap, h1, h2, h3, _⟩ := slice_form h.rv'
  exact ⟨a, cap, h1, Nat.le_trans h2 h3⟩

/-- An owned row over a call that keeps it. -/
theorem Owns.keeps {α : Type} {t : Ty α} {w w' : World} {B : Nat} {e : TypeId} {v : Value} {xs : List α} (h : Owns t w B e v xs) (hb : Below w.heap.size w w') : Owns t w' B e v xs := by
  obtain ⟨css, h1, ⟨h2, h3⟩, h4, h5⟩ := h
  refine ⟨css, h1, ⟨h2, ?_⟩, h4, fun k h h' => t.mono _ _ _ _ (fun b o u e => ?_) (h5 k h h')⟩
  · rcases h3 with h3 | ⟨g, cap, cur, rfl, hg, hh, r⟩
    · exact .inl h3
    · exact .inr ⟨g, cap, cur, rfl, hg, by rw [hb.block g (Array.getElem?_eq_some_iff.1 hh).1]; exact hh, r⟩
  · obtain ⟨hs, e⟩ := Mem.of_on e
    exact Mem.on_some (below_mem hb _ _ _ e) hs

/-- A reading that asks nothing of memory. -/
def Ty.flat {α : Type} (t : Ty α) : Prop := ∀ m m' cs x, t.rv m cs x → t.rv m' cs x
theorem tInt_flat : tInt.flat := fun _ _ _ _ h => h
theorem tBool_flat : tBool.flat := fun _ _ _ _ h => h
theorem tStr_flat : tStr.flat := fun _ _ _ _ h => h
theorem Owns.keepsFlat {α : Type} {t : Ty α} {w w' : World} {B : Nat} {e : TypeId} {v : Value} {xs : List α} (h : Owns t w B e v xs) (hf : t.flat) {F : Nat → Prop} (hk : Keeps F w w') (hF : ∀ k, v.ownBlock = some k → ¬ F k) : Owns t w' B e v xs := by
  obtain ⟨css, h1, ⟨h2, h3⟩, h4, h5⟩ := h
  refine ⟨css, h1, ⟨h2, ?_⟩, h4, fun k h h' => hf _ _ _ _ (h5 k h h')⟩
  rcases h3 with h3 | ⟨g, cap, cur, rfl, hg, hh, r⟩
  · exact .inl h3
  · exact .inr ⟨g, cap, cur, rfl, hg, by rw [hk.block g (Array.getElem?_eq_some_iff.1 hh).1 (hF g rfl)]; exact hh, r⟩

theorem Owns.lt {α : Type} {t : Ty α} {w : World} {B : Nat} {e : TypeId} {v : Value} {xs : List α} (h : Owns t w B e v xs) : ∀ k, v.ownBlock = some k → B ≤ k ∧ k < w.heap.size := let ⟨_, _, h2, _⟩ := h; h2.lt

/-- What stands behind an append of one element: the row owns one more. -/
theorem Owns.snoc {α : Type} {t : Ty α} {w w' : World} {B : Nat} {e : TypeId} {v v' : Value} {xs : List α} {x : α} {cs : List Value} (h : Owns t w B e v xs)
    (hw : ∀ css : List (List Value), w.ownsRow B e t.sz v xs.length css.flatten → w'.ownsRow B e t.sz v' (xs.length + 1) (css.flatten ++ cs)) (hg : w.grownBy w' v.ownBlock)
    (hv : v'.ownBlock = v.ownBlock ∨ ∀ k, v'.ownBlock = some k → w.heap.size ≤ k)
    (hx : t.rv ((mem w).on (fun b => some b ≠ v.ownBlock)) cs x) : Owns t w' B e v' (xs ++ [x]) := by
  obtain ⟨css, h1, h2, h4, h5⟩ := h
  have hle : ((mem w).on (fun b => some b ≠ v.ownBlock)).le ((mem w').on (fun b => some b ≠ v'.ownBlock)) := fun b o u e => by
    obtain ⟨hs, e⟩ := Mem.of_on e
    refine Mem.on_some ((mem_of_block (hg.block b (mem_lt e) hs) o).trans e) ?_
    rcases hv with hv | hv
    · rw [hv]; exact hs
    · intro hk
      have := hv b hk.symm
      have := mem_lt e
      omega
  refine ⟨css ++ [cs], by simp [h1], ?_, ?_, ?_⟩
  · have := hw css h2
    simpa using this
  · intro c hc
    rcases List.mem_append.1 hc with hc | hc
    · exact h4 c hc
    · simp at hc; subst hc; exact t.len _ _ _ hx
  · intro k hk hk'
    by_cases hlt : k < xs.length
    · rw [List.getElem_append_left (by omega), List.getElem_append_left hlt]
      exact t.mono _ _ _ _ hle (h5 k (by omega) hlt)
    · have : k = xs.length := by simp at hk'; omega
      subst this
      rw [List.getElem_append_right (by omega), List.getElem_append_right (by omega)]
      simp only [h1, Nat.sub_self, List.getElem_cons_zero]
      exact t.mono _ _ _ _ hle hx

theorem mem_cells_new (w : World) (cs : Array Value) (T : TypeId) (f : Nat × Nat) (o : Nat) : (w.alloc (.cells cs T f)).cell? ⟨w.heap.size, o, none⟩ = cs[o]? := by
  have h := heap_alloc_new w (.cells cs T f)
  generalize w.alloc (.cells cs T f) = w' at h ⊢
  simp [World.cell?, h]
theorem Owns.alloc {α : Type} {t : Ty α} {w : World} {B : Nat} {e : TypeId} {v : Value} {xs : List α} (h : Owns t w B e v xs) (o : Obj) : Owns t (w.alloc o) B e v xs :=
  h.keeps ((Below.refl _ _).alloc (Nat.le_refl _) o)
theorem Owns.drew {α : Type} {t : Ty α} {w : World} {B : Nat} {e : TypeId} {v : Value} {xs : List α} (h : Owns t w B e v xs) : Owns t w.drew B e v xs :=
  h.keeps (Below.refl _ _).drew

section
variable {P : Program}
/-- Where an append has put its row: in the same one, or in a new one. -/
theorem append_block (w : World) (base : Nat) (t ty e : TypeId) (i : TypeInfo) (z : Value) (size bytes : Nat) (ht : P.underlying t = some (.slice e)) (hi : P.info? e = some i) (hz : i.zero = some z)
    (hsize : i.size = size) (hby : i.bytes = bytes) (v : Value) (n : Nat) (xs : List Value) (hown : w.ownsRow base e size v n xs)
    (a : Addr) (m c : Nat) (news : List Value) (hl : news.length = m * size) (hnews : ∀ j u, news[j]? = some u → w.cell? (a.add j) = some u) (h1 : ∀ u ∈ news, u.oneCell' = true)
    (hm : 0 < m) (h63 : n + m ≤ maxLen) (hbytes : (n + m) * bytes ≤ 140737488355328) {v' : Value} {w' : World}
    (hr : (Builtin.append_ #[t, t] ty #[v, .slice (some a) m c]).run P w = .ok v' w') : v'.ownBlock = v.ownBlock ∨ ∀ k, v'.ownBlock = some k → w.heap.size ≤ k := by
  subst hsize
  subst hby
  have h9 : n + m ≤ 9223372036854775807 := by unfold maxLen at h63; exact h63
  rcases hown.2 with ⟨rfl, rfl⟩ | ⟨g, cap, cur, rfl, hbg, hg, hnc, hcm, hcs, htake⟩
  · rw [run_append_nil (P := P) w t ty e i z ht hi hz a m c news hl hnews hm (by omega) (by have hb := hbytes; simp only [Nat.zero_add] at hb; omega)] at hr
    injection hr with hv _
    subst hv
    right; intro k hk
    simp [Value.ownBlock] at hk
    omega
  · by_cases hroom : n + m ≤ cap
    · have hfit : n * i.size + news.length ≤ cur.size := by rw [hl, hcs, ← Nat.add_mul]; exact Nat.mul_le_mul_right _ hroom
      rw [run_append_room (P := P) w t ty e i ht hi g n cap cur hg a m c news hl hnews h1 hroom hfit] at hr
      injection hr with hv _
      subst hv
      left; rfl
    · rw [run_append_grow (P := P) w t ty e i z ht hi hz ⟨g, 0, none⟩ n cap xs hown.1 (hown.cells (g := g) rfl) a m c news hl hnews (by omega) (by omega) (growslice_fits (by omega) hbytes)] at hr
      injection hr with hv _
      subst hv
      right; intro k hk
      simp [Value.ownBlock] at hk
      omega

/-- APPEND OF ONE ELEMENT to a row of the call's own, in readings. -/
theorem wpList_append_one {α : Type} {ops : Array Oper} {rest : List Oper} {o : Oper} {a : Act} {Q : Exit → Act → World → Prop} {w : World} (hgd : o.guard = none) (s x : Operand) (T : TypeId)
    (ho : o.op = .call { callee := .builtin .append, args := #[s, x], argTypes := #[T, T] }) (t : Ty α) {e : TypeId} {z : Value} {bytes : Nat} (hT : P.underlying T = some (.slice e))
    (hinf : (P.info? e).map (fun i => (i.zero, i.size, i.bytes)) = some (some z, t.sz, bytes)) (hzs : z.cells.size = t.sz) (hsz : 0 < t.sz) (B : Nat) (v : Value) (xs : List α) (hs : a.eval s = v) (hown : Owns t w B e v xs)
    (nb c : Nat) (y : α) (hx : a.eval x = .slice (some ⟨nb, 0, none⟩) 1 c) (cs : List Value) (hat : At (mem w) nb 0 cs) (hrv : t.rv ((mem w).on (fun b => some b ≠ v.ownBlock)) cs y) (h1 : ∀ u ∈ cs, u.oneCell' = true)
    (h63 : xs.length + 1 ≤ maxLen) (hbytes : (xs.length + 1) * bytes ≤ 140737488355328) (hbase : B ≤ w.heap.size)
    (h : ∀ v' w', Owns t w' B e v' (xs ++ [y]) → w.grownBy w' v.ownBlock → (v'.ownBlock = v.ownBlock ∨ ∀ k, v'.ownBlock = some k → w.heap.size ≤ k) → wpList P ops Q rest (a.put o.dst v') w') : wpList P ops Q (o :: rest) a w := by
  obtain ⟨i, hi, hz, hsize, hby⟩ := info_parts hinf
  have hown' := hown
  obtain ⟨css, g1, g2, g4, g5⟩ := hown
  have hl : cs.length = 1 * t.sz := by rw [t.len _ _ _ hrv, Nat.one_mul]
  have hnews : ∀ j u, cs[j]? = some u → w.cell? ((⟨nb, 0, none⟩ : Addr).add j) = some u := fun j u hj => by rw [Addr.add_lit]; exact hat j u hj
  refine wpList_plain hgd fun K hK => ?_
  obtain ⟨v', w', hr, h2, h3, _⟩ := run_append_own (P := P) w B T o.type e i z t.sz bytes hT hi hz hsize hby hzs hsz v xs.length css.flatten g2 ⟨nb, 0, none⟩ 1 c cs hl hnews h1 h63 hbytes hbase
  have hblk := append_block w B T o.type e i z t.sz bytes hT hi hz hsize hby v xs.length css.flatten g2 ⟨nb, 0, none⟩ 1 c cs hl hnews h1 (by omega) h63 hbytes hr
  have key : Owns t w' B e v' (xs ++ [y]) := by
    refine hown'.snoc (fun css' hc' => ?_) h3 hblk hrv
    obtain ⟨v2, w2, hr2, h22, _, _⟩ := run_append_own (P := P) w B T o.type e i z t.sz bytes hT hi hz hsize hby hzs hsz v xs.length css'.flatten hc' ⟨nb, 0, none⟩ 1 c cs hl hnews h1 h63 hbytes hbase
    rw [hr] at hr2
    injection hr2 with ev ew
    subst ev; subst ew
    exact h22
  unfold Oper.wp execOp
  simp only [ho, resolve, invoke, builtin, Sem.run_bind, Sem.run_pure, Result.andThen_ok, List.map_toArray, List.map_cons, List.map_nil, hs, hx, hr]
  exact hK _ _ (h v' w' key h3 hblk)
end

theorem cell_new {w : World} {cs : Array Value} {T : TypeId} {f : Nat × Nat} {b : Nat} (o : Nat) (h : b = w.heap.size) : (w.alloc (.cells cs T f)).cell? ⟨b, o, none⟩ = cs[o]? := by
  subst h; exact mem_cells_new w cs T f o
/-- Append of one number. -/
theorem wpList_append_int {P : Program} {ops : Array Oper} {rest : List Oper} {o : Oper} {a : Act} {Q : Exit → Act → World → Prop} {w : World} (hgd : o.guard = none) (s x : Operand) (T : TypeId)
    (ho : o.op = .call { callee := .builtin .append, args := #[s, x], argTypes := #[T, T] }) {e : TypeId} (hT : P.underlying T = some (.slice e))
    (hinf : (P.info? e).map (fun i => (i.zero, i.size, i.bytes)) = some (some (.int .i64 0), 1, 8)) (B : Nat) (v : Value) (xs : List Int) (hs : a.eval s = v) (hown : Owns tInt w B e v xs)
    (nb c : Nat) (y : Int) (hx : a.eval x = .slice (some ⟨nb, 0, none⟩) 1 c) (hc : w.cell? ⟨nb, 0, none⟩ = some (.int .i64 y)) (hin : inI64 y) (hlen : xs.length ≤ 1000000000) (hbase : B ≤ w.heap.size)
    (h : ∀ v' w', Owns tInt w' B e v' (xs ++ [y]) → w.grownBy w' v.ownBlock → (v'.ownBlock = v.ownBlock ∨ ∀ k, v'.ownBlock = some k → w.heap.size ≤ k) → wpList P ops Q rest (a.put o.dst v') w') : wpList P ops Q (o :: rest) a w :=
  wpList_append_one hgd s x T ho tInt hT hinf rfl (by decide) B v xs hs hown nb c y hx [.int .i64 y] (fun j u hj => by match j, hj with | 0, hj => simp at hj; subst hj; exact hc) ⟨rfl, hin⟩ (fun u hu => by simp at hu; subst hu; rfl) (by unfold maxLen; omega) (by omega) hbase h

section
variable {P : Program}
/-- COPY of elements of whatever size into a block that is known whole. -/
theorem run_copy_cells (w : World) (dT sT ty elem : TypeId) (g o dLen dCap : Nat) (a : Addr) (sLen sCap n : Nat) (cur : Array Value) (t : TypeId) (cs : List Value) (sz : Nat)
    (hu : P.underlying dT = some (.slice elem)) (hs : (P.info? elem).map (·.size) = some sz)
    (hg : w.heap[g]? = some (.cells cur t (0, 0))) (hn : n = Nat.min sLen dLen) (hl : cs.length = n * sz)
    (hsrc : ∀ j v, cs[j]? = some v → w.cell? (a.add j) = some v) (hfit : o + cs.length ≤ cur.size) (h1 : ∀ v ∈ cs, v.oneCell' = true) :
    (Builtin.copy_ #[dT, sT] ty #[.slice (some ⟨g, o, none⟩) dLen dCap, .slice (some a) sLen sCap]).run P w =
      .ok (goInt n) (w.setRow g (cur.toList.take o ++ cs ++ cur.toList.drop (o + cs.length)).toArray) := by
  subst hn
  cases hq : P.info? elem with
  | none => simp [hq] at hs
  | some i =>
    simp only [hq, Option.map_some, Option.some.injEq] at hs
    subst hs
    have hf := run_firstCells_some (P := P) w i.size (Nat.min sLen dLen) a sLen sCap cs hl hsrc
    have hst := run_storeCells_at P g o t cs 0 cur w hg (by simpa using hfit) h1
    simp only [Nat.add_zero] at hst
    simp [Builtin.copy_, run_underlying hu, Builtin.lenOf, sizeOf, typeInfo, hq, hf, hst]

theorem wpList_copy_cells {w : World} {ops : Array Oper} {rest : List Oper} {o : Oper} {a : Act} {Q : Exit → Act → World → Prop} (hgd : o.guard = none) (d s : Operand) (dT sT : TypeId)
    (ho : o.op = .call { callee := .builtin .copy, args := #[d, s], argTypes := #[dT, sT] }) (elem sz : Nat) (hu : P.underlying dT = some (.slice elem)) (hs : (P.info? elem).map (·.size) = some sz)
    (g off dLen dCap : Nat) (ad : Addr) (sLen sCap n : Nat) (hd : a.eval d = .slice (some ⟨g, off, none⟩) dLen dCap) (hsv : a.eval s = .slice (some ad) sLen sCap)
    (cur : Array Value) (t : TypeId) (hg : w.heap[g]? = some (.cells cur t (0, 0))) (cs : List Value) (hn : n = Nat.min sLen dLen) (hl : cs.length = n * sz)
    (hsrc : ∀ j v, cs[j]? = some v → w.cell? (ad.add j) = some v) (hfit : off + cs.length ≤ cur.size) (h1 : ∀ v ∈ cs, v.oneCell' = true)
    (h : wpList P ops Q rest (a.put o.dst (goInt n)) (w.setRow g (cur.toList.take off ++ cs ++ cur.toList.drop (off + cs.length)).toArray)) : wpList P ops Q (o :: rest) a w := by
  refine wpList_plain hgd fun K hK => ?_
  have hrun := run_copy_cells (P := P) w dT sT o.type elem g off dLen dCap ad sLen sCap n cur t cs sz hu hs hg hn hl hsrc hfit h1
  unfold Oper.wp
  rw [List.append_assoc] at h
  simp [execOp, ho, resolve, invoke, builtin, hd, hsv, hrun, Result.andThen]
  exact hK _ _ h
end

/-- COPY as one step of a region that draws its order. -/
theorem step_copy_cells {P : Program} {ops : Array Oper} {o : Oper} {a : Act} {w : World} {K : Act → World → Prop} {Q : Exit → Act → World → Prop} {E : Prop} (hgd : o.guard = none) (d s : Operand) (dT sT : TypeId)
    (ho : o.op = .call { callee := .builtin .copy, args := #[d, s], argTypes := #[dT, sT] }) (elem sz : Nat) (hu : P.underlying dT = some (.slice elem)) (hs : (P.info? elem).map (·.size) = some sz)
    (g off dLen dCap : Nat) (ad : Addr) (sLen sCap n : Nat) (hd : a.eval d = .slice (some ⟨g, off, none⟩) dLen dCap) (hsv : a.eval s = .slice (some ad) sLen sCap)
    (cur : Array Value) (t : TypeId) (hg : w.heap[g]? = some (.cells cur t (0, 0))) (cs : List Value) (hn : n = Nat.min sLen dLen) (hl : cs.length = n * sz)
    (hsrc : ∀ j v, cs[j]? = some v → w.cell? (ad.add j) = some v) (hfit : off + cs.length ≤ cur.size) (h1 : ∀ v ∈ cs, v.oneCell' = true)
    (h : K (a.put o.dst (goInt n)) (w.setRow g (cur.toList.take off ++ cs ++ cur.toList.drop (off + cs.length)).toArray)) :
    if Region.wanted o (yielded ops a.tmps) = true then Oper.wp P o a w K Q else E := by
  have hw : Region.wanted o (yielded ops a.tmps) = true := by simp [Region.wanted, hgd]
  rw [if_pos hw]
  have hrun := run_copy_cells (P := P) w dT sT o.type elem g off dLen dCap ad sLen sCap n cur t cs sz hu hs hg hn hl hsrc hfit h1
  unfold Oper.wp
  rw [List.append_assoc] at h
  simp [execOp, ho, resolve, invoke, builtin, hd, hsv, hrun, Result.andThen]
  exact h

theorem frozen_cells {w : World} {b : Nat} {c : Array Value} {t : TypeId} (h : w.heap[b]? = some (.cells c t (0, 0))) (o : Nat) : w.frozen? ⟨b, o, none⟩ = false := by simp [World.frozen?, h]
theorem mem_cells {w : World} {b : Nat} {c : Array Value} {t : TypeId} {f : Nat × Nat} (h : w.heap[b]? = some (.cells c t f)) (o : Nat) : mem w b o = c[o]? := by simp [mem, World.cell?, h]

theorem setRow_facts {w0 w : World} {B g : Nat} {cur new : Array Value} {t : TypeId} (hb : Below B w0 w) (hB : B ≤ g) (hg : w.heap[g]? = some (.cells cur t (0, 0))) :
    (w.setRow g new).heap[g]? = some (.cells new t (0, 0)) ∧ Below B w0 (w.setRow g new) := by
  refine ⟨setRow_heap w g cur new t _ hg, hb.trans ⟨rfl, rfl, rfl, ?_, fun k hk => setRow_other w g k _ (by omega)⟩⟩
  simp [World.setRow]

/-! ### From the reading of an argument to plain data -/
section
variable {H : Type} {enc : TypeId × Value → H} {P : Program}
def Reads (P : Program) (T : TypeId) {α : Type} (t : Ty α) : Prop :=
  ∀ (H : Type) (enc : TypeId × Value → H) (w : World) (n : Nat) (cs : List Value) (d : DataW H × List MemPlace), DataW.trod enc P w 0 (fun _ => true) true n T cs = some d → ∃ x, t.rv (mem w) cs x
theorem reads_int {T : TypeId} (ht : P.underlying T = some (.int .i64)) : Reads P T tInt := fun _ _ _ _ _ _ h => by
  obtain ⟨n, h1, _, h3⟩ := DataW.trod_int ht h
  refine ⟨n, h1, ?_⟩
  have : -9223372036854775808 ≤ n ∧ n ≤ 9223372036854775807 := by simpa [Lit.wf, IntKind.min, IntKind.max, IntKind.signed, IntKind.bits] using h3
  exact this
theorem reads_bool {T : TypeId} (ht : P.underlying T = some .bool) : Reads P T tBool := fun _ _ _ _ _ _ h => by
  obtain ⟨n, h1, _⟩ := DataW.trod_bool ht h
  exact ⟨n, h1⟩
theorem reads_str {T : TypeId} (ht : P.underlying T = some .string) : Reads P T tStr := fun _ _ _ _ _ _ h => by
  obtain ⟨n, h1, _, h3⟩ := DataW.trod_string ht h
  exact ⟨n, h1, h3⟩
theorem reads_slice {T E : TypeId} {α : Type} [Inhabited α] {t : Ty α} (ht : P.underlying T = some (.slice E)) (hc : P.cellsOf E = t.sz) (hpos : 0 < t.sz) (hE : Reads P E t) : Reads P T (tSlice t) := fun H enc w n cs d h => by
  rcases Deep.open_slice ht h with ⟨rfl, _⟩ | ⟨a, len, cap, m, n', D, Pl, rfl, _, hl, hm, hmm, _, hi⟩
  · exact ⟨[], slice_nil t _⟩
  have hm' : m = cap := by simpa using hmm
  have hx : ∀ i, i < len → ∃ x, ∃ cs', w.cells? 0 (a.add (i * t.sz)) t.sz = some cs' ∧ t.rv (mem w) cs' x := fun i hil => by
    obtain ⟨cs', h1, h2⟩ := hi i (by omega)
    obtain ⟨x, hx⟩ := hE H enc w _ _ _ h2
    rw [hc] at h1
    exact ⟨x, cs', h1, hx⟩
  obtain ⟨f, hf⟩ := Deep.choose_lt hx
  refine ⟨(List.range len).map f, some a, cap, by simp, by simpa using hl, hm, fun h0 => ?_⟩
  have h0' : 0 < len := by simpa using h0
  obtain ⟨cs0, h1, h2⟩ := hf 0 h0'
  obtain ⟨_, hlen, hat⟩ := World.cells?_some h1
  have hsp : a.spot = none := by
    have := hat 0 hpos
    rw [Nat.zero_mul, Addr.add_zero', Addr.add_zero'] at this
    rw [List.getElem?_eq_getElem (by omega)] at this
    unfold World.cell? at this
    split at this
    · split at this
      · cases this
      · rename_i hns; simpa using hns
    · cases this
  obtain ⟨b, o, sp⟩ := a
  simp only at hsp
  subst hsp
  refine ⟨b, o, rfl, fun k hk => ?_⟩
  have hk' : k < len := by simpa using hk
  obtain ⟨cs', g1, g2⟩ := hf k hk'
  obtain ⟨_, glen, gat⟩ := World.cells?_some g1
  refine ⟨cs', fun j v hv => ?_, by simpa using g2⟩
  have hj : j < cs'.length := (List.getElem?_eq_some_iff.1 hv).1
  have := gat j (by omega)
  rw [Addr.add_lit, Addr.add_lit] at this
  exact this.trans hv
theorem field_read {T : TypeId} {α : Type} {t : Ty α} (hR : Reads P T t) {w : World} {n i : Nat} {cs : List Value} {xs : List (DataW H × List MemPlace)} {f : Field} (o k : Nat) (hF : f.type = T) (ho : f.offset = o) (hk : P.cellsOf T = k)
    (hg : DataW.trod enc P w 0 (fun _ => true) true n f.type ((cs.drop f.offset).take (P.cellsOf f.type)) = xs[i]?) (hi : i < xs.length) : ∃ x, t.rv (mem w) ((cs.drop o).take k) x := by
  subst hF; subst ho; subst hk
  exact hR H enc w n _ xs[i] (hg.trans (List.getElem?_eq_getElem hi))
end
end Go.Proofs.YtnfolemblnnejaaGreat
/- The frame of a law's statement: what is common to all laws. -/
namespace Go.Proofs.YtnfolemblnnejaaGreat
open Go.ChangeShapes Go.WideShapes Go.ChangeAt Go.RowKit

theorem Tryz.own : ownKnob Tryz.prog.godebug = none := by kernel_rfl
theorem Tryz.laidOut : laidOutB Tryz.prog = true := by kernel_rfl

theorem args_below {H : Type} {enc : TypeId × Value → H} {P : Program} (hl : laidOutB P = true) {W W' : World} (hb : Below W.heap.size W W') : ∀ (ts : List TypeId) (vs : List Value) (ds : List (DataW H)) (ps : List MemPlace),
    (∀ t ∈ ts, P.readableRec t = true ∧ t < P.types.size) → DataW.TrodAll enc P W 0 (fun _ => true) true ts vs ds ps → DataW.TrodAll enc P W' 0 (fun b => decide (b < W.heap.size)) true ts vs ds ps
  | [], [], [], _, _, h => h
  | t :: ts, v :: vs, d :: ds, ps, hr, h => by
    obtain ⟨p, q, h1, h2, rfl⟩ := h
    obtain ⟨r1, r2⟩ := hr t (by simp)
    have lt0 : ∀ x ∈ p, x.block < W.heap.size := by obtain ⟨m, hm⟩ := h1; exact DataW.trod_lt m _ _ _ hm
    exact ⟨p, q, Below.trod hl r1 r2 h1 hb lt0, args_below hl hb ts vs ds q (fun t ht => hr t (by simp [ht])) h2, rfl⟩
  | [], _ :: _, _, _, _, h => h.elim
  | [], [], _ :: _, _, _, h => h.elim
  | _ :: _, [], _, _, _, h => h.elim
  | _ :: _, _ :: _, [], _, _, h => h.elim

theorem law_post {H : Type} {enc : TypeId × Value → H} {P : Program} {f : Func} {s : ChangeSpec} {W W' : World} {args : Array Value} {ds gs : List (DataW H)} {before : List MemPlace} (hl : laidOutB P = true) (hv : s.vars = [])
    (hread : ∀ t ∈ f.params.toList, P.readableRec t = true ∧ t < P.types.size) {T : TypeId} (hres : f.resultTypes = #[T]) (hT : P.underlying T = some .bool)
    (hfr : (s.fn H (ds ++ gs)).results = [.lit (.bool true)]) (hfa : (s.fn H (ds ++ gs)).args = ds) (hfv : (s.fn H (ds ++ gs)).vars = [])
    (hW : DataW.Whole enc P f.params.toList s.vars false W args.toList ds gs before) (hb : Below W.heap.size W W') : s.post enc P f false true false false W args (.bool true) W' := by
  have hW' := hW
  obtain ⟨p, q, hA, hV, rfl, _, _⟩ := hW
  refine ⟨ds, gs, _, [], p, [], hW', ?_, ?_, ?_, hb.frame _, fun h => by cases h⟩
  · rw [hfr, hres]
    exact trodAll_mk1 (shut_bool hT _)
  · rw [hfa]
    exact args_below hl hb _ _ _ _ hread hA
  · rw [hfv, hv]; rfl

/-- A slice among the arguments, as plain data. -/
theorem arg_slice {H : Type} {enc : TypeId × Value → H} {P : Program} {W : World} {T E : TypeId} {v : Value} {d : DataW H} {p : List MemPlace} {α : Type} {t : Ty α} (hR : Reads P T (tSlice t)) (hT : P.underlying T = some (.slice E)) {r : Reach} {base : Nat}
    (hval : Value.okWide P W r base T v) (h : DataW.Trod enc P W 0 (fun _ => true) true T v d p) : ∃ xs, (tSlice t).rv (mem W) [v] xs := by
  obtain ⟨a0, len0, cap0, rfl⟩ := okWide_slice hT hval
  obtain ⟨fuel, hf⟩ := h
  obtain ⟨x, hx⟩ := hR H enc W fuel _ _ hf
  exact ⟨x, by simpa [Value.cells] using hx⟩
theorem arg_int {H : Type} {enc : TypeId × Value → H} {P : Program} {W : World} {T : TypeId} {v : Value} {d : DataW H} {p : List MemPlace} (hT : P.underlying T = some (.int .i64)) {r : Reach} {base : Nat}
    (hval : Value.okWide P W r base T v) (h : DataW.Trod enc P W 0 (fun _ => true) true T v d p) : ∃ n, v = .int .i64 n ∧ inI64 n := by
  obtain ⟨n, rfl, _, _, hw⟩ := open_int hT hval h
  refine ⟨n, rfl, ?_⟩
  have : -9223372036854775808 ≤ n ∧ n ≤ 9223372036854775807 := by simpa [Lit.wf, IntKind.min, IntKind.max, IntKind.signed, IntKind.bits] using hw
  exact this
theorem arg_str {H : Type} {enc : TypeId × Value → H} {P : Program} {W : World} {T : TypeId} {v : Value} {d : DataW H} {p : List MemPlace} (hT : P.underlying T = some .string) {r : Reach} {base : Nat}
    (hval : Value.okWide P W r base T v) (h : DataW.Trod enc P W 0 (fun _ => true) true T v d p) : ∃ s, v = .string s ∧ s.size ≤ maxLen := by
  obtain ⟨s, rfl, _, _, hs⟩ := Go.ChangeMaps.open_string hT hval h
  exact ⟨s, rfl, hs⟩
end Go.Proofs.YtnfolemblnnejaaGreat
/- Arguments that are structs or arrays, as plain data; pairs of numbers. -/
namespace Go.Proofs.YtnfolemblnnejaaGreat
open Go.ChangeShapes Go.WideShapes Go.ChangeAt Go.RowKit

def tInt2 : Ty (Int × Int) := ⟨2, fun _ cs x => cs = [.int .i64 x.1, .int .i64 x.2] ∧ inI64 x.1 ∧ inI64 x.2, fun _ _ _ h => by rw [h.1]; rfl, fun _ _ _ _ _ h => h⟩
theorem tInt2_flat : tInt2.flat := fun _ _ _ _ h => h
theorem int2_at {m : Mem} {b o : Nat} {x : Int × Int} (h : tInt2.at m b o x) : m b o = some (.int .i64 x.1) ∧ m b (o + 1) = some (.int .i64 x.2) ∧ inI64 x.1 ∧ inI64 x.2 := by
  obtain ⟨cs, h1, rfl, h3, h4⟩ := h
  exact ⟨h1 0 _ rfl, h1 1 _ rfl, h3, h4⟩
theorem reads_int2 {P : Program} {T E : TypeId} (ht : P.underlying T = some (.array 2 E)) (hE : P.underlying E = some (.int .i64)) (hc : P.cellsOf E = 1) (hT : P.cellsOf T = 2) : Reads P T tInt2 := fun H enc w n cs d h => by
  obtain ⟨xs, m, _, _, hl, hx, hg⟩ := DataW.trod_array ht h
  rw [hT] at hl
  rw [hc] at hg
  match cs, hl with
  | [c0, c1], _ =>
    have g0 := hg 0 (by omega)
    have g1 := hg 1 (by omega)
    simp only [Nat.zero_mul, List.drop_zero, List.take_succ_cons, List.take_zero, Nat.one_mul, List.drop_succ_cons] at g0 g1
    obtain ⟨x0, r0, i0⟩ := reads_int hE H enc w m [c0] xs[0] (g0.trans (List.getElem?_eq_getElem (by omega)))
    obtain ⟨x1, r1, i1⟩ := reads_int hE H enc w m [c1] xs[1] (g1.trans (List.getElem?_eq_getElem (by omega)))
    simp only [List.cons.injEq, and_true] at r0 r1
    exact ⟨(x0, x1), by rw [r0, r1], i0, i1⟩
theorem arg_array {H : Type} {enc : TypeId × Value → H} {P : Program} {W : World} {T E : TypeId} {k : Nat} {v : Value} {d : DataW H} {p : List MemPlace} {α : Type} {t : Ty α} (hR : Reads P T t) (hT : P.underlying T = some (.array k E)) {r : Reach} {base : Nat}
    (hval : Value.okWide P W r base T v) (h : DataW.Trod enc P W 0 (fun _ => true) true T v d p) : ∃ x cs, v = .agg cs ∧ t.rv (mem W) cs.toList x := by
  unfold Value.okWide at hval
  rw [hT] at hval
  obtain ⟨cs, rfl, _⟩ := hval
  obtain ⟨fuel, hf⟩ := h
  obtain ⟨x, hx⟩ := hR H enc W fuel _ _ hf
  exact ⟨x, cs, rfl, by simpa [Value.cells] using hx⟩
theorem arg_struct {H : Type} {enc : TypeId × Value → H} {P : Program} {W : World} {T : TypeId} {fs : Array Field} {v : Value} {d : DataW H} {p : List MemPlace} {α : Type} {t : Ty α} (hR : Reads P T t) (hT : P.underlying T = some (.struct fs)) {r : Reach} {base : Nat}
    (hval : Value.okWide P W r base T v) (h : DataW.Trod enc P W 0 (fun _ => true) true T v d p) : ∃ x cs, v = .agg cs ∧ t.rv (mem W) cs.toList x := by
  unfold Value.okWide at hval
  rw [hT] at hval
  obtain ⟨cs, rfl, _⟩ := hval
  obtain ⟨fuel, hf⟩ := h
  obtain ⟨x, hx⟩ := hR H enc W fuel _ _ hf
  exact ⟨x, cs, rfl, by simpa [Value.cells] using hx⟩
end Go.Proofs.YtnfolemblnnejaaGreat
/-
  DERIVED: THE SHELF's CONTRACTS AT THIS DUMP, IN PLAIN WORDS (tools/lay-plain.mjs out of 'TryShelfZ24.lean', which tools/lay-shelf.mjs wrote): THE SAME DECLARATIONS UNDER THE SAME NAMES: 'import', 'namespace', 'open', 'def', 'theorem' AND NOTHING ELSE: no command of the shelf's: FOR A HAND-IN. Each laying: the table of numbers ('.._ren') and one theorem, a field a fact of the dump's own or the kernel's comparison; each contract: ONE APPLICATION.
-/
namespace Go.Proofs
open Go.Shelf
def Tryz.keys73_ren : Go.Shelf.Ren := ⟨fun | 7 => 73 | 10 => 89 | n => n, fun | 23 => 49 | 26 => 3 | 3 => 81 | 28 => 124 | 0 => 0 | 27 => 123 | 33 => 94 | 4 => 4 | n => n, fun | n => n⟩
theorem Tryz.keys73 : Go.Proofs.SlLaysZI.n7 Tryz.prog Tryz.keys73_ren := {
  mixed := by kernel_rfl
  f7 := ⟨Tryz.f73.name, by decide, Tryz.func73.trans (congrArg some (by kernel_rfl))⟩
  f10 := ⟨Tryz.f89.name, by decide, Tryz.func89.trans (congrArg some (by kernel_rfl))⟩
  t0 := Tryz.underlying0
  a0 := Tryz.isAgg0
  z0 := Tryz.sizeOf0
  v0 := Tryz.zeroValue0
  t4 := Tryz.underlying4
  a4 := Tryz.isAgg4
  z4 := Tryz.sizeOf4
  v4 := Tryz.zeroValue4
  t23 := Tryz.underlying49
  a23 := Tryz.isAgg49
  z23 := Tryz.sizeOf49
  v23 := Tryz.zeroValue49
  t26 := Tryz.underlying3
  a26 := Tryz.isAgg3
  z26 := Tryz.sizeOf3
  v26 := Tryz.zeroValue3
  t27 := Tryz.underlying123
  a27 := Tryz.isAgg123
  z27 := Tryz.sizeOf123
  v27 := Tryz.zeroValue123
  t28 := Tryz.underlying124
  a28 := Tryz.isAgg124
  z28 := Tryz.sizeOf124
  v28 := Tryz.zeroValue124
  t33 := Tryz.underlying94
  a33 := Tryz.isAgg94
  z33 := Tryz.sizeOf94
  v33 := Tryz.zeroValue94 }
def Tryz.sorted72_ren : Go.Shelf.Ren := ⟨fun | 6 => 72 | 8 => 87 | 9 => 88 | 11 => 98 | 13 => 91 | 12 => 99 | 23 => 108 | 24 => 109 | 14 => 125 | 15 => 126 | 16 => 127 | 17 => 128 | 18 => 129 | 19 => 130 | 20 => 131 | 21 => 132 | 22 => 133 | 25 => 143 | 26 => 135 | 27 => 136 | 28 => 144 | 29 => 145 | 30 => 139 | 31 => 148 | n => n, fun | 26 => 3 | 28 => 124 | 24 => 46 | 0 => 0 | 3 => 3 | 37 => 135 | 48 => 150 | 50 => 82 | 4 => 4 | 40 => 143 | 39 => 142 | 45 => 147 | 5 => 5 | 9 => 9 | 51 => 166 | 55 => 170 | 57 => 176 | 58 => 177 | 33 => 94 | n => n, fun | n => n⟩
theorem Tryz.sorted72 : Go.Proofs.SlLaysZI.n6 Tryz.prog Tryz.sorted72_ren := {
  mixed := by kernel_rfl
  f6 := ⟨Tryz.f72.name, by decide, Tryz.func72.trans (congrArg some (by kernel_rfl))⟩
  f8 := ⟨Tryz.f87.name, by decide, Tryz.func87.trans (congrArg some (by kernel_rfl))⟩
  f11 := ⟨Tryz.f98.name, by decide, Tryz.func98.trans (congrArg some (by kernel_rfl))⟩
  t0 := Tryz.underlying0
  a0 := Tryz.isAgg0
  z0 := Tryz.sizeOf0
  v0 := Tryz.zeroValue0
  t24 := Tryz.underlying46
  a24 := Tryz.isAgg46
  z24 := Tryz.sizeOf46
  v24 := Tryz.zeroValue46
  t26 := Tryz.underlying3
  a26 := Tryz.isAgg3
  z26 := Tryz.sizeOf3
  v26 := Tryz.zeroValue3
  t28 := Tryz.underlying124
  a28 := Tryz.isAgg124
  z28 := Tryz.sizeOf124
  v28 := Tryz.zeroValue124
  i26 := by kernel_rfl }
def Tryz.sortI88_ren : Go.Shelf.Ren := ⟨fun | 5 => 88 | 8 => 91 | 7 => 99 | 19 => 108 | 20 => 109 | 10 => 125 | 11 => 126 | 12 => 127 | 13 => 128 | 14 => 129 | 15 => 130 | 16 => 131 | 17 => 132 | 18 => 133 | 30 => 143 | 31 => 135 | 32 => 136 | 33 => 144 | 34 => 145 | 35 => 139 | 40 => 148 | n => n, fun | 23 => 46 | 25 => 3 | 3 => 3 | 32 => 135 | 22 => 46 | 0 => 0 | 44 => 150 | 46 => 82 | 4 => 4 | 36 => 143 | 35 => 142 | 41 => 147 | 5 => 5 | 9 => 9 | 53 => 166 | 57 => 170 | 63 => 176 | 64 => 177 | n => n, fun | n => n⟩
theorem Tryz.sortI88 : Go.Proofs.SlLaysM.n5 Tryz.prog Tryz.sortI88_ren := {
  mixed := by kernel_rfl
  f5 := ⟨Tryz.f88.name, by decide, Tryz.func88.trans (congrArg some (by kernel_rfl))⟩
  f7 := ⟨Tryz.f99.name, by decide, Tryz.func99.trans (congrArg some (by kernel_rfl))⟩
  f8 := Tryz.func91.trans (congrArg some (by kernel_rfl))
  f10 := ⟨Tryz.f125.name, by decide, Tryz.func125.trans (congrArg some (by kernel_rfl))⟩
  f11 := ⟨Tryz.f126.name, by decide, Tryz.func126.trans (congrArg some (by kernel_rfl))⟩
  f12 := ⟨Tryz.f127.name, by decide, Tryz.func127.trans (congrArg some (by kernel_rfl))⟩
  f13 := ⟨Tryz.f128.name, by decide, Tryz.func128.trans (congrArg some (by kernel_rfl))⟩
  f14 := ⟨Tryz.f129.name, by decide, Tryz.func129.trans (congrArg some (by kernel_rfl))⟩
  f15 := ⟨Tryz.f130.name, by decide, Tryz.func130.trans (congrArg some (by kernel_rfl))⟩
  f16 := ⟨Tryz.f131.name, by decide, Tryz.func131.trans (congrArg some (by kernel_rfl))⟩
  f17 := ⟨Tryz.f132.name, by decide, Tryz.func132.trans (congrArg some (by kernel_rfl))⟩
  f18 := ⟨Tryz.f133.name, by decide, Tryz.func133.trans (congrArg some (by kernel_rfl))⟩
  f19 := Tryz.func108.trans (congrArg some (by kernel_rfl))
  f20 := Tryz.func109.trans (congrArg some (by kernel_rfl))
  f30 := ⟨Tryz.f143.name, by decide, Tryz.func143.trans (congrArg some (by kernel_rfl))⟩
  f31 := Tryz.func135.trans (congrArg some (by kernel_rfl))
  f32 := Tryz.func136.trans (congrArg some (by kernel_rfl))
  f33 := ⟨Tryz.f144.name, by decide, Tryz.func144.trans (congrArg some (by kernel_rfl))⟩
  f34 := ⟨Tryz.f145.name, by decide, Tryz.func145.trans (congrArg some (by kernel_rfl))⟩
  f35 := ⟨Tryz.f139.name, by decide, Tryz.func139.trans (congrArg some (by kernel_rfl))⟩
  f40 := ⟨Tryz.f148.name, by decide, Tryz.func148.trans (congrArg some (by kernel_rfl))⟩
  t0 := Tryz.underlying0
  a0 := Tryz.isAgg0
  z0 := Tryz.sizeOf0
  v0 := Tryz.zeroValue0
  t3 := Tryz.underlying3
  a3 := Tryz.isAgg3
  z3 := Tryz.sizeOf3
  v3 := Tryz.zeroValue3
  t4 := Tryz.underlying4
  a4 := Tryz.isAgg4
  z4 := Tryz.sizeOf4
  v4 := Tryz.zeroValue4
  t5 := Tryz.underlying5
  a5 := Tryz.isAgg5
  z5 := Tryz.sizeOf5
  v5 := Tryz.zeroValue5
  t9 := Tryz.underlying9
  a9 := Tryz.isAgg9
  z9 := Tryz.sizeOf9
  v9 := Tryz.zeroValue9
  t22 := Tryz.underlying46
  a22 := Tryz.isAgg46
  z22 := Tryz.sizeOf46
  v22 := Tryz.zeroValue46
  t23 := Tryz.underlying46
  a23 := Tryz.isAgg46
  z23 := Tryz.sizeOf46
  v23 := Tryz.zeroValue46
  t25 := Tryz.underlying3
  a25 := Tryz.isAgg3
  z25 := Tryz.sizeOf3
  v25 := Tryz.zeroValue3
  t32 := Tryz.underlying135
  a32 := Tryz.isAgg135
  z32 := Tryz.sizeOf135
  v32 := Tryz.zeroValue135
  t35 := Tryz.underlying142
  a35 := Tryz.isAgg142
  z35 := Tryz.sizeOf142
  v35 := Tryz.zeroValue142
  t36 := Tryz.underlying143
  a36 := Tryz.isAgg143
  z36 := Tryz.sizeOf143
  v36 := Tryz.zeroValue143
  t41 := Tryz.underlying147
  a41 := Tryz.isAgg147
  z41 := Tryz.sizeOf147
  v41 := Tryz.zeroValue147
  t44 := Tryz.underlying150
  a44 := Tryz.isAgg150
  z44 := Tryz.sizeOf150
  v44 := Tryz.zeroValue150
  t46 := Tryz.underlying82
  a46 := Tryz.isAgg82
  z46 := Tryz.sizeOf82
  v46 := Tryz.zeroValue82
  t53 := Tryz.underlying166
  a53 := Tryz.isAgg166
  z53 := Tryz.sizeOf166
  v53 := Tryz.zeroValue166
  t57 := Tryz.underlying170
  a57 := Tryz.isAgg170
  z57 := Tryz.sizeOf170
  v57 := Tryz.zeroValue170
  t63 := Tryz.underlying176
  a63 := Tryz.isAgg176
  z63 := Tryz.sizeOf176
  v63 := Tryz.zeroValue176
  t64 := Tryz.underlying177
  a64 := Tryz.isAgg177
  z64 := Tryz.sizeOf177
  v64 := Tryz.zeroValue177 }
end Go.Proofs
/- Orders: comparison functions, bytes: plain (XOrd's first part). -/
namespace Go.Proofs.YtnfolemblnnejaaGreat

def bl (s : ByteArray) : List UInt8 := s.data.toList
theorem bl_inj {s t : ByteArray} (h : bl s = bl t) : s = t := by
  cases s; cases t; simpa [bl] using h

structure Good {α : Type} (c : α → α → Int) : Prop where
  refl : ∀ a, c a a = 0
  anti : ∀ a b, c b a = - c a b
  range : ∀ a b, c a b = -1 ∨ c a b = 0 ∨ c a b = 1
  trans : ∀ a b d, c a b ≤ 0 → c b d ≤ 0 → c a d ≤ 0 ∧ (c a d = 0 → c a b = 0 ∧ c b d = 0)

def cmpInt (a b : Int) : Int := if a < b then -1 else if b < a then 1 else 0
theorem cmpInt_good : Good cmpInt := by
  refine ⟨fun a => ?_, fun a b => ?_, fun a b => ?_, fun a b d => ?_⟩ <;> unfold cmpInt
  · simp
  · repeat' split
    all_goals omega
  · repeat' split
    all_goals omega
  · repeat' split
    all_goals omega
theorem Good.pull {α β : Type} {c : β → β → Int} (h : Good c) (f : α → β) : Good (fun a b => c (f a) (f b)) :=
  ⟨fun a => h.refl _, fun a b => h.anti _ _, fun a b => h.range _ _, fun a b d => h.trans _ _ _⟩
def lex {α : Type} (c1 c2 : α → α → Int) (a b : α) : Int := if c1 a b ≠ 0 then c1 a b else c2 a b
theorem lex_good {α : Type} {c1 c2 : α → α → Int} (h1 : Good c1) (h2 : Good c2) : Good (lex c1 c2) := by
  refine ⟨fun a => ?_, fun a b => ?_, fun a b => ?_, fun a b d => ?_⟩ <;> unfold lex
  · rw [h1.refl, h2.refl]; simp
  · have e1 := h1.anti a b
    have e2 := h2.anti a b
    repeat' split
    all_goals omega
  · have e1 := h1.range a b
    have e2 := h2.range a b
    split
    all_goals omega
  · have r1 := h1.range a b
    have r2 := h1.range b d
    have r3 := h1.range a d
    have t1 := h1.trans a b d
    have t2 := h2.trans a b d
    by_cases hx : c1 a b ≤ 0
    · by_cases hy : c1 b d ≤ 0
      · have t1 := t1 hx hy
        by_cases hx2 : c2 a b ≤ 0
        · by_cases hy2 : c2 b d ≤ 0
          · have t2 := t2 hx2 hy2
            repeat' split
            all_goals omega
          · repeat' split
            all_goals omega
        · repeat' split
          all_goals omega
      · repeat' split
        all_goals omega
    · repeat' split
      all_goals omega
def lexList {α : Type} (c : α → α → Int) : List α → List α → Int
  | [], [] => 0
  | [], _ :: _ => -1
  | _ :: _, [] => 1
  | a :: l, b :: m => if c a b ≠ 0 then c a b else lexList c l m
theorem lexList_good {α : Type} {c : α → α → Int} (h : Good c) : Good (lexList c) := by
  have hrefl : ∀ a, lexList c a a = 0 := fun a => by
    induction a with
    | nil => rfl
    | cons x l ih => simp [lexList, h.refl, ih]
  have hanti : ∀ a b, lexList c b a = - lexList c a b := fun a => by
    induction a with
    | nil => intro b; cases b <;> rfl
    | cons x l ih =>
      intro b
      cases b with
      | nil => rfl
      | cons y m =>
        have e1 := h.anti x y
        have e2 := ih m
        simp only [lexList]
        repeat' split
        all_goals omega
  have hrange : ∀ a b, lexList c a b = -1 ∨ lexList c a b = 0 ∨ lexList c a b = 1 := fun a => by
    induction a with
    | nil => intro b; cases b <;> simp [lexList]
    | cons x l ih =>
      intro b
      cases b with
      | nil => simp [lexList]
      | cons y m =>
        have e1 := h.range x y
        have e2 := ih m
        simp only [lexList]
        split
        all_goals omega
  refine ⟨hrefl, hanti, hrange, fun a => ?_⟩
  induction a with
  | nil =>
    intro b d
    cases b <;> cases d <;> simp [lexList]
  | cons x l ih =>
    intro b d
    cases b with
    | nil => simp [lexList]
    | cons y m =>
      cases d with
      | nil =>
        intro h1 h2
        simp [lexList] at h2
      | cons z n =>
        have r1 := h.range x y
        have r2 := h.range y z
        have r3 := h.range x z
        have t1 := h.trans x y z
        have t2 := ih m n
        simp only [lexList]
        by_cases hx : c x y ≤ 0
        · by_cases hy : c y z ≤ 0
          · have t1 := t1 hx hy
            by_cases hx2 : lexList c l m ≤ 0
            · by_cases hy2 : lexList c m n ≤ 0
              · have t2 := t2 hx2 hy2
                repeat' split
                all_goals omega
              · repeat' split
                all_goals omega
            · repeat' split
              all_goals omega
          · repeat' split
            all_goals omega
        · repeat' split
          all_goals omega

def cmpBytes : List UInt8 → List UInt8 → Int := lexList (fun a b => cmpInt a.toNat b.toNat)
theorem cmpBytes_good : Good cmpBytes := lexList_good (cmpInt_good.pull (fun a : UInt8 => (a.toNat : Int)))
theorem bytesLess_cmp : ∀ a b : List UInt8, Op.bytesLess a b = decide (cmpBytes a b < 0)
  | [], [] => rfl
  | [], _ :: _ => rfl
  | _ :: _, [] => rfl
  | a :: x, b :: y => by
    have ih := bytesLess_cmp x y
    have e : (a < b) = (a.toNat < b.toNat) := rfl
    simp only [Op.bytesLess, ih, cmpBytes, lexList, cmpInt]
    by_cases h1 : a.toNat < b.toNat
    · have h1' : a < b := h1
      simp [h1, h1']
    · have h1' : ¬ a < b := h1
      by_cases h2 : b.toNat < a.toNat
      · have h3 : (a == b) = false := by
          rw [beq_eq_false_iff_ne]; rintro rfl; omega
        simp [h3, h1', h1, h2]
      · obtain rfl : a = b := UInt8.toNat_inj.1 (by omega)
        simp [cmpBytes]
theorem bytesEq_cmp (a b : List UInt8) : (a == b) = decide (cmpBytes a b = 0) := by
  induction a generalizing b with
  | nil => cases b <;> rfl
  | cons x l ih =>
    cases b with
    | nil => rfl
    | cons y m =>
      rw [List.cons_beq_cons, ih m]
      simp only [cmpBytes, lexList, cmpInt]
      by_cases h : x = y
      · subst h; simp
      · have h3 : (x == y) = false := by rw [beq_eq_false_iff_ne]; exact h
        have h4 : ¬ x.toNat = y.toNat := fun e => h (UInt8.toNat_inj.1 e)
        rw [h3]
        simp
        repeat' split
        all_goals first | omega | simp
theorem bytesGtr_cmp (a b : List UInt8) : (!(Op.bytesLess a b || a == b)) = decide (0 < cmpBytes a b) := by
  rw [bytesLess_cmp, bytesEq_cmp]
  by_cases h : 0 < cmpBytes a b
  · have h1 : ¬ cmpBytes a b < 0 := by omega
    have h2 : ¬ cmpBytes a b = 0 := by omega
    simp [h, h1, h2]
  · by_cases h1 : cmpBytes a b < 0
    · simp [h, h1]
    · have h2 : cmpBytes a b = 0 := by omega
      simp [h2]

theorem cmpBytes_eq {a b : List UInt8} (h : cmpBytes a b = 0) : a = b := by
  have := bytesEq_cmp a b
  rw [h] at this
  simpa using this
end Go.Proofs.YtnfolemblnnejaaGreat
/- row.Name, its reference (printed by gen_vent.py out of chapter 02's texts). -/
namespace Go.Proofs.YtnfolemblnnejaaGreat
open Go.RowKit
def idxOf {α : Type} (p : α → Bool) (l : List α) : Int := match l.findIdx? p with | none => -1 | some i => i
theorem idxOf_any {α : Type} (p : α → Bool) (l : List α) : decide (0 ≤ idxOf p l) = l.any p := by
  unfold idxOf
  cases h : l.findIdx? p with
  | none =>
    rw [List.findIdx?_eq_none_iff] at h
    have : l.any p = false := by simpa using h
    rw [this]; rfl
  | some i =>
    rw [List.findIdx?_eq_some_iff_getElem] at h
    obtain ⟨h1, h2, _⟩ := h
    have : l.any p = true := List.any_eq_true.2 ⟨l[i], List.getElem_mem h1, h2⟩
    rw [this]; simp
theorem idxOf_none {α : Type} {p : α → Bool} {l : List α} (h : ∀ x ∈ l, p x = false) : idxOf p l = -1 := by
  unfold idxOf
  rw [List.findIdx?_eq_none_iff.2 (by simpa using h)]
theorem idxOf_at {α : Type} {p : α → Bool} {l : List α} {k : Nat} (hk : k < l.length) (hp : p l[k] = true) (h : ∀ x ∈ l.take k, p x = false) : idxOf p l = k := by
  unfold idxOf
  have : l.findIdx? p = some k := by
    rw [List.findIdx?_eq_some_iff_getElem]
    refine ⟨hk, hp, fun j hj => ?_⟩
    have := h l[j] (List.mem_take_iff_getElem.2 ⟨j, by omega, rfl⟩)
    simp [this]
  rw [this]

theorem mem_take_snoc {α : Type} {l : List α} {k : Nat} (hk : k < l.length) {q : α → Prop} (h : ∀ x ∈ l.take k, q x) (hx : q l[k]) : ∀ x ∈ l.take (k + 1), q x := fun x hm => by
  rw [List.take_succ_eq_append_getElem hk] at hm
  rcases List.mem_append.1 hm with hm | hm
  · exact h x hm
  · simp at hm; subst hm; exact hx

def rowWithinF : Nat := 71
set_option maxHeartbeats 400000 in
theorem rowWithin_any (n lo hi : Int) (w : World) :
    Calls Tryz.prog 71 #[.int .i64 n, .int .i64 lo, .int .i64 hi] w fun e w' => e = .returned (.bool (decide (lo ≤ n ∧ n ≤ hi))) ∧ w = w' := by
  by_cases h1 : lo ≤ n <;> by_cases h2 : n ≤ hi
  all_goals
    go_enter Tryz.func71, Tryz.ntmps71
    go_wp2
    go_ret
    exact ⟨by simp [*], rfl⟩
set_option maxHeartbeats 400000 in
theorem refRowWithin_any (n lo hi : Int) (w : World) :
    Calls Tryz.prog 80 #[.int .i64 n, .int .i64 lo, .int .i64 hi] w fun e w' => e = .returned (.bool (decide (lo ≤ n ∧ n ≤ hi))) ∧ w = w' := by
  by_cases h1 : lo ≤ n <;> by_cases h2 : n ≤ hi
  all_goals
    go_enter Tryz.func80, Tryz.ntmps80
    go_wp2
    go_ret
    exact ⟨by simp [*], rfl⟩

def lowC (c : Int) : Bool := decide (97 ≤ c ∧ c ≤ 122)
def nameOk (i : Nat) (c : Int) : Bool := lowC c || (decide (i ≠ 0) && (decide (48 ≤ c ∧ c ≤ 57) || decide (c = 95)))
def byteAt (s : ByteArray) (i : Nat) : Int := (s.data.toList.getD i 0).toNat
def isName (s : ByteArray) : Bool := (List.range s.size).all (fun i => nameOk i (byteAt s i)) && decide (1 ≤ s.size ∧ s.size ≤ 16)
theorem isName_all {s : ByteArray} (h : ∀ i, i < s.size → nameOk i (byteAt s i) = true) : isName s = decide (1 ≤ (s.size : Int) ∧ (s.size : Int) ≤ 16) := by
  unfold isName
  have : (List.range s.size).all (fun i => nameOk i (byteAt s i)) = true := by rw [List.all_eq_true]; intro i hi; exact h i (by simpa using hi)
  rw [this, Bool.true_and]
  congr 1
  apply propext; omega
theorem isName_bad {s : ByteArray} {i : Nat} (hi : i < s.size) (h : nameOk i (byteAt s i) = false) : isName s = false := by
  unfold isName
  have : (List.range s.size).all (fun i => nameOk i (byteAt s i)) = false := by rw [List.all_eq_false]; exact ⟨i, by simpa using hi, by simp [h]⟩
  rw [this]; rfl
theorem isName_size {s : ByteArray} (h : isName s = true) : 1 ≤ s.size ∧ s.size ≤ 16 := by
  unfold isName at h
  rw [Bool.and_eq_true] at h
  simpa using h.2
theorem byteAt_get (s : ByteArray) (k : Nat) (h : k < s.size) : ((s[k]).toNat : Int) = byteAt s k := by
  unfold byteAt
  have h' : k < s.data.toList.length := h
  rw [List.getD_eq_getElem?_getD, List.getElem?_eq_getElem h', Option.getD_some]
  rfl

set_option maxHeartbeats 1000000 in
theorem rowName_any (s : ByteArray) (w : World) (hs : s.size ≤ maxLen) :
    Calls Tryz.prog 39 #[.string s] w fun e w' => e = .returned (.bool (isName s)) ∧ w = w' := by
  unfold maxLen at hs
  go_enter Tryz.func39, Tryz.ntmps39
  go_wp2
  go_loop [7] (fun i => ∃ k : Nat, k ≤ s.size ∧ i = .int .i64 k ∧ Hid (∀ i, i < k → nameOk i (byteAt s i) = true)) (fun i => s.size - (intOf i).toNat)
  case atStart => exact ⟨0, by omega, rfl, Lib.hid (fun i hi => absurd hi (by omega))⟩
  case round =>
    obtain ⟨k, hk, rfl, HT⟩ := hrel
    by_cases hlt : k < s.size
    · have HB := Lib.hid (byteAt_get s k hlt)
      have HN := Lib.hid (show nameOk k (byteAt s k) = true → ∀ i, i < k + 1 → nameOk i (byteAt s i) = true from fun h i hi => by
        by_cases e : i = k
        · subst e; exact h
        · exact HT.out i (by omega))
      have HX := Lib.hid (fun h => isName_bad (s := s) (i := k) hlt h)
      have HU := Lib.hid (show ((s[k]).toNat : Int) = byteAt s k from HB.out)
      have hb1 : 0 ≤ ((s[k]).toNat : Int) := by omega
      have hb2 : ((s[k]).toNat : Int) ≤ 255 := by have := (s[k]).toNat_lt; omega
      have HD := Lib.hid (show nameOk k (byteAt s k) = (lowC (s[k]).toNat || (decide (k ≠ 0) && (decide (48 ≤ ((s[k]).toNat : Int) ∧ ((s[k]).toNat : Int) ≤ 57) || decide (((s[k]).toNat : Int) = 95)))) by rw [HB.out]; rfl)
      clear HT HB
      generalize nameOk k (byteAt s k) = r at HD HN HX
      by_cases h1 : 97 ≤ ((s[k]).toNat : Int) ∧ ((s[k]).toNat : Int) ≤ 122
      · have e1 : decide (97 ≤ ((s[k]).toNat : Int) ∧ ((s[k]).toNat : Int) ≤ 122) = true := by simpa using h1
        have HR := Lib.hid (show r = true by rw [HD.out]; unfold lowC; rw [e1]; rfl)
        clear h1
        go_wp2_with (go_at_call 71; refine (rowWithin_any _ _ _ _).mono ?_; rintro e w' ⟨rfl, rfl⟩)
        go_round
        case rel => exact ⟨k + 1, by omega, by go_num, Lib.hid (HN.out HR.out)⟩
        case measure => simp [intOf]; omega
      · have e1 : decide (97 ≤ ((s[k]).toNat : Int) ∧ ((s[k]).toNat : Int) ≤ 122) = false := by simpa using h1
        clear h1
        by_cases h0 : k = 0
        · have HR := Lib.hid (show r = false by rw [HD.out]; unfold lowC; rw [e1]; simp [h0])
          have e0 : ((k : Int) == 0) = true := by simp [h0]
          clear h0
          go_wp2_with (go_at_call 71; refine (rowWithin_any _ _ _ _).mono ?_; rintro e w' ⟨rfl, rfl⟩)
          go_ret
          exact ⟨by rw [HX.out HR.out]; rfl, rfl⟩
        · have e0 : ((k : Int) == 0) = false := by simp; omega
          by_cases h2 : 48 ≤ ((s[k]).toNat : Int) ∧ ((s[k]).toNat : Int) ≤ 57
          · have e2 : decide (48 ≤ ((s[k]).toNat : Int) ∧ ((s[k]).toNat : Int) ≤ 57) = true := by simpa using h2
            have HR := Lib.hid (show r = true by rw [HD.out, e2]; simp [h0])
            clear h2 h0
            go_wp2_with (go_at_call 71; refine (rowWithin_any _ _ _ _).mono ?_; rintro e w' ⟨rfl, rfl⟩)
            go_round
            case rel => exact ⟨k + 1, by omega, by go_num, Lib.hid (HN.out HR.out)⟩
            case measure => simp [intOf]; omega
          · have e2 : decide (48 ≤ ((s[k]).toNat : Int) ∧ ((s[k]).toNat : Int) ≤ 57) = false := by simpa using h2
            clear h2
            by_cases h3 : ((s[k]).toNat : Int) = 95
            · have HR := Lib.hid (show r = true by rw [HD.out]; simp [h0, h3])
              have e3 : (((s[k]).toNat : Int) == 95) = true := by simp [h3]
              clear h3 h0
              go_wp2_with (go_at_call 71; refine (rowWithin_any _ _ _ _).mono ?_; rintro e w' ⟨rfl, rfl⟩)
              go_round
              case rel => exact ⟨k + 1, by omega, by go_num, Lib.hid (HN.out HR.out)⟩
              case measure => simp [intOf]; omega
            · have HR := Lib.hid (show r = false by rw [HD.out, e2]; unfold lowC; rw [e1]; simp [h3])
              have e3 : (((s[k]).toNat : Int) == 95) = false := by simp [h3]
              clear h3 h0
              go_wp2_with (go_at_call 71; refine (rowWithin_any _ _ _ _).mono ?_; rintro e w' ⟨rfl, rfl⟩)
              go_ret
              exact ⟨by rw [HX.out HR.out]; rfl, rfl⟩
    · obtain rfl : k = s.size := by omega
      have HA := Lib.hid (isName_all HT.out)
      go_wp2_with (go_at_call 71; refine (rowWithin_any _ _ _ _).mono ?_; rintro e w' ⟨rfl, rfl⟩)
      go_ret
      exact ⟨by rw [HA.out, Bool.decide_and]; rfl, rfl⟩

set_option maxHeartbeats 400000 in
theorem small_any (c : Int) (w : World) (h0 : 0 ≤ c) (h1 : c ≤ 255) :
    Calls Tryz.prog 79 #[.int .u8 c] w fun e w' => e = .returned (.bool (lowC c)) ∧ w = w' := by
  have HL := Lib.hid (show lowC c = decide (97 ≤ c ∧ c ≤ 122) from rfl)
  by_cases a : 97 ≤ c <;> by_cases b : c ≤ 122
  all_goals
    have HR := Lib.hid (show lowC c = decide (97 ≤ c ∧ c ≤ 122) from rfl)
    go_enter Tryz.func79, Tryz.ntmps79
    go_wp2
    go_ret
    exact ⟨by rw [HR.out]; simp [*], rfl⟩

set_option maxHeartbeats 1000000 in
theorem refName_any (s : ByteArray) (w : World) (hs : s.size ≤ maxLen) :
    Calls Tryz.prog 50 #[.string s] w fun e w' => e = .returned (.bool (isName s)) ∧ w = w' := by
  unfold maxLen at hs
  go_enter Tryz.func50, Tryz.ntmps50
  go_wp2
  go_loop [3] (fun i => ∃ k : Nat, k ≤ s.size ∧ i = .int .i64 k ∧ Hid (∀ i, i < k → nameOk i (byteAt s i) = true)) (fun i => s.size - (intOf i).toNat)
  case atStart => exact ⟨0, by omega, rfl, Lib.hid (fun i hi => absurd hi (by omega))⟩
  case round =>
    obtain ⟨k, hk, rfl, HT⟩ := hrel
    by_cases hlt : k < s.size
    · have HB := Lib.hid (byteAt_get s k hlt)
      have HN := Lib.hid (show nameOk k (byteAt s k) = true → ∀ i, i < k + 1 → nameOk i (byteAt s i) = true from fun h i hi => by
        by_cases e : i = k
        · subst e; exact h
        · exact HT.out i (by omega))
      have HX := Lib.hid (fun h => isName_bad (s := s) (i := k) hlt h)
      have hb1 : 0 ≤ ((s[k]).toNat : Int) := by omega
      have hb2 : ((s[k]).toNat : Int) ≤ 255 := by have := (s[k]).toNat_lt; omega
      have HD := Lib.hid (show nameOk k (byteAt s k) = (lowC (s[k]).toNat || (decide (k ≠ 0) && (decide (48 ≤ ((s[k]).toNat : Int) ∧ ((s[k]).toNat : Int) ≤ 57) || decide (((s[k]).toNat : Int) = 95)))) by rw [HB.out]; rfl)
      have HS := Lib.hid (fun w => small_any ((s[k]).toNat : Int) w hb1 hb2)
      clear HT HB
      generalize nameOk k (byteAt s k) = r at HD HN HX
      generalize lowC (s[k]).toNat = q at HD HS
      cases q
      · by_cases h0 : k = 0
        · have HR := Lib.hid (show r = false by rw [HD.out]; simp [h0])
          have e0 : ((k : Int) == 0) = true := by simp [h0]
          clear h0
          go_wp2_with (go_at_call 79; refine (HS.out _).mono ?_; rintro e w' ⟨rfl, rfl⟩)
          go_ret
          exact ⟨by rw [HX.out HR.out]; rfl, rfl⟩
        · have e0 : ((k : Int) == 0) = false := by simp; omega
          by_cases h3 : ((s[k]).toNat : Int) = 95
          · have HR := Lib.hid (show r = true by rw [HD.out]; simp [h0, h3])
            have e3 : (((s[k]).toNat : Int) != 95) = false := by simp [h3]
            clear h3 h0
            go_wp2_with (go_at_call 79; refine (HS.out _).mono ?_; rintro e w' ⟨rfl, rfl⟩)
            go_round
            case rel => exact ⟨k + 1, by omega, by go_num, Lib.hid (HN.out HR.out)⟩
            case measure => simp [intOf]; omega
          · have e3 : (((s[k]).toNat : Int) != 95) = true := by simp [h3]
            by_cases h4 : ((s[k]).toNat : Int) < 48
            · have HR := Lib.hid (show r = false by rw [HD.out]; simp [h3]; omega)
              clear h3 h0
              go_wp2_with (go_at_call 79; refine (HS.out _).mono ?_; rintro e w' ⟨rfl, rfl⟩)
              go_ret
              exact ⟨by rw [HX.out HR.out]; rfl, rfl⟩
            · by_cases h5 : 57 < ((s[k]).toNat : Int)
              · have HR := Lib.hid (show r = false by rw [HD.out]; simp [h3]; omega)
                clear h3 h0
                go_wp2_with (go_at_call 79; refine (HS.out _).mono ?_; rintro e w' ⟨rfl, rfl⟩)
                go_ret
                exact ⟨by rw [HX.out HR.out]; rfl, rfl⟩
              · have HR := Lib.hid (show r = true by rw [HD.out]; simp [h0]; omega)
                clear h3 h0
                go_wp2_with (go_at_call 79; refine (HS.out _).mono ?_; rintro e w' ⟨rfl, rfl⟩)
                go_round
                case rel => exact ⟨k + 1, by omega, by go_num, Lib.hid (HN.out HR.out)⟩
                case measure => simp [intOf]; omega
      · have HR := Lib.hid (show r = true by rw [HD.out]; rfl)
        go_wp2_with (go_at_call 79; refine (HS.out _).mono ?_; rintro e w' ⟨rfl, rfl⟩)
        go_round
        case rel => exact ⟨k + 1, by omega, by go_num, Lib.hid (HN.out HR.out)⟩
        case measure => simp [intOf]; omega
    · obtain rfl : k = s.size := by omega
      have HA := Lib.hid (isName_all HT.out)
      go_wp2_with (go_at_call 80; refine (refRowWithin_any _ _ _ _).mono ?_; rintro e w' ⟨rfl, rfl⟩)
      go_ret
      exact ⟨by rw [HA.out, Bool.decide_and]; rfl, rfl⟩

abbrev tStrs : Ty (List ByteArray) := tSlice tStr
theorem str_cell {m : Mem} {xs : List ByteArray} {a : Option Addr} {n cap : Nat} (h : tStrs.rv m [.slice a n cap] xs) {k : Nat} (hk : k < xs.length) :
    ∃ b o, a = some ⟨b, o, none⟩ ∧ m b (o + k) = some (.string xs[k]) ∧ xs[k].size ≤ maxLen := by
  obtain ⟨b, o, rfl, hat⟩ := slice_at h hk
  have e : k * tStr.sz = k := Nat.mul_one k
  rw [e] at hat
  obtain ⟨cs, h1, rfl, h3⟩ := hat
  exact ⟨b, o, rfl, h1 0 _ rfl, h3⟩
end Go.Proofs.YtnfolemblnnejaaGreat
/- Maps of the call's own, told by what stands at each key, for elements of any kind. No program in sight. -/
namespace Go.Proofs.YtnfolemblnnejaaGreat
open Go.RowKit Go.Maps

def rawE : Value → Option (DataW Value × List MemPlace) := fun v => some (.held v, [])
/-- How one value (an element of a map) reads. -/
structure VR (α : Type) where
  rel : Mem → Value → α → Prop
  mono : ∀ m m' v x, m.le m' → rel m v x → rel m' v x
def vBool : VR Bool := ⟨fun _ v x => v = .bool x, fun _ _ _ _ _ h => h⟩
def vInt : VR Int := ⟨fun _ v x => v = .int .i64 x ∧ inI64 x, fun _ _ _ _ _ h => h⟩
def Ty.one {α : Type} (t : Ty α) : VR α := ⟨fun m v x => t.rv m [v] x, fun _ _ _ _ h k => t.mono _ _ _ _ h k⟩

section
variable {κ α : Type} {P : Program} {k : TypeId} {lk : κ → Lit} {vr : VR α}
/-- What the entries are, key by key. -/
def MapSays (lk : κ → Lit) (vr : VR α) (m : Mem) (D : DataW Value) (f : κ → Option α) : Prop :=
  (∀ x, f x = none → Maps.has D (lk x) = false) ∧ (∀ x a, f x = some a → Maps.has D (lk x) = true ∧ ∃ v, (∀ z, D.atKey (lk x) z = .held v) ∧ vr.rel m v a) ∧ (∀ l, Maps.has D l = true → ∃ x, l = lk x)
theorem MapSays.mono {m m' : Mem} {D : DataW Value} {f : κ → Option α} (h : MapSays lk vr m D f) (hm : m.le m') : MapSays lk vr m' D f :=
  ⟨h.1, fun x a e => let ⟨g, v, g1, g2⟩ := h.2.1 x a e; ⟨g, v, g1, vr.mono _ _ _ _ hm g2⟩, h.2.2⟩
def MapOf (P : Program) (k : TypeId) (lk : κ → Lit) (vr : VR α) (w : World) (b n : Nat) (f : κ → Option α) : Prop :=
  ∃ D, w.ownsMap P k rawE b n D ∧ MapSays lk vr (mem w) D f

theorem mapBlock_mem {w : World} {b n : Nat} {D : DataW Value} (h : w.ownsMap P k rawE b n D) (o : Nat) : mem w b o = none := by
  obtain ⟨es, clock, hb, _⟩ := h
  simp [mem, World.cell?, hb]
theorem grown_mem {w w' : World} {b n : Nat} {D : DataW Value} (h : w.ownsMap P k rawE b n D) (hg : w.grownBy w' (some b)) : (mem w).le (mem w') := fun i o v e => by
  by_cases hi : i = b
  · subst hi; rw [mapBlock_mem h] at e; cases e
  · exact (mem_of_block (hg.block i (mem_lt e) (fun e => hi (by injection e))) o).trans e

theorem MapOf.made (w : World) : MapOf P k lk vr (w.alloc (.map #[] 0)) w.heap.size 0 (fun _ => (none : Option α)) :=
  ⟨.map [], World.ownsMap_made w P k rawE, fun _ _ => rfl, fun _ _ h => (by cases h), fun l h => (by simp [Maps.has] at h)⟩
theorem MapOf.lt {w : World} {b n : Nat} {f : κ → Option α} (h : MapOf P k lk vr w b n f) : b < w.heap.size := let ⟨_, h, _⟩ := h; h.lt
theorem MapOf.keeps {w w' : World} {b n : Nat} {f : κ → Option α} (h : MapOf P k lk vr w b n f) {F : Nat → Prop} (hk : Keeps F w w') (hF : ¬ F b) (hm : (mem w).le (mem w')) : MapOf P k lk vr w' b n f := by
  obtain ⟨D, ⟨es, clock, hb, r⟩, g⟩ := h
  exact ⟨D, ⟨es, clock, by rw [hk.block b (Array.getElem?_eq_some_iff.1 hb).1 hF]; exact hb, r⟩, g.mono hm⟩
theorem MapOf.below {w w' : World} {b n : Nat} {f : κ → Option α} (h : MapOf P k lk vr w b n f) (hb : Below w.heap.size w w') : MapOf P k lk vr w' b n f :=
  h.keeps (below_keeps hb) (by have := h.lt; omega) (below_mem hb)
theorem MapOf.mono {w : World} {b n n' : Nat} {f : κ → Option α} (h : MapOf P k lk vr w b n f) (hn : n ≤ n') : MapOf P k lk vr w b n' f :=
  let ⟨D, h1, h2⟩ := h; ⟨D, h1.mono hn, h2⟩
theorem MapOf.alloc {w : World} {b n : Nat} {f : κ → Option α} (h : MapOf P k lk vr w b n f) (o : Obj) : MapOf P k lk vr (w.alloc o) b n f :=
  h.below ((Below.refl _ _).alloc (Nat.le_refl _) o)
theorem MapOf.drew {w : World} {b n : Nat} {f : κ → Option α} (h : MapOf P k lk vr w b n f) : MapOf P k lk vr w.drew b n f :=
  h.below (Below.refl _ _).drew

open Classical in
noncomputable def putAt (f : κ → Option α) (x : κ) (a : α) : κ → Option α := fun y => if y = x then some a else f y
theorem putAt_same (f : κ → Option α) (x : κ) (a : α) : putAt f x a x = some a := by simp [putAt]
theorem putAt_other (f : κ → Option α) {x y : κ} (a : α) (h : y ≠ x) : putAt f x a y = f y := by simp [putAt, h]

theorem MapSays.put1 {m m' : Mem} {D : DataW Value} {f : κ → Option α} (h : MapSays lk vr m D f) (hm : m.le m') (hD : IsMap D) {x : κ} {a : α} {v : Value} (hinj : ∀ y, lk y = lk x → y = x) (hk : WideAt.IsKeyLit (lk x)) (hv : vr.rel m' v a) :
    MapSays lk vr m' (D.put (lk x) (.held v)) (putAt f x a) := by
  refine ⟨fun y hy => ?_, fun y c hy => ?_, fun l hl => ?_⟩
  · by_cases e : y = x
    · subst e; rw [putAt_same] at hy; cases hy
    · rw [putAt_other _ _ e] at hy
      rw [has_put_other (fun e' => e (hinj _ e'))]
      exact h.1 y hy
  · by_cases e : y = x
    · subst e
      rw [putAt_same] at hy
      cases hy
      exact ⟨has_put_same hD hk _, v, fun z => atKey_put_same hD hk _ z, hv⟩
    · rw [putAt_other _ _ e] at hy
      obtain ⟨g, u, g1, g2⟩ := h.2.1 y c hy
      have hne : lk y ≠ lk x := fun e' => e (hinj _ e')
      exact ⟨by rw [has_put_other hne]; exact g, u, fun z => by rw [atKey_put_other hne]; exact g1 z, vr.mono _ _ _ _ hm g2⟩
  · by_cases e : l = lk x
    · exact ⟨x, e⟩
    · rw [has_put_other e] at hl
      exact h.2.2 l hl
theorem MapSays.put {m m' : Mem} {D : DataW Value} {f : κ → Option α} (h : MapSays lk vr m D f) (hm : m.le m') (hD : IsMap D) {x : κ} {a : α} {v : Value} (hinj : ∀ x y, lk x = lk y → x = y) (hk : WideAt.IsKeyLit (lk x)) (hv : vr.rel m' v a) :
    MapSays lk vr m' (D.put (lk x) (.held v)) (putAt f x a) := h.put1 hm hD (fun _ e => hinj _ _ e) hk hv
end

/-- An operation that is carried out (unguarded, or its guard says yes). -/
theorem wpList_want {P : Program} {ops : Array Oper} {rest : List Oper} {o : Oper} {a : Act} {Q : Exit → Act → World → Prop} {w : World} (hw : Region.wanted o (yielded ops a.tmps) = true)
    (h : ∀ K : Act → World → Prop, (∀ a w, wpList P ops Q rest a w → K a w) → o.wp P a w K Q) : wpList P ops Q (o :: rest) a w :=
  wpList_step fun K hK => by rw [if_pos hw]; exact h K hK

section
variable {κ α : Type} {P : Program} {lk : κ → Lit} {vr : VR α} (w : World) {ops : Array Oper} {rest : List Oper} {o : Oper} {a : Act} {Q : Exit → Act → World → Prop}

/-- 'm[k]'. -/
theorem wpList_lookup_map (hg : Region.wanted o (yielded ops a.tmps) = true) (m x : Operand) (t : TypeId) (hop : o.op = Op.lookup t m x false)
    (k e : TypeId) (K : Keyed P k) (ht : P.underlying t = some (.map k e)) {z : Value} (hz : (zeroValue e).run P w = .ok z w) (b n : Nat) (f : κ → Option α)
    (hm : a.eval m = .map (some b)) (hown : MapOf P k lk vr w b n f) (key : Value) (y : κ) (hx : a.eval x = key) (hkey : keyOf P k key = some (lk y))
    (hK : ∀ v, (f y = none → v = z) → (∀ c, f y = some c → vr.rel (mem w) v c) → wpList P ops Q rest (a.put o.dst v) w) :
    wpList P ops Q (o :: rest) a w := by
  refine wpList_want hg fun K' hK' => ?_
  obtain ⟨D, hown, h1, h2, _⟩ := hown
  obtain ⟨v, ps, hrun, hv⟩ := hown.lookup K ht hz (zd := .held z) (zp := []) rfl hkey
  unfold Oper.wp
  simp [execOp, hop, hm, hx, hrun, Result.andThen]
  simp only [rawE, Option.some.injEq, Prod.mk.injEq] at hv
  refine hK' _ _ (hK v (fun e => ?_) (fun c e => ?_))
  · have := hv.1
    rw [atKey_of_not_has (h1 y e)] at this
    injection this
  · obtain ⟨_, u, g1, g2⟩ := h2 y c e
    have := hv.1
    rw [g1] at this
    injection this with this
    rw [this]; exact g2

theorem wpList_lookup_bool (hg : Region.wanted o (yielded ops a.tmps) = true) (m x : Operand) (t : TypeId) (hop : o.op = Op.lookup t m x false)
    (k e : TypeId) (K : Keyed P k) (ht : P.underlying t = some (.map k e)) (hz : (zeroValue e).run P w = .ok (.bool false) w) (b n : Nat) (f : κ → Option Bool)
    (hm : a.eval m = .map (some b)) (hown : MapOf P k lk vBool w b n f) (key : Value) (y : κ) (hx : a.eval x = key) (hkey : keyOf P k key = some (lk y)) (q : Bool) (hq : (f y).getD false = q)
    (hK : wpList P ops Q rest (a.put o.dst (.bool q)) w) :
    wpList P ops Q (o :: rest) a w := by
  subst hq
  exact wpList_lookup_map w hg m x t hop k e K ht hz b n f hm hown key y hx hkey (fun v g1 g2 => by
    cases hf : f y with
    | none => rw [g1 hf]; rw [hf] at hK; exact hK
    | some c => rw [show v = .bool c from g2 c hf]; rw [hf] at hK; exact hK)
theorem wpList_lookup_int (hg : Region.wanted o (yielded ops a.tmps) = true) (m x : Operand) (t : TypeId) (hop : o.op = Op.lookup t m x false)
    (k e : TypeId) (K : Keyed P k) (ht : P.underlying t = some (.map k e)) (hz : (zeroValue e).run P w = .ok (.int .i64 0) w) (b n : Nat) (f : κ → Option Int)
    (hm : a.eval m = .map (some b)) (hown : MapOf P k lk vInt w b n f) (key : Value) (y : κ) (hx : a.eval x = key) (hkey : keyOf P k key = some (lk y))
    (hK : wpList P ops Q rest (a.put o.dst (.int .i64 ((f y).getD 0))) w) :
    wpList P ops Q (o :: rest) a w :=
  wpList_lookup_map w hg m x t hop k e K ht hz b n f hm hown key y hx hkey (fun v g1 g2 => by
    cases hf : f y with
    | none => rw [g1 hf]; rw [hf] at hK; exact hK
    | some c => rw [(g2 c hf).1]; rw [hf] at hK; exact hK)

/-- 'v, ok := m[k]'. -/
theorem wpList_lookup_ok (hg : Region.wanted o (yielded ops a.tmps) = true) (m x : Operand) (t : TypeId) (hop : o.op = Op.lookup t m x true)
    (k e : TypeId) (K : Keyed P k) (ht : P.underlying t = some (.map k e)) {z : Value} (hz : (zeroValue e).run P w = .ok z w) (b n : Nat) (f : κ → Option α)
    (hm : a.eval m = .map (some b)) (hown : MapOf P k lk vr w b n f) (key : Value) (y : κ) (hx : a.eval x = key) (hkey : keyOf P k key = some (lk y))
    (hK : ∀ v, (f y = none → v = z) → (∀ c, f y = some c → vr.rel (mem w) v c) → wpList P ops Q rest (a.put o.dst (.tuple #[v, .bool (f y).isSome])) w) :
    wpList P ops Q (o :: rest) a w := by
  refine wpList_want hg fun K' hK' => ?_
  obtain ⟨D, hown, h1, h2, _⟩ := hown
  obtain ⟨v, ps, hrun, hv⟩ := hown.look_ok K ht hz (zd := .held z) (zp := []) rfl hkey
  have hs : Maps.has D (lk y) = (f y).isSome := by
    cases hf : f y with
    | none => exact h1 y hf
    | some c => exact (h2 y c hf).1
  rw [hs] at hrun
  unfold Oper.wp
  simp [execOp, hop, hm, hx, hrun, Result.andThen]
  simp only [rawE, Option.some.injEq, Prod.mk.injEq] at hv
  refine hK' _ _ (hK v (fun e => ?_) (fun c e => ?_))
  · have := hv.1
    rw [atKey_of_not_has (h1 y e)] at this
    injection this
  · obtain ⟨_, u, g1, g2⟩ := h2 y c e
    have := hv.1
    rw [g1] at this
    injection this with this
    rw [this]; exact g2

/-- 'm[k] = v'. -/
theorem wpList_update_map (hg : Region.wanted o (yielded ops a.tmps) = true) (m x v : Operand) (t : TypeId) (hop : o.op = Op.mapUpdate t m x v)
    (k e : TypeId) (K : Keyed P k) (ht : P.underlying t = some (.map k e)) (b n : Nat) (f : κ → Option α) (hinj : ∀ x y, lk x = lk y → x = y)
    (hm : a.eval m = .map (some b)) (hown : MapOf P k lk vr w b n f) (hn : n < maxLen) (key val : Value) (y : κ) (c : α) (hx : a.eval x = key) (hv : a.eval v = val) (hkey : keyOf P k key = some (lk y))
    (hval : vr.rel (mem w) val c)
    (hK : ∀ w', MapOf P k lk vr w' b (n + 1) (putAt f y c) → w.grownBy w' (some b) → (mem w).le (mem w') → wpList P ops Q rest (a.put o.dst undef) w') :
    wpList P ops Q (o :: rest) a w := by
  obtain ⟨D, hown, hs⟩ := hown
  refine wpList_want hg fun K' hK' => ?_
  obtain ⟨w', hrun, ho, hgr⟩ := hown.update K ht hn hkey (R := rawE) (val := val) (d := .held val) (ps := []) rfl
  have hle := grown_mem hown hgr
  unfold Oper.wp
  simp [execOp, hop, hm, hx, hv, hrun, Result.andThen]
  refine hK' _ _ ?_
  exact hK w' ⟨_, ho, hs.put hle hown.isMap hinj (K.key hkey) (vr.mono _ _ _ _ hle hval)⟩ hgr hle

/-- 'len(m)'. -/
theorem wpList_len_map (hg : Region.wanted o (yielded ops a.tmps) = true) (m : Operand) (t : TypeId) (hop : o.op = Op.call { callee := Callee.builtin Builtin.len, args := #[m], argTypes := #[t] })
    (k e : TypeId) (ht : P.underlying t = some (.map k e)) (b n : Nat) (f : κ → Option α) (hm : a.eval m = .map (some b)) (hown : MapOf P k lk vr w b n f)
    (hK : ∀ D, w.ownsMap P k rawE b n D → MapSays lk vr (mem w) D f → wpList P ops Q rest (a.put o.dst (.int .i64 (Maps.size D))) w) :
    wpList P ops Q (o :: rest) a w := by
  obtain ⟨D, hown, hs⟩ := hown
  refine wpList_want hg fun K' hK' => ?_
  unfold Oper.wp
  simp [execOp, hop, resolve, invoke, builtin, hm, hown.len ht o.type, Result.andThen]
  exact hK' _ _ (hK D hown hs)
end

/-! ### texts as keys -/
def strKey (s : ByteArray) : Lit := .string s.data.toList
theorem strKey_inj (x y : ByteArray) (h : strKey x = strKey y) : x = y := by
  obtain ⟨⟨l⟩⟩ := x
  obtain ⟨⟨l'⟩⟩ := y
  simpa [strKey] using h
theorem keyOf_str {P : Program} {k : TypeId} (hk : P.underlying k = some .string) {s : ByteArray} (hs : s.size ≤ maxLen) : keyOf P k (.string s) = some (strKey s) := Go.WideMaps.keyOf_string_mk hk hs
end Go.Proofs.YtnfolemblnnejaaGreat
/- Entries: readings, IndexFunc and ContainsFunc, heavy, ValidEntry (printed by gen_vent.py out of chapter 13's texts). -/
namespace Go.Proofs.YtnfolemblnnejaaGreat
open Go.RowKit Go.Maps

def big (t : ByteArray) : Bool := decide (65536 < t.size)
/-- An entry. -/
structure Ent where
  g : Int
  nm : ByteArray
  key : ByteArray
  val : ByteArray
deriving Inhabited
def Ent.okE (x : Ent) : Prop := inI64 x.g ∧ x.nm.size ≤ maxLen ∧ x.key.size ≤ maxLen ∧ x.val.size ≤ maxLen
def tEnt : Ty Ent := ⟨4, fun _ cs x => cs = [.int .i64 x.g, .string x.nm, .string x.key, .string x.val] ∧ x.okE, fun _ _ _ h => by rw [h.1]; rfl, fun _ _ _ _ _ h => h⟩
theorem tEnt_flat : tEnt.flat := fun _ _ _ _ h => h
abbrev tEnts : Ty (List Ent) := tSlice tEnt
abbrev Ent.v (x : Ent) : Value := .agg #[.int .i64 x.g, .string x.nm, .string x.key, .string x.val]
abbrev Ent.cs (x : Ent) : List Value := [.int .i64 x.g, .string x.nm, .string x.key, .string x.val]
theorem ents_at {m : Mem} {xs : List Ent} {a : Option Addr} {n cap : Nat} (h : tEnts.rv m [.slice a n cap] xs) {k : Nat} (hk : k < xs.length) :
    ∃ b o, a = some ⟨b, o, none⟩ ∧ (∀ j v, xs[k].cs[j]? = some v → m b (o + k * 4 + j) = some v) ∧ xs[k].okE := by
  obtain ⟨b, o, rfl, cs, hat, rfl, hok⟩ := slice_at h hk
  exact ⟨b, o, rfl, hat, hok⟩
set_option maxRecDepth 100000 in
theorem reads_ent : Reads Tryz.prog 92 tEnt := fun H enc w n cs d h => by
  obtain ⟨xs, n', _, _, hl, hx, hg⟩ := DataW.trod_struct Tryz.underlying92 h
  rw [show Tryz.prog.cellsOf 92 = 4 from by kernel_rfl] at hl
  have g0 := hg 0 _ rfl
  obtain ⟨x0, r0⟩ := field_read (reads_int Tryz.underlying3) 0 1 rfl rfl (by kernel_rfl) g0 (by rw [hx]; decide)
  have g1 := hg 1 _ rfl
  obtain ⟨x1, r1⟩ := field_read (reads_str Tryz.underlying9) 1 1 rfl rfl (by kernel_rfl) g1 (by rw [hx]; decide)
  have g2 := hg 2 _ rfl
  obtain ⟨x2, r2⟩ := field_read (reads_str Tryz.underlying9) 2 1 rfl rfl (by kernel_rfl) g2 (by rw [hx]; decide)
  have g3 := hg 3 _ rfl
  obtain ⟨x3, r3⟩ := field_read (reads_str Tryz.underlying9) 3 1 rfl rfl (by kernel_rfl) g3 (by rw [hx]; decide)
  match cs, hl with
  | [c0, c1, c2, c3], _ =>
    obtain ⟨e0, i0⟩ := r0
    obtain ⟨e1, i1⟩ := r1
    obtain ⟨e2, i2⟩ := r2
    obtain ⟨e3, i3⟩ := r3
    simp at e0 e1 e2 e3
    exact ⟨⟨x0, x1, x2, x3⟩, by rw [e0, e1, e2, e3], i0, i1, i2, i3⟩
theorem reads_ents : Reads Tryz.prog 34 tEnts := reads_slice Tryz.underlying34 (by kernel_rfl) (by decide) reads_ent
set_option maxHeartbeats 1000000 in
theorem indexFuncEnt (Fn : FuncId) (capt : Array Value) (p : Ent → Bool) (xs : List Ent) (v : Value) (w : World) (hv : tEnts.rv (mem w) [v] xs)
    (hcf : ∀ args w, Sem.run Tryz.prog (callFunc Fn args) w = .ok (.enter Fn args) w)
    (hf : ∀ x : Ent, x.okE → ∀ wr, Below w.heap.size w wr → Calls Tryz.prog Fn (#[x.v] ++ capt) wr fun e w' => e = .returned (.bool (p x)) ∧ Below wr.heap.size wr w') :
    Calls Tryz.prog 74 #[v, .func (.func Fn) #[] capt] w fun e w' => e = .returned (.int .i64 (idxOf p xs)) ∧ Below w.heap.size w w' := by
  obtain ⟨a, cap, rfl, hl, hm, hv⟩ := slice_form hv
  have hcap : cap ≤ 9223372036854775807 := by unfold maxLen at hm; exact hm
  clear hm
  have HF := Lib.hid hf
  clear hf
  go_enter Tryz.func74, Tryz.ntmps74
  go_wp2
  go_loopw [8] (fun i wr => ∃ k : Nat, k ≤ xs.length ∧ i = .int .i64 k ∧ Hid (∀ x ∈ xs.take k, p x = false) ∧ Below w.heap.size w wr) (fun i _ => xs.length - (intOf i).toNat)
  case atStart => exact ⟨0, by omega, rfl, Lib.hid (by simp), Below.refl _ _⟩
  case round =>
    obtain ⟨k, hk, rfl, HT, hB⟩ := hrel
    by_cases hlt : k < xs.length
    · obtain ⟨b, o, rfl, hat, hin⟩ := ents_at (tEnts.mono _ _ _ _ (below_mem hB) hv) hlt
      have c0 : wr.cell? ⟨b, o + k * 4, none⟩ = some (.int .i64 xs[k].g) := hat 0 _ rfl
      have c1 : wr.cell? ⟨b, o + k * 4 + 1, none⟩ = some (.string xs[k].nm) := hat 1 _ rfl
      have c2 : wr.cell? ⟨b, o + k * 4 + 2, none⟩ = some (.string xs[k].key) := hat 2 _ rfl
      have c3 : wr.cell? ⟨b, o + k * 4 + 3, none⟩ = some (.string xs[k].val) := hat 3 _ rfl
      clear hat
      have hcall := HF.out xs[k] hin wr hB
      have HI := Lib.hid (show p xs[k] = true → idxOf p xs = k from fun h => idxOf_at hlt h HT.out)
      have HN := Lib.hid (show p xs[k] = false → ∀ x ∈ xs.take (k + 1), p x = false from fun h => mem_take_snoc hlt HT.out h)
      clear hv HF HT
      generalize xs[k] = x at *
      generalize hpx : p x = r at hcall HI HN
      clear hpx
      have HC := Lib.hid hcall
      clear hcall
      go_wp2_with fail
      refine HC.out.mono ?_
      rintro e w1 ⟨rfl, hB1⟩
      have hB2 := pure_trans hB hB1
      clear HC hB hB1 c0 c1 c2 c3
      cases r
      · go_wp2
        go_roundw
        case rel => exact ⟨k + 1, by omega, by go_num, Lib.hid (HN.out (by trivial)), hB2⟩
        case measure => simp [intOf]; omega
      · go_wp2
        go_ret
        exact ⟨by rw [HI.out (by trivial)]; rfl, hB2⟩
    · obtain rfl : k = xs.length := by omega
      have HX := Lib.hid (idxOf_none (p := p) (l := xs) (fun x hx => HT.out x (by rw [List.take_length]; exact hx)))
      go_wp2
      go_ret
      exact ⟨by rw [HX.out]; rfl, hB⟩
set_option maxHeartbeats 1000000 in
theorem containsFuncEnt (Fn : FuncId) (capt : Array Value) (p : Ent → Bool) (xs : List Ent) (v : Value) (w : World) (hv : tEnts.rv (mem w) [v] xs)
    (hcf : ∀ args w, Sem.run Tryz.prog (callFunc Fn args) w = .ok (.enter Fn args) w)
    (hf : ∀ x : Ent, x.okE → ∀ wr, Below w.heap.size w wr → Calls Tryz.prog Fn (#[x.v] ++ capt) wr fun e w' => e = .returned (.bool (p x)) ∧ Below wr.heap.size wr w') :
    Calls Tryz.prog 42 #[v, .func (.func Fn) #[] capt] w fun e w' => e = .returned (.bool (xs.any p)) ∧ Below w.heap.size w w' := by
  have H := Lib.hid (indexFuncEnt Fn capt p xs v w hv hcf hf)
  have HA := Lib.hid (idxOf_any p xs)
  clear hcf hf hv
  generalize idxOf p xs = i at H HA
  go_enter Tryz.func42, Tryz.ntmps42
  go_wp2_with fail
  refine H.out.mono ?_
  rintro e w1 ⟨rfl, hB⟩
  go_wp2
  go_ret
  exact ⟨by rw [← HA.out]; rfl, hB⟩


def heavyE (x : Ent) : Bool := decide (300 < x.nm.size + x.key.size + x.val.size)
def heavyOf (l : List Ent) : Bool := l.any heavyE || decide (20 < l.length)
set_option maxRecDepth 100000 in
set_option maxHeartbeats 4000000 in
theorem heavy_any (l : List Ent) (v : Value) (w : World) (hv : tEnts.rv (mem w) [v] l) :
    Calls Tryz.prog 14 #[v] w fun e w' => ∃ b, e = .returned (.bool b) ∧ Below w.heap.size w w' ∧ (b = false → l.length ≤ 20) := by
  obtain ⟨a, cap, rfl, hlc, hm, hv⟩ := slice_form hv
  have hcap : cap ≤ 9223372036854775807 := by unfold maxLen at hm; exact hm
  clear hm
  go_enter Tryz.func14, Tryz.ntmps14
  go_wp2
  go_loopw [3] (fun i wr => ∃ k : Nat, k ≤ l.length ∧ i = .int .i64 k ∧ Below w.heap.size w wr) (fun i _ => l.length - (intOf i).toNat)
  case atStart => exact ⟨0, by omega, rfl, Below.refl _ _⟩
  case round =>
    obtain ⟨k, hk, rfl, hB⟩ := hrel
    by_cases hlt : k < l.length
    · obtain ⟨b, o, rfl, hat, hok⟩ := ents_at (tEnts.mono _ _ _ _ (below_mem hB) hv) hlt
      have c1 : wr.cell? ⟨b, o + k * 4 + 1, none⟩ = some (.string l[k].nm) := hat 1 _ rfl
      have c2 : wr.cell? ⟨b, o + k * 4 + 2, none⟩ = some (.string l[k].key) := hat 2 _ rfl
      have c3 : wr.cell? ⟨b, o + k * 4 + 3, none⟩ = some (.string l[k].val) := hat 3 _ rfl
      obtain ⟨_, s1, s2, s3⟩ := hok
      unfold maxLen at s1 s2 s3
      have HB := Lib.hid hB
      clear hat hB
      generalize hx : l[k] = x at *
      clear hx
      go_wp2_with fail
      go_region_held3 (fun w' => w'.cell? ⟨b, o + k * 4 + 1, none⟩ = some (.string x.nm) ∧ w'.cell? ⟨b, o + k * 4 + 2, none⟩ = some (.string x.key) ∧ w'.cell? ⟨b, o + k * 4 + 3, none⟩ = some (.string x.val))
        (go_keep) (fail)
      have HB2 := Lib.hid HB.out.drew
      clear HB hv
      simp only [Exit.then]
      go_at_K
      go_wp2
      · go_ret
        first
          | exact .inr ⟨rfl, HB2.out⟩
          | exact ⟨true, rfl, HB2.out, fun h => by cases h⟩
      · exact ⟨⟨k + 1, by omega, by go_num, HB2.out⟩, by simp [intOf]; omega⟩
    · obtain rfl : k = l.length := by omega
      by_cases h6 : (20 : Int) < l.length
      · go_wp2
        go_ret
        first
          | exact .inr ⟨by simp [h6], hB⟩
          | exact ⟨true, by simp [h6], hB, fun h => by cases h⟩
      · go_wp2
        go_ret
        first
          | exact .inl ⟨by simp [h6], hB, by omega⟩
          | exact ⟨false, by simp [h6], hB, fun _ => by omega⟩
def validE (x : Ent) : Bool := decide (0 ≤ x.g ∧ x.g < 128) && (isName x.nm && (!big x.key && !big x.val))
set_option maxHeartbeats 400000 in
theorem fits_any (t : ByteArray) (w : World) (ht : t.size ≤ maxLen) :
    Calls Tryz.prog 75 #[.string t] w fun e w' => e = .returned (.bool (!big t)) ∧ w = w' := by
  unfold maxLen at ht
  by_cases h : (t.size : Int) ≤ 65536
  all_goals
    have h' : decide (65536 < t.size) = !decide ((t.size : Int) ≤ 65536) := by
      by_cases h2 : (t.size : Int) ≤ 65536
      · rw [decide_eq_true h2, decide_eq_false (by omega)]; rfl
      · rw [decide_eq_false h2, decide_eq_true (by omega)]; rfl
    have HB := Lib.hid h'
    clear h'
    go_enter Tryz.func75, Tryz.ntmps75
    go_wp2
    go_ret
    exact ⟨by unfold big; rw [HB.out]; simp [h], rfl⟩
set_option maxHeartbeats 4000000 in
theorem validEntry_any (x : Ent) (w : World) (hok : x.okE) :
    Calls Tryz.prog 44 #[x.v] w fun e w' => e = .returned (.bool (validE x)) ∧ Below w.heap.size w w' := by
  obtain ⟨g, nm, key, val⟩ := x
  obtain ⟨s0, s1, s2, s3⟩ := hok
  have HB0 := Lib.hid (fun o => (show Below w.heap.size w (w.alloc o) from (Below.refl _ _).alloc (Nat.le_refl _) o))
  have HV := Lib.hid (show validE ⟨g, nm, key, val⟩ = (decide (0 ≤ g ∧ g < 128) && (isName nm && (!big key && !big val))) from rfl)
  have HN := Lib.hid (fun w => rowName_any nm w s1)
  have HK := Lib.hid (fun w => fits_any key w s2)
  have HL := Lib.hid (fun w => fits_any val w s3)
  generalize validE ⟨g, nm, key, val⟩ = r at *
  by_cases h0 : 0 ≤ g
  case neg =>
    have HR := Lib.hid (show r = false by rw [HV.out, decide_eq_false (by omega)]; rfl)
    go_enter Tryz.func44, Tryz.ntmps44
    go_wp2
    go_ret
    exact ⟨by rw [HR.out] <;> rfl, HB0.out _⟩
  by_cases h1 : g < 128
  case neg =>
    have HR := Lib.hid (show r = false by rw [HV.out, decide_eq_false (by omega)]; rfl)
    go_enter Tryz.func44, Tryz.ntmps44
    go_wp2
    go_ret
    exact ⟨by rw [HR.out] <;> rfl, HB0.out _⟩
  have HV2 := Lib.hid (show r = (isName nm && (!big key && !big val)) by rw [HV.out, decide_eq_true ⟨h0, h1⟩]; rfl)
  clear HV
  generalize isName nm = b1 at *
  generalize big key = b2 at *
  generalize big val = b3 at *
  go_enter Tryz.func44, Tryz.ntmps44
  go_wp2_with fail
  refine (HN.out _).mono ?_
  rintro e w1 ⟨rfl, rfl⟩
  cases b1 with
  | false =>
    have HR := Lib.hid (show r = false by rw [HV2.out]; rfl)
    go_wp2
    go_ret
    exact ⟨by rw [HR.out] <;> rfl, HB0.out _⟩
  | true =>
  go_wp2_with fail
  refine (HK.out _).mono ?_
  rintro e w1 ⟨rfl, rfl⟩
  cases b2 with
  | true =>
    have HR := Lib.hid (show r = false by rw [HV2.out]; rfl)
    go_wp2
    go_ret
    exact ⟨by rw [HR.out] <;> rfl, HB0.out _⟩
  | false =>
  go_wp2_with fail
  refine (HL.out _).mono ?_
  rintro e w1 ⟨rfl, rfl⟩
  have HR := Lib.hid (show r = !b3 by rw [HV2.out]; rfl)
  go_wp2
  go_ret
  exact ⟨by rw [HR.out] <;> rfl, HB0.out _⟩
set_option maxRecDepth 100000 in
theorem tell1_any (x : Ent) (w : World) (hok : x.okE) :
    Calls Tryz.prog 43 #[x.v] w fun e w' => e = .returned (.bool (!validE x)) ∧ Below w.heap.size w w' := by
  have HB0 := Lib.hid (fun o => (show Below w.heap.size w (w.alloc o) from (Below.refl _ _).alloc (Nat.le_refl _) o))
  have HV := Lib.hid (fun w => validEntry_any x w hok)
  obtain ⟨g, nm, key, val⟩ := x
  generalize validE ⟨g, nm, key, val⟩ = r at *
  go_enter Tryz.func43, Tryz.ntmps43
  go_wp2_with fail
  refine (HV.out _).mono ?_
  rintro e w1 ⟨rfl, hb⟩
  have HB := Lib.hid (pure_trans (HB0.out _) hb)
  go_wp2
  go_ret
  exact ⟨rfl, HB.out⟩
end Go.Proofs.YtnfolemblnnejaaGreat
/- Bits of a vault: words, has, with, first. -/
namespace Go.Proofs.YtnfolemblnnejaaGreat
open Go.RowKit Go.Maps

theorem bits_or64 (a b : Nat) (ha : a < 18446744073709551616) (hb : b < 18446744073709551616) : bits .or .u64 (a : Int) (b : Int) = ((a ||| b : Nat) : Int) := by
  have h : a ||| b < 18446744073709551616 := Nat.or_lt_two_pow (n := 64) ha hb
  have e : ((BitVec.ofInt 64 (a : Int)) ||| (BitVec.ofInt 64 (b : Int))).toNat = a ||| b := by
    rw [BitVec.ofInt_natCast, BitVec.ofInt_natCast, BitVec.toNat_or, BitVec.toNat_ofNat, BitVec.toNat_ofNat, Nat.mod_eq_of_lt ha, Nat.mod_eq_of_lt hb]
  show IntKind.u64.wrap (((BitVec.ofInt 64 (a : Int)) ||| (BitVec.ofInt 64 (b : Int))).toNat : Int) = _
  rw [e]
  simp only [IntKind.wrap, IntKind.bits, IntKind.signed]
  simp
  omega
theorem bits_and64 (a b : Nat) (ha : a < 18446744073709551616) (hb : b < 18446744073709551616) : bits .and .u64 (a : Int) (b : Int) = ((a &&& b : Nat) : Int) := by
  have h : a &&& b < 18446744073709551616 := Nat.and_lt_two_pow a (n := 64) hb
  have e : ((BitVec.ofInt 64 (a : Int)) &&& (BitVec.ofInt 64 (b : Int))).toNat = a &&& b := by
    rw [BitVec.ofInt_natCast, BitVec.ofInt_natCast, BitVec.toNat_and, BitVec.toNat_ofNat, BitVec.toNat_ofNat, Nat.mod_eq_of_lt ha, Nat.mod_eq_of_lt hb]
  show IntKind.u64.wrap (((BitVec.ofInt 64 (a : Int)) &&& (BitVec.ofInt 64 (b : Int))).toNat : Int) = _
  rw [e]
  simp only [IntKind.wrap, IntKind.bits, IntKind.signed]
  simp
  omega
theorem wrap_pow (i : Nat) (hi : i < 64) : IntKind.u64.wrap ((2 : Int) ^ i) = ((2 ^ i : Nat) : Int) := by
  have h : 2 ^ i < 18446744073709551616 := Nat.pow_lt_pow_right (a := 2) (n := 64) (by decide) hi
  have e : (2 : Int) ^ i = ((2 ^ i : Nat) : Int) := by simp
  rw [e]
  generalize 2 ^ i = n at *
  simp only [IntKind.wrap, IntKind.bits, IntKind.signed]
  simp
  omega
theorem or_pow (x i : Nat) (hi : i < 64) (hx : x < 18446744073709551616) : bits .or .u64 (x : Int) (IntKind.u64.wrap ((2 : Int) ^ i)) = ((x ||| 2 ^ i : Nat) : Int) := by
  rw [wrap_pow i hi, bits_or64 _ _ hx (Nat.pow_lt_pow_right (a := 2) (n := 64) (by decide) hi)]
theorem and_bit (x i : Nat) (hx : x < 18446744073709551616) : (bits .and .u64 ((x : Int) / 2 ^ i) 1 == 1) = x.testBit i := by
  have e : (x : Int) / 2 ^ i = ((x / 2 ^ i : Nat) : Int) := by simp
  rw [e, show (1 : Int) = ((1 : Nat) : Int) from rfl, bits_and64 _ _ (Nat.lt_of_le_of_lt (Nat.div_le_self _ _) hx) (by decide), Nat.and_one_is_mod, Nat.testBit_eq_decide_div_mod_eq]
  generalize x / 2 ^ i % 2 = n
  by_cases h : n = 1
  · subst h; rfl
  · have : ((n : Int) == ((1 : Nat) : Int)) = false := by rw [beq_eq_false_iff_ne]; omega
    rw [this, decide_eq_false h]
theorem alloc_at0 (w : World) (o o' : Obj) : ((w.alloc o).alloc o').heap[w.heap.size]? = some o := (Below.heap_alloc _ _ _ (by simp)).trans (heap_alloc_new w o)
theorem alloc_at1 (w : World) (o o' : Obj) : ((w.alloc o).alloc o').heap[w.heap.size + 1]? = some o' := by
  have := heap_alloc_new (w.alloc o) o'
  rwa [World.size_alloc] at this
theorem set_block {w : World} {g o : Nat} {v : Value} {cur : Array Value} {t : TypeId} {f : Nat × Nat} (h : w.heap[g]? = some (.cells cur t f)) : (w.setCell ⟨g, o, none⟩ v).heap[g]? = some (.cells (cur.setIfInBounds o v) t f) := by
  simp [World.setCell, Array.getElem?_modify, h]
theorem set_block_other {w : World} {g g' o : Nat} {v : Value} (hne : g' ≠ g) : (w.setCell ⟨g, o, none⟩ v).heap[g']? = w.heap[g']? := Below.heap_setCell _ _ _ _ hne
def store7 (w : World) (p o : Nat) (v0 v1 v2 v3 v4 v5 v6 : Value) : World := ((((((w.setCell ⟨p, o, none⟩ v0).setCell ⟨p, o + 1, none⟩ v1).setCell ⟨p, o + 2, none⟩ v2).setCell ⟨p, o + 3, none⟩ v3).setCell ⟨p, o + 4, none⟩ v4).setCell ⟨p, o + 5, none⟩ v5).setCell ⟨p, o + 6, none⟩ v6
theorem store7_block {w : World} {p : Nat} {a0 a1 a2 a3 a4 a5 a6 : Value} {T : TypeId} (h : w.heap[p]? = some (.cells #[a0, a1, a2, a3, a4, a5, a6] T (0, 0))) (v0 v1 v2 v3 v4 v5 v6 : Value) :
    (store7 w p 0 v0 v1 v2 v3 v4 v5 v6).heap[p]? = some (.cells #[v0, v1, v2, v3, v4, v5, v6] T (0, 0)) := by
  have h0 : (w.setCell ⟨p, 0, none⟩ v0).heap[p]? = some (.cells #[v0, a1, a2, a3, a4, a5, a6] T (0, 0)) := set_block (o := 0) h
  have h1 : ((w.setCell ⟨p, 0, none⟩ v0).setCell ⟨p, 1, none⟩ v1).heap[p]? = some (.cells #[v0, v1, a2, a3, a4, a5, a6] T (0, 0)) := set_block (o := 1) h0
  have h2 : (((w.setCell ⟨p, 0, none⟩ v0).setCell ⟨p, 1, none⟩ v1).setCell ⟨p, 2, none⟩ v2).heap[p]? = some (.cells #[v0, v1, v2, a3, a4, a5, a6] T (0, 0)) := set_block (o := 2) h1
  have h3 : ((((w.setCell ⟨p, 0, none⟩ v0).setCell ⟨p, 1, none⟩ v1).setCell ⟨p, 2, none⟩ v2).setCell ⟨p, 3, none⟩ v3).heap[p]? = some (.cells #[v0, v1, v2, v3, a4, a5, a6] T (0, 0)) := set_block (o := 3) h2
  have h4 : (((((w.setCell ⟨p, 0, none⟩ v0).setCell ⟨p, 1, none⟩ v1).setCell ⟨p, 2, none⟩ v2).setCell ⟨p, 3, none⟩ v3).setCell ⟨p, 4, none⟩ v4).heap[p]? = some (.cells #[v0, v1, v2, v3, v4, a5, a6] T (0, 0)) := set_block (o := 4) h3
  have h5 : ((((((w.setCell ⟨p, 0, none⟩ v0).setCell ⟨p, 1, none⟩ v1).setCell ⟨p, 2, none⟩ v2).setCell ⟨p, 3, none⟩ v3).setCell ⟨p, 4, none⟩ v4).setCell ⟨p, 5, none⟩ v5).heap[p]? = some (.cells #[v0, v1, v2, v3, v4, v5, a6] T (0, 0)) := set_block (o := 5) h4
  have h6 : (((((((w.setCell ⟨p, 0, none⟩ v0).setCell ⟨p, 1, none⟩ v1).setCell ⟨p, 2, none⟩ v2).setCell ⟨p, 3, none⟩ v3).setCell ⟨p, 4, none⟩ v4).setCell ⟨p, 5, none⟩ v5).setCell ⟨p, 6, none⟩ v6).heap[p]? = some (.cells #[v0, v1, v2, v3, v4, v5, v6] T (0, 0)) := set_block (o := 6) h5
  exact h6
theorem store7_block9 {w : World} {p : Nat} {b0 b8 a0 a1 a2 a3 a4 a5 a6 : Value} {T : TypeId} (h : w.heap[p]? = some (.cells #[b0, a0, a1, a2, a3, a4, a5, a6, b8] T (0, 0))) (v0 v1 v2 v3 v4 v5 v6 : Value) :
    (store7 w p 1 v0 v1 v2 v3 v4 v5 v6).heap[p]? = some (.cells #[b0, v0, v1, v2, v3, v4, v5, v6, b8] T (0, 0)) := by
  have h0 : (w.setCell ⟨p, 1, none⟩ v0).heap[p]? = some (.cells #[b0, v0, a1, a2, a3, a4, a5, a6, b8] T (0, 0)) := set_block (o := 1) h
  have h1 : ((w.setCell ⟨p, 1, none⟩ v0).setCell ⟨p, 2, none⟩ v1).heap[p]? = some (.cells #[b0, v0, v1, a2, a3, a4, a5, a6, b8] T (0, 0)) := set_block (o := 2) h0
  have h2 : (((w.setCell ⟨p, 1, none⟩ v0).setCell ⟨p, 2, none⟩ v1).setCell ⟨p, 3, none⟩ v2).heap[p]? = some (.cells #[b0, v0, v1, v2, a3, a4, a5, a6, b8] T (0, 0)) := set_block (o := 3) h1
  have h3 : ((((w.setCell ⟨p, 1, none⟩ v0).setCell ⟨p, 2, none⟩ v1).setCell ⟨p, 3, none⟩ v2).setCell ⟨p, 4, none⟩ v3).heap[p]? = some (.cells #[b0, v0, v1, v2, v3, a4, a5, a6, b8] T (0, 0)) := set_block (o := 4) h2
  have h4 : (((((w.setCell ⟨p, 1, none⟩ v0).setCell ⟨p, 2, none⟩ v1).setCell ⟨p, 3, none⟩ v2).setCell ⟨p, 4, none⟩ v3).setCell ⟨p, 5, none⟩ v4).heap[p]? = some (.cells #[b0, v0, v1, v2, v3, v4, a5, a6, b8] T (0, 0)) := set_block (o := 5) h3
  have h5 : ((((((w.setCell ⟨p, 1, none⟩ v0).setCell ⟨p, 2, none⟩ v1).setCell ⟨p, 3, none⟩ v2).setCell ⟨p, 4, none⟩ v3).setCell ⟨p, 5, none⟩ v4).setCell ⟨p, 6, none⟩ v5).heap[p]? = some (.cells #[b0, v0, v1, v2, v3, v4, v5, a6, b8] T (0, 0)) := set_block (o := 6) h4
  have h6 : (((((((w.setCell ⟨p, 1, none⟩ v0).setCell ⟨p, 2, none⟩ v1).setCell ⟨p, 3, none⟩ v2).setCell ⟨p, 4, none⟩ v3).setCell ⟨p, 5, none⟩ v4).setCell ⟨p, 6, none⟩ v5).setCell ⟨p, 7, none⟩ v6).heap[p]? = some (.cells #[b0, v0, v1, v2, v3, v4, v5, v6, b8] T (0, 0)) := set_block (o := 7) h5
  exact h6
theorem store7_keeps (w : World) (p o : Nat) (v0 v1 v2 v3 v4 v5 v6 : Value) : Keeps (fun k => k = p) w (store7 w p o v0 v1 v2 v3 v4 v5 v6) :=
  (((((((Keeps.refl (fun k => k = p) w).setCell (p := ⟨p, o, none⟩) (fun _ => rfl) _).setCell (p := ⟨p, o + 1, none⟩) (fun _ => rfl) _).setCell (p := ⟨p, o + 2, none⟩) (fun _ => rfl) _).setCell (p := ⟨p, o + 3, none⟩) (fun _ => rfl) _).setCell (p := ⟨p, o + 4, none⟩) (fun _ => rfl) _).setCell (p := ⟨p, o + 5, none⟩) (fun _ => rfl) _).setCell (p := ⟨p, o + 6, none⟩) (fun _ => rfl) _
theorem store7_other {w : World} {p k : Nat} (h : k ≠ p) (o : Nat) (v0 v1 v2 v3 v4 v5 v6 : Value) : (store7 w p o v0 v1 v2 v3 v4 v5 v6).heap[k]? = w.heap[k]? :=
  (set_block_other h).trans ((set_block_other h).trans ((set_block_other h).trans ((set_block_other h).trans ((set_block_other h).trans ((set_block_other h).trans (set_block_other h))))))
@[reducible] def zero7 : Obj := .cells #[.int .u64 0, .int .u64 0, .int .u64 0, .int .u64 0, .int .u64 0, .int .u64 0, .int .u64 0] 85
@[reducible] def wordsV (x : Nat) : Value := .agg #[.int .u64 x, .int .u64 0, .int .u64 0, .int .u64 0, .int .u64 0, .int .u64 0, .int .u64 0]
set_option maxHeartbeats 1000000 in
theorem has_any (x i : Nat) (w : World) (hi : i < 64) (hx : x < 18446744073709551616) :
    Calls Tryz.prog 45 #[wordsV x, .int .i64 i] w fun e w' => e = .returned (.bool (x.testBit i)) ∧ Below w.heap.size w w' := by
  have h1 : (i : Int) / 64 = 0 := by omega
  have h2 : (i : Int) % 64 = i := by omega
  have HT := Lib.hid (and_bit x i hx)
  have HB := Lib.hid (fun o => (show Below w.heap.size w (w.alloc o) from (Below.refl _ _).alloc (Nat.le_refl _) o))
  generalize x.testBit i = t at *
  go_enter Tryz.func45, Tryz.ntmps45
  go_wp2
  go_ret
  exact ⟨by rw [← HT.out] <;> rfl, HB.out _⟩
set_option maxHeartbeats 1000000 in
theorem with_any (x i : Nat) (w : World) (hi : i < 64) (hx : x < 18446744073709551616) :
    Calls Tryz.prog 46 #[wordsV x, .int .i64 i] w fun e w' => e = .returned (wordsV (x ||| 2 ^ i)) ∧ Below w.heap.size w w' := by
  have h1 : (i : Int) / 64 = 0 := by omega
  have h2 : (i : Int) % 64 = i := by omega
  have HO := Lib.hid (or_pow x i hi hx)
  have HB := Lib.hid (Below.refl w.heap.size w)
  go_enter Tryz.func46, Tryz.ntmps46
  go_wp2_with fail
  go_region
  rw [HO.out]
  go_wp2
  exact bodyPost_ret (v := wordsV (x ||| 2 ^ i)) (by simp [results, Tryz.results46, go_sem]) rfl ⟨rfl, ((HB.out.alloc HB.out.size _).alloc (by simp) _).drew⟩
/-- The first n bits. -/
theorem ones_step (i : Nat) : (2 ^ i - 1) ||| 2 ^ i = 2 ^ (i + 1) - 1 := by
  apply Nat.eq_of_testBit_eq
  intro j
  rw [Nat.testBit_or, Nat.testBit_two_pow_sub_one, Nat.testBit_two_pow_sub_one, Nat.testBit_two_pow]
  by_cases h1 : j < i <;> by_cases h2 : i = j <;> by_cases h3 : j < i + 1 <;> simp [h1, h2, h3] <;> omega
set_option maxHeartbeats 1000000 in
theorem first_any (n : Nat) (w : World) (hn : n ≤ 63) :
    Calls Tryz.prog 76 #[.int .i64 n] w fun e w' => e = .returned (wordsV (2 ^ n - 1)) ∧ Below w.heap.size w w' := by
  have HB := Lib.hid (((Below.refl w.heap.size w).alloc (Nat.le_refl _) (.cells #[.int .u64 0, .int .u64 0, .int .u64 0, .int .u64 0, .int .u64 0, .int .u64 0, .int .u64 0] 85)).alloc (by simp) (.cells #[.int .u64 0, .int .u64 0, .int .u64 0, .int .u64 0, .int .u64 0, .int .u64 0, .int .u64 0] 85))
  go_enter Tryz.func76, Tryz.ntmps76
  go_wp2_with fail
  have HK0 := Lib.hid (alloc_at0 w (.cells #[.int .u64 0, .int .u64 0, .int .u64 0, .int .u64 0, .int .u64 0, .int .u64 0, .int .u64 0] 85) (.cells #[.int .u64 0, .int .u64 0, .int .u64 0, .int .u64 0, .int .u64 0, .int .u64 0, .int .u64 0] 85))
  have HK1 := Lib.hid (alloc_at1 w (.cells #[.int .u64 0, .int .u64 0, .int .u64 0, .int .u64 0, .int .u64 0, .int .u64 0, .int .u64 0] 85) (.cells #[.int .u64 0, .int .u64 0, .int .u64 0, .int .u64 0, .int .u64 0, .int .u64 0, .int .u64 0] 85))
  generalize hX : (w.alloc (.cells #[.int .u64 0, .int .u64 0, .int .u64 0, .int .u64 0, .int .u64 0, .int .u64 0, .int .u64 0] 85)).alloc (.cells #[.int .u64 0, .int .u64 0, .int .u64 0, .int .u64 0, .int .u64 0, .int .u64 0, .int .u64 0] 85) = X at *
  clear hX
  go_loopw [6] (fun i wr => ∃ k : Nat, k ≤ n ∧ i = .int .i64 k ∧ Hid (wr.heap[w.heap.size]? = some (.cells #[.int .u64 0, .int .u64 0, .int .u64 0, .int .u64 0, .int .u64 0, .int .u64 0, .int .u64 0] 85 (0, 0))) ∧ Hid (wr.heap[w.heap.size + 1]? = some (.cells #[.int .u64 ((2 ^ k - 1 : Nat) : Int), .int .u64 0, .int .u64 0, .int .u64 0, .int .u64 0, .int .u64 0, .int .u64 0] 85 (0, 0))) ∧ Hid (Below w.heap.size w wr)) (fun i _ => n - (intOf i).toNat)
  case atStart => exact ⟨0, by omega, rfl, HK0, HK1, HB⟩
  case round =>
    clear HK0 HK1 HB
    obtain ⟨k, hk, rfl, H0, H1, HB⟩ := hrel
    have c0 : wr.cell? ⟨w.heap.size + 1, 0, none⟩ = some (.int .u64 ((2 ^ k - 1 : Nat) : Int)) := mem_cells H1.out 0
    have c1 : wr.cell? ⟨w.heap.size + 1, 1, none⟩ = some (.int .u64 0) := mem_cells H1.out 1
    have c2 : wr.cell? ⟨w.heap.size + 1, 2, none⟩ = some (.int .u64 0) := mem_cells H1.out 2
    have c3 : wr.cell? ⟨w.heap.size + 1, 3, none⟩ = some (.int .u64 0) := mem_cells H1.out 3
    have c4 : wr.cell? ⟨w.heap.size + 1, 4, none⟩ = some (.int .u64 0) := mem_cells H1.out 4
    have c5 : wr.cell? ⟨w.heap.size + 1, 5, none⟩ = some (.int .u64 0) := mem_cells H1.out 5
    have c6 : wr.cell? ⟨w.heap.size + 1, 6, none⟩ = some (.int .u64 0) := mem_cells H1.out 6
    have h64 : 2 ^ k < 18446744073709551616 := Nat.pow_lt_pow_right (a := 2) (n := 64) (by decide) (by omega)
    by_cases hlt : k < n
    · have HW := Lib.hid (with_any (2 ^ k - 1) k wr (by omega) (by omega))
      rw [ones_step] at HW
      generalize 2 ^ k - 1 = x at *
      generalize hy : 2 ^ (k + 1) - 1 = y at *
      have HYE := Lib.hid hy
      clear hy
      go_wp2_with fail
      refine HW.out.mono ?_
      rintro e w1 ⟨rfl, hb⟩
      have g1 := (hb.block _ (Array.getElem?_eq_some_iff.1 H1.out).1).trans H1.out
      have g0 := (hb.block _ (Array.getElem?_eq_some_iff.1 H0.out).1).trans H0.out
      have HB1 := Lib.hid (pure_trans HB.out hb)
      have HG0 := Lib.hid g0
      have HG1 := Lib.hid g1
      clear hb g0 g1 H0 H1 HB HW c0 c1 c2 c3 c4 c5 c6
      have z0 := frozen_cells HG1.out 0
      have z1 := frozen_cells HG1.out 1
      have z2 := frozen_cells HG1.out 2
      have z3 := frozen_cells HG1.out 3
      have z4 := frozen_cells HG1.out 4
      have z5 := frozen_cells HG1.out 5
      have z6 := frozen_cells HG1.out 6
      have c0 : w1.cell? ⟨w.heap.size + 1, 0, none⟩ = some (.int .u64 x) := mem_cells HG1.out 0
      have c1 : w1.cell? ⟨w.heap.size + 1, 1, none⟩ = some (.int .u64 0) := mem_cells HG1.out 1
      have c2 : w1.cell? ⟨w.heap.size + 1, 2, none⟩ = some (.int .u64 0) := mem_cells HG1.out 2
      have c3 : w1.cell? ⟨w.heap.size + 1, 3, none⟩ = some (.int .u64 0) := mem_cells HG1.out 3
      have c4 : w1.cell? ⟨w.heap.size + 1, 4, none⟩ = some (.int .u64 0) := mem_cells HG1.out 4
      have c5 : w1.cell? ⟨w.heap.size + 1, 5, none⟩ = some (.int .u64 0) := mem_cells HG1.out 5
      have c6 : w1.cell? ⟨w.heap.size + 1, 6, none⟩ = some (.int .u64 0) := mem_cells HG1.out 6
      have HA := Lib.hid (store7_block HG1.out (.int .u64 y) (.int .u64 0) (.int .u64 0) (.int .u64 0) (.int .u64 0) (.int .u64 0) (.int .u64 0))
      have HC := Lib.hid ((store7_other (w := w1) (p := w.heap.size + 1) (k := w.heap.size) (by omega) 0 (.int .u64 y) (.int .u64 0) (.int .u64 0) (.int .u64 0) (.int .u64 0) (.int .u64 0) (.int .u64 0)).trans HG0.out)
      have HD := Lib.hid (show Below w.heap.size w (store7 w1 (w.heap.size + 1) 0 (.int .u64 y) (.int .u64 0) (.int .u64 0) (.int .u64 0) (.int .u64 0) (.int .u64 0) (.int .u64 0)) from HB1.out.trans ((store7_keeps w1 (w.heap.size + 1) 0 (.int .u64 y) (.int .u64 0) (.int .u64 0) (.int .u64 0) (.int .u64 0) (.int .u64 0) (.int .u64 0)).below HB1.out.size (fun k e => by omega)))
      unfold store7 at HA HC HD
      go_wp2
      go_roundw
      case rel => exact ⟨k + 1, by omega, by go_num, HC, Lib.hid (by rw [HYE.out]; exact HA.out), HD⟩
      case measure => simp [intOf]; omega
    · obtain rfl : k = n := by omega
      have z0 := frozen_cells H0.out 0
      have z1 := frozen_cells H0.out 1
      have z2 := frozen_cells H0.out 2
      have z3 := frozen_cells H0.out 3
      have z4 := frozen_cells H0.out 4
      have z5 := frozen_cells H0.out 5
      have z6 := frozen_cells H0.out 6
      have d0 : wr.cell? ⟨w.heap.size, 0, none⟩ = some (.int .u64 0) := mem_cells H0.out 0
      have d1 : wr.cell? ⟨w.heap.size, 1, none⟩ = some (.int .u64 0) := mem_cells H0.out 1
      have d2 : wr.cell? ⟨w.heap.size, 2, none⟩ = some (.int .u64 0) := mem_cells H0.out 2
      have d3 : wr.cell? ⟨w.heap.size, 3, none⟩ = some (.int .u64 0) := mem_cells H0.out 3
      have d4 : wr.cell? ⟨w.heap.size, 4, none⟩ = some (.int .u64 0) := mem_cells H0.out 4
      have d5 : wr.cell? ⟨w.heap.size, 5, none⟩ = some (.int .u64 0) := mem_cells H0.out 5
      have d6 : wr.cell? ⟨w.heap.size, 6, none⟩ = some (.int .u64 0) := mem_cells H0.out 6
      clear h64
      generalize hx : 2 ^ k - 1 = x at *
      have HXE := Lib.hid hx
      clear hx
      have HA := Lib.hid (store7_block H0.out (.int .u64 x) (.int .u64 0) (.int .u64 0) (.int .u64 0) (.int .u64 0) (.int .u64 0) (.int .u64 0))
      have HD := Lib.hid (show Below w.heap.size w (store7 wr w.heap.size 0 (.int .u64 x) (.int .u64 0) (.int .u64 0) (.int .u64 0) (.int .u64 0) (.int .u64 0) (.int .u64 0)) from HB.out.trans ((store7_keeps wr w.heap.size 0 (.int .u64 x) (.int .u64 0) (.int .u64 0) (.int .u64 0) (.int .u64 0) (.int .u64 0) (.int .u64 0)).below HB.out.size (fun k e => by omega)))
      unfold store7 at HA HD
      go_wp2
      generalize (((((((wr.setCell ⟨w.heap.size, 0, none⟩ (.int .u64 x)).setCell ⟨w.heap.size, 1, none⟩ (.int .u64 0)).setCell ⟨w.heap.size, 2, none⟩ (.int .u64 0)).setCell ⟨w.heap.size, 3, none⟩ (.int .u64 0)).setCell ⟨w.heap.size, 4, none⟩ (.int .u64 0)).setCell ⟨w.heap.size, 5, none⟩ (.int .u64 0)).setCell ⟨w.heap.size, 6, none⟩ (.int .u64 0)) = X at *
      have e0 : X.cell? ⟨w.heap.size, 0, none⟩ = some (.int .u64 x) := mem_cells HA.out 0
      have e1 : X.cell? ⟨w.heap.size, 1, none⟩ = some (.int .u64 0) := mem_cells HA.out 1
      have e2 : X.cell? ⟨w.heap.size, 2, none⟩ = some (.int .u64 0) := mem_cells HA.out 2
      have e3 : X.cell? ⟨w.heap.size, 3, none⟩ = some (.int .u64 0) := mem_cells HA.out 3
      have e4 : X.cell? ⟨w.heap.size, 4, none⟩ = some (.int .u64 0) := mem_cells HA.out 4
      have e5 : X.cell? ⟨w.heap.size, 5, none⟩ = some (.int .u64 0) := mem_cells HA.out 5
      have e6 : X.cell? ⟨w.heap.size, 6, none⟩ = some (.int .u64 0) := mem_cells HA.out 6
      exact bodyPost_ret (v := wordsV x) (by simp [results, Tryz.results76, go_sem, e0, e1, e2, e3, e4, e5, e6]) rfl ⟨by rw [HXE.out], HD.out⟩
end Go.Proofs.YtnfolemblnnejaaGreat
