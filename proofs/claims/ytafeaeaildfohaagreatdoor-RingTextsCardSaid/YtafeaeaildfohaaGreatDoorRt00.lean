/- Part 0 of the texts that the law's proof stands on, merged. -/
import Derived.WalkKit
import Derived.WalkSpells
import Derived.WalkLawsBesides
import Derived.Deep.QuietTactic
import Derived.BigQuiet
import Derived.Lib.Hide
import Derived.ChangeArms
import Derived.Deep.Slices
import Derived.DataReads
import Derived.Carry
import Derived.Deep.RegionLaw
import Derived.Test.YtafeaeaildfohaaGreatDoorRows
import Derived.ProofKit
import Derived.OpenShut
import Derived.ShutString
import Derived.ChangeOld
import Derived.RangeFuncKeeps
import Derived.RangeFuncLeaves
import Derived.RangeFuncGives
import Derived.Shelf.Abstract
import Derived.OwnWalkIn
import Derived.TacticsInMore
import Derived.LoopNIn
import Derived.LoopIn
import Derived.RegionIn
import Derived.Sort.Statements
import Derived.Lib.Strings
import Derived.Maps.OwnSet
import Derived.Maps.Range
import Derived.Maps.RangeWalk
import Derived.DeepKeys4
import Derived.Sort.KeysCollected
set_option linter.unusedVariables false
set_option linter.unusedSimpArgs false
/- Own words of these proofs: memory as a function of places, readings of Go's types as plain data (Ty), what a call keeps (Keeps), rows of the call's own. No program in sight. -/
namespace Go.Proofs.YtafeaeaildfohaaGreatDoor
open Go.RowKit

def Mem := Nat → Nat → Option Value
def mem (w : World) : Mem := fun b o => w.cell? ⟨b, o, none⟩
open Classical in
noncomputable def Mem.on (m : Mem) (S : Nat → Prop) : Mem := fun b o => if S b then m b o else none
def Mem.le (m m' : Mem) : Prop := ∀ b o v, m b o = some v → m' b o = some v

theorem Mem.le_refl (m : Mem) : m.le m := fun _ _ _ h => h
theorem Mem.le_trans {a b c : Mem} (h : a.le b) (k : b.le c) : a.le c := fun x y v e => k x y v (h x y v e)
theorem Mem.on_le (m : Mem) (S : Nat → Prop) : (m.on S).le m := fun b o v h => by
  unfold Mem.on at h
  split at h
  · exact h
  · cases h
theorem Mem.on_mono (m : Mem) {S S' : Nat → Prop} (h : ∀ b, S b → S' b) : (m.on S).le (m.on S') := fun b o v e => by
  unfold Mem.on at *
  split at e
  · rename_i hs
    rw [if_pos (h b hs)]; exact e
  · cases e
theorem Mem.on_some {m : Mem} {S : Nat → Prop} {b o : Nat} {v : Value} (h : m b o = some v) (hs : S b) : m.on S b o = some v := by
  unfold Mem.on; rw [if_pos hs]; exact h
theorem Mem.of_on {m : Mem} {S : Nat → Prop} {b o : Nat} {v : Value} (h : m.on S b o = some v) : S b ∧ m b o = some v := by
  unfold Mem.on at h
  split at h
  · exact ⟨‹_›, h⟩
  · cases h
theorem mem_lt {w : World} {b o : Nat} {v : Value} (h : mem w b o = some v) : b < w.heap.size := World.block_lt_of_cell? w ⟨b, o, none⟩ h

/-- What a call keeps: outside the blocks F all that was there is there. -/
structure Keeps (F : Nat → Prop) (w w' : World) : Prop where
  os : w'.os = w.os
  tape : w'.tape = w.tape
  output : w'.output = w.output
  size : w.heap.size ≤ w'.heap.size
  block : ∀ k, k < w.heap.size → ¬ F k → w'.heap[k]? = w.heap[k]?

theorem Keeps.refl (F : Nat → Prop) (w : World) : Keeps F w w := ⟨rfl, rfl, rfl, Nat.le_refl _, fun _ _ _ => rfl⟩
theorem Keeps.wide {F G : Nat → Prop} {w w' : World} (h : Keeps F w w') (hFG : ∀ k, k < w.heap.size → F k → G k) : Keeps G w w' :=
  ⟨h.os, h.tape, h.output, h.size, fun k hk hg => h.block k hk (fun hf => hg (hFG k hk hf))⟩
theorem Keeps.trans {F : Nat → Prop} {a b c : World} (h : Keeps F a b) (k : Keeps F b c) : Keeps F a c :=
  ⟨k.os.trans h.os, k.tape.trans h.tape, k.output.trans h.output, Nat.le_trans h.size k.size,
   fun i hi hf => (k.block i (Nat.lt_of_lt_of_le hi h.size) hf).trans (h.block i hi hf)⟩
theorem below_keeps {B : Nat} {w w' : World} (h : Below B w w') : Keeps (fun k => B ≤ k) w w' :=
  ⟨h.os, h.tape, h.output, h.size, fun k _ hk => h.block k (by omega)⟩
theorem Keeps.below {F : Nat → Prop} {w w' : World} (h : Keeps F w w') {B : Nat} (hB : B ≤ w.heap.size) (hF : ∀ k, F k → B ≤ k) : Below B w w' :=
  ⟨h.os, h.tape, h.output, h.size, fun k hk => h.block k (by omega) (fun hf => by have := hF k hf; omega)⟩
theorem below_step {B : Nat} {w wr w1 : World} (h : Below B w wr) (k : Below wr.heap.size wr w1) (hB : B ≤ wr.heap.size) : Below B w w1 := h.trans (k.mono hB)
theorem pure_trans {w wr w1 : World} (h : Below w.heap.size w wr) (k : Below wr.heap.size wr w1) : Below w.heap.size w w1 := h.trans (k.mono h.size)
theorem grown_keeps {w w' : World} {r : Option Nat} (h : w.grownBy w' r) : Keeps (fun k => some k = r) w w' :=
  ⟨h.os, h.tape, h.output, h.size, fun k hk hf => h.block k hk hf⟩
theorem Keeps.alloc {F : Nat → Prop} {a w : World} (h : Keeps F a w) (o : Obj) : Keeps F a (w.alloc o) :=
  h.trans ⟨rfl, rfl, rfl, by simp, fun k hk _ => Below.heap_alloc _ _ _ hk⟩
theorem Keeps.drew {F : Nat → Prop} {a w : World} (h : Keeps F a w) : Keeps F a w.drew := ⟨h.os, h.tape, h.output, h.size, h.block⟩
theorem Keeps.drewN {F : Nat → Prop} {a w : World} (h : Keeps F a w) (n : Nat) : Keeps F a (w.drewN n) := ⟨h.os, h.tape, h.output, h.size, h.block⟩
theorem Keeps.setCell {F : Nat → Prop} {a w : World} (h : Keeps F a w) {p : Addr} (hp : p.block < a.heap.size → F p.block) (u : Value) : Keeps F a (w.setCell p u) :=
  ⟨h.os, h.tape, h.output, by have := h.size; simpa [World.setCell] using this, fun k hk hf => (Below.heap_setCell _ _ _ _ (fun e => hf (by subst e; exact hp hk))).trans (h.block k hk hf)⟩
theorem Keeps.belowStep {F : Nat → Prop} {B : Nat} {w wr w1 : World} (h : Below B w wr) (k : Keeps F wr w1) (hF : ∀ k, F k → B ≤ k) (hB : B ≤ wr.heap.size) : Below B w w1 := h.trans (k.below hB hF)
theorem Keeps.pure {F : Nat → Prop} {a w w' : World} (h : Keeps F a w) (k : Below w.heap.size w w') : Keeps F a w' :=
  ⟨k.os.trans h.os, k.tape.trans h.tape, k.output.trans h.output, Nat.le_trans h.size k.size, fun i hi hf => (k.block i (Nat.lt_of_lt_of_le hi h.size)).trans (h.block i hi hf)⟩

theorem mem_of_block {w w' : World} {b : Nat} (h : w'.heap[b]? = w.heap[b]?) (o : Nat) : mem w' b o = mem w b o := World.cell?_of_block (w := w) (w' := w') (a := ⟨b, o, none⟩) h
theorem keeps_mem {F : Nat → Prop} {w w' : World} (h : Keeps F w w') {S : Nat → Prop} (hS : ∀ b, S b → ¬ F b) : ((mem w).on S).le ((mem w').on S) := fun b o v e => by
  obtain ⟨hs, e⟩ := Mem.of_on e
  exact Mem.on_some ((mem_of_block (h.block b (mem_lt e) (hS b hs)) o).trans e) hs
theorem keeps_mem' {F : Nat → Prop} {w w' : World} (h : Keeps F w w') {S : Nat → Prop} (hS : ∀ b, S b → ¬ F b) : ((mem w).on S).le (mem w') := Mem.le_trans (keeps_mem h hS) (Mem.on_le _ _)
theorem below_mem {w w' : World} (h : Below w.heap.size w w') : (mem w).le (mem w') := fun b o v e => (mem_of_block (h.block b (mem_lt e)) o).trans e
theorem below_memOn {B : Nat} {w w' : World} (h : Below B w w') : ((mem w).on (· < B)).le ((mem w').on (· < B)) := keeps_mem (below_keeps h) (fun b hb hn => by omega)
theorem mem_on_lt (w : World) : (mem w).le ((mem w).on (· < w.heap.size)) := fun _ _ _ e => Mem.on_some e (mem_lt e)
theorem mem_drewN (w : World) (n : Nat) : mem (w.drewN n) = mem w := rfl
theorem mem_drew (w : World) : mem w.drew = mem w := rfl

/-- How the cells of a value read as plain data. -/
structure Ty (α : Type) where
  sz : Nat
  rv : Mem → List Value → α → Prop
  len : ∀ m cs x, rv m cs x → cs.length = sz
  mono : ∀ m m' cs x, m.le m' → rv m cs x → rv m' cs x

def inI64 (n : Int) : Prop := -9223372036854775808 ≤ n ∧ n ≤ 9223372036854775807

def tInt : Ty Int := ⟨1, fun _ cs x => cs = [.int .i64 x] ∧ inI64 x, fun _ _ _ h => by rw [h.1]; rfl, fun _ _ _ _ _ h => h⟩
def tBool : Ty Bool := ⟨1, fun _ cs x => cs = [.bool x], fun _ _ _ h => by rw [h]; rfl, fun _ _ _ _ _ h => h⟩
def tStr : Ty ByteArray := ⟨1, fun _ cs x => cs = [.string x] ∧ x.size ≤ maxLen, fun _ _ _ h => by rw [h.1]; rfl, fun _ _ _ _ _ h => h⟩

/-- The cells of an element at a place. -/
def At (m : Mem) (b o : Nat) (cs : List Value) : Prop := ∀ j v, cs[j]? = some v → m b (o + j) = some v
theorem At.mono {m m' : Mem} {b o : Nat} {cs : List Value} (h : m.le m') (k : At m b o cs) : At m' b o cs := fun j v e => h _ _ _ (k j v e)
def Ty.at {α : Type} (t : Ty α) (m : Mem) (b o : Nat) (x : α) : Prop := ∃ cs, At m b o cs ∧ t.rv m cs x
theorem Ty.at_mono {α : Type} (t : Ty α) {m m' : Mem} {b o : Nat} {x : α} (h : m.le m') (k : t.at m b o x) : t.at m' b o x :=
  let ⟨cs, h1, h2⟩ := k; ⟨cs, h1.mono h, t.mono _ _ _ _ h h2⟩

def SliceRv {α : Type} (t : Ty α) (m : Mem) (cs : List Value) (xs : List α) : Prop :=
  ∃ a cap, cs = [.slice a xs.length cap] ∧ xs.length ≤ cap ∧ cap ≤ maxLen ∧
    (0 < xs.length → ∃ b o, a = some ⟨b, o, none⟩ ∧ ∀ k, (hk : k < xs.length) → t.at m b (o + k * t.sz) xs[k])
def tSlice {α : Type} (t : Ty α) : Ty (List α) where
  sz := 1
  rv := SliceRv t
  len := fun _ _ _ ⟨_, _, h, _⟩ => by rw [h]; rfl
  mono := fun m m' _ _ h ⟨a, cap, h1, h2, h3, h4⟩ => ⟨a, cap, h1, h2, h3, fun h0 => let ⟨b, o, e, hk⟩ := h4 h0; ⟨b, o, e, fun k hk' => t.at_mono h (hk k hk')⟩⟩

theorem slice_nil {α : Type} (t : Ty α) (m : Mem) : (tSlice t).rv m [.slice none 0 0] [] := ⟨none, 0, rfl, Nat.le_refl _, Nat.zero_le _, fun h => absurd h (by simp)⟩

/-- A slice's element: the cells at its place. -/
theorem slice_at {α : Type} {t : Ty α} {m : Mem} {a : Option Addr} {n cap : Nat} {xs : List α} (h : (tSlice t).rv m [.slice a n cap] xs) {k : Nat} (hk : k < xs.length) :
    ∃ b o, a = some ⟨b, o, none⟩ ∧ t.at m b (o + k * t.sz) xs[k] := by
  obtain ⟨a', cap', e, _, _, h4⟩ := h
  obtain ⟨b, o, ha, hat⟩ := h4 (by omega)
  simp only [List.cons.injEq, Value.slice.injEq, and_true] at e
  exact ⟨b, o, e.1.trans ha, hat k hk⟩
theorem slice_len {α : Type} {t : Ty α} {m : Mem} {a : Option Addr} {n cap : Nat} {xs : List α} (h : (tSlice t).rv m [.slice a n cap] xs) : n = xs.length ∧ xs.length ≤ cap ∧ cap ≤ maxLen := by
  obtain ⟨a', cap', e, h1, h2, _⟩ := h
  simp only [List.cons.injEq, Value.slice.injEq, and_true] at e
  obtain ⟨rfl, rfl, rfl⟩ := e
  exact ⟨rfl, h1, h2⟩
theorem slice_form {α : Type} {t : Ty α} {m : Mem} {v : Value} {xs : List α} (h : (tSlice t).rv m [v] xs) : ∃ a cap, v = .slice a xs.length cap ∧ xs.length ≤ cap ∧ cap ≤ maxLen ∧ (tSlice t).rv m [.slice a xs.length cap] xs := by
  have h0 := h
  obtain ⟨a', cap', e, h1, h2, _⟩ := h
  simp only [List.cons.injEq, and_true] at e
  exact ⟨a', cap', e, h1, h2, e ▸ h0⟩
/-- Elements of one cell. -/
theorem int_at {m : Mem} {b o : Nat} {x : Int} (h : tInt.at m b o x) : m b o = some (.int .i64 x) ∧ inI64 x := by
  obtain ⟨cs, h1, rfl, h3⟩ := h
  exact ⟨h1 0 _ rfl, h3⟩
theorem str_at {m : Mem} {b o : Nat} {x : ByteArray} (h : tStr.at m b o x) : m b o = some (.string x) ∧ x.size ≤ maxLen := by
  obtain ⟨cs, h1, rfl, h3⟩ := h
  exact ⟨h1 0 _ rfl, h3⟩
theorem slice_cell {α : Type} {t : Ty α} {m : Mem} {b o : Nat} {xs : List α} (h : (tSlice t).at m b o xs) : ∃ v, m b o = some v ∧ (tSlice t).rv m [v] xs := by
  obtain ⟨cs, h1, h2⟩ := h
  have hl := (tSlice t).len _ _ _ h2
  match cs, hl with
  | [v], _ => exact ⟨v, h1 0 _ rfl, h2⟩

/-! ### Rows of the call's own -/

/-- The slice value v owns its elements: they read as xs, and their deep parts do not lie in the row itself. -/
def Owns {α : Type} (t : Ty α) (w : World) (B : Nat) (e : TypeId) (v : Value) (xs : List α) : Prop :=
  ∃ css : List (List Value), css.length = xs.length ∧ w.ownsRow B e t.sz v xs.length css.flatten ∧ (∀ c ∈ css, c.length = t.sz) ∧
    ∀ k, (h : k < css.length) → (h' : k < xs.length) → t.rv ((mem w).on (fun b => some b ≠ v.ownBlock)) css[k] xs[k]

theorem Owns.nil {α : Type} (t : Ty α) (w : World) (B : Nat) (e : TypeId) : Owns t w B e (.slice none 0 0) [] :=
  ⟨[], rfl, World.ownsRow_nil w B e t.sz, fun c h => absurd h (by simp), fun k h => absurd h (by simp)⟩

theorem flatten_get {β : Type} {s : Nat} : ∀ (css : List (List β)), (∀ c ∈ css, c.length = s) → ∀ (k : Nat) (h : k < css.length) (j : Nat) (v : β), css[k][j]? = some v → css.flatten[k * s + j]? = some v
  | c :: css, hc, 0, _, j, v, e => by
    simp only [List.getElem_cons_zero] at e
    rw [List.flatten_cons, Nat.zero_mul, Nat.zero_add, List.getElem?_append_left (List.getElem?_eq_some_iff.1 e).1]
    exact e
  | c :: css, hc, k + 1, h, j, v, e => by
    have hl : c.length = s := hc c (by simp)
    rw [List.flatten_cons, List.getElem?_append_right (by rw [hl, Nat.succ_mul]; omega), hl, show (k + 1) * s + j - s = k * s + j by rw [Nat.succ_mul]; omega]
    exact flatten_get css (fun c hm => hc c (by simp [hm])) k (by simpa using h) j v (by simpa using e)

theorem Owns.rv {α : Type} {t : Ty α} {w : World} {B : Nat} {e : TypeId} {v : Value} {xs : List α} (h : Owns t w B e v xs) {S : Nat → Prop} (hS : ∀ b, B ≤ b → S b)
    (hd : ∀ k cs, (hk : k < xs.length) → t.rv ((mem w).on (fun b => some b ≠ v.ownBlock)) cs xs[k] → t.rv ((mem w).on S) cs xs[k]) : (tSlice t).rv ((mem w).on S) [v] xs := by
  obtain ⟨css, h1, ⟨h2, h3⟩, h4, h5⟩ := h
  rcases h3 with ⟨rfl, h6⟩ | ⟨g, cap, cur, rfl, hg, hh, hn, hm, hc, ht⟩
  · have : xs = [] := List.eq_nil_of_length_eq_zero h6
    subst this
    exact slice_nil t _
  · refine ⟨some ⟨g, 0, none⟩, cap, rfl, hn, hm, fun _ => ⟨g, 0, rfl, fun k hk => ⟨css[k], fun j u hu => ?_, hd k _ hk (h5 k (by omega) hk)⟩⟩⟩
    have hf := flatten_get css h4 k (by omega) j u hu
    rw [← ht] at hf
    rw [List.getElem?_take] at hf
    split at hf
    · rw [Nat.zero_add]
      refine Mem.on_some ?_ (hS g hg)
      show World.cell? w ⟨g, k * t.sz + j, none⟩ = some u
      rw [cell_of_row w g (k * t.sz + j) cur e (0, 0) hh]
      simpa using hf
    · cases hf

theorem Owns.rv' {α : Type} {t : Ty α} {w : World} {B : Nat} {e : TypeId} {v : Value} {xs : List α} (h : Owns t w B e v xs) : (tSlice t).rv (mem w) [v] xs :=
  (tSlice t).mono _ _ _ _ (Mem.on_le _ (fun _ => True)) (h.rv (fun _ _ => trivial) (fun _ cs _ hk => t.mono _ _ cs _ (Mem.on_mono _ (fun _ _ => trivial)) hk))
theorem Owns.len {α : Type} {t : Ty α} {w : World} {B : Nat} {e : TypeId} {v : Value} {xs : List α} (h : Owns t w B e v xs) : ∃ a cap, v = .slice a xs.length cap ∧ xs.length ≤ maxLen := by
  obtain ⟨a, cap, h1, h2, h3, _⟩ := slice_form h.rv'
  exact ⟨a, cap, h1, Nat.le_trans h2 h3⟩

/-- An owned row over a call that keeps it. -/
theorem Owns.keeps {α : Type} {t : Ty α} {w w' : World} {B : Nat} {e : TypeId} {v : Value} {xs : List α} (h : Owns t w B e v xs) (hb : Below w.heap.size w w') : Owns t w' B e v xs := by
  obtain ⟨css, h1, ⟨h2, h3⟩, h4, h5⟩ := h
  refine ⟨css, h1, ⟨h2, ?_⟩, h4, fun k h h' => t.mono _ _ _ _ (fun b o u e => ?_) (h5 k h h')⟩
  · rcases h3 with h3 | ⟨g, cap, cur, rfl, hg, hh, r⟩
    · exact .inl h3
    · exact .inr ⟨g, cap, cur, rfl, hg, by rw [hb.block g (Array.getElem?_eq_some_iff.1 hh).1]; exact hh, r⟩
  · obtain ⟨hs, e⟩ := Mem.of_on e
    exact Mem.on_some (below_mem hb _ _ _ e) hs

/-- A reading that asks nothing of memory. -/
def Ty.flat {α : Type} (t : Ty α) : Prop := ∀ m m' cs x, t.rv m cs x → t.rv m' cs x
theorem tInt_flat : tInt.flat := fun _ _ _ _ h => h
theorem tBool_flat : tBool.flat := fun _ _ _ _ h => h
theorem tStr_flat : tStr.flat := fun _ _ _ _ h => h
theorem Owns.keepsFlat {α : Type} {t : Ty α} {w w' : World} {B : Nat} {e : TypeId} {v : Value} {xs : List α} (h : Owns t w B e v xs) (hf : t.flat) {F : Nat → Prop} (hk : Keeps F w w') (hF : ∀ k, v.ownBlock = some k → ¬ F k) : Owns t w' B e v xs := by
  obtain ⟨css, h1, ⟨h2, h3⟩, h4, h5⟩ := h
  refine ⟨css, h1, ⟨h2, ?_⟩, h4, fun k h h' => hf _ _ _ _ (h5 k h h')⟩
  rcases h3 with h3 | ⟨g, cap, cur, rfl, hg, hh, r⟩
  · exact .inl h3
  · exact .inr ⟨g, cap, cur, rfl, hg, by rw [hk.block g (Array.getElem?_eq_some_iff.1 hh).1 (hF g rfl)]; exact hh, r⟩

theorem Owns.lt {α : Type} {t : Ty α} {w : World} {B : Nat} {e : TypeId} {v : Value} {xs : List α} (h : Owns t w B e v xs) : ∀ k, v.ownBlock = some k → B ≤ k ∧ k < w.heap.size := let ⟨_, _, h2, _⟩ := h; h2.lt

/-- What stands behind an append of one element: the row owns one more. -/
theorem Owns.snoc {α : Type} {t : Ty α} {w w' : World} {B : Nat} {e : TypeId} {v v' : Value} {xs : List α} {x : α} {cs : List Value} (h : Owns t w B e v xs)
    (hw : ∀ css : List (List Value), w.ownsRow B e t.sz v xs.length css.flatten → w'.ownsRow B e t.sz v' (xs.length + 1) (css.flatten ++ cs)) (hg : w.grownBy w' v.ownBlock)
    (hv : v'.ownBlock = v.ownBlock ∨ ∀ k, v'.ownBlock = some k → w.heap.size ≤ k)
    (hx : t.rv ((mem w).on (fun b => some b ≠ v.ownBlock)) cs x) : Owns t w' B e v' (xs ++ [x]) := by
  obtain ⟨css, h1, h2, h4, h5⟩ := h
  have hle : ((mem w).on (fun b => some b ≠ v.ownBlock)).le ((mem w').on (fun b => some b ≠ v'.ownBlock)) := fun b o u e => by
    obtain ⟨hs, e⟩ := Mem.of_on e
    refine Mem.on_some ((mem_of_block (hg.block b (mem_lt e) hs) o).trans e) ?_
    rcases hv with hv | hv
    · rw [hv]; exact hs
    · intro hk
      have := hv b hk.symm
      have := mem_lt e
      omega
  refine ⟨css ++ [cs], by simp [h1], ?_, ?_, ?_⟩
  · have := hw css h2
    simpa using this
  · intro c hc
    rcases List.mem_append.1 hc with hc | hc
    · exact h4 c hc
    · simp at hc; subst hc; exact t.len _ _ _ hx
  · intro k hk hk'
    by_cases hlt : k < xs.length
    · rw [List.getElem_append_left (by omega), List.getElem_append_left hlt]
      exact t.mono _ _ _ _ hle (h5 k (by omega) hlt)
    · have : k = xs.length := by simp at hk'; omega
      subst this
      rw [List.getElem_append_right (by omega), List.getElem_append_right (by omega)]
      simp only [h1, Nat.sub_self, List.getElem_cons_zero]
      exact t.mono _ _ _ _ hle hx

theorem mem_cells_new (w : World) (cs : Array Value) (T : TypeId) (f : Nat × Nat) (o : Nat) : (w.alloc (.cells cs T f)).cell? ⟨w.heap.size, o, none⟩ = cs[o]? := by
  have h := heap_alloc_new w (.cells cs T f)
  generalize w.alloc (.cells cs T f) = w' at h ⊢
  simp [World.cell?, h]
theorem Owns.alloc {α : Type} {t : Ty α} {w : World} {B : Nat} {e : TypeId} {v : Value} {xs : List α} (h : Owns t w B e v xs) (o : Obj) : Owns t (w.alloc o) B e v xs :=
  h.keeps ((Below.refl _ _).alloc (Nat.le_refl _) o)
theorem Owns.drew {α : Type} {t : Ty α} {w : World} {B : Nat} {e : TypeId} {v : Value} {xs : List α} (h : Owns t w B e v xs) : Owns t w.drew B e v xs :=
  h.keeps (Below.refl _ _).drew

section
variable {P : Program}
/-- Where an append has put its row: in the same one, or in a new one. -/
theorem append_block (w : World) (base : Nat) (t ty e : TypeId) (i : TypeInfo) (z : Value) (size bytes : Nat) (ht : P.underlying t = some (.slice e)) (hi : P.info? e = some i) (hz : i.zero = some z)
    (hsize : i.size = size) (hby : i.bytes = bytes) (v : Value) (n : Nat) (xs : List Value) (hown : w.ownsRow base e size v n xs)
    (a : Addr) (m c : Nat) (news : List Value) (hl : news.length = m * size) (hnews : ∀ j u, news[j]? = some u → w.cell? (a.add j) = some u) (h1 : ∀ u ∈ news, u.oneCell' = true)
    (hm : 0 < m) (h63 : n + m ≤ maxLen) (hbytes : (n + m) * bytes ≤ 140737488355328) {v' : Value} {w' : World}
    (hr : (Builtin.append_ #[t, t] ty #[v, .slice (some a) m c]).run P w = .ok v' w') : v'.ownBlock = v.ownBlock ∨ ∀ k, v'.ownBlock = some k → w.heap.size ≤ k := by
  subst hsize
  subst hby
  have h9 : n + m ≤ 9223372036854775807 := by unfold maxLen at h63; exact h63
  rcases hown.2 with ⟨rfl, rfl⟩ | ⟨g, cap, cur, rfl, hbg, hg, hnc, hcm, hcs, htake⟩
  · rw [run_append_nil (P := P) w t ty e i z ht hi hz a m c news hl hnews hm (by omega) (by have hb := hbytes; simp only [Nat.zero_add] at hb; omega)] at hr
    injection hr with hv _
    subst hv
    right; intro k hk
    simp [Value.ownBlock] at hk
    omega
  · by_cases hroom : n + m ≤ cap
    · have hfit : n * i.size + news.length ≤ cur.size := by rw [hl, hcs, ← Nat.add_mul]; exact Nat.mul_le_mul_right _ hroom
      rw [run_append_room (P := P) w t ty e i ht hi g n cap cur hg a m c news hl hnews h1 hroom hfit] at hr
      injection hr with hv _
      subst hv
      left; rfl
    · rw [run_append_grow (P := P) w t ty e i z ht hi hz ⟨g, 0, none⟩ n cap xs hown.1 (hown.cells (g := g) rfl) a m c news hl hnews (by omega) (by omega) (growslice_fits (by omega) hbytes)] at hr
      injection hr with hv _
      subst hv
      right; intro k hk
      simp [Value.ownBlock] at hk
      omega

/-- APPEND OF ONE ELEMENT to a row of the call's own, in readings. -/
theorem wpList_append_one {α : Type} {ops : Array Oper} {rest : List Oper} {o : Oper} {a : Act} {Q : Exit → Act → World → Prop} {w : World} (hgd : o.guard = none) (s x : Operand) (T : TypeId)
    (ho : o.op = .call { callee := .builtin .append, args := #[s, x], argTypes := #[T, T] }) (t : Ty α) {e : TypeId} {z : Value} {bytes : Nat} (hT : P.underlying T = some (.slice e))
    (hinf : (P.info? e).map (fun i => (i.zero, i.size, i.bytes)) = some (some z, t.sz, bytes)) (hzs : z.cells.size = t.sz) (hsz : 0 < t.sz) (B : Nat) (v : Value) (xs : List α) (hs : a.eval s = v) (hown : Owns t w B e v xs)
    (nb c : Nat) (y : α) (hx : a.eval x = .slice (some ⟨nb, 0, none⟩) 1 c) (cs : List Value) (hat : At (mem w) nb 0 cs) (hrv : t.rv ((mem w).on (fun b => some b ≠ v.ownBlock)) cs y) (h1 : ∀ u ∈ cs, u.oneCell' = true)
    (h63 : xs.length + 1 ≤ maxLen) (hbytes : (xs.length + 1) * bytes ≤ 140737488355328) (hbase : B ≤ w.heap.size)
    (h : ∀ v' w', Owns t w' B e v' (xs ++ [y]) → w.grownBy w' v.ownBlock → (v'.ownBlock = v.ownBlock ∨ ∀ k, v'.ownBlock = some k → w.heap.size ≤ k) → wpList P ops Q rest (a.put o.dst v') w') : wpList P ops Q (o :: rest) a w := by
  obtain ⟨i, hi, hz, hsize, hby⟩ := info_parts hinf
  have hown' := hown
  obtain ⟨css, g1, g2, g4, g5⟩ := hown
  have hl : cs.length = 1 * t.sz := by rw [t.len _ _ _ hrv, Nat.one_mul]
  have hnews : ∀ j u, cs[j]? = some u → w.cell? ((⟨nb, 0, none⟩ : Addr).add j) = some u := fun j u hj => by rw [Addr.add_lit]; exact hat j u hj
  refine wpList_plain hgd fun K hK => ?_
  obtain ⟨v', w', hr, h2, h3, _⟩ := run_append_own (P := P) w B T o.type e i z t.sz bytes hT hi hz hsize hby hzs hsz v xs.length css.flatten g2 ⟨nb, 0, none⟩ 1 c cs hl hnews h1 h63 hbytes hbase
  have hblk := append_block w B T o.type e i z t.sz bytes hT hi hz hsize hby v xs.length css.flatten g2 ⟨nb, 0, none⟩ 1 c cs hl hnews h1 (by omega) h63 hbytes hr
  have key : Owns t w' B e v' (xs ++ [y]) := by
    refine hown'.snoc (fun css' hc' => ?_) h3 hblk hrv
    obtain ⟨v2, w2, hr2, h22, _, _⟩ := run_append_own (P := P) w B T o.type e i z t.sz bytes hT hi hz hsize hby hzs hsz v xs.length css'.flatten hc' ⟨nb, 0, none⟩ 1 c cs hl hnews h1 h63 hbytes hbase
    rw [hr] at hr2
    injection hr2 with ev ew
    subst ev; subst ew
    exact h22
  unfold Oper.wp execOp
  simp only [ho, resolve, invoke, builtin, Sem.run_bind, Sem.run_pure, Result.andThen_ok, List.map_toArray, List.map_cons, List.map_nil, hs, hx, hr]
  exact hK _ _ (h v' w' key h3 hblk)
end

theorem cell_new {w : World} {cs : Array Value} {T : TypeId} {f : Nat × Nat} {b : Nat} (o : Nat) (h : b = w.heap.size) : (w.alloc (.cells cs T f)).cell? ⟨b, o, none⟩ = cs[o]? := by
  subst h; exact mem_cells_new w cs T f o
/-- Append of one number. -/
theorem wpList_append_int {P : Program} {ops : Array Oper} {rest : List Oper} {o : Oper} {a : Act} {Q : Exit → Act → World → Prop} {w : World} (hgd : o.guard = none) (s x : Operand) (T : TypeId)
    (ho : o.op = .call { callee := .builtin .append, args := #[s, x], argTypes := #[T, T] }) {e : TypeId} (hT : P.underlying T = some (.slice e))
    (hinf : (P.info? e).map (fun i => (i.zero, i.size, i.bytes)) = some (some (.int .i64 0), 1, 8)) (B : Nat) (v : Value) (xs : List Int) (hs : a.eval s = v) (hown : Owns tInt w B e v xs)
    (nb c : Nat) (y : Int) (hx : a.eval x = .slice (some ⟨nb, 0, none⟩) 1 c) (hc : w.cell? ⟨nb, 0, none⟩ = some (.int .i64 y)) (hin : inI64 y) (hlen : xs.length ≤ 1000000000) (hbase : B ≤ w.heap.size)
    (h : ∀ v' w', Owns tInt w' B e v' (xs ++ [y]) → w.grownBy w' v.ownBlock → (v'.ownBlock = v.ownBlock ∨ ∀ k, v'.ownBlock = some k → w.heap.size ≤ k) → wpList P ops Q rest (a.put o.dst v') w') : wpList P ops Q (o :: rest) a w :=
  wpList_append_one hgd s x T ho tInt hT hinf rfl (by decide) B v xs hs hown nb c y hx [.int .i64 y] (fun j u hj => by match j, hj with | 0, hj => simp at hj; subst hj; exact hc) ⟨rfl, hin⟩ (fun u hu => by simp at hu; subst hu; rfl) (by unfold maxLen; omega) (by omega) hbase h

section
variable {P : Program}
/-- COPY of elements of whatever size into a block that is known whole. -/
theorem run_copy_cells (w : World) (dT sT ty elem : TypeId) (g o dLen dCap : Nat) (a : Addr) (sLen sCap n : Nat) (cur : Array Value) (t : TypeId) (cs : List Value) (sz : Nat)
    (hu : P.underlying dT = some (.slice elem)) (hs : (P.info? elem).map (·.size) = some sz)
    (hg : w.heap[g]? = some (.cells cur t (0, 0))) (hn : n = Nat.min sLen dLen) (hl : cs.length = n * sz)
    (hsrc : ∀ j v, cs[j]? = some v → w.cell? (a.add j) = some v) (hfit : o + cs.length ≤ cur.size) (h1 : ∀ v ∈ cs, v.oneCell' = true) :
    (Builtin.copy_ #[dT, sT] ty #[.slice (some ⟨g, o, none⟩) dLen dCap, .slice (some a) sLen sCap]).run P w =
      .ok (goInt n) (w.setRow g (cur.toList.take o ++ cs ++ cur.toList.drop (o + cs.length)).toArray) := by
  subst hn
  cases hq : P.info? elem with
  | none => simp [hq] at hs
  | some i =>
    simp only [hq, Option.map_some, Option.some.injEq] at hs
    subst hs
    have hf := run_firstCells_some (P := P) w i.size (Nat.min sLen dLen) a sLen sCap cs hl hsrc
    have hst := run_storeCells_at P g o t cs 0 cur w hg (by simpa using hfit) h1
    simp only [Nat.add_zero] at hst
    simp [Builtin.copy_, run_underlying hu, Builtin.lenOf, sizeOf, typeInfo, hq, hf, hst]

theorem wpList_copy_cells {w : World} {ops : Array Oper} {rest : List Oper} {o : Oper} {a : Act} {Q : Exit → Act → World → Prop} (hgd : o.guard = none) (d s : Operand) (dT sT : TypeId)
    (ho : o.op = .call { callee := .builtin .copy, args := #[d, s], argTypes := #[dT, sT] }) (elem sz : Nat) (hu : P.underlying dT = some (.slice elem)) (hs : (P.info? elem).map (·.size) = some sz)
    (g off dLen dCap : Nat) (ad : Addr) (sLen sCap n : Nat) (hd : a.eval d = .slice (some ⟨g, off, none⟩) dLen dCap) (hsv : a.eval s = .slice (some ad) sLen sCap)
    (cur : Array Value) (t : TypeId) (hg : w.heap[g]? = some (.cells cur t (0, 0))) (cs : List Value) (hn : n = Nat.min sLen dLen) (hl : cs.length = n * sz)
    (hsrc : ∀ j v, cs[j]? = some v → w.cell? (ad.add j) = some v) (hfit : off + cs.length ≤ cur.size) (h1 : ∀ v ∈ cs, v.oneCell' = true)
    (h : wpList P ops Q rest (a.put o.dst (goInt n)) (w.setRow g (cur.toList.take off ++ cs ++ cur.toList.drop (off + cs.length)).toArray)) : wpList P ops Q (o :: rest) a w := by
  refine wpList_plain hgd fun K hK => ?_
  have hrun := run_copy_cells (P := P) w dT sT o.type elem g off dLen dCap ad sLen sCap n cur t cs sz hu hs hg hn hl hsrc hfit h1
  unfold Oper.wp
  rw [List.append_assoc] at h
  simp [execOp, ho, resolve, invoke, builtin, hd, hsv, hrun, Result.andThen]
  exact hK _ _ h
end

/-- COPY as one step of a region that draws its order. -/
theorem step_copy_cells {P : Program} {ops : Array Oper} {o : Oper} {a : Act} {w : World} {K : Act → World → Prop} {Q : Exit → Act → World → Prop} {E : Prop} (hgd : o.guard = none) (d s : Operand) (dT sT : TypeId)
    (ho : o.op = .call { callee := .builtin .copy, args := #[d, s], argTypes := #[dT, sT] }) (elem sz : Nat) (hu : P.underlying dT = some (.slice elem)) (hs : (P.info? elem).map (·.size) = some sz)
    (g off dLen dCap : Nat) (ad : Addr) (sLen sCap n : Nat) (hd : a.eval d = .slice (some ⟨g, off, none⟩) dLen dCap) (hsv : a.eval s = .slice (some ad) sLen sCap)
    (cur : Array Value) (t : TypeId) (hg : w.heap[g]? = some (.cells cur t (0, 0))) (cs : List Value) (hn : n = Nat.min sLen dLen) (hl : cs.length = n * sz)
    (hsrc : ∀ j v, cs[j]? = some v → w.cell? (ad.add j) = some v) (hfit : off + cs.length ≤ cur.size) (h1 : ∀ v ∈ cs, v.oneCell' = true)
    (h : K (a.put o.dst (goInt n)) (w.setRow g (cur.toList.take off ++ cs ++ cur.toList.drop (off + cs.length)).toArray)) :
    if Region.wanted o (yielded ops a.tmps) = true then Oper.wp P o a w K Q else E := by
  have hw : Region.wanted o (yielded ops a.tmps) = true := by simp [Region.wanted, hgd]
  rw [if_pos hw]
  have hrun := run_copy_cells (P := P) w dT sT o.type elem g off dLen dCap ad sLen sCap n cur t cs sz hu hs hg hn hl hsrc hfit h1
  unfold Oper.wp
  rw [List.append_assoc] at h
  simp [execOp, ho, resolve, invoke, builtin, hd, hsv, hrun, Result.andThen]
  exact h

theorem frozen_cells {w : World} {b : Nat} {c : Array Value} {t : TypeId} (h : w.heap[b]? = some (.cells c t (0, 0))) (o : Nat) : w.frozen? ⟨b, o, none⟩ = false := by simp [World.frozen?, h]
theorem mem_cells {w : World} {b : Nat} {c : Array Value} {t : TypeId} {f : Nat × Nat} (h : w.heap[b]? = some (.cells c t f)) (o : Nat) : mem w b o = c[o]? := by simp [mem, World.cell?, h]

theorem setRow_facts {w0 w : World} {B g : Nat} {cur new : Array Value} {t : TypeId} (hb : Below B w0 w) (hB : B ≤ g) (hg : w.heap[g]? = some (.cells cur t (0, 0))) :
    (w.setRow g new).heap[g]? = some (.cells new t (0, 0)) ∧ Below B w0 (w.setRow g new) := by
  refine ⟨setRow_heap w g cur new t _ hg, hb.trans ⟨rfl, rfl, rfl, ?_, fun k hk => setRow_other w g k _ (by omega)⟩⟩
  simp [World.setRow]

/-! ### From the reading of an argument to plain data -/
section
variable {H : Type} {enc : TypeId × Value → H} {P : Program}
def Reads (P : Program) (T : TypeId) {α : Type} (t : Ty α) : Prop :=
  ∀ (H : Type) (enc : TypeId × Value → H) (w : World) (n : Nat) (cs : List Value) (d : DataW H × List MemPlace), DataW.trod enc P w 0 (fun _ => true) true n T cs = some d → ∃ x, t.rv (mem w) cs x
theorem reads_int {T : TypeId} (ht : P.underlying T = some (.int .i64)) : Reads P T tInt := fun _ _ _ _ _ _ h => by
  obtain ⟨n, h1, _, h3⟩ := DataW.trod_int ht h
  refine ⟨n, h1, ?_⟩
  have : -9223372036854775808 ≤ n ∧ n ≤ 9223372036854775807 := by simpa [Lit.wf, IntKind.min, IntKind.max, IntKind.signed, IntKind.bits] using h3
  exact this
theorem reads_bool {T : TypeId} (ht : P.underlying T = some .bool) : Reads P T tBool := fun _ _ _ _ _ _ h => by
  obtain ⟨n, h1, _⟩ := DataW.trod_bool ht h
  exact ⟨n, h1⟩
theorem reads_str {T : TypeId} (ht : P.underlying T = some .string) : Reads P T tStr := fun _ _ _ _ _ _ h => by
  obtain ⟨n, h1, _, h3⟩ := DataW.trod_string ht h
  exact ⟨n, h1, h3⟩
theorem reads_slice {T E : TypeId} {α : Type} [Inhabited α] {t : Ty α} (ht : P.underlying T = some (.slice E)) (hc : P.cellsOf E = t.sz) (hpos : 0 < t.sz) (hE : Reads P E t) : Reads P T (tSlice t) := fun H enc w n cs d h => by
  rcases Deep.open_slice ht h with ⟨rfl, _⟩ | ⟨a, len, cap, m, n', D, Pl, rfl, _, hl, hm, hmm, _, hi⟩
  · exact ⟨[], slice_nil t _⟩
  have hm' : m = cap := by simpa using hmm
  have hx : ∀ i, i < len → ∃ x, ∃ cs', w.cells? 0 (a.add (i * t.sz)) t.sz = some cs' ∧ t.rv (mem w) cs' x := fun i hil => by
    obtain ⟨cs', h1, h2⟩ := hi i (by omega)
    obtain ⟨x, hx⟩ := hE H enc w _ _ _ h2
    rw [hc] at h1
    exact ⟨x, cs', h1, hx⟩
  obtain ⟨f, hf⟩ := Deep.choose_lt hx
  refine ⟨(List.range len).map f, some a, cap, by simp, by simpa using hl, hm, fun h0 => ?_⟩
  have h0' : 0 < len := by simpa using h0
  obtain ⟨cs0, h1, h2⟩ := hf 0 h0'
  obtain ⟨_, hlen, hat⟩ := World.cells?_some h1
  have hsp : a.spot = none := by
    have := hat 0 hpos
    rw [Nat.zero_mul, Addr.add_zero', Addr.add_zero'] at this
    rw [List.getElem?_eq_getElem (by omega)] at this
    unfold World.cell? at this
    split at this
    · split at this
      · cases this
      · rename_i hns; simpa using hns
    · cases this
  obtain ⟨b, o, sp⟩ := a
  simp only at hsp
  subst hsp
  refine ⟨b, o, rfl, fun k hk => ?_⟩
  have hk' : k < len := by simpa using hk
  obtain ⟨cs', g1, g2⟩ := hf k hk'
  obtain ⟨_, glen, gat⟩ := World.cells?_some g1
  refine ⟨cs', fun j v hv => ?_, by simpa using g2⟩
  have hj : j < cs'.length := (List.getElem?_eq_some_iff.1 hv).1
  have := gat j (by omega)
  rw [Addr.add_lit, Addr.add_lit] at this
  exact this.trans hv
theorem field_read {T : TypeId} {α : Type} {t : Ty α} (hR : Reads P T t) {w : World} {n i : Nat} {cs : List Value} {xs : List (DataW H × List MemPlace)} {f : Field} (o k : Nat) (hF : f.type = T) (ho : f.offset = o) (hk : P.cellsOf T = k)
    (hg : DataW.trod enc P w 0 (fun _ => true) true n f.type ((cs.drop f.offset).take (P.cellsOf f.type)) = xs[i]?) (hi : i < xs.length) : ∃ x, t.rv (mem w) ((cs.drop o).take k) x := by
  subst hF; subst ho; subst hk
  exact hR H enc w n _ xs[i] (hg.trans (List.getElem?_eq_getElem hi))
end
end Go.Proofs.YtafeaeaildfohaaGreatDoor
/- The frame of a law's statement: what is common to all laws. -/
namespace Go.Proofs.YtafeaeaildfohaaGreatDoor
open Go.ChangeShapes Go.WideShapes Go.ChangeAt Go.RowKit

theorem Tryz.own : ownKnob Tryz.prog.godebug = none := by kernel_rfl
theorem Tryz.laidOut : laidOutB Tryz.prog = true := by kernel_rfl

theorem args_below {H : Type} {enc : TypeId × Value → H} {P : Program} (hl : laidOutB P = true) {W W' : World} (hb : Below W.heap.size W W') : ∀ (ts : List TypeId) (vs : List Value) (ds : List (DataW H)) (ps : List MemPlace),
    (∀ t ∈ ts, P.readableRec t = true ∧ t < P.types.size) → DataW.TrodAll enc P W 0 (fun _ => true) true ts vs ds ps → DataW.TrodAll enc P W' 0 (fun b => decide (b < W.heap.size)) true ts vs ds ps
  | [], [], [], _, _, h => h
  | t :: ts, v :: vs, d :: ds, ps, hr, h => by
    obtain ⟨p, q, h1, h2, rfl⟩ := h
    obtain ⟨r1, r2⟩ := hr t (by simp)
    have lt0 : ∀ x ∈ p, x.block < W.heap.size := by obtain ⟨m, hm⟩ := h1; exact DataW.trod_lt m _ _ _ hm
    exact ⟨p, q, Below.trod hl r1 r2 h1 hb lt0, args_below hl hb ts vs ds q (fun t ht => hr t (by simp [ht])) h2, rfl⟩
  | [], _ :: _, _, _, _, h => h.elim
  | [], [], _ :: _, _, _, h => h.elim
  | _ :: _, [], _, _, _, h => h.elim
  | _ :: _, _ :: _, [], _, _, h => h.elim

theorem law_post {H : Type} {enc : TypeId × Value → H} {P : Program} {f : Func} {s : ChangeSpec} {W W' : World} {args : Array Value} {ds gs : List (DataW H)} {before : List MemPlace} (hl : laidOutB P = true) (hv : s.vars = [])
    (hread : ∀ t ∈ f.params.toList, P.readableRec t = true ∧ t < P.types.size) {T : TypeId} (hres : f.resultTypes = #[T]) (hT : P.underlying T = some .bool)
    (hfr : (s.fn H (ds ++ gs)).results = [.lit (.bool true)]) (hfa : (s.fn H (ds ++ gs)).args = ds) (hfv : (s.fn H (ds ++ gs)).vars = [])
    (hW : DataW.Whole enc P f.params.toList s.vars false W args.toList ds gs before) (hb : Below W.heap.size W W') : s.post enc P f false true false false W args (.bool true) W' := by
  have hW' := hW
  obtain ⟨p, q, hA, hV, rfl, _, _⟩ := hW
  refine ⟨ds, gs, _, [], p, [], hW', ?_, ?_, ?_, hb.frame _, fun h => by cases h⟩
  · rw [hfr, hres]
    exact trodAll_mk1 (shut_bool hT _)
  · rw [hfa]
    exact args_below hl hb _ _ _ _ hread hA
  · rw [hfv, hv]; rfl

/-- A slice among the arguments, as plain data. -/
theorem arg_slice {H : Type} {enc : TypeId × Value → H} {P : Program} {W : World} {T E : TypeId} {v : Value} {d : DataW H} {p : List MemPlace} {α : Type} {t : Ty α} (hR : Reads P T (tSlice t)) (hT : P.underlying T = some (.slice E)) {r : Reach} {base : Nat}
    (hval : Value.okWide P W r base T v) (h : DataW.Trod enc P W 0 (fun _ => true) true T v d p) : ∃ xs, (tSlice t).rv (mem W) [v] xs := by
  obtain ⟨a0, len0, cap0, rfl⟩ := okWide_slice hT hval
  obtain ⟨fuel, hf⟩ := h
  obtain ⟨x, hx⟩ := hR H enc W fuel _ _ hf
  exact ⟨x, by simpa [Value.cells] using hx⟩
theorem arg_int {H : Type} {enc : TypeId × Value → H} {P : Program} {W : World} {T : TypeId} {v : Value} {d : DataW H} {p : List MemPlace} (hT : P.underlying T = some (.int .i64)) {r : Reach} {base : Nat}
    (hval : Value.okWide P W r base T v) (h : DataW.Trod enc P W 0 (fun _ => true) true T v d p) : ∃ n, v = .int .i64 n ∧ inI64 n := by
  obtain ⟨n, rfl, _, _, hw⟩ := open_int hT hval h
  refine ⟨n, rfl, ?_⟩
  have : -9223372036854775808 ≤ n ∧ n ≤ 9223372036854775807 := by simpa [Lit.wf, IntKind.min, IntKind.max, IntKind.signed, IntKind.bits] using hw
  exact this
theorem arg_str {H : Type} {enc : TypeId × Value → H} {P : Program} {W : World} {T : TypeId} {v : Value} {d : DataW H} {p : List MemPlace} (hT : P.underlying T = some .string) {r : Reach} {base : Nat}
    (hval : Value.okWide P W r base T v) (h : DataW.Trod enc P W 0 (fun _ => true) true T v d p) : ∃ s, v = .string s ∧ s.size ≤ maxLen := by
  obtain ⟨s, rfl, _, _, hs⟩ := Go.ChangeMaps.open_string hT hval h
  exact ⟨s, rfl, hs⟩
end Go.Proofs.YtafeaeaildfohaaGreatDoor
/- Arguments that are structs or arrays, as plain data; pairs of numbers. -/
namespace Go.Proofs.YtafeaeaildfohaaGreatDoor
open Go.ChangeShapes Go.WideShapes Go.ChangeAt Go.RowKit

def tInt2 : Ty (Int × Int) := ⟨2, fun _ cs x => cs = [.int .i64 x.1, .int .i64 x.2] ∧ inI64 x.1 ∧ inI64 x.2, fun _ _ _ h => by rw [h.1]; rfl, fun _ _ _ _ _ h => h⟩
theorem tInt2_flat : tInt2.flat := fun _ _ _ _ h => h
theorem int2_at {m : Mem} {b o : Nat} {x : Int × Int} (h : tInt2.at m b o x) : m b o = some (.int .i64 x.1) ∧ m b (o + 1) = some (.int .i64 x.2) ∧ inI64 x.1 ∧ inI64 x.2 := by
  obtain ⟨cs, h1, rfl, h3, h4⟩ := h
  exact ⟨h1 0 _ rfl, h1 1 _ rfl, h3, h4⟩
theorem reads_int2 {P : Program} {T E : TypeId} (ht : P.underlying T = some (.array 2 E)) (hE : P.underlying E = some (.int .i64)) (hc : P.cellsOf E = 1) (hT : P.cellsOf T = 2) : Reads P T tInt2 := fun H enc w n cs d h => by
  obtain ⟨xs, m, _, _, hl, hx, hg⟩ := DataW.trod_array ht h
  rw [hT] at hl
  rw [hc] at hg
  match cs, hl with
  | [c0, c1], _ =>
    have g0 := hg 0 (by omega)
    have g1 := hg 1 (by omega)
    simp only [Nat.zero_mul, List.drop_zero, List.take_succ_cons, List.take_zero, Nat.one_mul, List.drop_succ_cons] at g0 g1
    obtain ⟨x0, r0, i0⟩ := reads_int hE H enc w m [c0] xs[0] (g0.trans (List.getElem?_eq_getElem (by omega)))
    obtain ⟨x1, r1, i1⟩ := reads_int hE H enc w m [c1] xs[1] (g1.trans (List.getElem?_eq_getElem (by omega)))
    simp only [List.cons.injEq, and_true] at r0 r1
    exact ⟨(x0, x1), by rw [r0, r1], i0, i1⟩
theorem arg_array {H : Type} {enc : TypeId × Value → H} {P : Program} {W : World} {T E : TypeId} {k : Nat} {v : Value} {d : DataW H} {p : List MemPlace} {α : Type} {t : Ty α} (hR : Reads P T t) (hT : P.underlying T = some (.array k E)) {r : Reach} {base : Nat}
    (hval : Value.okWide P W r base T v) (h : DataW.Trod enc P W 0 (fun _ => true) true T v d p) : ∃ x cs, v = .agg cs ∧ t.rv (mem W) cs.toList x := by
  unfold Value.okWide at hval
  rw [hT] at hval
  obtain ⟨cs, rfl, _⟩ := hval
  obtain ⟨fuel, hf⟩ := h
  obtain ⟨x, hx⟩ := hR H enc W fuel _ _ hf
  exact ⟨x, cs, rfl, by simpa [Value.cells] using hx⟩
theorem arg_struct {H : Type} {enc : TypeId × Value → H} {P : Program} {W : World} {T : TypeId} {fs : Array Field} {v : Value} {d : DataW H} {p : List MemPlace} {α : Type} {t : Ty α} (hR : Reads P T t) (hT : P.underlying T = some (.struct fs)) {r : Reach} {base : Nat}
    (hval : Value.okWide P W r base T v) (h : DataW.Trod enc P W 0 (fun _ => true) true T v d p) : ∃ x cs, v = .agg cs ∧ t.rv (mem W) cs.toList x := by
  unfold Value.okWide at hval
  rw [hT] at hval
  obtain ⟨cs, rfl, _⟩ := hval
  obtain ⟨fuel, hf⟩ := h
  obtain ⟨x, hx⟩ := hR H enc W fuel _ _ hf
  exact ⟨x, cs, rfl, by simpa [Value.cells] using hx⟩
end Go.Proofs.YtafeaeaildfohaaGreatDoor
/- A range over a function whose iterator changes cells of its own (the blocks G) between two rounds; no round leaves early. -/
namespace Go.Proofs.YtafeaeaildfohaaGreatDoor
open Go.RowKit

/-- The block holds something, but no cells. -/
def NotCellsG (A : World) (k : Nat) : Prop := ∃ o : Obj, A.heap[k]? = some o ∧ o.isCells = false
/-- The iterator hands the elements xs in turn, each as values of which Enc tells; between two rounds it changes the blocks G alone. -/
def GivesAll {α : Type} (P : Program) (gf : Nat) (lb : Array Value) (Enc : α → Array Value → Nat → World → Prop) (G H : Nat → Prop) (xs : List α) (w : World) : Prop :=
  ∀ (l : Nat) (J : List α → World → Prop) (W : World), Below w.heap.size w W →
    (∀ s A B, J s A → Keeps G A B → J s B) →
    (∀ pre x post W0 W1 vs, xs = pre ++ x :: post → J pre W0 → Keeps G W0 W1 → Enc x vs W0.heap.size W1 → YieldAt Fence.wide 0 P l vs W1 fun e W' => e = .returned (.bool true) ∧ J (pre ++ [x]) W' ∧ Keeps H W1 W') →
    J [] W → CallsIn Fence.wide 0 P gf (#[.func (.yield l) #[] #[]] ++ lb) W fun e W' => (∃ v, e = .returned v) ∧ J xs W'
/-- How a round ends. -/
def roundEndG {α : Type} (I : List α → World → Prop) (H : Nat → Prop) (s : List α) (W : World) : Exit → Act → World → Prop
  | .normal, _, W' => KeepsOthers W W' ∧ Keeps H W W' ∧ I s W'
  | _, _, _ => False

theorem Keeps.putG {F : Nat → Prop} {W : World} {l : Nat} {o : Obj} (h : F l) : Keeps F W (W.putObj l o) :=
  (grown_keeps (grownBy_putObj' W l o)).wide (fun k _ hk => by cases hk; exact h)

theorem wp_rangeG {α : Type} {P : Program} {g : Operand} {ps : Array Tmp} {assign body : Code} {Q : Exit → Act → World → Prop} {a : Act} {w : World} {gf : Nat} {lb : Array Value}
    (hg : a.eval g = .func (.func gf) #[] lb) (eg : ∀ args w, (callFunc gf args).run P w = .ok (.enter gf args) w)
    {Enc : α → Array Value → Nat → World → Prop} {G H : Nat → Prop} {xs : List α} {w0 : World} (hseq : GivesAll P gf lb Enc G H xs w0) (hb0 : Below w0.heap.size w0 w)
    (hG : ∀ k, G k → k < w.heap.size) (hH : ∀ k, w.heap.size ≤ k → H k) (hps : ∀ x vs n W, Enc x vs n W → vs.size = ps.size)
    (I : List α → World → Prop) (hI : ∀ s A B, I s A → Keeps (fun k => G k ∨ (w.heap.size ≤ k ∧ NotCellsG A k)) A B → I s B) (h0 : I [] w)
    (hround : ∀ (l : Nat) (pre : List α) (x : α) (post : List α) (W0 W1 : World) (vs : Array Value), xs = pre ++ x :: post → I pre W0 → Keeps G W0 W1 → Enc x vs W0.heap.size W1 → w.heap.size ≤ W0.heap.size →
      assign.wpIn (Fence.wide.inRound l) 0 P (Exit.then (fun a₂ W2 => Keeps (fun _ => False) W1 W2 ∧ ∀ W3, Keeps (fun k => w.heap.size ≤ k ∧ NotCellsG W2 k) W2 W3 → body.wpIn (Fence.wide.inRound l) 0 P (roundEndG I H (pre ++ [x]) W3) a₂ W3) (fun _ _ _ => False))
        { tmps := (ps.zip vs).foldl (fun t (p, v) => t.setIfInBounds p v) a.tmps, defers := [] } W1)
    (hdone : ∀ (D : Nat) (W : World), w.heap.size ≤ D → I xs W → W.heap[D]? = some (.deferred (some [])) → Q .normal { a with defers := { target := .collected D, args := #[] } :: a.defers } W) :
    (Code.rangeFunc g ps assign body).wp P Q a w := by
  refine (wpIn_wide (n := 0)).1 (wpIn_rangeFunc (F := Fence.wide) ?_)
  intro fn hfn
  generalize hrec : (fun (st : LoopState) (pe : Option Code) => ({ state := st, pending := pe, fn := fn, tmps := a.tmps, params := ps, assign := assign, body := body, defers := w.heap.size } : Loop)) = rec
  have hr : ∀ st pe, rec st pe = { state := st, pending := pe, fn := fn, tmps := a.tmps, params := ps, assign := assign, body := body, defers := w.heap.size } := fun st pe => by rw [← hrec]
  have hst : ∀ st pe st' pe', ({ rec st pe with state := st', pending := pe' } : Loop) = rec st' pe' := fun st pe st' pe' => by rw [hr, hr]
  have hbusy : ∀ st pe st', ({ rec st pe with state := st' } : Loop) = rec st' pe := fun st pe st' => by rw [hr, hr]
  generalize hW1 : (w.alloc (.deferred (some []))).alloc (.loop (rec .ready none)) = W1
  have hD1 : W1.heap[w.heap.size]? = some (.deferred (some [])) := by
    rw [← hW1]; exact (Below.heap_alloc _ _ _ (by simp)).trans (World.alloc_heap_new w _)
  have hL1 : W1.heap[w.heap.size + 1]? = some (.loop (rec .ready none)) := by
    rw [← hW1]; have := World.alloc_heap_new (w.alloc (.deferred (some []))) (.loop (rec .ready none)); rwa [World.size_alloc] at this
  have hk1 : Keeps (fun _ => False) w W1 := by rw [← hW1]; exact ((Keeps.refl _ w).alloc _).alloc _
  have hb1 : Below w0.heap.size w0 W1 := hb0.trans (hk1.below hb0.size (fun _ h => h.elim))
  refine ⟨w.heap.size + 1, [{ target := .collected w.heap.size, args := #[] }], W1, { target := .fn (.func gf) lb, args := #[.func (.yield (w.heap.size + 1)) #[] #[]] }, W1, gf,
    #[.func (.yield (w.heap.size + 1)) #[] #[]] ++ lb, W1, ?_, ?_, fun _ _ => trivial, ?_, fun h => (by cases h), ?_⟩
  · rw [← hW1, hr]; exact run_enterLoop_outer _ _ _ _ _
  · simp only [resolve, hg]
    simp [go_sem]
  · simp [invoke, go_sem, eg]
  · refine (hseq (w.heap.size + 1) (fun pre W => I pre W ∧ W.heap[w.heap.size + 1]? = some (.loop (rec .ready none)) ∧ W.heap[w.heap.size]? = some (.deferred (some []))) W1 hb1 ?_ ?_
      ⟨hI _ _ _ h0 (hk1.wide (fun _ _ h => h.elim)), hL1, hD1⟩).mono ?_
    · rintro s A B ⟨hi, hl, hd⟩ hk
      have hlt := (Array.getElem?_eq_some_iff.1 hl).1
      have hn : ∀ k, w.heap.size ≤ k → ¬ G k := fun k hk hg => by have := hG k hg; omega
      exact ⟨hI _ _ _ hi (hk.wide (fun _ _ h => .inl h)), (hk.block _ hlt (hn _ (by omega))).trans hl, (hk.block _ (by omega) (hn _ (by omega))).trans hd⟩
    · rintro pre x post W0 W vs hx ⟨hi, hl0, hd0⟩ hG0 hE
      have hlt0 := (Array.getElem?_eq_some_iff.1 hl0).1
      have hn : ∀ k, w.heap.size ≤ k → ¬ G k := fun k hk hg => by have := hG k hg; omega
      have hl : W.heap[w.heap.size + 1]? = some (.loop (rec .ready none)) := (hG0.block _ hlt0 (hn _ (by omega))).trans hl0
      have hd : W.heap[w.heap.size]? = some (.deferred (some [])) := (hG0.block _ (by omega) (hn _ (by omega))).trans hd0
      have hlt : w.heap.size + 1 < W.heap.size := (Array.getElem?_eq_some_iff.1 hl).1
      have hy := run_yield (P := P) (args := vs) hl (by rw [hr]; exact hps x vs _ _ hE)
      rw [hr] at hy
      refine ⟨fn, _, assign, body, hy, roundIn_of_wpIn hfn (wpIn_mono (hround _ pre x post W0 W vs hx hi hG0 hE (by omega)) ?_)⟩
      rintro e a1 Wa hp
      cases e with
      | ret => exact hp.elim
      | exit id => exact hp.elim
      | goto t => exact hp.elim
      | panic ch => exact hp.elim
      | outgrown => exact hp.elim
      | normal =>
      obtain ⟨hka, hpb⟩ := hp
      have hla : Wa.heap[w.heap.size + 1]? = some (.loop (rec .ready none)) := (hka.block _ hlt (fun h => h)).trans hl
      have hda : Wa.heap[w.heap.size]? = some (.deferred (some [])) := (hka.block _ (by omega) (fun h => h)).trans hd
      have hlta := (Array.getElem?_eq_some_iff.1 hla).1
      refine ⟨_, run_beginRound hla (by rw [hr]), ?_⟩
      rw [hbusy]
      generalize hW2 : Wa.putObj (w.heap.size + 1) (.loop (rec .busy none)) = W2
      have hp2 : Keeps H W W2 := by rw [← hW2]; exact (hka.wide (fun _ _ h => h.elim)).trans (Keeps.putG (hH _ (by omega)))
      have hl2 : W2.heap[w.heap.size + 1]? = some (.loop (rec .busy none)) := by rw [← hW2]; exact World.putObj_heap_same hlta
      have hd2 : W2.heap[w.heap.size]? = some (.deferred (some [])) := by rw [← hW2]; exact (World.putObj_heap_other (by omega)).trans hda
      refine wpIn_mono (hpb W2 (by rw [← hW2]; exact Keeps.putG ⟨by omega, _, hla, rfl⟩)) ?_
      rintro e a3 W3 hp
      cases e with
      | normal =>
        obtain ⟨hk3, hh3, hi3⟩ := hp
        have hl3 := hk3.same _ _ hl2 rfl
        have hd3 := hk3.same _ _ hd2 rfl
        have hlt3 := (Array.getElem?_eq_some_iff.1 hl3).1
        refine ⟨_, _, run_endRound none hl3, ⟨rfl, ⟨hI _ _ _ hi3 (Keeps.putG (.inr ⟨by omega, _, hl3, rfl⟩)), ?_, ?_⟩, (hp2.trans hh3).trans (Keeps.putG (hH _ (by omega)))⟩⟩
        · rw [hst]; exact World.putObj_heap_same hlt3
        · exact (World.putObj_heap_other (by omega)).trans hd3
      | ret => exact hp.elim
      | exit id => exact hp.elim
      | goto t => exact hp.elim
      | panic ch => exact hp.elim
      | outgrown => exact hp.elim
    · rintro e W2 ⟨⟨v, rfl⟩, hi, hl, hd⟩
      have he := run_endLoop (P := P) hl (by rw [hr]; simp)
      rw [hr] at he
      exact ⟨none, _, he, hdone _ _ (Nat.le_refl _) (hI _ _ _ hi (Keeps.putG (.inr ⟨by omega, _, hl, rfl⟩))) ((World.putObj_heap_other (by omega)).trans hd)⟩
end Go.Proofs.YtafeaeaildfohaaGreatDoor
/- A range over a function whose iterator walks a map (it changes one walk's object laid since its call began); no round leaves early. What is handed over is told by two predicates. -/
namespace Go.Proofs.YtafeaeaildfohaaGreatDoor
open Go.RowKit

/-- The block holds something, but no cells. -/
def NotCells (A : World) (k : Nat) : Prop := ∃ o : Obj, A.heap[k]? = some o ∧ o.isCells = false
/-- The iterator hands elements in turn, each as the values Enc, so that Stp holds of those before and this one, and Fin of all at last. -/
def GivesW {α : Type} (P : Program) (gf : Nat) (lb : Array Value) (Enc : α → Array Value) (Stp : List α → α → Prop) (Fin : List α → Prop) (w : World) : Prop :=
  ∀ (l : Nat) (J : List α → World → Prop) (W : World), Below w.heap.size w W → AbidesFrom W.heap.size J →
    (∀ pre x W1, Stp pre x → J pre W1 → YieldAt Fence.wide 0 P l (Enc x) W1 fun e W' => e = .returned (.bool true) ∧ J (pre ++ [x]) W' ∧ KeepsWalks W1 W') →
    J [] W → CallsIn Fence.wide 0 P gf (#[.func (.yield l) #[] #[]] ++ lb) W fun e W' => (∃ v, e = .returned v) ∧ ∃ xs, Fin xs ∧ J xs W'
theorem Keeps.walks {W W' : World} (h : Keeps (fun _ => False) W W') : KeepsWalks W W' := ⟨h.size, fun k o e _ => (h.block k (Array.getElem?_eq_some_iff.1 e).1 (fun h => h)).trans e⟩
/-- How a round ends. -/
def roundEnd {α : Type} (I : List α → World → Prop) (s : List α) (W : World) : Exit → Act → World → Prop
  | .normal, _, W' => KeepsOthers W W' ∧ I s W'
  | _, _, _ => False

theorem Keeps.put {F : Nat → Prop} {W : World} {l : Nat} {o : Obj} (h : F l) : Keeps F W (W.putObj l o) :=
  (grown_keeps (grownBy_putObj' W l o)).wide (fun k _ hk => by cases hk; exact h)

theorem wp_rangeW {α : Type} {P : Program} {g : Operand} {ps : Array Tmp} {assign body : Code} {Q : Exit → Act → World → Prop} {a : Act} {w : World} {gf : Nat} {lb : Array Value}
    (hg : a.eval g = .func (.func gf) #[] lb) (eg : ∀ args w, (callFunc gf args).run P w = .ok (.enter gf args) w)
    {Enc : α → Array Value} {Stp : List α → α → Prop} {Fin : List α → Prop} {w0 : World} (hseq : GivesW P gf lb Enc Stp Fin w0) (hb0 : Below w0.heap.size w0 w)
    (hps : ∀ x, (Enc x).size = ps.size)
    (I : List α → World → Prop) (hI : ∀ s A B, I s A → Keeps (fun k => w.heap.size ≤ k ∧ NotCells A k) A B → I s B) (h0 : I [] w)
    (hround : ∀ (l : Nat) (pre : List α) (x : α) (W1 : World), Stp pre x → I pre W1 → w.heap.size ≤ W1.heap.size →
      assign.wpIn (Fence.wide.inRound l) 0 P (Exit.then (fun a₂ W2 => Keeps (fun _ => False) W1 W2 ∧ ∀ W3, Keeps (fun k => w.heap.size ≤ k ∧ NotCells W2 k) W2 W3 → body.wpIn (Fence.wide.inRound l) 0 P (roundEnd I (pre ++ [x]) W3) a₂ W3) (fun _ _ _ => False))
        { tmps := (ps.zip (Enc x)).foldl (fun t (p, v) => t.setIfInBounds p v) a.tmps, defers := [] } W1)
    (hdone : ∀ (D : Nat) (W : World) (xs : List α), Fin xs → w.heap.size ≤ D → I xs W → W.heap[D]? = some (.deferred (some [])) → Q .normal { a with defers := { target := .collected D, args := #[] } :: a.defers } W) :
    (Code.rangeFunc g ps assign body).wp P Q a w := by
  refine (wpIn_wide (n := 0)).1 (wpIn_rangeFunc (F := Fence.wide) ?_)
  intro fn hfn
  generalize hrec : (fun (st : LoopState) (pe : Option Code) => ({ state := st, pending := pe, fn := fn, tmps := a.tmps, params := ps, assign := assign, body := body, defers := w.heap.size } : Loop)) = rec
  have hr : ∀ st pe, rec st pe = { state := st, pending := pe, fn := fn, tmps := a.tmps, params := ps, assign := assign, body := body, defers := w.heap.size } := fun st pe => by rw [← hrec]
  have hst : ∀ st pe st' pe', ({ rec st pe with state := st', pending := pe' } : Loop) = rec st' pe' := fun st pe st' pe' => by rw [hr, hr]
  have hbusy : ∀ st pe st', ({ rec st pe with state := st' } : Loop) = rec st' pe := fun st pe st' => by rw [hr, hr]
  generalize hW1 : (w.alloc (.deferred (some []))).alloc (.loop (rec .ready none)) = W1
  have hD1 : W1.heap[w.heap.size]? = some (.deferred (some [])) := by
    rw [← hW1]; exact (Below.heap_alloc _ _ _ (by simp)).trans (World.alloc_heap_new w _)
  have hL1 : W1.heap[w.heap.size + 1]? = some (.loop (rec .ready none)) := by
    rw [← hW1]; have := World.alloc_heap_new (w.alloc (.deferred (some []))) (.loop (rec .ready none)); rwa [World.size_alloc] at this
  have hk1 : Keeps (fun _ => False) w W1 := by rw [← hW1]; exact ((Keeps.refl _ w).alloc _).alloc _
  have hb1 : Below w0.heap.size w0 W1 := hb0.trans (hk1.below hb0.size (fun _ h => h.elim))
  refine ⟨w.heap.size + 1, [{ target := .collected w.heap.size, args := #[] }], W1, { target := .fn (.func gf) lb, args := #[.func (.yield (w.heap.size + 1)) #[] #[]] }, W1, gf,
    #[.func (.yield (w.heap.size + 1)) #[] #[]] ++ lb, W1, ?_, ?_, fun _ _ => trivial, ?_, fun h => (by cases h), ?_⟩
  · rw [← hW1, hr]; exact run_enterLoop_outer _ _ _ _ _
  · simp only [resolve, hg]
    simp [go_sem]
  · simp [invoke, go_sem, eg]
  · refine (hseq (w.heap.size + 1) (fun pre W => I pre W ∧ W.heap[w.heap.size + 1]? = some (.loop (rec .ready none)) ∧ W.heap[w.heap.size]? = some (.deferred (some []))) W1 hb1 ?_ ?_
      ⟨hI _ _ _ h0 (hk1.wide (fun _ _ h => h.elim)), hL1, hD1⟩).mono ?_
    · rintro s A B row ⟨hi, hl, hd⟩ hg hrow
      have hz : w.heap.size ≤ W1.heap.size := hk1.size
      have hw : ∀ k o, A.heap[k]? = some o → o.isWalk = false → some k ≠ row := fun k o hk ho e => by
        obtain ⟨_, o', h1, h2⟩ := hrow k e.symm
        rw [hk] at h1; cases h1
        rw [ho] at h2; cases h2
      refine ⟨hI _ _ _ hi ((grown_keeps hg).wide (fun k _ e => ?_)), (hg.block _ (Array.getElem?_eq_some_iff.1 hl).1 (hw _ _ hl rfl)).trans hl, (hg.block _ (Array.getElem?_eq_some_iff.1 hd).1 (hw _ _ hd rfl)).trans hd⟩
      obtain ⟨h1, o, h2, h3⟩ := hrow k e.symm
      exact ⟨Nat.le_trans hz h1, o, h2, Obj.not_cells_of_walk h3⟩
    · rintro pre x W hx ⟨hi, hl, hd⟩
      have hlt := (Array.getElem?_eq_some_iff.1 hl).1
      have hy := run_yield (P := P) (args := Enc x) hl (by rw [hr]; exact hps x)
      rw [hr] at hy
      refine ⟨fn, _, assign, body, hy, roundIn_of_wpIn hfn (wpIn_mono (hround _ pre x W hx hi (by omega)) ?_)⟩
      rintro e a1 Wa hp
      cases e with
      | ret => exact hp.elim
      | exit id => exact hp.elim
      | goto t => exact hp.elim
      | panic ch => exact hp.elim
      | outgrown => exact hp.elim
      | normal =>
      obtain ⟨hka, hpb⟩ := hp
      have hla : Wa.heap[w.heap.size + 1]? = some (.loop (rec .ready none)) := (hka.block _ hlt (fun h => h)).trans hl
      have hda : Wa.heap[w.heap.size]? = some (.deferred (some [])) := (hka.block _ (by omega) (fun h => h)).trans hd
      have hlta := (Array.getElem?_eq_some_iff.1 hla).1
      refine ⟨_, run_beginRound hla (by rw [hr]), ?_⟩
      rw [hbusy]
      generalize hW2 : Wa.putObj (w.heap.size + 1) (.loop (rec .busy none)) = W2
      have hp2 : KeepsWalks W W2 := by rw [← hW2]; exact hka.walks.trans (KeepsWalks.putObj _ hla rfl)
      have hl2 : W2.heap[w.heap.size + 1]? = some (.loop (rec .busy none)) := by rw [← hW2]; exact World.putObj_heap_same hlta
      have hd2 : W2.heap[w.heap.size]? = some (.deferred (some [])) := by rw [← hW2]; exact (World.putObj_heap_other (by omega)).trans hda
      refine wpIn_mono (hpb W2 (by rw [← hW2]; exact Keeps.put ⟨by omega, _, hla, rfl⟩)) ?_
      rintro e a3 W3 hp
      cases e with
      | normal =>
        obtain ⟨hk3, hi3⟩ := hp
        have hl3 := hk3.same _ _ hl2 rfl
        have hd3 := hk3.same _ _ hd2 rfl
        have hlt3 := (Array.getElem?_eq_some_iff.1 hl3).1
        refine ⟨_, _, run_endRound none hl3, ⟨rfl, ⟨hI _ _ _ hi3 (Keeps.put ⟨by omega, _, hl3, rfl⟩), ?_, ?_⟩, (hp2.trans hk3.walks).trans (KeepsWalks.putObj _ hl3 rfl)⟩⟩
        · rw [hst]; exact World.putObj_heap_same hlt3
        · exact (World.putObj_heap_other (by omega)).trans hd3
      | ret => exact hp.elim
      | exit id => exact hp.elim
      | goto t => exact hp.elim
      | panic ch => exact hp.elim
      | outgrown => exact hp.elim
    · rintro e W2 ⟨⟨v, rfl⟩, xs, hfin, hi, hl, hd⟩
      have he := run_endLoop (P := P) hl (by rw [hr]; simp)
      rw [hr] at he
      exact ⟨none, _, he, hdone _ _ xs hfin (Nat.le_refl _) (hI _ _ _ hi (Keeps.put ⟨by omega, _, hl, rfl⟩)) ((World.putObj_heap_other (by omega)).trans hd)⟩
end Go.Proofs.YtafeaeaildfohaaGreatDoor
/- What walks through a range over a function need besides. -/
namespace Go.Proofs.YtafeaeaildfohaaGreatDoor
open Go.RowKit Go.Shelf
attribute [local go_sem] Oper.semAt_some

theorem wpListIn_append_one {F : Fence} {m : Nat} {P : Program} {α : Type} {ops : Array Oper} {rest : List Oper} {o : Oper} {a : Act} {Q : Exit → Act → World → Prop} {w : World} (hgd : o.guard = none) (s x : Operand) (T : TypeId)
    (ho : o.op = .call { callee := .builtin .append, args := #[s, x], argTypes := #[T, T] }) (t : Ty α) {e : TypeId} {z : Value} {bytes : Nat} (hT : P.underlying T = some (.slice e))
    (hinf : (P.info? e).map (fun i => (i.zero, i.size, i.bytes)) = some (some z, t.sz, bytes)) (hzs : z.cells.size = t.sz) (hsz : 0 < t.sz) (B : Nat) (v : Value) (xs : List α) (hs : a.eval s = v) (hown : Owns t w B e v xs)
    (nb c : Nat) (y : α) (hx : a.eval x = .slice (some ⟨nb, 0, none⟩) 1 c) (cs : List Value) (hat : At (mem w) nb 0 cs) (hrv : t.rv ((mem w).on (fun b => some b ≠ v.ownBlock)) cs y) (h1 : ∀ u ∈ cs, u.oneCell' = true)
    (h63 : xs.length + 1 ≤ maxLen) (hbytes : (xs.length + 1) * bytes ≤ 140737488355328) (hbase : B ≤ w.heap.size)
    (h : ∀ v' w', Owns t w' B e v' (xs ++ [y]) → w.grownBy w' v.ownBlock → (v'.ownBlock = v.ownBlock ∨ ∀ k, v'.ownBlock = some k → w.heap.size ≤ k) → wpListIn F m P ops Q rest (a.put o.dst v') w') : wpListIn F m P ops Q (o :: rest) a w := by
  obtain ⟨i, hi, hz, hsize, hby⟩ := info_parts hinf
  have hown' := hown
  obtain ⟨css, g1, g2, g4, g5⟩ := hown
  have hl : cs.length = 1 * t.sz := by rw [t.len _ _ _ hrv, Nat.one_mul]
  have hnews : ∀ j u, cs[j]? = some u → w.cell? ((⟨nb, 0, none⟩ : Addr).add j) = some u := fun j u hj => by rw [Addr.add_lit]; exact hat j u hj
  refine wpListIn_plain hgd fun K hK => ?_
  obtain ⟨v', w', hr, h2, h3, _⟩ := run_append_own (P := P) w B T o.type e i z t.sz bytes hT hi hz hsize hby hzs hsz v xs.length css.flatten g2 ⟨nb, 0, none⟩ 1 c cs hl hnews h1 h63 hbytes hbase
  have hblk := append_block w B T o.type e i z t.sz bytes hT hi hz hsize hby v xs.length css.flatten g2 ⟨nb, 0, none⟩ 1 c cs hl hnews h1 (by omega) h63 hbytes hr
  have key : Owns t w' B e v' (xs ++ [y]) := by
    refine hown'.snoc (fun css' hc' => ?_) h3 hblk hrv
    obtain ⟨v2, w2, hr2, h22, _, _⟩ := run_append_own (P := P) w B T o.type e i z t.sz bytes hT hi hz hsize hby hzs hsz v xs.length css'.flatten hc' ⟨nb, 0, none⟩ 1 c cs hl hnews h1 h63 hbytes hbase
    rw [hr] at hr2
    injection hr2 with ev ew
    subst ev; subst ew
    exact h22
  unfold Oper.wpIn
  refine ⟨?_, ?_⟩
  · simp [Oper.about, ho, resolve, Target.leads, Sem.run_pure]
  · rw [Oper.semAt_plain F _ _ (by rw [ho]; intro c hc'; cases hc')]
    simp [execOp, ho, resolve, invoke, builtin, hs, hx, hr, Result.andThen]
    exact hK _ _ (h v' w' key h3 hblk)

theorem Owns.keepsC {α : Type} {t : Ty α} {w w' : World} {B : Nat} {e : TypeId} {v : Value} {xs : List α} (h : Owns t w B e v xs) (hf : t.flat) {F : Nat → Prop} (hk : Keeps F w w') (hF : ∀ k o, B ≤ k → w.heap[k]? = some o → o.isCells = true → ¬ F k) : Owns t w' B e v xs := by
  obtain ⟨css, h1, ⟨h2, h3⟩, h4, h5⟩ := h
  refine ⟨css, h1, ⟨h2, ?_⟩, h4, fun k h h' => hf _ _ _ _ (h5 k h h')⟩
  rcases h3 with h3 | ⟨g, cap, cur, rfl, hg, hh, r⟩
  · exact .inl h3
  · exact .inr ⟨g, cap, cur, rfl, hg, by rw [hk.block g (Array.getElem?_eq_some_iff.1 hh).1 (hF g _ hg hh rfl)]; exact hh, r⟩
theorem own_cells {α : Type} {t : Ty α} {w : World} {B : Nat} {e : TypeId} {v : Value} {xs : List α} (h : Owns t w B e v xs) : ∀ j o, v.ownBlock = some j → w.heap[j]? = some o → o.isCells = true := by
  obtain ⟨css, _, ⟨_, h3⟩, _, _⟩ := h
  intro j o hj ho
  rcases h3 with h3 | ⟨g, cap, cur, rfl, _, hh, _⟩
  · obtain ⟨rfl, _⟩ := h3; cases hj
  · cases hj; rw [hh] at ho; cases ho; rfl
theorem others_of_keeps {F : Nat → Prop} {W W' : World} (hk : Keeps F W W') (hF : ∀ k o, F k → W.heap[k]? = some o → o.isCells = true) : KeepsOthers W W' :=
  ⟨hk.size, fun k o h hc => (hk.block k (Array.getElem?_eq_some_iff.1 h).1 (fun hf => by rw [hF k o hf h] at hc; cases hc)).trans h⟩
theorem setC_block {w : World} {g : Nat} {v u : Value} {t : TypeId} {f : Nat × Nat} (h : w.heap[g]? = some (.cells #[u] t f)) : (w.setCell ⟨g, 0, none⟩ v).heap[g]? = some (.cells #[v] t f) := by
  simp [World.setCell, Array.getElem?_modify, h]
/-- The end of a function with one result behind a range over a function. -/
theorem coll_end {P : Program} {fn : Func} {tm : Array Value} {W : World} {D s : Nat} {u : Value} {R : Ending → World → Prop} (hr : fn.results = #[.tmp s]) (h2 : tm.getD s undef = u) (hD : W.heap[D]? = some (.deferred (some [])))
    (hp : ∀ WF, Keeps (fun k => k = D) W WF → R (.returned u) WF) :
    bodyPostM Fence.wide 0 P fn R .ret { tmps := tm, defers := [{ target := .collected D, args := #[] }] } W := by
  refine ⟨by simp, .inl ⟨_, _, rfl, run_takeDeferred hD, ?_⟩⟩
  refine ⟨u, ?_, hp _ ((Keeps.refl _ _).trans (Keeps.put rfl))⟩
  unfold results
  rw [hr]
  simp only [Array.getD_eq_getD_getElem?] at h2
  simp [h2, go_sem, Result.andThen]
end Go.Proofs.YtafeaeaildfohaaGreatDoor
/- Orders: comparison functions, bytes: plain (XOrd's first part). -/
namespace Go.Proofs.YtafeaeaildfohaaGreatDoor

def bl (s : ByteArray) : List UInt8 := s.data.toList
theorem bl_inj {s t : ByteArray} (h : bl s = bl t) : s = t := by
  cases s; cases t; simpa [bl] using h

structure Good {α : Type} (c : α → α → Int) : Prop where
  refl : ∀ a, c a a = 0
  anti : ∀ a b, c b a = - c a b
  range : ∀ a b, c a b = -1 ∨ c a b = 0 ∨ c a b = 1
  trans : ∀ a b d, c a b ≤ 0 → c b d ≤ 0 → c a d ≤ 0 ∧ (c a d = 0 → c a b = 0 ∧ c b d = 0)

def cmpInt (a b : Int) : Int := if a < b then -1 else if b < a then 1 else 0
theorem cmpInt_good : Good cmpInt := by
  refine ⟨fun a => ?_, fun a b => ?_, fun a b => ?_, fun a b d => ?_⟩ <;> unfold cmpInt
  · simp
  · repeat' split
    all_goals omega
  · repeat' split
    all_goals omega
  · repeat' split
    all_goals omega
theorem Good.pull {α β : Type} {c : β → β → Int} (h : Good c) (f : α → β) : Good (fun a b => c (f a) (f b)) :=
  ⟨fun a => h.refl _, fun a b => h.anti _ _, fun a b => h.range _ _, fun a b d => h.trans _ _ _⟩
def lex {α : Type} (c1 c2 : α → α → Int) (a b : α) : Int := if c1 a b ≠ 0 then c1 a b else c2 a b
theorem lex_good {α : Type} {c1 c2 : α → α → Int} (h1 : Good c1) (h2 : Good c2) : Good (lex c1 c2) := by
  refine ⟨fun a => ?_, fun a b => ?_, fun a b => ?_, fun a b d => ?_⟩ <;> unfold lex
  · rw [h1.refl, h2.refl]; simp
  · have e1 := h1.anti a b
    have e2 := h2.anti a b
    repeat' split
    all_goals omega
  · have e1 := h1.range a b
    have e2 := h2.range a b
    split
    all_goals omega
  · have r1 := h1.range a b
    have r2 := h1.range b d
    have r3 := h1.range a d
    have t1 := h1.trans a b d
    have t2 := h2.trans a b d
    by_cases hx : c1 a b ≤ 0
    · by_cases hy : c1 b d ≤ 0
      · have t1 := t1 hx hy
        by_cases hx2 : c2 a b ≤ 0
        · by_cases hy2 : c2 b d ≤ 0
          · have t2 := t2 hx2 hy2
            repeat' split
            all_goals omega
          · repeat' split
            all_goals omega
        · repeat' split
          all_goals omega
      · repeat' split
        all_goals omega
    · repeat' split
      all_goals omega
def lexList {α : Type} (c : α → α → Int) : List α → List α → Int
  | [], [] => 0
  | [], _ :: _ => -1
  | _ :: _, [] => 1
  | a :: l, b :: m => if c a b ≠ 0 then c a b else lexList c l m
theorem lexList_good {α : Type} {c : α → α → Int} (h : Good c) : Good (lexList c) := by
  have hrefl : ∀ a, lexList c a a = 0 := fun a => by
    induction a with
    | nil => rfl
    | cons x l ih => simp [lexList, h.refl, ih]
  have hanti : ∀ a b, lexList c b a = - lexList c a b := fun a => by
    induction a with
    | nil => intro b; cases b <;> rfl
    | cons x l ih =>
      intro b
      cases b with
      | nil => rfl
      | cons y m =>
        have e1 := h.anti x y
        have e2 := ih m
        simp only [lexList]
        repeat' split
        all_goals omega
  have hrange : ∀ a b, lexList c a b = -1 ∨ lexList c a b = 0 ∨ lexList c a b = 1 := fun a => by
    induction a with
    | nil => intro b; cases b <;> simp [lexList]
    | cons x l ih =>
      intro b
      cases b with
      | nil => simp [lexList]
      | cons y m =>
        have e1 := h.range x y
        have e2 := ih m
        simp only [lexList]
        split
        all_goals omega
  refine ⟨hrefl, hanti, hrange, fun a => ?_⟩
  induction a with
  | nil =>
    intro b d
    cases b <;> cases d <;> simp [lexList]
  | cons x l ih =>
    intro b d
    cases b with
    | nil => simp [lexList]
    | cons y m =>
      cases d with
      | nil =>
        intro h1 h2
        simp [lexList] at h2
      | cons z n =>
        have r1 := h.range x y
        have r2 := h.range y z
        have r3 := h.range x z
        have t1 := h.trans x y z
        have t2 := ih m n
        simp only [lexList]
        by_cases hx : c x y ≤ 0
        · by_cases hy : c y z ≤ 0
          · have t1 := t1 hx hy
            by_cases hx2 : lexList c l m ≤ 0
            · by_cases hy2 : lexList c m n ≤ 0
              · have t2 := t2 hx2 hy2
                repeat' split
                all_goals omega
              · repeat' split
                all_goals omega
            · repeat' split
              all_goals omega
          · repeat' split
            all_goals omega
        · repeat' split
          all_goals omega

def cmpBytes : List UInt8 → List UInt8 → Int := lexList (fun a b => cmpInt a.toNat b.toNat)
theorem cmpBytes_good : Good cmpBytes := lexList_good (cmpInt_good.pull (fun a : UInt8 => (a.toNat : Int)))
theorem bytesLess_cmp : ∀ a b : List UInt8, Op.bytesLess a b = decide (cmpBytes a b < 0)
  | [], [] => rfl
  | [], _ :: _ => rfl
  | _ :: _, [] => rfl
  | a :: x, b :: y => by
    have ih := bytesLess_cmp x y
    have e : (a < b) = (a.toNat < b.toNat) := rfl
    simp only [Op.bytesLess, ih, cmpBytes, lexList, cmpInt]
    by_cases h1 : a.toNat < b.toNat
    · have h1' : a < b := h1
      simp [h1, h1']
    · have h1' : ¬ a < b := h1
      by_cases h2 : b.toNat < a.toNat
      · have h3 : (a == b) = false := by
          rw [beq_eq_false_iff_ne]; rintro rfl; omega
        simp [h3, h1', h1, h2]
      · obtain rfl : a = b := UInt8.toNat_inj.1 (by omega)
        simp [cmpBytes]
theorem bytesEq_cmp (a b : List UInt8) : (a == b) = decide (cmpBytes a b = 0) := by
  induction a generalizing b with
  | nil => cases b <;> rfl
  | cons x l ih =>
    cases b with
    | nil => rfl
    | cons y m =>
      rw [List.cons_beq_cons, ih m]
      simp only [cmpBytes, lexList, cmpInt]
      by_cases h : x = y
      · subst h; simp
      · have h3 : (x == y) = false := by rw [beq_eq_false_iff_ne]; exact h
        have h4 : ¬ x.toNat = y.toNat := fun e => h (UInt8.toNat_inj.1 e)
        rw [h3]
        simp
        repeat' split
        all_goals first | omega | simp
theorem bytesGtr_cmp (a b : List UInt8) : (!(Op.bytesLess a b || a == b)) = decide (0 < cmpBytes a b) := by
  rw [bytesLess_cmp, bytesEq_cmp]
  by_cases h : 0 < cmpBytes a b
  · have h1 : ¬ cmpBytes a b < 0 := by omega
    have h2 : ¬ cmpBytes a b = 0 := by omega
    simp [h, h1, h2]
  · by_cases h1 : cmpBytes a b < 0
    · simp [h, h1]
    · have h2 : cmpBytes a b = 0 := by omega
      simp [h2]

theorem cmpBytes_eq {a b : List UInt8} (h : cmpBytes a b = 0) : a = b := by
  have := bytesEq_cmp a b
  rw [h] at this
  simpa using this
end Go.Proofs.YtafeaeaildfohaaGreatDoor
/- Places of entries within a group: their order: plain. -/
namespace Go.Proofs.YtafeaeaildfohaaGreatDoor

/-- Where an entry stands within a group: name, key. -/
abbrev Spot := ByteArray × ByteArray
def spotC : Spot → Spot → Int := lex (fun a b => cmpBytes a.1.toList b.1.toList) (fun a b => cmpBytes a.2.toList b.2.toList)
theorem spotC_good : Good spotC := lex_good (cmpBytes_good.pull (fun a : Spot => a.1.toList)) (cmpBytes_good.pull (fun a : Spot => a.2.toList))
theorem spotC_eq {a b : Spot} (h : spotC a b = 0) : a = b := by
  have h1 : cmpBytes a.1.toList b.1.toList = 0 := by
    unfold spotC lex at h
    split at h
    · omega
    · next h1 => exact Classical.not_not.1 h1
  have h2 : cmpBytes a.2.toList b.2.toList = 0 := by
    unfold spotC lex at h
    rw [if_neg (by simpa using h1)] at h
    exact h
  have e1 := cmpBytes_eq h1
  have e2 := cmpBytes_eq h2
  rw [Lib.toList_data, Lib.toList_data] at e1 e2
  exact Prod.ext (bl_inj e1) (bl_inj e2)
/-- The keys of a map, ascending. -/
structure Keysof {α : Type} (f : Spot → Option α) (ss : List Spot) : Prop where
  up : ss.Pairwise (fun a b => spotC a b < 0)
  mem : ∀ k, k ∈ ss ↔ (f k).isSome = true
theorem sorted_unique {α : Type} {c : α → α → Int} (g : Good c) : ∀ {l m : List α}, l.Pairwise (fun a b => c a b < 0) → m.Pairwise (fun a b => c a b < 0) → (∀ x, x ∈ l ↔ x ∈ m) → l = m
  | [], [], _, _, _ => rfl
  | [], y :: m, _, _, h => absurd ((h y).2 List.mem_cons_self) (by simp)
  | x :: l, [], _, _, h => absurd ((h x).1 List.mem_cons_self) (by simp)
  | x :: l, y :: m, hl, hm, h => by
    rw [List.pairwise_cons] at hl hm
    have hxy : x = y := by
      rcases List.mem_cons.1 ((h x).1 List.mem_cons_self) with e | e
      · exact e
      rcases List.mem_cons.1 ((h y).2 List.mem_cons_self) with e' | e'
      · exact e'.symm
      · have h1 := hm.1 x e
        have h2 := hl.1 y e'
        have := g.anti x y
        omega
    subst hxy
    have hnx : ∀ {k : List α}, (∀ a ∈ k, c x a < 0) → x ∉ k := fun hk hx => by have := hk x hx; have := g.refl x; omega
    rw [sorted_unique g hl.2 hm.2 (fun z => ?_)]
    constructor
    · intro hz
      rcases List.mem_cons.1 ((h z).1 (List.mem_cons_of_mem _ hz)) with e | e
      · subst e; exact absurd hz (hnx hl.1)
      · exact e
    · intro hz
      rcases List.mem_cons.1 ((h z).2 (List.mem_cons_of_mem _ hz)) with e | e
      · subst e; exact absurd hz (hnx hm.1)
      · exact e
theorem Keysof.unique {α : Type} {f : Spot → Option α} {ss tt : List Spot} (h : Keysof f ss) (h' : Keysof f tt) : ss = tt :=
  sorted_unique spotC_good h.up h'.up (fun k => (h.mem k).trans (h'.mem k).symm)
theorem Good.lt_trans {α : Type} {c : α → α → Int} (g : Good c) {a b d : α} (h1 : c a b < 0) (h2 : c b d < 0) : c a d < 0 := by
  have := g.trans a b d (by omega) (by omega)
  by_cases h : c a d = 0
  · have := this.2 h; omega
  · omega
end Go.Proofs.YtafeaeaildfohaaGreatDoor
/- Facts, rules, what follows: plain. -/
namespace Go.Proofs.YtafeaeaildfohaaGreatDoor

/-- A fact or an atom. -/
structure Fct where
  n : ByteArray
  a : ByteArray
  b : ByteArray
deriving Inhabited, DecidableEq
structure Rul where
  hd : Fct
  bd : List Fct
deriving Inhabited
theorem bytes_eq0 {a b : ByteArray} (h : cmpBytes a.toList b.toList = 0) : a = b := by
  have e1 := cmpBytes_eq h
  rw [Lib.toList_data, Lib.toList_data] at e1
  exact bl_inj e1
def fctC : Fct → Fct → Int := lex (fun x y => cmpBytes x.n.toList y.n.toList) (lex (fun x y => cmpBytes x.a.toList y.a.toList) (fun x y => cmpBytes x.b.toList y.b.toList))
theorem fctC_good : Good fctC := lex_good (cmpBytes_good.pull (fun x : Fct => x.n.toList)) (lex_good (cmpBytes_good.pull (fun x : Fct => x.a.toList)) (cmpBytes_good.pull (fun x : Fct => x.b.toList)))
theorem fctC_eq {x y : Fct} (h : fctC x y = 0) : x = y := by
  have h1 : cmpBytes x.n.toList y.n.toList = 0 := by
    unfold fctC lex at h
    split at h
    · omega
    · next h1 => exact Classical.not_not.1 h1
  unfold fctC lex at h
  rw [if_neg (by simpa using h1)] at h
  have h2 : cmpBytes x.a.toList y.a.toList = 0 := by
    split at h
    · omega
    · next h1 => exact Classical.not_not.1 h1
  rw [if_neg (by simpa using h2)] at h
  have e1 := bytes_eq0 h1
  have e2 := bytes_eq0 h2
  have e3 := bytes_eq0 h
  cases x; cases y
  simp_all

/-- Ascending. -/
def Asc (l : List Fct) : Prop := l.Pairwise (fun x y => fctC x y < 0)
theorem Asc.unique {l m : List Fct} (h : Asc l) (k : Asc m) (e : ∀ x, x ∈ l ↔ x ∈ m) : l = m := sorted_unique fctC_good h k e
theorem Asc.nodup {l : List Fct} (h : Asc l) : l.Nodup := h.imp (fun {x y} hxy e => by subst e; have := fctC_good.refl x; omega)
/-- A fact put into an ascending list, if it is not there. -/
def insS : List Fct → Fct → List Fct
  | [], f => [f]
  | x :: l, f => if fctC x f < 0 then x :: insS l f else f :: x :: l
def putS (l : List Fct) (f : Fct) : List Fct := if f ∈ l then l else insS l f
theorem insS_mem (l : List Fct) (f x : Fct) : x ∈ insS l f ↔ x = f ∨ x ∈ l := by
  induction l with
  | nil => simp [insS]
  | cons y l ih =>
    unfold insS
    split
    · rw [List.mem_cons, ih, List.mem_cons]
      constructor
      · rintro (h | h | h) <;> simp [h]
      · rintro (h | h | h) <;> simp [h]
    · simp
theorem insS_length (l : List Fct) (f : Fct) : (insS l f).length = l.length + 1 := by
  induction l with
  | nil => rfl
  | cons y l ih => unfold insS; split <;> simp [ih]
theorem putS_mem (l : List Fct) (f x : Fct) : x ∈ putS l f ↔ x = f ∨ x ∈ l := by
  unfold putS
  split
  · next h =>
    constructor
    · exact .inr
    · rintro (rfl | h') <;> assumption
  · exact insS_mem l f x
theorem insS_asc {l : List Fct} (h : Asc l) {f : Fct} (hf : f ∉ l) : Asc (insS l f) := by
  induction l with
  | nil => exact List.pairwise_singleton _ _
  | cons y l ih =>
    have hy := List.pairwise_cons.1 h
    have hne : y ≠ f := fun e => hf (e ▸ List.mem_cons_self)
    unfold insS
    split
    · next hlt =>
      refine List.pairwise_cons.2 ⟨fun z hz => ?_, ih hy.2 (fun e => hf (List.mem_cons_of_mem _ e))⟩
      rcases (insS_mem _ _ _).1 hz with rfl | hz
      · exact hlt
      · exact hy.1 z hz
    · next hlt =>
      have h2 : fctC f y < 0 := by
        have a1 := fctC_good.anti y f
        have a2 := fctC_good.range y f
        have a3 : fctC y f ≠ 0 := fun e => hne (fctC_eq e)
        omega
      refine List.pairwise_cons.2 ⟨fun z hz => ?_, h⟩
      rcases List.mem_cons.1 hz with rfl | hz
      · exact h2
      · exact fctC_good.lt_trans h2 (hy.1 z hz)
theorem putS_asc {l : List Fct} (h : Asc l) (f : Fct) : Asc (putS l f) := by
  unfold putS
  split
  · exact h
  · next hf => exact insS_asc h hf
/-- A list's facts, ascending, each once. -/
def srt (l : List Fct) : List Fct := l.foldl putS []
theorem foldl_putS_mem (l : List Fct) : ∀ (m : List Fct) (x : Fct), x ∈ l.foldl putS m ↔ x ∈ m ∨ x ∈ l := by
  induction l with
  | nil => intro m x; simp
  | cons y l ih =>
    intro m x
    rw [List.foldl_cons, ih, putS_mem, List.mem_cons]
    constructor
    · rintro ((h | h) | h) <;> simp [h]
    · rintro (h | h | h) <;> simp [h]
theorem foldl_putS_asc (l : List Fct) : ∀ (m : List Fct), Asc m → Asc (l.foldl putS m) := by
  induction l with
  | nil => intro m h; exact h
  | cons y l ih => intro m h; exact ih _ (putS_asc h y)
theorem srt_mem (l : List Fct) (x : Fct) : x ∈ srt l ↔ x ∈ l := by rw [srt, foldl_putS_mem]; simp
theorem srt_asc (l : List Fct) : Asc (srt l) := foldl_putS_asc l [] List.Pairwise.nil
theorem srt_eq {l m : List Fct} (h : Asc m) (e : ∀ x, x ∈ m ↔ x ∈ l) : srt l = m := (srt_asc l).unique h (fun x => (srt_mem l x).trans (e x).symm)
theorem srt_congr {l m : List Fct} (e : ∀ x, x ∈ l ↔ x ∈ m) : srt l = srt m := srt_eq (srt_asc m) (fun x => (srt_mem m x).trans (e x).symm)
theorem srt_self {l : List Fct} (h : Asc l) : srt l = l := srt_eq h (fun _ => Iff.rfl)

/-- Values of variables. -/
abbrev Bnd := List (ByteArray × ByteArray)
def lkB : Bnd → ByteArray → Option ByteArray
  | [], _ => none
  | p :: av, k => if p.1 = k then some p.2 else lkB av k
theorem lkB_snoc (av : Bnd) (n v k : ByteArray) : lkB (av ++ [(n, v)]) k = match lkB av k with | some w => some w | none => if n = k then some v else none := by
  induction av with
  | nil => simp [lkB]
  | cons p av ih =>
    simp only [List.cons_append, lkB]
    split
    · rfl
    · exact ih
def bind1 (av : Bnd) (n v : ByteArray) : Option Bnd :=
  match lkB av n with
  | some w => if w = v then some av else none
  | none => some (av ++ [(n, v)])
def bindF (av : Bnd) (x f : Fct) : Option Bnd := (bind1 av x.a f.a).bind (fun bs => bind1 bs x.b f.b)
/-- All ways to make a body of facts: the values, and the facts. -/
def ways : List Fct → List Fct → Bnd → List Fct → List (Bnd × List Fct)
  | [], _, av, l => [(av, l)]
  | x :: bd, L, av, l => L.flatMap fun f => if f.n = x.n then (match bindF av x f with | none => [] | some bs => ways bd L bs (l ++ [f])) else []
def strD : Option ByteArray → ByteArray
  | none => .empty
  | some a => a
def headF (r : Rul) (av : Bnd) : Fct := ⟨r.hd.n, strD (lkB av r.hd.a), strD (lkB av r.hd.b)⟩
/-- What a rule gives, in the order of the ways. -/
def heads (r : Rul) (L : List Fct) : List Fct := (ways r.bd L [] []).map fun w => headF r w.1
def headsAll (rules : List Rul) (L : List Fct) : List Fct := rules.flatMap fun r => heads r L

theorem ways_mono {L M : List Fct} (h : ∀ x ∈ L, x ∈ M) : ∀ (bd : List Fct) (av : Bnd) (l : List Fct) (w : Bnd × List Fct), w ∈ ways bd L av l → w ∈ ways bd M av l
  | [], _, _, _, hw => hw
  | x :: bd, av, l, w, hw => by
    unfold ways at hw ⊢
    obtain ⟨f, hf, hw⟩ := List.mem_flatMap.1 hw
    refine List.mem_flatMap.2 ⟨f, h f hf, ?_⟩
    split at hw
    · next hn =>
      rw [if_pos hn]
      cases hb : bindF av x f with
      | none => rw [hb] at hw; cases hw
      | some bs => rw [hb] at hw; exact ways_mono h bd _ _ _ hw
    · cases hw
theorem heads_mono {L M : List Fct} (h : ∀ x ∈ L, x ∈ M) (r : Rul) : ∀ x ∈ heads r L, x ∈ heads r M := by
  intro x hx
  obtain ⟨w, hw, rfl⟩ := List.mem_map.1 hx
  exact List.mem_map.2 ⟨w, ways_mono h _ _ _ _ hw, rfl⟩
theorem headsAll_mono {L M : List Fct} (h : ∀ x ∈ L, x ∈ M) (rules : List Rul) : ∀ x ∈ headsAll rules L, x ∈ headsAll rules M := by
  intro x hx
  obtain ⟨r, hr, hx⟩ := List.mem_flatMap.1 hx
  exact List.mem_flatMap.2 ⟨r, hr, heads_mono h r x hx⟩

/-- What follows, with rounds, in the order in which it came. -/
abbrev Rnds := List (Fct × Int)
def keysR (M : Rnds) : List Fct := M.map Prod.fst
def addR (k : Int) (M : Rnds) (f : Fct) : Rnds := if f ∈ keysR M then M else M ++ [(f, k)]
def addsR (k : Int) (M : Rnds) (l : List Fct) : Rnds := l.foldl (addR k) M
theorem addsR_nil (k : Int) (M : Rnds) : addsR k M [] = M := rfl
theorem addsR_cons (k : Int) (M : Rnds) (f : Fct) (l : List Fct) : addsR k M (f :: l) = addsR k (addR k M f) l := rfl
theorem addsR_append (k : Int) (M : Rnds) (l m : List Fct) : addsR k M (l ++ m) = addsR k (addsR k M l) m := List.foldl_append ..
theorem keys_addR (k : Int) (M : Rnds) (f x : Fct) : x ∈ keysR (addR k M f) ↔ x ∈ keysR M ∨ x = f := by
  unfold addR
  split
  · next h =>
    constructor
    · exact .inl
    · rintro (h' | rfl) <;> assumption
  · simp [keysR]
theorem keys_addsR (k : Int) : ∀ (l : List Fct) (M : Rnds) (x : Fct), x ∈ keysR (addsR k M l) ↔ x ∈ keysR M ∨ x ∈ l
  | [], M, x => by simp [addsR]
  | f :: l, M, x => by
    rw [addsR_cons, keys_addsR k l, keys_addR, List.mem_cons]
    constructor
    · rintro ((h | h) | h) <;> simp [h]
    · rintro (h | h | h) <;> simp [h]
theorem addR_nodup {k : Int} {M : Rnds} (h : (keysR M).Nodup) (f : Fct) : (keysR (addR k M f)).Nodup := by
  unfold addR
  split
  · exact h
  · next hf =>
    rw [show keysR (M ++ [(f, k)]) = keysR M ++ [f] by simp [keysR]]
    exact List.nodup_append.2 ⟨h, by simp, fun a ha b hb e => by simp at hb; subst hb; subst e; exact hf ha⟩
theorem addsR_nodup {k : Int} : ∀ (l : List Fct) {M : Rnds}, (keysR M).Nodup → (keysR (addsR k M l)).Nodup
  | [], _, h => h
  | f :: l, _, h => addsR_nodup l (addR_nodup h f)
theorem addR_len (k : Int) (M : Rnds) (f : Fct) : M.length ≤ (addR k M f).length ∧ (addR k M f).length ≤ M.length + 1 := by
  unfold addR; split <;> simp
theorem addsR_len (k : Int) : ∀ (l : List Fct) (M : Rnds), M.length ≤ (addsR k M l).length
  | [], _ => Nat.le_refl _
  | f :: l, M => Nat.le_trans (addR_len k M f).1 (addsR_len k l _)
theorem addsR_len_le (k : Int) : ∀ (l : List Fct) (M : Rnds), (addsR k M l).length ≤ M.length + l.length
  | [], _ => Nat.le_refl _
  | f :: l, M => by have := addsR_len_le k l (addR k M f); have := (addR_len k M f).2; rw [addsR_cons, List.length_cons]; omega
theorem addR_same {k : Int} {M : Rnds} {f : Fct} (h : (addR k M f).length = M.length) : addR k M f = M := by
  unfold addR at h ⊢
  split at h
  · next h' => rw [if_pos h']
  · simp at h
theorem addsR_same {k : Int} : ∀ (l : List Fct) {M : Rnds}, (addsR k M l).length = M.length → addsR k M l = M
  | [], _, _ => rfl
  | f :: l, M, h => by
    rw [addsR_cons] at h ⊢
    have h1 := addsR_len k l (addR k M f)
    have h2 := addR_len k M f
    have h3 := addR_same (k := k) (M := M) (f := f) (by omega)
    rw [h3] at h ⊢
    exact addsR_same l h
/-- A round: what the rules give of what there is. -/
def roundR (rules : List Rul) (k : Int) (M : Rnds) : Rnds := addsR k M (headsAll rules (srt (keysR M)))
/-- Rounds until nothing is new; nothing if it is too much. -/
def runR (rules : List Rul) : Nat → Int → Rnds → Option Rnds
  | 0, _, _ => none
  | n + 1, k, M => if 400 < (roundR rules k M).length then none else if (roundR rules k M).length = M.length then some M else runR rules n (k + 1) (roundR rules k M)
def startR (l : List Fct) : Rnds := addsR 0 [] l
def followR (rules : List Rul) (l : List Fct) : Option Rnds := runR rules 500 1 (startR l)
theorem keys_start (l : List Fct) (x : Fct) : x ∈ keysR (startR l) ↔ x ∈ l := by rw [startR, keys_addsR]; simp [keysR]
theorem start_nodup (l : List Fct) : (keysR (startR l)).Nodup := addsR_nodup l (by simp [keysR])
theorem start_len (l : List Fct) : (startR l).length ≤ l.length := by have := addsR_len_le 0 l []; simpa [startR] using this
def lkR : Rnds → Fct → Option Int
  | [], _ => none
  | p :: M, f => if p.1 = f then some p.2 else lkR M f
theorem lkR_some {M : Rnds} {f : Fct} : (lkR M f).isSome = true ↔ f ∈ keysR M := by
  induction M with
  | nil => simp [lkR, keysR]
  | cons p M ih =>
    simp only [lkR, keysR, List.map_cons, List.mem_cons]
    split
    · next h => simp [h]
    · next h =>
      rw [ih]
      constructor
      · exact .inr
      · rintro (e | e)
        · exact absurd e.symm h
        · exact e
theorem lkR_snoc {M : Rnds} {f : Fct} (hf : f ∉ keysR M) (k : Int) (g : Fct) : lkR (M ++ [(f, k)]) g = if g = f then some k else lkR M g := by
  induction M with
  | nil => simp [lkR, eq_comm]
  | cons p M ih =>
    have h1 : f ≠ p.1 := fun e => hf (by simp [keysR, e])
    have h2 : f ∉ keysR M := fun e => hf (by simp only [keysR, List.map_cons, List.mem_cons]; exact .inr e)
    simp only [List.cons_append, lkR]
    split
    · next h => subst h; rw [if_neg (Ne.symm h1)]
    · exact ih h2
end Go.Proofs.YtafeaeaildfohaaGreatDoor
/- Maps of the call's own, told by what stands at each key, for elements of any kind. No program in sight. -/
namespace Go.Proofs.YtafeaeaildfohaaGreatDoor
open Go.RowKit Go.Maps

def rawE : Value → Option (DataW Value × List MemPlace) := fun v => some (.held v, [])
/-- How one value (an element of a map) reads. -/
structure VR (α : Type) where
  rel : Mem → Value → α → Prop
  mono : ∀ m m' v x, m.le m' → rel m v x → rel m' v x
def vBool : VR Bool := ⟨fun _ v x => v = .bool x, fun _ _ _ _ _ h => h⟩
def vInt : VR Int := ⟨fun _ v x => v = .int .i64 x ∧ inI64 x, fun _ _ _ _ _ h => h⟩
def Ty.one {α : Type} (t : Ty α) : VR α := ⟨fun m v x => t.rv m [v] x, fun _ _ _ _ h k => t.mono _ _ _ _ h k⟩

section
variable {κ α : Type} {P : Program} {k : TypeId} {lk : κ → Lit} {vr : VR α}
/-- What the entries are, key by key. -/
def MapSays (lk : κ → Lit) (vr : VR α) (m : Mem) (D : DataW Value) (f : κ → Option α) : Prop :=
  (∀ x, f x = none → Maps.has D (lk x) = false) ∧ (∀ x a, f x = some a → Maps.has D (lk x) = true ∧ ∃ v, (∀ z, D.atKey (lk x) z = .held v) ∧ vr.rel m v a) ∧ (∀ l, Maps.has D l = true → ∃ x, l = lk x)
theorem MapSays.mono {m m' : Mem} {D : DataW Value} {f : κ → Option α} (h : MapSays lk vr m D f) (hm : m.le m') : MapSays lk vr m' D f :=
  ⟨h.1, fun x a e => let ⟨g, v, g1, g2⟩ := h.2.1 x a e; ⟨g, v, g1, vr.mono _ _ _ _ hm g2⟩, h.2.2⟩
def MapOf (P : Program) (k : TypeId) (lk : κ → Lit) (vr : VR α) (w : World) (b n : Nat) (f : κ → Option α) : Prop :=
  ∃ D, w.ownsMap P k rawE b n D ∧ MapSays lk vr (mem w) D f

theorem mapBlock_mem {w : World} {b n : Nat} {D : DataW Value} (h : w.ownsMap P k rawE b n D) (o : Nat) : mem w b o = none := by
  obtain ⟨es, clock, hb, _⟩ := h
  simp [mem, World.cell?, hb]
theorem grown_mem {w w' : World} {b n : Nat} {D : DataW Value} (h : w.ownsMap P k rawE b n D) (hg : w.grownBy w' (some b)) : (mem w).le (mem w') := fun i o v e => by
  by_cases hi : i = b
  · subst hi; rw [mapBlock_mem h] at e; cases e
  · exact (mem_of_block (hg.block i (mem_lt e) (fun e => hi (by injection e))) o).trans e

theorem MapOf.made (w : World) : MapOf P k lk vr (w.alloc (.map #[] 0)) w.heap.size 0 (fun _ => (none : Option α)) :=
  ⟨.map [], World.ownsMap_made w P k rawE, fun _ _ => rfl, fun _ _ h => (by cases h), fun l h => (by simp [Maps.has] at h)⟩
theorem MapOf.lt {w : World} {b n : Nat} {f : κ → Option α} (h : MapOf P k lk vr w b n f) : b < w.heap.size := let ⟨_, h, _⟩ := h; h.lt
theorem MapOf.keeps {w w' : World} {b n : Nat} {f : κ → Option α} (h : MapOf P k lk vr w b n f) {F : Nat → Prop} (hk : Keeps F w w') (hF : ¬ F b) (hm : (mem w).le (mem w')) : MapOf P k lk vr w' b n f := by
  obtain ⟨D, ⟨es, clock, hb, r⟩, g⟩ := h
  exact ⟨D, ⟨es, clock, by rw [hk.block b (Array.getElem?_eq_some_iff.1 hb).1 hF]; exact hb, r⟩, g.mono hm⟩
theorem MapOf.below {w w' : World} {b n : Nat} {f : κ → Option α} (h : MapOf P k lk vr w b n f) (hb : Below w.heap.size w w') : MapOf P k lk vr w' b n f :=
  h.keeps (below_keeps hb) (by have := h.lt; omega) (below_mem hb)
theorem MapOf.mono {w : World} {b n n' : Nat} {f : κ → Option α} (h : MapOf P k lk vr w b n f) (hn : n ≤ n') : MapOf P k lk vr w b n' f :=
  let ⟨D, h1, h2⟩ := h; ⟨D, h1.mono hn, h2⟩
theorem MapOf.alloc {w : World} {b n : Nat} {f : κ → Option α} (h : MapOf P k lk vr w b n f) (o : Obj) : MapOf P k lk vr (w.alloc o) b n f :=
  h.below ((Below.refl _ _).alloc (Nat.le_refl _) o)
theorem MapOf.drew {w : World} {b n : Nat} {f : κ → Option α} (h : MapOf P k lk vr w b n f) : MapOf P k lk vr w.drew b n f :=
  h.below (Below.refl _ _).drew

open Classical in
noncomputable def putAt (f : κ → Option α) (x : κ) (a : α) : κ → Option α := fun y => if y = x then some a else f y
theorem putAt_same (f : κ → Option α) (x : κ) (a : α) : putAt f x a x = some a := by simp [putAt]
theorem putAt_other (f : κ → Option α) {x y : κ} (a : α) (h : y ≠ x) : putAt f x a y = f y := by simp [putAt, h]

theorem MapSays.put1 {m m' : Mem} {D : DataW Value} {f : κ → Option α} (h : MapSays lk vr m D f) (hm : m.le m') (hD : IsMap D) {x : κ} {a : α} {v : Value} (hinj : ∀ y, lk y = lk x → y = x) (hk : WideAt.IsKeyLit (lk x)) (hv : vr.rel m' v a) :
    MapSays lk vr m' (D.put (lk x) (.held v)) (putAt f x a) := by
  refine ⟨fun y hy => ?_, fun y c hy => ?_, fun l hl => ?_⟩
  · by_cases e : y = x
    · subst e; rw [putAt_same] at hy; cases hy
    · rw [putAt_other _ _ e] at hy
      rw [has_put_other (fun e' => e (hinj _ e'))]
      exact h.1 y hy
  · by_cases e : y = x
    · subst e
      rw [putAt_same] at hy
      cases hy
      exact ⟨has_put_same hD hk _, v, fun z => atKey_put_same hD hk _ z, hv⟩
    · rw [putAt_other _ _ e] at hy
      obtain ⟨g, u, g1, g2⟩ := h.2.1 y c hy
      have hne : lk y ≠ lk x := fun e' => e (hinj _ e')
      exact ⟨by rw [has_put_other hne]; exact g, u, fun z => by rw [atKey_put_other hne]; exact g1 z, vr.mono _ _ _ _ hm g2⟩
  · by_cases e : l = lk x
    · exact ⟨x, e⟩
    · rw [has_put_other e] at hl
      exact h.2.2 l hl
theorem MapSays.put {m m' : Mem} {D : DataW Value} {f : κ → Option α} (h : MapSays lk vr m D f) (hm : m.le m') (hD : IsMap D) {x : κ} {a : α} {v : Value} (hinj : ∀ x y, lk x = lk y → x = y) (hk : WideAt.IsKeyLit (lk x)) (hv : vr.rel m' v a) :
    MapSays lk vr m' (D.put (lk x) (.held v)) (putAt f x a) := h.put1 hm hD (fun _ e => hinj _ _ e) hk hv
end

/-- An operation that is carried out (unguarded, or its guard says yes). -/
theorem wpList_want {P : Program} {ops : Array Oper} {rest : List Oper} {o : Oper} {a : Act} {Q : Exit → Act → World → Prop} {w : World} (hw : Region.wanted o (yielded ops a.tmps) = true)
    (h : ∀ K : Act → World → Prop, (∀ a w, wpList P ops Q rest a w → K a w) → o.wp P a w K Q) : wpList P ops Q (o :: rest) a w :=
  wpList_step fun K hK => by rw [if_pos hw]; exact h K hK

section
variable {κ α : Type} {P : Program} {lk : κ → Lit} {vr : VR α} (w : World) {ops : Array Oper} {rest : List Oper} {o : Oper} {a : Act} {Q : Exit → Act → World → Prop}

/-- 'm[k]'. -/
theorem wpList_lookup_map (hg : Region.wanted o (yielded ops a.tmps) = true) (m x : Operand) (t : TypeId) (hop : o.op = Op.lookup t m x false)
    (k e : TypeId) (K : Keyed P k) (ht : P.underlying t = some (.map k e)) {z : Value} (hz : (zeroValue e).run P w = .ok z w) (b n : Nat) (f : κ → Option α)
    (hm : a.eval m = .map (some b)) (hown : MapOf P k lk vr w b n f) (key : Value) (y : κ) (hx : a.eval x = key) (hkey : keyOf P k key = some (lk y))
    (hK : ∀ v, (f y = none → v = z) → (∀ c, f y = some c → vr.rel (mem w) v c) → wpList P ops Q rest (a.put o.dst v) w) :
    wpList P ops Q (o :: rest) a w := by
  refine wpList_want hg fun K' hK' => ?_
  obtain ⟨D, hown, h1, h2, _⟩ := hown
  obtain ⟨v, ps, hrun, hv⟩ := hown.lookup K ht hz (zd := .held z) (zp := []) rfl hkey
  unfold Oper.wp
  simp [execOp, hop, hm, hx, hrun, Result.andThen]
  simp only [rawE, Option.some.injEq, Prod.mk.injEq] at hv
  refine hK' _ _ (hK v (fun e => ?_) (fun c e => ?_))
  · have := hv.1
    rw [atKey_of_not_has (h1 y e)] at this
    injection this
  · obtain ⟨_, u, g1, g2⟩ := h2 y c e
    have := hv.1
    rw [g1] at this
    injection this with this
    rw [this]; exact g2

theorem wpList_lookup_bool (hg : Region.wanted o (yielded ops a.tmps) = true) (m x : Operand) (t : TypeId) (hop : o.op = Op.lookup t m x false)
    (k e : TypeId) (K : Keyed P k) (ht : P.underlying t = some (.map k e)) (hz : (zeroValue e).run P w = .ok (.bool false) w) (b n : Nat) (f : κ → Option Bool)
    (hm : a.eval m = .map (some b)) (hown : MapOf P k lk vBool w b n f) (key : Value) (y : κ) (hx : a.eval x = key) (hkey : keyOf P k key = some (lk y)) (q : Bool) (hq : (f y).getD false = q)
    (hK : wpList P ops Q rest (a.put o.dst (.bool q)) w) :
    wpList P ops Q (o :: rest) a w := by
  subst hq
  exact wpList_lookup_map w hg m x t hop k e K ht hz b n f hm hown key y hx hkey (fun v g1 g2 => by
    cases hf : f y with
    | none => rw [g1 hf]; rw [hf] at hK; exact hK
    | some c => rw [show v = .bool c from g2 c hf]; rw [hf] at hK; exact hK)
theorem wpList_lookup_int (hg : Region.wanted o (yielded ops a.tmps) = true) (m x : Operand) (t : TypeId) (hop : o.op = Op.lookup t m x false)
    (k e : TypeId) (K : Keyed P k) (ht : P.underlying t = some (.map k e)) (hz : (zeroValue e).run P w = .ok (.int .i64 0) w) (b n : Nat) (f : κ → Option Int)
    (hm : a.eval m = .map (some b)) (hown : MapOf P k lk vInt w b n f) (key : Value) (y : κ) (hx : a.eval x = key) (hkey : keyOf P k key = some (lk y))
    (hK : wpList P ops Q rest (a.put o.dst (.int .i64 ((f y).getD 0))) w) :
    wpList P ops Q (o :: rest) a w :=
  wpList_lookup_map w hg m x t hop k e K ht hz b n f hm hown key y hx hkey (fun v g1 g2 => by
    cases hf : f y with
    | none => rw [g1 hf]; rw [hf] at hK; exact hK
    | some c => rw [(g2 c hf).1]; rw [hf] at hK; exact hK)

/-- 'v, ok := m[k]'. -/
theorem wpList_lookup_ok (hg : Region.wanted o (yielded ops a.tmps) = true) (m x : Operand) (t : TypeId) (hop : o.op = Op.lookup t m x true)
    (k e : TypeId) (K : Keyed P k) (ht : P.underlying t = some (.map k e)) {z : Value} (hz : (zeroValue e).run P w = .ok z w) (b n : Nat) (f : κ → Option α)
    (hm : a.eval m = .map (some b)) (hown : MapOf P k lk vr w b n f) (key : Value) (y : κ) (hx : a.eval x = key) (hkey : keyOf P k key = some (lk y))
    (hK : ∀ v, (f y = none → v = z) → (∀ c, f y = some c → vr.rel (mem w) v c) → wpList P ops Q rest (a.put o.dst (.tuple #[v, .bool (f y).isSome])) w) :
    wpList P ops Q (o :: rest) a w := by
  refine wpList_want hg fun K' hK' => ?_
  obtain ⟨D, hown, h1, h2, _⟩ := hown
  obtain ⟨v, ps, hrun, hv⟩ := hown.look_ok K ht hz (zd := .held z) (zp := []) rfl hkey
  have hs : Maps.has D (lk y) = (f y).isSome := by
    cases hf : f y with
    | none => exact h1 y hf
    | some c => exact (h2 y c hf).1
  rw [hs] at hrun
  unfold Oper.wp
  simp [execOp, hop, hm, hx, hrun, Result.andThen]
  simp only [rawE, Option.some.injEq, Prod.mk.injEq] at hv
  refine hK' _ _ (hK v (fun e => ?_) (fun c e => ?_))
  · have := hv.1
    rw [atKey_of_not_has (h1 y e)] at this
    injection this
  · obtain ⟨_, u, g1, g2⟩ := h2 y c e
    have := hv.1
    rw [g1] at this
    injection this with this
    rw [this]; exact g2

/-- 'm[k] = v'. -/
theorem wpList_update_map (hg : Region.wanted o (yielded ops a.tmps) = true) (m x v : Operand) (t : TypeId) (hop : o.op = Op.mapUpdate t m x v)
    (k e : TypeId) (K : Keyed P k) (ht : P.underlying t = some (.map k e)) (b n : Nat) (f : κ → Option α) (hinj : ∀ x y, lk x = lk y → x = y)
    (hm : a.eval m = .map (some b)) (hown : MapOf P k lk vr w b n f) (hn : n < maxLen) (key val : Value) (y : κ) (c : α) (hx : a.eval x = key) (hv : a.eval v = val) (hkey : keyOf P k key = some (lk y))
    (hval : vr.rel (mem w) val c)
    (hK : ∀ w', MapOf P k lk vr w' b (n + 1) (putAt f y c) → w.grownBy w' (some b) → (mem w).le (mem w') → wpList P ops Q rest (a.put o.dst undef) w') :
    wpList P ops Q (o :: rest) a w := by
  obtain ⟨D, hown, hs⟩ := hown
  refine wpList_want hg fun K' hK' => ?_
  obtain ⟨w', hrun, ho, hgr⟩ := hown.update K ht hn hkey (R := rawE) (val := val) (d := .held val) (ps := []) rfl
  have hle := grown_mem hown hgr
  unfold Oper.wp
  simp [execOp, hop, hm, hx, hv, hrun, Result.andThen]
  refine hK' _ _ ?_
  exact hK w' ⟨_, ho, hs.put hle hown.isMap hinj (K.key hkey) (vr.mono _ _ _ _ hle hval)⟩ hgr hle

/-- 'len(m)'. -/
theorem wpList_len_map (hg : Region.wanted o (yielded ops a.tmps) = true) (m : Operand) (t : TypeId) (hop : o.op = Op.call { callee := Callee.builtin Builtin.len, args := #[m], argTypes := #[t] })
    (k e : TypeId) (ht : P.underlying t = some (.map k e)) (b n : Nat) (f : κ → Option α) (hm : a.eval m = .map (some b)) (hown : MapOf P k lk vr w b n f)
    (hK : ∀ D, w.ownsMap P k rawE b n D → MapSays lk vr (mem w) D f → wpList P ops Q rest (a.put o.dst (.int .i64 (Maps.size D))) w) :
    wpList P ops Q (o :: rest) a w := by
  obtain ⟨D, hown, hs⟩ := hown
  refine wpList_want hg fun K' hK' => ?_
  unfold Oper.wp
  simp [execOp, hop, resolve, invoke, builtin, hm, hown.len ht o.type, Result.andThen]
  exact hK' _ _ (hK D hown hs)
end

/-! ### texts as keys -/
def strKey (s : ByteArray) : Lit := .string s.data.toList
theorem strKey_inj (x y : ByteArray) (h : strKey x = strKey y) : x = y := by
  obtain ⟨⟨l⟩⟩ := x
  obtain ⟨⟨l'⟩⟩ := y
  simpa [strKey] using h
theorem keyOf_str {P : Program} {k : TypeId} (hk : P.underlying k = some .string) {s : ByteArray} (hs : s.size ≤ maxLen) : keyOf P k (.string s) = some (strKey s) := Go.WideMaps.keyOf_string_mk hk hs
end Go.Proofs.YtafeaeaildfohaaGreatDoor
/- Facts as keys of maps: their literals (XSpotKey, turned to three texts). -/
namespace Go.Proofs.YtafeaeaildfohaaGreatDoor
open Go.RowKit Go.Maps

abbrev Fct.v (x : Fct) : Value := .agg #[.string x.n, .string x.a, .string x.b]
def okF (x : Fct) : Prop := x.n.size ≤ maxLen ∧ x.a.size ≤ maxLen ∧ x.b.size ≤ maxLen
open Classical in
noncomputable def lkF (x : Fct) : Lit := if okF x then .string (keyBytes [.string x.n.data.toList, .string x.a.data.toList, .string x.b.data.toList]) else .bool false
theorem cellsFct : Tryz.prog.cellsOf 43 = 3 := by kernel_rfl
theorem cellsStr : Tryz.prog.cellsOf 9 = 1 := by kernel_rfl
theorem keyTypeFct : Tryz.prog.keyType 43 = true := by kernel_rfl
theorem rowFct : (43 : TypeId) < Tryz.prog.types.size := of_decide_eq_true (by kernel_rfl)
theorem keyF : Keyed Tryz.prog 43 := Keyed.of_law (deep_law_laid Tryz.laidOut (m := 2) (by omega) rowFct (by kernel_rfl) (by rw [Tryz.underlying43]))
theorem size_pos : ∃ n, Tryz.prog.types.size = n + 1 := Nat.exists_eq_add_one.2 (Nat.lt_of_le_of_lt (Nat.zero_le _) rowFct)
def strLits : Value → Option (List Lit)
  | .string s => if s.size ≤ maxLen then some [.string s.data.toList] else none
  | _ => none
theorem lits_str (n : Nat) (c : Value) : Tryz.prog.keyLits (n + 1) 9 [c] = strLits c := by
  unfold Program.keyLits
  rw [Tryz.underlying9]
  cases c <;> rfl
set_option maxRecDepth 100000 in
theorem keyOf_fct_eq (c0 c1 c2 : Value) : keyOf Tryz.prog 43 (.agg #[c0, c1, c2]) =
    match c0, c1, c2 with | .string s, .string t, .string u => if s.size ≤ maxLen ∧ t.size ≤ maxLen ∧ u.size ≤ maxLen then some (.string (keyBytes [.string s.data.toList, .string t.data.toList, .string u.data.toList])) else none | _, _, _ => none := by
  obtain ⟨n, hn⟩ := size_pos
  unfold keyOf
  rw [Tryz.underlying43]
  simp only [keyTypeFct, Value.formed, Tryz.underlying43, cellsFct]
  rw [hn]
  unfold Program.keyLits
  rw [Tryz.underlying43]
  simp only [cellsFct, Value.cells, cellsStr]
  simp [lits_str, cellsStr]
  cases c0 <;> cases c1 <;> cases c2 <;> simp [strLits]
  rename_i s t u
  by_cases hs : s.size ≤ maxLen <;> by_cases ht : t.size ≤ maxLen <;> by_cases hu : u.size ≤ maxLen <;> simp [hs, ht, hu]
theorem keyOf_fct {x : Fct} (h : okF x) : keyOf Tryz.prog 43 x.v = some (lkF x) := by
  rw [keyOf_fct_eq]
  unfold lkF
  rw [if_pos h]
  exact if_pos h
set_option maxRecDepth 100000 in
theorem keyOf_fct_inv {v : Value} {l : Lit} (h : keyOf Tryz.prog 43 v = some l) : ∃ x : Fct, v = x.v ∧ l = lkF x ∧ okF x := by
  have hf : v.formed Tryz.prog 43 = true := by
    unfold keyOf at h
    rw [Tryz.underlying43] at h
    cases hv : v.formed Tryz.prog 43 with
    | true => rfl
    | false => simp [hv] at h
  have : ∃ c0 c1 c2, v = .agg #[c0, c1, c2] := by
    cases v with
    | agg cs =>
      simp only [Value.formed, Tryz.underlying43, cellsFct, beq_iff_eq] at hf
      obtain ⟨l⟩ := cs
      match l, hf with
      | [c0, c1, c2], _ => exact ⟨c0, c1, c2, rfl⟩
    | _ => simp [Value.formed, Tryz.underlying43] at hf
  obtain ⟨c0, c1, c2, rfl⟩ := this
  rw [keyOf_fct_eq] at h
  cases c0 <;> cases c1 <;> cases c2 <;> simp at h
  rename_i s t u
  obtain ⟨hok, rfl⟩ := h
  have hok' : okF ⟨s, t, u⟩ := hok
  exact ⟨⟨s, t, u⟩, rfl, by unfold lkF; rw [if_pos hok'], hok'⟩
theorem fctV_inj {x y : Fct} (h : x.v = y.v) : x = y := by
  cases x; cases y
  simp at h
  simp [h]
theorem lkF_inj {x : Fct} (hx : okF x) (y : Fct) (h : lkF y = lkF x) : y = x := by
  by_cases hy : okF y
  · have h1 := keyOf_fct hx
    have h2 := keyOf_fct hy
    rw [h] at h2
    exact fctV_inj (keyF.inj h2 h1)
  · unfold lkF at h
    rw [if_pos hx, if_neg hy] at h
    cases h
theorem lkF_key {x : Fct} (hx : okF x) : WideAt.IsKeyLit (lkF x) := keyF.key (keyOf_fct hx)
end Go.Proofs.YtafeaeaildfohaaGreatDoor
/- slices.AppendSeq, Collect at facts (XHApp, turned). -/
namespace Go.Proofs.YtafeaeaildfohaaGreatDoor
open Go.RowKit Go.Shelf
attribute [local go_sem] Oper.semAt_some

def tFct : Ty Fct := ⟨3, fun _ cs x => cs = [.string x.n, .string x.a, .string x.b] ∧ okF x, fun _ _ _ h => by rw [h.1]; rfl, fun _ _ _ _ _ h => h⟩
theorem tFct_flat : tFct.flat := fun _ _ _ _ h => h
abbrev tFcts : Ty (List Fct) := tSlice tFct
theorem infoFct : (Tryz.prog.info? 43).map (fun i => (i.zero, i.size, i.bytes)) = some (some (.agg #[.string .empty, .string .empty, .string .empty]), tFct.sz, 48) := by kernel_rfl
/-- What the variable of AppendSeq holds while elements come. -/
structure AppKept (w : World) (ps : List Fct) (W : World) : Prop where
  ex : ∃ u, W.heap[w.heap.size]? = some (.cells #[u] 39 (0, 0)) ∧ Owns tFct W (w.heap.size + 1) 43 u ps
  bl : Below w.heap.size w W
theorem AppKept.keeps {w A B : World} {ps : List Fct} {F : Nat → Prop} (h : AppKept w ps A) (hk : Keeps F A B) (hF : ∀ k, F k → w.heap.size < k) (hC : ∀ k o, w.heap.size < k → A.heap[k]? = some o → o.isCells = true → ¬ F k) : AppKept w ps B := by
  obtain ⟨⟨u, c, o⟩, hb⟩ := h
  exact ⟨⟨u, (hk.block _ (Array.getElem?_eq_some_iff.1 c).1 (fun h => by have := hF _ h; omega)).trans c, o.keepsC tFct_flat hk (fun k o' h1 => hC k o' (by omega))⟩, Keeps.belowStep hb hk (fun k h => by have := hF k h; omega) hb.size⟩

set_option maxRecDepth 100000 in
set_option maxHeartbeats 8000000 in
theorem appendSeqS_any (gf : Nat) (lb : Array Value) (Stp : List Fct → Fct → Prop) (Fin : List Fct → Prop) (n : Nat) (w : World) (eg : ∀ args w, (callFunc gf args).run Tryz.prog w = .ok (.enter gf args) w)
    (hseq : GivesW Tryz.prog gf lb (fun x => #[Fct.v x]) Stp Fin w) (hst : ∀ pre x, Stp pre x → pre.length < n ∧ okF x) (hn : n ≤ 1000000000) :
    Calls Tryz.prog 100 #[.slice none 0 0, .func (.func gf) #[] lb] w fun e w' => ∃ v ss, e = .returned v ∧ Fin ss ∧ Owns tFct w' w.heap.size 43 v ss ∧ Below w.heap.size w w' := by
  refine (callsIn_wide (n := 0)).1 (callsIn_of_wp_marks Tryz.func100 rfl trivial ?_ rfl)
  simp only [Tryz.ntmps100, List.size_toArray, List.length_cons, List.length_nil, Nat.reduceAdd, Nat.reduceSub, Array.replicate_succ, Array.replicate_zero, List.push_toArray, List.append_toArray, List.nil_append, List.cons_append]
  have HB1 := Lib.hid (show Below w.heap.size w (w.alloc (.cells #[.slice none 0 0] 39)) from (Below.refl _ _).alloc (Nat.le_refl _) _)
  have B0 := Lib.hid (show (w.alloc (.cells #[.slice none 0 0] 39)).heap[w.heap.size]? = some (.cells #[.slice none 0 0] 39 (0, 0)) from World.alloc_heap_new w _)
  have HST := Lib.hid hst
  have HSQ := Lib.hid hseq
  have HEG := Lib.hid eg
  clear hst hseq eg
  gi_wp2
  refine (wpIn_wide (n := 0)).2 (wp_rangeW (gf := gf) (lb := lb) (by first | rfl | simp) HEG.out HSQ.out HB1.out (fun x => rfl) (fun pre W => AppKept w pre W) ?closed ?start ?round ?done)
  case closed =>
    intro pre A B hI hk
    refine hI.keeps hk (fun k h => ?_) (fun k o h1 h2 h3 h => ?_)
    · have := h.1; simp at this; omega
    · obtain ⟨_, o', ho, hc⟩ := h
      rw [h2] at ho; cases ho; rw [h3] at hc; cases hc
  case start => exact ⟨⟨_, B0.out, Owns.nil _ _ _ _⟩, HB1.out⟩
  case round =>
    rintro l pre x W1 hx hI hsz1
    have hpl : pre.length < n := (HST.out _ _ hx).1
    have HOKX := Lib.hid (HST.out _ _ hx).2
    clear hx HST HSQ
    obtain ⟨x1, x2, x3⟩ := x
    gi_wp2
    refine ⟨(Keeps.refl _ _).alloc _, fun W3 hk => ?_⟩
    have hV1 : (W1.alloc (.cells #[.string x1, .string x2, .string x3] 43)).heap[W1.heap.size]? = some (.cells #[.string x1, .string x2, .string x3] 43 (0, 0)) := World.alloc_heap_new W1 _
    have hI2 : AppKept w pre (W1.alloc (.cells #[.string x1, .string x2, .string x3] 43)) := hI.keeps (F := fun _ => False) ((Keeps.refl _ _).alloc _) (fun k h => h.elim) (fun k o _ _ _ h => h.elim)
    have hI3 := hI2.keeps hk (fun k h => by have := h.1; simp at this; omega) (fun k o h1 h2 h3 h => by
      obtain ⟨_, o', ho, hc⟩ := h
      rw [h2] at ho; cases ho; rw [h3] at hc; cases hc)
    have hV3 : W3.heap[W1.heap.size]? = some (.cells #[.string x1, .string x2, .string x3] 43 (0, 0)) := (hk.block _ (by simp) (fun h => by
      obtain ⟨_, o', ho, hc⟩ := h
      rw [hV1] at ho; cases ho; cases hc)).trans hV1
    have v0 : W3.cell? ⟨W1.heap.size, 0, none⟩ = some (.string x1) := mem_cells hV3 0
    have v1 : W3.cell? ⟨W1.heap.size, 1, none⟩ = some (.string x2) := mem_cells hV3 1
    have v2 : W3.cell? ⟨W1.heap.size, 2, none⟩ = some (.string x3) := mem_cells hV3 2
    clear hk hI2 hI hV1 hV3
    obtain ⟨⟨u, c3, o3⟩, hB3⟩ := hI3
    obtain ⟨au, cu, rfl, hml⟩ := o3.len
    have c5 : W3.cell? ⟨w.heap.size, 0, none⟩ = some (.slice au pre.length cu) := mem_cells c3 0
    have f5 : W3.frozen? ⟨w.heap.size, 0, none⟩ = false := frozen_cells c3 0
    have HC3 := Lib.hid c3
    have HCU3 := Lib.hid (own_cells o3)
    have O4 := Lib.hid o3
    have HLU := Lib.hid (o3.lt)
    have HB := Lib.hid hB3
    have hlt5 : w.heap.size < W3.heap.size := mem_lt c5
    have hpl2 : pre.length ≤ 1000000000 := by omega
    clear c3 o3 hB3 hml
    gi_wp2_with (gi_at_builtin; refine wpListIn_append_one rfl _ _ 39 rfl tFct Tryz.underlying39 infoFct rfl (by decide) (w.heap.size + 1) _ pre rfl (O4.out.alloc _) _ _ (⟨x1, x2, x3⟩ : Fct) rfl [.string x1, .string x2, .string x3] ?a2 ⟨rfl, HOKX.out⟩ ?b2 ?c2 ?d2 ?e2 ?_)
    case a2 => exact fun j u hj => by match j, hj with | 0, hj => simp at hj; subst hj; simp [mem] | 1, hj => simp at hj; subst hj; simp [mem] | 2, hj => simp at hj; subst hj; simp [mem]
    case b2 => intro x hx; simp at hx; rcases hx with rfl | rfl | rfl <;> rfl
    case c2 => unfold maxLen; omega
    case d2 => omega
    case e2 => simp; omega
    intro v' W6 own6 hgrow hblk
    obtain ⟨a6, cap6, rfl, _⟩ := own6.len
    have hne6 : some w.heap.size ≠ (Value.slice au pre.length cu).ownBlock := fun h => by have := (HLU.out _ h.symm).1; omega
    have i6 : W6.heap[w.heap.size]? = some (.cells #[.slice au pre.length cu] 39 (0, 0)) := (hgrow.block w.heap.size (by simp; omega) hne6).trans ((Below.heap_alloc _ _ _ (by omega)).trans HC3.out)
    have k6 : W6.cell? ⟨w.heap.size, 0, none⟩ = some (.slice au pre.length cu) := mem_cells i6 0
    have l6 : W6.frozen? ⟨w.heap.size, 0, none⟩ = false := frozen_cells i6 0
    have KG := Lib.hid (show Keeps (fun k => k = w.heap.size ∨ some k = (Value.slice au pre.length cu).ownBlock ∨ W3.heap.size ≤ k) W3 W6 from
      ((Keeps.refl _ W3).alloc _).trans ((grown_keeps hgrow).wide (fun k _ h => .inr (.inl h))))
    have I6 := Lib.hid i6
    have O6 := Lib.hid own6
    have HGB := Lib.hid (show Below w.heap.size w W6 from (HB.out.alloc (by omega) _).grown hgrow (by simp; omega) (fun k hk => by have := (HLU.out k hk).1; omega))
    clear i6 own6 hgrow hblk hne6
    gi_wp2
    have O7 := O6.out
    simp only [List.length_append, List.length_cons, List.length_nil, Nat.zero_add] at O7
    generalize (Value.slice a6 (pre.length + 1) cap6) = v' at O7
    have hset : Keeps (fun k => k = w.heap.size) W6 (W6.setCell ⟨w.heap.size, 0, none⟩ v') := (Keeps.refl (fun k => k = w.heap.size) W6).setCell (p := ⟨w.heap.size, 0, none⟩) (fun _ => rfl) _
    have KH : Keeps (fun k => k = w.heap.size ∨ some k = (Value.slice au pre.length cu).ownBlock ∨ W3.heap.size ≤ k) W3 (W6.setCell ⟨w.heap.size, 0, none⟩ v') := KG.out.trans (hset.wide (fun k _ h => .inl h))
    refine ⟨others_of_keeps KH (fun k o h1 h2 => ?_), ⟨⟨v', ?_, ?_⟩, ?_⟩⟩
    · rcases h1 with h1 | h1 | h1
      · subst h1; rw [HC3.out] at h2; cases h2; rfl
      · exact HCU3.out k o h1.symm h2
      · have := (Array.getElem?_eq_some_iff.1 h2).1; omega
    · exact setC_block I6.out
    · exact O7.keepsC tFct_flat hset (fun k o h1 _ _ h => by omega)
    · exact Keeps.belowStep HGB.out hset (fun k h => by omega) HGB.out.size
  case done =>
    intro D W xs hfin hDl hI hD
    obtain ⟨⟨u, c, o4⟩, hB⟩ := hI
    obtain ⟨au, cu, rfl, hml⟩ := o4.len
    have c4 : W.cell? ⟨w.heap.size, 0, none⟩ = some (.slice au xs.length cu) := mem_cells c 0
    have O4 := Lib.hid o4
    have HB := Lib.hid hB
    have HD := Lib.hid hD
    have hwD : w.heap.size < D := by simp at hDl; omega
    clear o4 hB hD c HSQ B0 HST
    gi_wp2
    refine coll_end rfl rfl HD.out (fun WF hk => ⟨_, xs, rfl, hfin, ?_, Keeps.belowStep HB.out hk (fun k h => by omega) HB.out.size⟩)
    obtain ⟨css, h1, ⟨h2, h3⟩, h4, h5⟩ := O4.out.keepsC tFct_flat hk (fun k o h1 h2 h3 h => by subst h; rw [HD.out] at h2; cases h2; cases h3)
    refine ⟨css, h1, ⟨h2, ?_⟩, h4, h5⟩
    rcases h3 with h3 | ⟨g, cap, cur, e, hg, hh⟩
    · exact .inl h3
    · exact .inr ⟨g, cap, cur, e, by omega, hh⟩
end Go.Proofs.YtafeaeaildfohaaGreatDoor
/- How many entries a map has, told by its keys. -/
namespace Go.Proofs.YtafeaeaildfohaaGreatDoor
open Go.RowKit Go.Maps

theorem len_of_same {β : Type} [DecidableEq β] {l m : List β} (hl : l.Nodup) (hm : m.Nodup) (e : ∀ x, x ∈ l ↔ x ∈ m) : l.length = m.length := by
  induction l generalizing m with
  | nil => cases m with
    | nil => rfl
    | cons y m => exact absurd ((e y).2 List.mem_cons_self) (by simp)
  | cons x l ih =>
    have hx : x ∈ m := (e x).1 List.mem_cons_self
    rw [List.nodup_cons] at hl
    have := ih hl.2 (hm.erase x) (fun y => by
      rw [hm.mem_erase_iff]
      constructor
      · intro hy; exact ⟨fun e' => hl.1 (e' ▸ hy), (e y).1 (List.mem_cons_of_mem _ hy)⟩
      · rintro ⟨h1, h2⟩
        rcases List.mem_cons.1 ((e y).2 h2) with h | h
        · exact absurd h h1
        · exact h)
    rw [List.length_erase_of_mem hx] at this
    have h1 : 0 < m.length := List.length_pos_of_mem hx
    simp only [List.length_cons]
    omega
section
variable {κ α : Type} {P : Program} {k : TypeId} {lk : κ → Lit} {vr : VR α} {w : World} {b n : Nat} {f : κ → Option α}
open Classical in
theorem size_keys {m : Mem} {D : DataW Value} (hown : w.ownsMap P k rawE b n D) (hs : MapSays lk vr m D f) (K : Keyed P k) (ks : List κ) (hn : ks.Nodup) (hks : ∀ x, x ∈ ks ↔ (f x).isSome = true)
    (hinj : ∀ x y, x ∈ ks → y ∈ ks → lk x = lk y → x = y) (hex : ∀ v l, keyOf P k v = some l → (∃ x, l = lk x) ∧ ∃ s, l = .string s) : Maps.size D = ks.length := by
  obtain ⟨es, hD, hko⟩ := hown.keysOf
  obtain ⟨es', hD', ht⟩ := hown.tidy K
  rw [hD] at hD'
  injection hD' with hD'
  subst hD'
  have hsz : Maps.size D = es.length := by rw [hD]; rfl
  have h1 : (es.map (·.1)).Nodup := List.pairwise_map.2 (ht.imp (fun {p q} h => h))
  have h2 : (ks.map lk).Nodup := List.pairwise_map.2 (hn.imp_of_mem fun {p q} hp hq hne e => hne (hinj p q hp hq e))
  have hhas : ∀ p ∈ es, has D p.1 = true := fun p hp => by
    obtain ⟨v, hv⟩ := hko p hp
    obtain ⟨_, s, e⟩ := hex v _ hv
    rw [hD, Maps.has_eq, List.any_eq_true]
    exact ⟨p, hp, by rw [e]; simp [Lit.sameKey]⟩
  have := len_of_same h1 h2 (fun l => by
    constructor
    · intro hl
      obtain ⟨p, hp, rfl⟩ := List.mem_map.1 hl
      obtain ⟨v, hv⟩ := hko p hp
      obtain ⟨⟨x, e⟩, _⟩ := hex v _ hv
      refine List.mem_map.2 ⟨x, (hks x).2 ?_, e.symm⟩
      cases hf : f x with
      | some a => rfl
      | none =>
        have h3 := hs.1 x hf
        have h4 := hhas p hp
        rw [e, h3] at h4
        cases h4
    · intro hl
      obtain ⟨x, hx, rfl⟩ := List.mem_map.1 hl
      obtain ⟨a, ha⟩ := Option.isSome_iff_exists.1 ((hks x).1 hx)
      have h3 := (hs.2.1 x a ha).1
      rw [hD, Maps.has_eq, List.any_eq_true] at h3
      obtain ⟨p, hp, h4⟩ := h3
      obtain ⟨v, hv⟩ := hko p hp
      obtain ⟨_, s, e⟩ := hex v _ hv
      refine List.mem_map.2 ⟨p, hp, ?_⟩
      rw [e] at h4 ⊢
      generalize lk x = q at h4
      cases q <;> simp [Lit.sameKey] at h4
      rw [h4])
  rw [hsz]
  simpa using this
/-- The bound is the number of the keys. -/
theorem MapOf.exact (h : MapOf P k lk vr w b n f) (K : Keyed P k) (ks : List κ) (hn : ks.Nodup) (hks : ∀ x, x ∈ ks ↔ (f x).isSome = true)
    (hinj : ∀ x y, x ∈ ks → y ∈ ks → lk x = lk y → x = y) (hex : ∀ v l, keyOf P k v = some l → (∃ x, l = lk x) ∧ ∃ s, l = .string s) : MapOf P k lk vr w b ks.length f := by
  obtain ⟨D, hown, hs⟩ := h
  have hz := size_keys hown hs K ks hn hks hinj hex
  refine ⟨D, ?_, hs⟩
  obtain ⟨es, clock, hb, F, hle, hD⟩ := hown
  refine ⟨es, clock, hb, F, ?_, hD⟩
  have : Maps.size D = es.size := by rw [hD]; simp [Maps.size, Go.length_sorted]
  omega
end
section
variable {κ α : Type} {P : Program} {k : TypeId} {lk : κ → Lit} {vr : VR α} {w : World} {b n : Nat} {f : κ → Option α}
theorem MapOf.look {t e : TypeId} (h : MapOf P k lk vr w b n f) (K : Keyed P k) (ht : P.underlying t = some (.map k e)) {z : Value} (hz : (zeroValue e).run P w = .ok z w) {key : Value} {y : κ} (hkey : keyOf P k key = some (lk y)) :
    ∃ v, (Instr.lookup t (.map (some b)) key false).run P w = .ok v w ∧ (f y = none → v = z) ∧ (∀ c, f y = some c → vr.rel (mem w) v c) := by
  obtain ⟨D, hown, h1, h2, _⟩ := h
  obtain ⟨v, ps, hrun, hv⟩ := hown.lookup K ht hz (zd := .held z) (zp := []) rfl hkey
  simp only [rawE, Option.some.injEq, Prod.mk.injEq] at hv
  refine ⟨v, hrun, fun e => ?_, fun c e => ?_⟩
  · have := hv.1
    rw [atKey_of_not_has (h1 y e)] at this
    injection this
  · obtain ⟨_, u, g1, g2⟩ := h2 y c e
    have := hv.1
    rw [g1] at this
    injection this with this
    rw [this]; exact g2
theorem MapOf.lookOk {t e : TypeId} (h : MapOf P k lk vr w b n f) (K : Keyed P k) (ht : P.underlying t = some (.map k e)) {z : Value} (hz : (zeroValue e).run P w = .ok z w) {key : Value} {y : κ} (hkey : keyOf P k key = some (lk y)) :
    ∃ v, (Instr.lookup t (.map (some b)) key true).run P w = .ok (.tuple #[v, .bool (f y).isSome]) w ∧ (f y = none → v = z) ∧ (∀ c, f y = some c → vr.rel (mem w) v c) := by
  obtain ⟨D, hown, h1, h2, _⟩ := h
  obtain ⟨v, ps, hrun, hv⟩ := hown.look_ok K ht hz (zd := .held z) (zp := []) rfl hkey
  have hs : Maps.has D (lk y) = (f y).isSome := by
    cases hf : f y with
    | none => exact h1 y hf
    | some c => exact (h2 y c hf).1
  rw [hs] at hrun
  simp only [rawE, Option.some.injEq, Prod.mk.injEq] at hv
  refine ⟨v, hrun, fun e => ?_, fun c e => ?_⟩
  · have := hv.1
    rw [atKey_of_not_has (h1 y e)] at this
    injection this
  · obtain ⟨_, u, g1, g2⟩ := h2 y c e
    have := hv.1
    rw [g1] at this
    injection this with this
    rw [this]; exact g2
end
theorem keyStr_exP {P : Program} {k : TypeId} (hk : P.underlying k = some .string) : ∀ v l, keyOf P k v = some l → (∃ x, l = strKey x) ∧ ∃ s, l = .string s := fun v l h => by
  rw [Go.keyOf_string hk] at h
  unfold mapKey at h
  rw [hk] at h
  cases v <;> simp at h
  all_goals first
    | (obtain ⟨_, rfl⟩ := h; exact ⟨⟨_, rfl⟩, _, rfl⟩)
    | (subst h; exact ⟨⟨_, rfl⟩, _, rfl⟩)
end Go.Proofs.YtafeaeaildfohaaGreatDoor
/- Maps from facts to ints. -/
namespace Go.Proofs.YtafeaeaildfohaaGreatDoor
open Go.RowKit Go.Maps

@[reducible] def FM (W : World) (b n : Nat) (f : Fct → Option Int) : Prop := MapOf Tryz.prog 43 lkF vInt W b n f
theorem FM.at {W W' : World} {b n : Nat} {f : Fct → Option Int} (h : FM W b n f) (hb : W'.heap[b]? = W.heap[b]?) : FM W' b n f := by
  obtain ⟨D, ⟨es, clock, hh, r⟩, g⟩ := h
  exact ⟨D, ⟨es, clock, by rw [hb]; exact hh, r⟩, g⟩
theorem FM.obj {W : World} {b n : Nat} {f : Fct → Option Int} (h : FM W b n f) : ∃ es c, W.heap[b]? = some (.map es c) := by
  obtain ⟨D, ⟨es, clock, hh, r⟩, g⟩ := h
  exact ⟨es, clock, hh⟩
def intOr : Option Int → Int
  | none => 0
  | some a => a
theorem zeroInt (W : World) : (zeroValue 3).run Tryz.prog W = .ok (.int .i64 0) W := Tryz.zeroValue3 W
section
variable {W : World} {b n : Nat} {f : Fct → Option Int}
theorem FM.lookOk (h : FM W b n f) {x : Fct} (hx : okF x) : (Instr.lookup 63 (.map (some b)) x.v true).run Tryz.prog W = .ok (.tuple #[.int .i64 (intOr (f x)), .bool (f x).isSome]) W := by
  obtain ⟨v, h1, h2, h3⟩ := MapOf.lookOk h keyF Tryz.underlying63 (zeroInt W) (keyOf_fct hx)
  rw [h1]
  cases hf : f x with
  | none => rw [h2 hf]; rfl
  | some a => rw [show v = .int .i64 a from (h3 a hf).1]; rfl
theorem FM.look (h : FM W b n f) {x : Fct} (hx : okF x) : (Instr.lookup 63 (.map (some b)) x.v false).run Tryz.prog W = .ok (.int .i64 (intOr (f x))) W := by
  obtain ⟨v, h1, h2, h3⟩ := MapOf.look h keyF Tryz.underlying63 (zeroInt W) (keyOf_fct hx)
  rw [h1]
  cases hf : f x with
  | none => rw [h2 hf]; rfl
  | some a => rw [show v = .int .i64 a from (h3 a hf).1]; rfl
theorem FM.put (h : FM W b n f) (hn : n < maxLen) {x : Fct} (hx : okF x) (k : Int) (hk : inI64 k) :
    ∃ W', (Instr.mapUpdate 63 (.map (some b)) x.v (.int .i64 k)).run Tryz.prog W = .ok () W' ∧ FM W' b (n + 1) (putAt f x k) ∧ W.grownBy W' (some b) := by
  obtain ⟨D, hown, hs⟩ := h
  obtain ⟨W', hrun, ho, hgr⟩ := hown.update keyF Tryz.underlying63 hn (keyOf_fct hx) (R := rawE) (val := .int .i64 k) (d := .held (.int .i64 k)) (ps := []) rfl
  have hle := grown_mem hown hgr
  exact ⟨W', hrun, ⟨_, ho, hs.put1 hle hown.isMap (fun y e => lkF_inj hx y e) (lkF_key hx) ⟨rfl, hk⟩⟩, hgr⟩
end
end Go.Proofs.YtafeaeaildfohaaGreatDoor
