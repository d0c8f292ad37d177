/- Part 0 of the texts that the law's proof stands on, merged. -/
import Derived.WalkKit
import Derived.WalkSpells
import Derived.WalkLawsBesides
import Derived.Deep.QuietTactic
import Derived.BigQuiet
import Derived.Lib.Hide
import Derived.ChangeArms
import Derived.Deep.Slices
import Derived.DataReads
import Derived.Carry
import Derived.Deep.RegionLaw
import Derived.Test.YtbmpoecmjmmngaaGreatRows
import Derived.ProofKit
import Derived.OpenShut
import Derived.ShutString
import Derived.ChangeOld
import Derived.Laws.OwnMore
import Derived.Deep.AppendSrc
import Derived.Sort.Statements
import Derived.Lib.Strings
import Derived.Maps.OwnSet
import Derived.Maps.Range
import Derived.Maps.RangeWalk
import Derived.DeepKeys4
import Derived.Maps.Views
set_option linter.unusedVariables false
set_option linter.unusedSimpArgs false
/- Own words of these proofs: memory as a function of places, readings of Go's types as plain data (Ty), what a call keeps (Keeps), rows of the call's own. No program in sight. -/
namespace Go.Proofs.YtbmpoecmjmmngaaGreat
open Go.RowKit

def Mem := Nat → Nat → Option Value
def mem (w : World) : Mem := fun b o => w.cell? ⟨b, o, none⟩
open Classical in
noncomputable def Mem.on (m : Mem) (S : Nat → Prop) : Mem := fun b o => if S b then m b o else none
def Mem.le (m m' : Mem) : Prop := ∀ b o v, m b o = some v → m' b o = some v

theorem Mem.le_refl (m : Mem) : m.le m := fun _ _ _ h => h
theorem Mem.le_trans {a b c : Mem} (h : a.le b) (k : b.le c) : a.le c := fun x y v e => k x y v (h x y v e)
theorem Mem.on_le (m : Mem) (S : Nat → Prop) : (m.on S).le m := fun b o v h => by
  unfold Mem.on at h
  split at h
  · exact h
  · cases h
theorem Mem.on_mono (m : Mem) {S S' : Nat → Prop} (h : ∀ b, S b → S' b) : (m.on S).le (m.on S') := fun b o v e => by
  unfold Mem.on at *
  split at e
  · rename_i hs
    rw [if_pos (h b hs)]; exact e
  · cases e
theorem Mem.on_some {m : Mem} {S : Nat → Prop} {b o : Nat} {v : Value} (h : m b o = some v) (hs : S b) : m.on S b o = some v := by
  unfold Mem.on; rw [if_pos hs]; exact h
theorem Mem.of_on {m : Mem} {S : Nat → Prop} {b o : Nat} {v : Value} (h : m.on S b o = some v) : S b ∧ m b o = some v := by
  unfold Mem.on at h
  split at h
  · exact ⟨‹_›, h⟩
  · cases h
theorem mem_lt {w : World} {b o : Nat} {v : Value} (h : mem w b o = some v) : b < w.heap.size := World.block_lt_of_cell? w ⟨b, o, none⟩ h

/-- What a call keeps: outside the blocks F all that was there is there. -/
structure Keeps (F : Nat → Prop) (w w' : World) : Prop where
  os : w'.os = w.os
  tape : w'.tape = w.tape
  output : w'.output = w.output
  size : w.heap.size ≤ w'.heap.size
  block : ∀ k, k < w.heap.size → ¬ F k → w'.heap[k]? = w.heap[k]?

theorem Keeps.refl (F : Nat → Prop) (w : World) : Keeps F w w := ⟨rfl, rfl, rfl, Nat.le_refl _, fun _ _ _ => rfl⟩
theorem Keeps.wide {F G : Nat → Prop} {w w' : World} (h : Keeps F w w') (hFG : ∀ k, k < w.heap.size → F k → G k) : Keeps G w w' :=
  ⟨h.os, h.tape, h.output, h.size, fun k hk hg => h.block k hk (fun hf => hg (hFG k hk hf))⟩
theorem Keeps.trans {F : Nat → Prop} {a b c : World} (h : Keeps F a b) (k : Keeps F b c) : Keeps F a c :=
  ⟨k.os.trans h.os, k.tape.trans h.tape, k.output.trans h.output, Nat.le_trans h.size k.size,
   fun i hi hf => (k.block i (Nat.lt_of_lt_of_le hi h.size) hf).trans (h.block i hi hf)⟩
theorem below_keeps {B : Nat} {w w' : World} (h : Below B w w') : Keeps (fun k => B ≤ k) w w' :=
  ⟨h.os, h.tape, h.output, h.size, fun k _ hk => h.block k (by omega)⟩
theorem Keeps.below {F : Nat → Prop} {w w' : World} (h : Keeps F w w') {B : Nat} (hB : B ≤ w.heap.size) (hF : ∀ k, F k → B ≤ k) : Below B w w' :=
  ⟨h.os, h.tape, h.output, h.size, fun k hk => h.block k (by omega) (fun hf => by have := hF k hf; omega)⟩
theorem below_step {B : Nat} {w wr w1 : World} (h : Below B w wr) (k : Below wr.heap.size wr w1) (hB : B ≤ wr.heap.size) : Below B w w1 := h.trans (k.mono hB)
theorem pure_trans {w wr w1 : World} (h : Below w.heap.size w wr) (k : Below wr.heap.size wr w1) : Below w.heap.size w w1 := h.trans (k.mono h.size)
theorem grown_keeps {w w' : World} {r : Option Nat} (h : w.grownBy w' r) : Keeps (fun k => some k = r) w w' :=
  ⟨h.os, h.tape, h.output, h.size, fun k hk hf => h.block k hk hf⟩
theorem Keeps.alloc {F : Nat → Prop} {a w : World} (h : Keeps F a w) (o : Obj) : Keeps F a (w.alloc o) :=
  h.trans ⟨rfl, rfl, rfl, by simp, fun k hk _ => Below.heap_alloc _ _ _ hk⟩
theorem Keeps.drew {F : Nat → Prop} {a w : World} (h : Keeps F a w) : Keeps F a w.drew := ⟨h.os, h.tape, h.output, h.size, h.block⟩
theorem Keeps.drewN {F : Nat → Prop} {a w : World} (h : Keeps F a w) (n : Nat) : Keeps F a (w.drewN n) := ⟨h.os, h.tape, h.output, h.size, h.block⟩
theorem Keeps.setCell {F : Nat → Prop} {a w : World} (h : Keeps F a w) {p : Addr} (hp : p.block < a.heap.size → F p.block) (u : Value) : Keeps F a (w.setCell p u) :=
  ⟨h.os, h.tape, h.output, by have := h.size; simpa [World.setCell] using this, fun k hk hf => (Below.heap_setCell _ _ _ _ (fun e => hf (by subst e; exact hp hk))).trans (h.block k hk hf)⟩
theorem Keeps.belowStep {F : Nat → Prop} {B : Nat} {w wr w1 : World} (h : Below B w wr) (k : Keeps F wr w1) (hF : ∀ k, F k → B ≤ k) (hB : B ≤ wr.heap.size) : Below B w w1 := h.trans (k.below hB hF)
theorem Keeps.pure {F : Nat → Prop} {a w w' : World} (h : Keeps F a w) (k : Below w.heap.size w w') : Keeps F a w' :=
  ⟨k.os.trans h.os, k.tape.trans h.tape, k.output.trans h.output, Nat.le_trans h.size k.size, fun i hi hf => (k.block i (Nat.lt_of_lt_of_le hi h.size)).trans (h.block i hi hf)⟩

theorem mem_of_block {w w' : World} {b : Nat} (h : w'.heap[b]? = w.heap[b]?) (o : Nat) : mem w' b o = mem w b o := World.cell?_of_block (w := w) (w' := w') (a := ⟨b, o, none⟩) h
theorem keeps_mem {F : Nat → Prop} {w w' : World} (h : Keeps F w w') {S : Nat → Prop} (hS : ∀ b, S b → ¬ F b) : ((mem w).on S).le ((mem w').on S) := fun b o v e => by
  obtain ⟨hs, e⟩ := Mem.of_on e
  exact Mem.on_some ((mem_of_block (h.block b (mem_lt e) (hS b hs)) o).trans e) hs
theorem keeps_mem' {F : Nat → Prop} {w w' : World} (h : Keeps F w w') {S : Nat → Prop} (hS : ∀ b, S b → ¬ F b) : ((mem w).on S).le (mem w') := Mem.le_trans (keeps_mem h hS) (Mem.on_le _ _)
theorem below_mem {w w' : World} (h : Below w.heap.size w w') : (mem w).le (mem w') := fun b o v e => (mem_of_block (h.block b (mem_lt e)) o).trans e
theorem below_memOn {B : Nat} {w w' : World} (h : Below B w w') : ((mem w).on (· < B)).le ((mem w').on (· < B)) := keeps_mem (below_keeps h) (fun b hb hn => by omega)
theorem mem_on_lt (w : World) : (mem w).le ((mem w).on (· < w.heap.size)) := fun _ _ _ e => Mem.on_some e (mem_lt e)
theorem mem_drewN (w : World) (n : Nat) : mem (w.drewN n) = mem w := rfl
theorem mem_drew (w : World) : mem w.drew = mem w := rfl

/-- How the cells of a value read as plain data. -/
structure Ty (α : Type) where
  sz : Nat
  rv : Mem → List Value → α → Prop
  len : ∀ m cs x, rv m cs x → cs.length = sz
  mono : ∀ m m' cs x, m.le m' → rv m cs x → rv m' cs x

def inI64 (n : Int) : Prop := -9223372036854775808 ≤ n ∧ n ≤ 9223372036854775807

def tInt : Ty Int := ⟨1, fun _ cs x => cs = [.int .i64 x] ∧ inI64 x, fun _ _ _ h => by rw [h.1]; rfl, fun _ _ _ _ _ h => h⟩
def tBool : Ty Bool := ⟨1, fun _ cs x => cs = [.bool x], fun _ _ _ h => by rw [h]; rfl, fun _ _ _ _ _ h => h⟩
def tStr : Ty ByteArray := ⟨1, fun _ cs x => cs = [.string x] ∧ x.size ≤ maxLen, fun _ _ _ h => by rw [h.1]; rfl, fun _ _ _ _ _ h => h⟩

/-- The cells of an element at a place. -/
def At (m : Mem) (b o : Nat) (cs : List Value) : Prop := ∀ j v, cs[j]? = some v → m b (o + j) = some v
theorem At.mono {m m' : Mem} {b o : Nat} {cs : List Value} (h : m.le m') (k : At m b o cs) : At m' b o cs := fun j v e => h _ _ _ (k j v e)
def Ty.at {α : Type} (t : Ty α) (m : Mem) (b o : Nat) (x : α) : Prop := ∃ cs, At m b o cs ∧ t.rv m cs x
theorem Ty.at_mono {α : Type} (t : Ty α) {m m' : Mem} {b o : Nat} {x : α} (h : m.le m') (k : t.at m b o x) : t.at m' b o x :=
  let ⟨cs, h1, h2⟩ := k; ⟨cs, h1.mono h, t.mono _ _ _ _ h h2⟩

def SliceRv {α : Type} (t : Ty α) (m : Mem) (cs : List Value) (xs : List α) : Prop :=
  ∃ a cap, cs = [.slice a xs.length cap] ∧ xs.length ≤ cap ∧ cap ≤ maxLen ∧
    (0 < xs.length → ∃ b o, a = some ⟨b, o, none⟩ ∧ ∀ k, (hk : k < xs.length) → t.at m b (o + k * t.sz) xs[k])
def tSlice {α : Type} (t : Ty α) : Ty (List α) where
  sz := 1
  rv := SliceRv t
  len := fun _ _ _ ⟨_, _, h, _⟩ => by rw [h]; rfl
  mono := fun m m' _ _ h ⟨a, cap, h1, h2, h3, h4⟩ => ⟨a, cap, h1, h2, h3, fun h0 => let ⟨b, o, e, hk⟩ := h4 h0; ⟨b, o, e, fun k hk' => t.at_mono h (hk k hk')⟩⟩

theorem slice_nil {α : Type} (t : Ty α) (m : Mem) : (tSlice t).rv m [.slice none 0 0] [] := ⟨none, 0, rfl, Nat.le_refl _, Nat.zero_le _, fun h => absurd h (by simp)⟩

/-- A slice's element: the cells at its place. -/
theorem slice_at {α : Type} {t : Ty α} {m : Mem} {a : Option Addr} {n cap : Nat} {xs : List α} (h : (tSlice t).rv m [.slice a n cap] xs) {k : Nat} (hk : k < xs.length) :
    ∃ b o, a = some ⟨b, o, none⟩ ∧ t.at m b (o + k * t.sz) xs[k] := by
  obtain ⟨a', cap', e, _, _, h4⟩ := h
  obtain ⟨b, o, ha, hat⟩ := h4 (by omega)
  simp only [List.cons.injEq, Value.slice.injEq, and_true] at e
  exact ⟨b, o, e.1.trans ha, hat k hk⟩
theorem slice_len {α : Type} {t : Ty α} {m : Mem} {a : Option Addr} {n cap : Nat} {xs : List α} (h : (tSlice t).rv m [.slice a n cap] xs) : n = xs.length ∧ xs.length ≤ cap ∧ cap ≤ maxLen := by
  obtain ⟨a', cap', e, h1, h2, _⟩ := h
  simp only [List.cons.injEq, Value.slice.injEq, and_true] at e
  obtain ⟨rfl, rfl, rfl⟩ := e
  exact ⟨rfl, h1, h2⟩
theorem slice_form {α : Type} {t : Ty α} {m : Mem} {v : Value} {xs : List α} (h : (tSlice t).rv m [v] xs) : ∃ a cap, v = .slice a xs.length cap ∧ xs.length ≤ cap ∧ cap ≤ maxLen ∧ (tSlice t).rv m [.slice a xs.length cap] xs := by
  have h0 := h
  obtain ⟨a', cap', e, h1, h2, _⟩ := h
  simp only [List.cons.injEq, and_true] at e
  exact ⟨a', cap', e, h1, h2, e ▸ h0⟩
/-- Elements of one cell. -/
theorem int_at {m : Mem} {b o : Nat} {x : Int} (h : tInt.at m b o x) : m b o = some (.int .i64 x) ∧ inI64 x := by
  obtain ⟨cs, h1, rfl, h3⟩ := h
  exact ⟨h1 0 _ rfl, h3⟩
theorem str_at {m : Mem} {b o : Nat} {x : ByteArray} (h : tStr.at m b o x) : m b o = some (.string x) ∧ x.size ≤ maxLen := by
  obtain ⟨cs, h1, rfl, h3⟩ := h
  exact ⟨h1 0 _ rfl, h3⟩
theorem slice_cell {α : Type} {t : Ty α} {m : Mem} {b o : Nat} {xs : List α} (h : (tSlice t).at m b o xs) : ∃ v, m b o = some v ∧ (tSlice t).rv m [v] xs := by
  obtain ⟨cs, h1, h2⟩ := h
  have hl := (tSlice t).len _ _ _ h2
  match cs, hl with
  | [v], _ => exact ⟨v, h1 0 _ rfl, h2⟩

/-! ### Rows of the call's own -/

/-- The slice value v owns its elements: they read as xs, and their deep parts do not lie in the row itself. -/
def Owns {α : Type} (t : Ty α) (w : World) (B : Nat) (e : TypeId) (v : Value) (xs : List α) : Prop :=
  ∃ css : List (List Value), css.length = xs.length ∧ w.ownsRow B e t.sz v xs.length css.flatten ∧ (∀ c ∈ css, c.length = t.sz) ∧
    ∀ k, (h : k < css.length) → (h' : k < xs.length) → t.rv ((mem w).on (fun b => some b ≠ v.ownBlock)) css[k] xs[k]

theorem Owns.nil {α : Type} (t : Ty α) (w : World) (B : Nat) (e : TypeId) : Owns t w B e (.slice none 0 0) [] :=
  ⟨[], rfl, World.ownsRow_nil w B e t.sz, fun c h => absurd h (by simp), fun k h => absurd h (by simp)⟩

theorem flatten_get {β : Type} {s : Nat} : ∀ (css : List (List β)), (∀ c ∈ css, c.length = s) → ∀ (k : Nat) (h : k < css.length) (j : Nat) (v : β), css[k][j]? = some v → css.flatten[k * s + j]? = some v
  | c :: css, hc, 0, _, j, v, e => by
    simp only [List.getElem_cons_zero] at e
    rw [List.flatten_cons, Nat.zero_mul, Nat.zero_add, List.getElem?_append_left (List.getElem?_eq_some_iff.1 e).1]
    exact e
  | c :: css, hc, k + 1, h, j, v, e => by
    have hl : c.length = s := hc c (by simp)
    rw [List.flatten_cons, List.getElem?_append_right (by rw [hl, Nat.succ_mul]; omega), hl, show (k + 1) * s + j - s = k * s + j by rw [Nat.succ_mul]; omega]
    exact flatten_get css (fun c hm => hc c (by simp [hm])) k (by simpa using h) j v (by simpa using e)

theorem Owns.rv {α : Type} {t : Ty α} {w : World} {B : Nat} {e : TypeId} {v : Value} {xs : List α} (h : Owns t w B e v xs) {S : Nat → Prop} (hS : ∀ b, B ≤ b → S b)
    (hd : ∀ k cs, (hk : k < xs.length) → t.rv ((mem w).on (fun b => some b ≠ v.ownBlock)) cs xs[k] → t.rv ((mem w).on S) cs xs[k]) : (tSlice t).rv ((mem w).on S) [v] xs := by
  obtain ⟨css, h1, ⟨h2, h3⟩, h4, h5⟩ := h
  rcases h3 with ⟨rfl, h6⟩ | ⟨g, cap, cur, rfl, hg, hh, hn, hm, hc, ht⟩
  · have : xs = [] := List.eq_nil_of_length_eq_zero h6
    subst this
    exact slice_nil t _
  · refine ⟨some ⟨g, 0, none⟩, cap, rfl, hn, hm, fun _ => ⟨g, 0, rfl, fun k hk => ⟨css[k], fun j u hu => ?_, hd k _ hk (h5 k (by omega) hk)⟩⟩⟩
    have hf := flatten_get css h4 k (by omega) j u hu
    rw [← ht] at hf
    rw [List.getElem?_take] at hf
    split at hf
    · rw [Nat.zero_add]
      refine Mem.on_some ?_ (hS g hg)
      show World.cell? w ⟨g, k * t.sz + j, none⟩ = some u
      rw [cell_of_row w g (k * t.sz + j) cur e (0, 0) hh]
      simpa using hf
    · cases hf

theorem Owns.rv' {α : Type} {t : Ty α} {w : World} {B : Nat} {e : TypeId} {v : Value} {xs : List α} (h : Owns t w B e v xs) : (tSlice t).rv (mem w) [v] xs :=
  (tSlice t).mono _ _ _ _ (Mem.on_le _ (fun _ => True)) (h.rv (fun _ _ => trivial) (fun _ cs _ hk => t.mono _ _ cs _ (Mem.on_mono _ (fun _ _ => trivial)) hk))
theorem Owns.len {α : Type} {t : Ty α} {w : World} {B : Nat} {e : TypeId} {v : Value} {xs : List α} (h : Owns t w B e v xs) : ∃ a cap, v = .slice a xs.length cap ∧ xs.length ≤ maxLen := by
  obtain ⟨a, cap, h1, h2, h3, _⟩ := slice_form h.rv'
  exact ⟨a, cap, h1, Nat.le_trans h2 h3⟩

/-- An owned row over a call that keeps it. -/
theorem Owns.keeps {α : Type} {t : Ty α} {w w' : World} {B : Nat} {e : TypeId} {v : Value} {xs : List α} (h : Owns t w B e v xs) (hb : Below w.heap.size w w') : Owns t w' B e v xs := by
  obtain ⟨css, h1, ⟨h2, h3⟩, h4, h5⟩ := h
  refine ⟨css, h1, ⟨h2, ?_⟩, h4, fun k h h' => t.mono _ _ _ _ (fun b o u e => ?_) (h5 k h h')⟩
  · rcases h3 with h3 | ⟨g, cap, cur, rfl, hg, hh, r⟩
    · exact .inl h3
    · exact .inr ⟨g, cap, cur, rfl, hg, by rw [hb.block g (Array.getElem?_eq_some_iff.1 hh).1]; exact hh, r⟩
  · obtain ⟨hs, e⟩ := Mem.of_on e
    exact Mem.on_some (below_mem hb _ _ _ e) hs

/-- A reading that asks nothing of memory. -/
def Ty.flat {α : Type} (t : Ty α) : Prop := ∀ m m' cs x, t.rv m cs x → t.rv m' cs x
theorem tInt_flat : tInt.flat := fun _ _ _ _ h => h
theorem tBool_flat : tBool.flat := fun _ _ _ _ h => h
theorem tStr_flat : tStr.flat := fun _ _ _ _ h => h
theorem Owns.keepsFlat {α : Type} {t : Ty α} {w w' : World} {B : Nat} {e : TypeId} {v : Value} {xs : List α} (h : Owns t w B e v xs) (hf : t.flat) {F : Nat → Prop} (hk : Keeps F w w') (hF : ∀ k, v.ownBlock = some k → ¬ F k) : Owns t w' B e v xs := by
  obtain ⟨css, h1, ⟨h2, h3⟩, h4, h5⟩ := h
  refine ⟨css, h1, ⟨h2, ?_⟩, h4, fun k h h' => hf _ _ _ _ (h5 k h h')⟩
  rcases h3 with h3 | ⟨g, cap, cur, rfl, hg, hh, r⟩
  · exact .inl h3
  · exact .inr ⟨g, cap, cur, rfl, hg, by rw [hk.block g (Array.getElem?_eq_some_iff.1 hh).1 (hF g rfl)]; exact hh, r⟩

theorem Owns.lt {α : Type} {t : Ty α} {w : World} {B : Nat} {e : TypeId} {v : Value} {xs : List α} (h : Owns t w B e v xs) : ∀ k, v.ownBlock = some k → B ≤ k ∧ k < w.heap.size := let ⟨_, _, h2, _⟩ := h; h2.lt

/-- What stands behind an append of one element: the row owns one more. -/
theorem Owns.snoc {α : Type} {t : Ty α} {w w' : World} {B : Nat} {e : TypeId} {v v' : Value} {xs : List α} {x : α} {cs : List Value} (h : Owns t w B e v xs)
    (hw : ∀ css : List (List Value), w.ownsRow B e t.sz v xs.length css.flatten → w'.ownsRow B e t.sz v' (xs.length + 1) (css.flatten ++ cs)) (hg : w.grownBy w' v.ownBlock)
    (hv : v'.ownBlock = v.ownBlock ∨ ∀ k, v'.ownBlock = some k → w.heap.size ≤ k)
    (hx : t.rv ((mem w).on (fun b => some b ≠ v.ownBlock)) cs x) : Owns t w' B e v' (xs ++ [x]) := by
  obtain ⟨css, h1, h2, h4, h5⟩ := h
  have hle : ((mem w).on (fun b => some b ≠ v.ownBlock)).le ((mem w').on (fun b => some b ≠ v'.ownBlock)) := fun b o u e => by
    obtain ⟨hs, e⟩ := Mem.of_on e
    refine Mem.on_some ((mem_of_block (hg.block b (mem_lt e) hs) o).trans e) ?_
    rcases hv with hv | hv
    · rw [hv]; exact hs
    · intro hk
      have := hv b hk.symm
      have := mem_lt e
      omega
  refine ⟨css ++ [cs], by simp [h1], ?_, ?_, ?_⟩
  · have := hw css h2
    simpa using this
  · intro c hc
    rcases List.mem_append.1 hc with hc | hc
    · exact h4 c hc
    · simp at hc; subst hc; exact t.len _ _ _ hx
  · intro k hk hk'
    by_cases hlt : k < xs.length
    · rw [List.getElem_append_left (by omega), List.getElem_append_left hlt]
      exact t.mono _ _ _ _ hle (h5 k (by omega) hlt)
    · have : k = xs.length := by simp at hk'; omega
      subst this
      rw [List.getElem_append_right (by omega), List.getElem_append_right (by omega)]
      simp only [h1, Nat.sub_self, List.getElem_cons_zero]
      exact t.mono _ _ _ _ hle hx

theorem mem_cells_new (w : World) (cs : Array Value) (T : TypeId) (f : Nat × Nat) (o : Nat) : (w.alloc (.cells cs T f)).cell? ⟨w.heap.size, o, none⟩ = cs[o]? := by
  have h := heap_alloc_new w (.cells cs T f)
  generalize w.alloc (.cells cs T f) = w' at h ⊢
  simp [World.cell?, h]
theorem Owns.alloc {α : Type} {t : Ty α} {w : World} {B : Nat} {e : TypeId} {v : Value} {xs : List α} (h : Owns t w B e v xs) (o : Obj) : Owns t (w.alloc o) B e v xs :=
  h.keeps ((Below.refl _ _).alloc (Nat.le_refl _) o)
theorem Owns.drew {α : Type} {t : Ty α} {w : World} {B : Nat} {e : TypeId} {v : Value} {xs : List α} (h : Owns t w B e v xs) : Owns t w.drew B e v xs :=
  h.keeps (Below.refl _ _).drew

section
variable {P : Program}
/-- Where an append has put its row: in the same one, or in a new one. -/
theorem append_block (w : World) (base : Nat) (t ty e : TypeId) (i : TypeInfo) (z : Value) (size bytes : Nat) (ht : P.underlying t = some (.slice e)) (hi : P.info? e = some i) (hz : i.zero = some z)
    (hsize : i.size = size) (hby : i.bytes = bytes) (v : Value) (n : Nat) (xs : List Value) (hown : w.ownsRow base e size v n xs)
    (a : Addr) (m c : Nat) (news : List Value) (hl : news.length = m * size) (hnews : ∀ j u, news[j]? = some u → w.cell? (a.add j) = some u) (h1 : ∀ u ∈ news, u.oneCell' = true)
    (hm : 0 < m) (h63 : n + m ≤ maxLen) (hbytes : (n + m) * bytes ≤ 140737488355328) {v' : Value} {w' : World}
    (hr : (Builtin.append_ #[t, t] ty #[v, .slice (some a) m c]).run P w = .ok v' w') : v'.ownBlock = v.ownBlock ∨ ∀ k, v'.ownBlock = some k → w.heap.size ≤ k := by
  subst hsize
  subst hby
  have h9 : n + m ≤ 9223372036854775807 := by unfold maxLen at h63; exact h63
  rcases hown.2 with ⟨rfl, rfl⟩ | ⟨g, cap, cur, rfl, hbg, hg, hnc, hcm, hcs, htake⟩
  · rw [run_append_nil (P := P) w t ty e i z ht hi hz a m c news hl hnews hm (by omega) (by have hb := hbytes; simp only [Nat.zero_add] at hb; omega)] at hr
    injection hr with hv _
    subst hv
    right; intro k hk
    simp [Value.ownBlock] at hk
    omega
  · by_cases hroom : n + m ≤ cap
    · have hfit : n * i.size + news.length ≤ cur.size := by rw [hl, hcs, ← Nat.add_mul]; exact Nat.mul_le_mul_right _ hroom
      rw [run_append_room (P := P) w t ty e i ht hi g n cap cur hg a m c news hl hnews h1 hroom hfit] at hr
      injection hr with hv _
      subst hv
      left; rfl
    · rw [run_append_grow (P := P) w t ty e i z ht hi hz ⟨g, 0, none⟩ n cap xs hown.1 (hown.cells (g := g) rfl) a m c news hl hnews (by omega) (by omega) (growslice_fits (by omega) hbytes)] at hr
      injection hr with hv _
      subst hv
      right; intro k hk
      simp [Value.ownBlock] at hk
      omega

/-- APPEND OF ONE ELEMENT to a row of the call's own, in readings. -/
theorem wpList_append_one {α : Type} {ops : Array Oper} {rest : List Oper} {o : Oper} {a : Act} {Q : Exit → Act → World → Prop} {w : World} (hgd : o.guard = none) (s x : Operand) (T : TypeId)
    (ho : o.op = .call { callee := .builtin .append, args := #[s, x], argTypes := #[T, T] }) (t : Ty α) {e : TypeId} {z : Value} {bytes : Nat} (hT : P.underlying T = some (.slice e))
    (hinf : (P.info? e).map (fun i => (i.zero, i.size, i.bytes)) = some (some z, t.sz, bytes)) (hzs : z.cells.size = t.sz) (hsz : 0 < t.sz) (B : Nat) (v : Value) (xs : List α) (hs : a.eval s = v) (hown : Owns t w B e v xs)
    (nb c : Nat) (y : α) (hx : a.eval x = .slice (some ⟨nb, 0, none⟩) 1 c) (cs : List Value) (hat : At (mem w) nb 0 cs) (hrv : t.rv ((mem w).on (fun b => some b ≠ v.ownBlock)) cs y) (h1 : ∀ u ∈ cs, u.oneCell' = true)
    (h63 : xs.length + 1 ≤ maxLen) (hbytes : (xs.length + 1) * bytes ≤ 140737488355328) (hbase : B ≤ w.heap.size)
    (h : ∀ v' w', Owns t w' B e v' (xs ++ [y]) → w.grownBy w' v.ownBlock → (v'.ownBlock = v.ownBlock ∨ ∀ k, v'.ownBlock = some k → w.heap.size ≤ k) → wpList P ops Q rest (a.put o.dst v') w') : wpList P ops Q (o :: rest) a w := by
  obtain ⟨i, hi, hz, hsize, hby⟩ := info_parts hinf
  have hown' := hown
  obtain ⟨css, g1, g2, g4, g5⟩ := hown
  have hl : cs.length = 1 * t.sz := by rw [t.len _ _ _ hrv, Nat.one_mul]
  have hnews : ∀ j u, cs[j]? = some u → w.cell? ((⟨nb, 0, none⟩ : Addr).add j) = some u := fun j u hj => by rw [Addr.add_lit]; exact hat j u hj
  refine wpList_plain hgd fun K hK => ?_
  obtain ⟨v', w', hr, h2, h3, _⟩ := run_append_own (P := P) w B T o.type e i z t.sz bytes hT hi hz hsize hby hzs hsz v xs.length css.flatten g2 ⟨nb, 0, none⟩ 1 c cs hl hnews h1 h63 hbytes hbase
  have hblk := append_block w B T o.type e i z t.sz bytes hT hi hz hsize hby v xs.length css.flatten g2 ⟨nb, 0, none⟩ 1 c cs hl hnews h1 (by omega) h63 hbytes hr
  have key : Owns t w' B e v' (xs ++ [y]) := by
    refine hown'.snoc (fun css' hc' => ?_) h3 hblk hrv
    obtain ⟨v2, w2, hr2, h22, _, _⟩ := run_append_own (P := P) w B T o.type e i z t.sz bytes hT hi hz hsize hby hzs hsz v xs.length css'.flatten hc' ⟨nb, 0, none⟩ 1 c cs hl hnews h1 h63 hbytes hbase
    rw [hr] at hr2
    injection hr2 with ev ew
    subst ev; subst ew
    exact h22
  unfold Oper.wp execOp
  simp only [ho, resolve, invoke, builtin, Sem.run_bind, Sem.run_pure, Result.andThen_ok, List.map_toArray, List.map_cons, List.map_nil, hs, hx, hr]
  exact hK _ _ (h v' w' key h3 hblk)
end

theorem cell_new {w : World} {cs : Array Value} {T : TypeId} {f : Nat × Nat} {b : Nat} (o : Nat) (h : b = w.heap.size) : (w.alloc (.cells cs T f)).cell? ⟨b, o, none⟩ = cs[o]? := by
  subst h; exact mem_cells_new w cs T f o
/-- Append of one number. -/
theorem wpList_append_int {P : Program} {ops : Array Oper} {rest : List Oper} {o : Oper} {a : Act} {Q : Exit → Act → World → Prop} {w : World} (hgd : o.guard = none) (s x : Operand) (T : TypeId)
    (ho : o.op = .call { callee := .builtin .append, args := #[s, x], argTypes := #[T, T] }) {e : TypeId} (hT : P.underlying T = some (.slice e))
    (hinf : (P.info? e).map (fun i => (i.zero, i.size, i.bytes)) = some (some (.int .i64 0), 1, 8)) (B : Nat) (v : Value) (xs : List Int) (hs : a.eval s = v) (hown : Owns tInt w B e v xs)
    (nb c : Nat) (y : Int) (hx : a.eval x = .slice (some ⟨nb, 0, none⟩) 1 c) (hc : w.cell? ⟨nb, 0, none⟩ = some (.int .i64 y)) (hin : inI64 y) (hlen : xs.length ≤ 1000000000) (hbase : B ≤ w.heap.size)
    (h : ∀ v' w', Owns tInt w' B e v' (xs ++ [y]) → w.grownBy w' v.ownBlock → (v'.ownBlock = v.ownBlock ∨ ∀ k, v'.ownBlock = some k → w.heap.size ≤ k) → wpList P ops Q rest (a.put o.dst v') w') : wpList P ops Q (o :: rest) a w :=
  wpList_append_one hgd s x T ho tInt hT hinf rfl (by decide) B v xs hs hown nb c y hx [.int .i64 y] (fun j u hj => by match j, hj with | 0, hj => simp at hj; subst hj; exact hc) ⟨rfl, hin⟩ (fun u hu => by simp at hu; subst hu; rfl) (by unfold maxLen; omega) (by omega) hbase h

section
variable {P : Program}
/-- COPY of elements of whatever size into a block that is known whole. -/
theorem run_copy_cells (w : World) (dT sT ty elem : TypeId) (g o dLen dCap : Nat) (a : Addr) (sLen sCap n : Nat) (cur : Array Value) (t : TypeId) (cs : List Value) (sz : Nat)
    (hu : P.underlying dT = some (.slice elem)) (hs : (P.info? elem).map (·.size) = some sz)
    (hg : w.heap[g]? = some (.cells cur t (0, 0))) (hn : n = Nat.min sLen dLen) (hl : cs.length = n * sz)
    (hsrc : ∀ j v, cs[j]? = some v → w.cell? (a.add j) = some v) (hfit : o + cs.length ≤ cur.size) (h1 : ∀ v ∈ cs, v.oneCell' = true) :
    (Builtin.copy_ #[dT, sT] ty #[.slice (some ⟨g, o, none⟩) dLen dCap, .slice (some a) sLen sCap]).run P w =
      .ok (goInt n) (w.setRow g (cur.toList.take o ++ cs ++ cur.toList.drop (o + cs.length)).toArray) := by
  subst hn
  cases hq : P.info? elem with
  | none => simp [hq] at hs
  | some i =>
    simp only [hq, Option.map_some, Option.some.injEq] at hs
    subst hs
    have hf := run_firstCells_some (P := P) w i.size (Nat.min sLen dLen) a sLen sCap cs hl hsrc
    have hst := run_storeCells_at P g o t cs 0 cur w hg (by simpa using hfit) h1
    simp only [Nat.add_zero] at hst
    simp [Builtin.copy_, run_underlying hu, Builtin.lenOf, sizeOf, typeInfo, hq, hf, hst]

theorem wpList_copy_cells {w : World} {ops : Array Oper} {rest : List Oper} {o : Oper} {a : Act} {Q : Exit → Act → World → Prop} (hgd : o.guard = none) (d s : Operand) (dT sT : TypeId)
    (ho : o.op = .call { callee := .builtin .copy, args := #[d, s], argTypes := #[dT, sT] }) (elem sz : Nat) (hu : P.underlying dT = some (.slice elem)) (hs : (P.info? elem).map (·.size) = some sz)
    (g off dLen dCap : Nat) (ad : Addr) (sLen sCap n : Nat) (hd : a.eval d = .slice (some ⟨g, off, none⟩) dLen dCap) (hsv : a.eval s = .slice (some ad) sLen sCap)
    (cur : Array Value) (t : TypeId) (hg : w.heap[g]? = some (.cells cur t (0, 0))) (cs : List Value) (hn : n = Nat.min sLen dLen) (hl : cs.length = n * sz)
    (hsrc : ∀ j v, cs[j]? = some v → w.cell? (ad.add j) = some v) (hfit : off + cs.length ≤ cur.size) (h1 : ∀ v ∈ cs, v.oneCell' = true)
    (h : wpList P ops Q rest (a.put o.dst (goInt n)) (w.setRow g (cur.toList.take off ++ cs ++ cur.toList.drop (off + cs.length)).toArray)) : wpList P ops Q (o :: rest) a w := by
  refine wpList_plain hgd fun K hK => ?_
  have hrun := run_copy_cells (P := P) w dT sT o.type elem g off dLen dCap ad sLen sCap n cur t cs sz hu hs hg hn hl hsrc hfit h1
  unfold Oper.wp
  rw [List.append_assoc] at h
  simp [execOp, ho, resolve, invoke, builtin, hd, hsv, hrun, Result.andThen]
  exact hK _ _ h
end

/-- COPY as one step of a region that draws its order. -/
theorem step_copy_cells {P : Program} {ops : Array Oper} {o : Oper} {a : Act} {w : World} {K : Act → World → Prop} {Q : Exit → Act → World → Prop} {E : Prop} (hgd : o.guard = none) (d s : Operand) (dT sT : TypeId)
    (ho : o.op = .call { callee := .builtin .copy, args := #[d, s], argTypes := #[dT, sT] }) (elem sz : Nat) (hu : P.underlying dT = some (.slice elem)) (hs : (P.info? elem).map (·.size) = some sz)
    (g off dLen dCap : Nat) (ad : Addr) (sLen sCap n : Nat) (hd : a.eval d = .slice (some ⟨g, off, none⟩) dLen dCap) (hsv : a.eval s = .slice (some ad) sLen sCap)
    (cur : Array Value) (t : TypeId) (hg : w.heap[g]? = some (.cells cur t (0, 0))) (cs : List Value) (hn : n = Nat.min sLen dLen) (hl : cs.length = n * sz)
    (hsrc : ∀ j v, cs[j]? = some v → w.cell? (ad.add j) = some v) (hfit : off + cs.length ≤ cur.size) (h1 : ∀ v ∈ cs, v.oneCell' = true)
    (h : K (a.put o.dst (goInt n)) (w.setRow g (cur.toList.take off ++ cs ++ cur.toList.drop (off + cs.length)).toArray)) :
    if Region.wanted o (yielded ops a.tmps) = true then Oper.wp P o a w K Q else E := by
  have hw : Region.wanted o (yielded ops a.tmps) = true := by simp [Region.wanted, hgd]
  rw [if_pos hw]
  have hrun := run_copy_cells (P := P) w dT sT o.type elem g off dLen dCap ad sLen sCap n cur t cs sz hu hs hg hn hl hsrc hfit h1
  unfold Oper.wp
  rw [List.append_assoc] at h
  simp [execOp, ho, resolve, invoke, builtin, hd, hsv, hrun, Result.andThen]
  exact h

theorem frozen_cells {w : World} {b : Nat} {c : Array Value} {t : TypeId} (h : w.heap[b]? = some (.cells c t (0, 0))) (o : Nat) : w.frozen? ⟨b, o, none⟩ = false := by simp [World.frozen?, h]
theorem mem_cells {w : World} {b : Nat} {c : Array Value} {t : TypeId} {f : Nat × Nat} (h : w.heap[b]? = some (.cells c t f)) (o : Nat) : mem w b o = c[o]? := by simp [mem, World.cell?, h]

theorem setRow_facts {w0 w : World} {B g : Nat} {cur new : Array Value} {t : TypeId} (hb : Below B w0 w) (hB : B ≤ g) (hg : w.heap[g]? = some (.cells cur t (0, 0))) :
    (w.setRow g new).heap[g]? = some (.cells new t (0, 0)) ∧ Below B w0 (w.setRow g new) := by
  refine ⟨setRow_heap w g cur new t _ hg, hb.trans ⟨rfl, rfl, rfl, ?_, fun k hk => setRow_other w g k _ (by omega)⟩⟩
  simp [World.setRow]

/-! ### From the reading of an argument to plain data -/
section
variable {H : Type} {enc : TypeId × Value → H} {P : Program}
def Reads (P : Program) (T : TypeId) {α : Type} (t : Ty α) : Prop :=
  ∀ (H : Type) (enc : TypeId × Value → H) (w : World) (n : Nat) (cs : List Value) (d : DataW H × List MemPlace), DataW.trod enc P w 0 (fun _ => true) true n T cs = some d → ∃ x, t.rv (mem w) cs x
theorem reads_int {T : TypeId} (ht : P.underlying T = some (.int .i64)) : Reads P T tInt := fun _ _ _ _ _ _ h => by
  obtain ⟨n, h1, _, h3⟩ := DataW.trod_int ht h
  refine ⟨n, h1, ?_⟩
  have : -9223372036854775808 ≤ n ∧ n ≤ 9223372036854775807 := by simpa [Lit.wf, IntKind.min, IntKind.max, IntKind.signed, IntKind.bits] using h3
  exact this
theorem reads_bool {T : TypeId} (ht : P.underlying T = some .bool) : Reads P T tBool := fun _ _ _ _ _ _ h => by
  obtain ⟨n, h1, _⟩ := DataW.trod_bool ht h
  exact ⟨n, h1⟩
theorem reads_str {T : TypeId} (ht : P.underlying T = some .string) : Reads P T tStr := fun _ _ _ _ _ _ h => by
  obtain ⟨n, h1, _, h3⟩ := DataW.trod_string ht h
  exact ⟨n, h1, h3⟩
theorem reads_slice {T E : TypeId} {α : Type} [Inhabited α] {t : Ty α} (ht : P.underlying T = some (.slice E)) (hc : P.cellsOf E = t.sz) (hpos : 0 < t.sz) (hE : Reads P E t) : Reads P T (tSlice t) := fun H enc w n cs d h => by
  rcases Deep.open_slice ht h with ⟨rfl, _⟩ | ⟨a, len, cap, m, n', D, Pl, rfl, _, hl, hm, hmm, _, hi⟩
  · exact ⟨[], slice_nil t _⟩
  have hm' : m = cap := by simpa using hmm
  have hx : ∀ i, i < len → ∃ x, ∃ cs', w.cells? 0 (a.add (i * t.sz)) t.sz = some cs' ∧ t.rv (mem w) cs' x := fun i hil => by
    obtain ⟨cs', h1, h2⟩ := hi i (by omega)
    obtain ⟨x, hx⟩ := hE H enc w _ _ _ h2
    rw [hc] at h1
    exact ⟨x, cs', h1, hx⟩
  obtain ⟨f, hf⟩ := Deep.choose_lt hx
  refine ⟨(List.range len).map f, some a, cap, by simp, by simpa using hl, hm, fun h0 => ?_⟩
  have h0' : 0 < len := by simpa using h0
  obtain ⟨cs0, h1, h2⟩ := hf 0 h0'
  obtain ⟨_, hlen, hat⟩ := World.cells?_some h1
  have hsp : a.spot = none := by
    have := hat 0 hpos
    rw [Nat.zero_mul, Addr.add_zero', Addr.add_zero'] at this
    rw [List.getElem?_eq_getElem (by omega)] at this
    unfold World.cell? at this
    split at this
    · split at this
      · cases this
      · rename_i hns; simpa using hns
    · cases this
  obtain ⟨b, o, sp⟩ := a
  simp only at hsp
  subst hsp
  refine ⟨b, o, rfl, fun k hk => ?_⟩
  have hk' : k < len := by simpa using hk
  obtain ⟨cs', g1, g2⟩ := hf k hk'
  obtain ⟨_, glen, gat⟩ := World.cells?_some g1
  refine ⟨cs', fun j v hv => ?_, by simpa using g2⟩
  have hj : j < cs'.length := (List.getElem?_eq_some_iff.1 hv).1
  have := gat j (by omega)
  rw [Addr.add_lit, Addr.add_lit] at this
  exact this.trans hv
theorem field_read {T : TypeId} {α : Type} {t : Ty α} (hR : Reads P T t) {w : World} {n i : Nat} {cs : List Value} {xs : List (DataW H × List MemPlace)} {f : Field} (o k : Nat) (hF : f.type = T) (ho : f.offset = o) (hk : P.cellsOf T = k)
    (hg : DataW.trod enc P w 0 (fun _ => true) true n f.type ((cs.drop f.offset).take (P.cellsOf f.type)) = xs[i]?) (hi : i < xs.length) : ∃ x, t.rv (mem w) ((cs.drop o).take k) x := by
  subst hF; subst ho; subst hk
  exact hR H enc w n _ xs[i] (hg.trans (List.getElem?_eq_getElem hi))
end
end Go.Proofs.YtbmpoecmjmmngaaGreat
/- The frame of a law's statement: what is common to all laws. -/
namespace Go.Proofs.YtbmpoecmjmmngaaGreat
open Go.ChangeShapes Go.WideShapes Go.ChangeAt Go.RowKit

theorem Tryz.own : ownKnob Tryz.prog.godebug = none := by kernel_rfl
theorem Tryz.laidOut : laidOutB Tryz.prog = true := by kernel_rfl

theorem args_below {H : Type} {enc : TypeId × Value → H} {P : Program} (hl : laidOutB P = true) {W W' : World} (hb : Below W.heap.size W W') : ∀ (ts : List TypeId) (vs : List Value) (ds : List (DataW H)) (ps : List MemPlace),
    (∀ t ∈ ts, P.readableRec t = true ∧ t < P.types.size) → DataW.TrodAll enc P W 0 (fun _ => true) true ts vs ds ps → DataW.TrodAll enc P W' 0 (fun b => decide (b < W.heap.size)) true ts vs ds ps
  | [], [], [], _, _, h => h
  | t :: ts, v :: vs, d :: ds, ps, hr, h => by
    obtain ⟨p, q, h1, h2, rfl⟩ := h
    obtain ⟨r1, r2⟩ := hr t (by simp)
    have lt0 : ∀ x ∈ p, x.block < W.heap.size := by obtain ⟨m, hm⟩ := h1; exact DataW.trod_lt m _ _ _ hm
    exact ⟨p, q, Below.trod hl r1 r2 h1 hb lt0, args_below hl hb ts vs ds q (fun t ht => hr t (by simp [ht])) h2, rfl⟩
  | [], _ :: _, _, _, _, h => h.elim
  | [], [], _ :: _, _, _, h => h.elim
  | _ :: _, [], _, _, _, h => h.elim
  | _ :: _, _ :: _, [], _, _, h => h.elim

theorem law_post {H : Type} {enc : TypeId × Value → H} {P : Program} {f : Func} {s : ChangeSpec} {W W' : World} {args : Array Value} {ds gs : List (DataW H)} {before : List MemPlace} (hl : laidOutB P = true) (hv : s.vars = [])
    (hread : ∀ t ∈ f.params.toList, P.readableRec t = true ∧ t < P.types.size) {T : TypeId} (hres : f.resultTypes = #[T]) (hT : P.underlying T = some .bool)
    (hfr : (s.fn H (ds ++ gs)).results = [.lit (.bool true)]) (hfa : (s.fn H (ds ++ gs)).args = ds) (hfv : (s.fn H (ds ++ gs)).vars = [])
    (hW : DataW.Whole enc P f.params.toList s.vars false W args.toList ds gs before) (hb : Below W.heap.size W W') : s.post enc P f false true false false W args (.bool true) W' := by
  have hW' := hW
  obtain ⟨p, q, hA, hV, rfl, _, _⟩ := hW
  refine ⟨ds, gs, _, [], p, [], hW', ?_, ?_, ?_, hb.frame _, fun h => by cases h⟩
  · rw [hfr, hres]
    exact trodAll_mk1 (shut_bool hT _)
  · rw [hfa]
    exact args_below hl hb _ _ _ _ hread hA
  · rw [hfv, hv]; rfl

/-- A slice among the arguments, as plain data. -/
theorem arg_slice {H : Type} {enc : TypeId × Value → H} {P : Program} {W : World} {T E : TypeId} {v : Value} {d : DataW H} {p : List MemPlace} {α : Type} {t : Ty α} (hR : Reads P T (tSlice t)) (hT : P.underlying T = some (.slice E)) {r : Reach} {base : Nat}
    (hval : Value.okWide P W r base T v) (h : DataW.Trod enc P W 0 (fun _ => true) true T v d p) : ∃ xs, (tSlice t).rv (mem W) [v] xs := by
  obtain ⟨a0, len0, cap0, rfl⟩ := okWide_slice hT hval
  obtain ⟨fuel, hf⟩ := h
  obtain ⟨x, hx⟩ := hR H enc W fuel _ _ hf
  exact ⟨x, by simpa [Value.cells] using hx⟩
theorem arg_int {H : Type} {enc : TypeId × Value → H} {P : Program} {W : World} {T : TypeId} {v : Value} {d : DataW H} {p : List MemPlace} (hT : P.underlying T = some (.int .i64)) {r : Reach} {base : Nat}
    (hval : Value.okWide P W r base T v) (h : DataW.Trod enc P W 0 (fun _ => true) true T v d p) : ∃ n, v = .int .i64 n ∧ inI64 n := by
  obtain ⟨n, rfl, _, _, hw⟩ := open_int hT hval h
  refine ⟨n, rfl, ?_⟩
  have : -9223372036854775808 ≤ n ∧ n ≤ 9223372036854775807 := by simpa [Lit.wf, IntKind.min, IntKind.max, IntKind.signed, IntKind.bits] using hw
  exact this
theorem arg_str {H : Type} {enc : TypeId × Value → H} {P : Program} {W : World} {T : TypeId} {v : Value} {d : DataW H} {p : List MemPlace} (hT : P.underlying T = some .string) {r : Reach} {base : Nat}
    (hval : Value.okWide P W r base T v) (h : DataW.Trod enc P W 0 (fun _ => true) true T v d p) : ∃ s, v = .string s ∧ s.size ≤ maxLen := by
  obtain ⟨s, rfl, _, _, hs⟩ := Go.ChangeMaps.open_string hT hval h
  exact ⟨s, rfl, hs⟩
end Go.Proofs.YtbmpoecmjmmngaaGreat
/- Arguments that are structs or arrays, as plain data; pairs of numbers. -/
namespace Go.Proofs.YtbmpoecmjmmngaaGreat
open Go.ChangeShapes Go.WideShapes Go.ChangeAt Go.RowKit

def tInt2 : Ty (Int × Int) := ⟨2, fun _ cs x => cs = [.int .i64 x.1, .int .i64 x.2] ∧ inI64 x.1 ∧ inI64 x.2, fun _ _ _ h => by rw [h.1]; rfl, fun _ _ _ _ _ h => h⟩
theorem tInt2_flat : tInt2.flat := fun _ _ _ _ h => h
theorem int2_at {m : Mem} {b o : Nat} {x : Int × Int} (h : tInt2.at m b o x) : m b o = some (.int .i64 x.1) ∧ m b (o + 1) = some (.int .i64 x.2) ∧ inI64 x.1 ∧ inI64 x.2 := by
  obtain ⟨cs, h1, rfl, h3, h4⟩ := h
  exact ⟨h1 0 _ rfl, h1 1 _ rfl, h3, h4⟩
theorem reads_int2 {P : Program} {T E : TypeId} (ht : P.underlying T = some (.array 2 E)) (hE : P.underlying E = some (.int .i64)) (hc : P.cellsOf E = 1) (hT : P.cellsOf T = 2) : Reads P T tInt2 := fun H enc w n cs d h => by
  obtain ⟨xs, m, _, _, hl, hx, hg⟩ := DataW.trod_array ht h
  rw [hT] at hl
  rw [hc] at hg
  match cs, hl with
  | [c0, c1], _ =>
    have g0 := hg 0 (by omega)
    have g1 := hg 1 (by omega)
    simp only [Nat.zero_mul, List.drop_zero, List.take_succ_cons, List.take_zero, Nat.one_mul, List.drop_succ_cons] at g0 g1
    obtain ⟨x0, r0, i0⟩ := reads_int hE H enc w m [c0] xs[0] (g0.trans (List.getElem?_eq_getElem (by omega)))
    obtain ⟨x1, r1, i1⟩ := reads_int hE H enc w m [c1] xs[1] (g1.trans (List.getElem?_eq_getElem (by omega)))
    simp only [List.cons.injEq, and_true] at r0 r1
    exact ⟨(x0, x1), by rw [r0, r1], i0, i1⟩
theorem arg_array {H : Type} {enc : TypeId × Value → H} {P : Program} {W : World} {T E : TypeId} {k : Nat} {v : Value} {d : DataW H} {p : List MemPlace} {α : Type} {t : Ty α} (hR : Reads P T t) (hT : P.underlying T = some (.array k E)) {r : Reach} {base : Nat}
    (hval : Value.okWide P W r base T v) (h : DataW.Trod enc P W 0 (fun _ => true) true T v d p) : ∃ x cs, v = .agg cs ∧ t.rv (mem W) cs.toList x := by
  unfold Value.okWide at hval
  rw [hT] at hval
  obtain ⟨cs, rfl, _⟩ := hval
  obtain ⟨fuel, hf⟩ := h
  obtain ⟨x, hx⟩ := hR H enc W fuel _ _ hf
  exact ⟨x, cs, rfl, by simpa [Value.cells] using hx⟩
theorem arg_struct {H : Type} {enc : TypeId × Value → H} {P : Program} {W : World} {T : TypeId} {fs : Array Field} {v : Value} {d : DataW H} {p : List MemPlace} {α : Type} {t : Ty α} (hR : Reads P T t) (hT : P.underlying T = some (.struct fs)) {r : Reach} {base : Nat}
    (hval : Value.okWide P W r base T v) (h : DataW.Trod enc P W 0 (fun _ => true) true T v d p) : ∃ x cs, v = .agg cs ∧ t.rv (mem W) cs.toList x := by
  unfold Value.okWide at hval
  rw [hT] at hval
  obtain ⟨cs, rfl, _⟩ := hval
  obtain ⟨fuel, hf⟩ := h
  obtain ⟨x, hx⟩ := hR H enc W fuel _ _ hf
  exact ⟨x, cs, rfl, by simpa [Value.cells] using hx⟩
end Go.Proofs.YtbmpoecmjmmngaaGreat
/- Append of a whole slice to a row of the call's own, in readings that ask nothing of memory (XApp). -/
namespace Go.Proofs.YtbmpoecmjmmngaaGreat
open Go.RowKit

theorem flatten_split {β : Type} {s : Nat} (hs : 0 < s) : ∀ (css : List (List β)), (∀ c ∈ css, c.length = s) → ∀ (j : Nat) (v : β), css.flatten[j]? = some v → ∃ k, ∃ h : k < css.length, ∃ r, j = k * s + r ∧ css[k][r]? = some v
  | [], _, j, v, h => by simp at h
  | c :: css, hl, j, v, h => by
    have hc : c.length = s := hl c List.mem_cons_self
    rw [List.flatten_cons] at h
    by_cases hj : j < c.length
    · rw [List.getElem?_append_left hj] at h
      exact ⟨0, by simp, j, by omega, by simpa using h⟩
    · rw [List.getElem?_append_right (by omega)] at h
      obtain ⟨k, hk, r, e, hv⟩ := flatten_split hs css (fun x hx => hl x (List.mem_cons_of_mem _ hx)) _ _ h
      exact ⟨k + 1, by simp; omega, r, by rw [Nat.add_mul]; omega, by simpa using hv⟩

theorem flatten_len {β : Type} {s : Nat} : ∀ (css : List (List β)), (∀ c ∈ css, c.length = s) → css.flatten.length = css.length * s
  | [], _ => by simp
  | c :: css, hl => by
    rw [List.flatten_cons, List.length_append, flatten_len css (fun x hx => hl x (List.mem_cons_of_mem _ hx)), hl c List.mem_cons_self, List.length_cons, Nat.add_mul]
    omega

theorem slice_css {α : Type} {t : Ty α} {m : Mem} {b o : Nat} {n cap : Nat} {ys : List α} (h : (tSlice t).rv m [.slice (some ⟨b, o, none⟩) n cap] ys) :
    ∃ css : List (List Value), css.length = ys.length ∧ (∀ c ∈ css, c.length = t.sz) ∧ ∀ k, (h : k < css.length) → (h' : k < ys.length) → At m b (o + k * t.sz) css[k] ∧ t.rv m css[k] ys[k] := by
  have hk : ∀ k : Fin ys.length, ∃ cs, At m b (o + k.val * t.sz) cs ∧ t.rv m cs ys[k.val] := fun k => by
    obtain ⟨b', o', e, hat⟩ := slice_at h k.isLt
    injection e with e
    injection e with e1 e2
    subst e1; subst e2
    exact hat
  refine ⟨List.ofFn (fun k => Classical.choose (hk k)), by simp, fun c hc => ?_, fun k h1 h2 => ?_⟩
  · obtain ⟨k, rfl⟩ := List.mem_ofFn.1 hc
    exact t.len _ _ _ (Classical.choose_spec (hk k)).2
  · simp only [List.getElem_ofFn]
    exact Classical.choose_spec (hk ⟨k, h2⟩)

section
variable {P : Program}
theorem run_append_flat {α : Type} {t : Ty α} (hf : t.flat) (hone : ∀ m cs x, t.rv m cs x → ∀ u ∈ cs, u.oneCell' = true) (w : World) (T ty : TypeId) {e : TypeId} {z : Value} {bytes : Nat} (hT : P.underlying T = some (.slice e))
    (hinf : (P.info? e).map (fun i => (i.zero, i.size, i.bytes)) = some (some z, t.sz, bytes)) (hzs : z.cells.size = t.sz) (hsz : 0 < t.sz) (B : Nat) (v : Value) (xs ys : List α) (hown : Owns t w B e v xs)
    (a : Option Addr) (c : Nat) (hy : (tSlice t).rv (mem w) [.slice a ys.length c] ys) (h63 : xs.length + ys.length ≤ maxLen) (hbytes : (xs.length + ys.length) * bytes ≤ 140737488355328) (hbase : B ≤ w.heap.size) :
    ∃ v' w', (Builtin.append_ #[T, T] ty #[v, .slice a ys.length c]).run P w = .ok v' w' ∧ Owns t w' B e v' (xs ++ ys) ∧ w.grownBy w' v.ownBlock := by
  obtain ⟨i, hi, hz, hsize, hby⟩ := info_parts hinf
  obtain ⟨css, g1, g2, g4, g5⟩ := hown
  by_cases h0 : ys.length = 0
  · obtain rfl := List.length_eq_zero_iff.1 h0
    cases a with
    | none =>
      have hr : (Builtin.append_ #[T, T] ty #[v, .slice none 0 c]).run P w = .ok v w := by
        rcases g2.2 with ⟨rfl, _⟩ | ⟨g, cap, cur, rfl, _, _, hnc, _⟩
        · simp [Builtin.append_, run_underlying hT, sizeOf, typeInfo, hi, Builtin.lenOf, Builtin.firstCells]
        · simp [Builtin.append_, run_underlying hT, sizeOf, typeInfo, hi, Builtin.lenOf, Builtin.firstCells, hnc, storeCells]
      exact ⟨v, w, hr, by rw [List.append_nil]; exact ⟨css, g1, g2, g4, g5⟩, ⟨rfl, rfl, rfl, Nat.le_refl _, fun _ _ _ => rfl⟩⟩
    | some ad =>
      obtain ⟨v', w', hr, h2, h3, _⟩ := run_append_own (P := P) w B T ty e i z t.sz bytes hT hi hz hsize hby hzs hsz v xs.length css.flatten g2 ad 0 c [] (by simp) (fun j u hj => by simp at hj) (fun u hu => by simp at hu) (by simpa using h63) (by simpa using hbytes) hbase
      exact ⟨v', w', hr, ⟨css, by simp [g1], by simpa using h2, g4, fun k h h' => by
        have h'' : k < xs.length := by simpa using h'
        have := hf _ ((mem w').on (fun b => some b ≠ v'.ownBlock)) _ _ (g5 k h h'')
        simpa using this⟩, h3⟩
  · obtain ⟨b, o, rfl, _⟩ := slice_at hy (k := 0) (by omega)
    obtain ⟨dss, d1, d2, d3⟩ := slice_css hy
    have hl : dss.flatten.length = ys.length * t.sz := by rw [flatten_len dss d2, d1]
    obtain ⟨v', w', hr, h2, h3, _⟩ := run_append_own (P := P) w B T ty e i z t.sz bytes hT hi hz hsize hby hzs hsz v xs.length css.flatten g2 ⟨b, o, none⟩ ys.length c dss.flatten hl (fun j u hj => by
        obtain ⟨k, hk, r, rfl, hv⟩ := flatten_split hsz dss d2 j u hj
        have := (d3 k hk (by omega)).1 r u hv
        rw [Addr.add_lit, ← Nat.add_assoc]
        exact this) (fun u hu => by
        obtain ⟨l, hl, hu⟩ := List.mem_flatten.1 hu
        obtain ⟨k, hk, rfl⟩ := List.getElem_of_mem hl
        exact hone _ _ _ (d3 k hk (by omega)).2 u hu) h63 hbytes hbase
    refine ⟨v', w', hr, ⟨css ++ dss, by simp [g1, d1], by simpa using h2, fun cc hc => ?_, fun k h h' => ?_⟩, h3⟩
    · rcases List.mem_append.1 hc with hc | hc
      · exact g4 _ hc
      · exact d2 _ hc
    · by_cases hlt : k < xs.length
      · rw [List.getElem_append_left (by omega), List.getElem_append_left hlt]
        exact hf _ _ _ _ (g5 k (by omega) hlt)
      · rw [List.getElem_append_right (by omega), List.getElem_append_right (by omega)]
        have hk : k - xs.length < ys.length := by simp at h'; omega
        have := (d3 (k - xs.length) (by omega) hk).2
        simp only [g1]
        exact hf _ _ _ _ this

theorem wpList_append_flat {α : Type} {ops : Array Oper} {rest : List Oper} {o : Oper} {a : Act} {Q : Exit → Act → World → Prop} {w : World} (hgd : o.guard = none) (s x : Operand) (T : TypeId)
    (ho : o.op = .call { callee := .builtin .append, args := #[s, x], argTypes := #[T, T] }) {t : Ty α} (hf : t.flat) (hone : ∀ m cs x, t.rv m cs x → ∀ u ∈ cs, u.oneCell' = true) {e : TypeId} {z : Value} {bytes : Nat} (hT : P.underlying T = some (.slice e))
    (hinf : (P.info? e).map (fun i => (i.zero, i.size, i.bytes)) = some (some z, t.sz, bytes)) (hzs : z.cells.size = t.sz) (hsz : 0 < t.sz) (B : Nat) (v : Value) (xs ys : List α) (hs : a.eval s = v) (hown : Owns t w B e v xs)
    (ad : Option Addr) (n c : Nat) (hx : a.eval x = .slice ad n c) (hn : n = ys.length) (hy : (tSlice t).rv (mem w) [.slice ad n c] ys) (h63 : xs.length + ys.length ≤ maxLen) (hbytes : (xs.length + ys.length) * bytes ≤ 140737488355328) (hbase : B ≤ w.heap.size)
    (h : ∀ v' w', Owns t w' B e v' (xs ++ ys) → w.grownBy w' v.ownBlock → wpList P ops Q rest (a.put o.dst v') w') : wpList P ops Q (o :: rest) a w := by
  subst hn
  refine wpList_plain hgd fun K hK => ?_
  obtain ⟨v', w', hr, h2, h3⟩ := run_append_flat (P := P) hf hone w T o.type hT hinf hzs hsz B v xs ys hown ad c hy h63 hbytes hbase
  unfold Oper.wp execOp
  simp only [ho, resolve, invoke, builtin, Sem.run_bind, Sem.run_pure, Result.andThen_ok, List.map_toArray, List.map_cons, List.map_nil, hs, hx, hr]
  exact hK _ _ (h v' w' h2 h3)
end
end Go.Proofs.YtbmpoecmjmmngaaGreat
/- Readings whose deep parts lie in a memory that is known; slices of the call's own at whatever offset, and appends to them. No program in sight. -/
namespace Go.Proofs.YtbmpoecmjmmngaaGreat
open Go.RowKit

def noMem : Mem := fun _ _ => none
def tIn {α : Type} (M : Mem) (t : Ty α) : Ty α := ⟨t.sz, fun _ cs x => t.rv M cs x, fun _ _ _ h => t.len _ _ _ h, fun _ _ _ _ _ h => h⟩
theorem tIn_flat {α : Type} (M : Mem) (t : Ty α) : (tIn M t).flat := fun _ _ _ _ h => h
theorem slice_in {α : Type} {M m : Mem} {t : Ty α} {v : Value} {xs : List α} (h : (tSlice (tIn M t)).rv m [v] xs) (hM : M.le m) : (tSlice t).rv m [v] xs := by
  obtain ⟨a, cap, h1, h2, h3, h4⟩ := h
  refine ⟨a, cap, h1, h2, h3, fun hp => ?_⟩
  obtain ⟨b, o, ha, hat⟩ := h4 hp
  refine ⟨b, o, ha, fun k hk => ?_⟩
  obtain ⟨cs, hc, hr⟩ := hat k hk
  exact ⟨cs, hc, t.mono _ _ _ _ hM hr⟩

/-- A slice whose block is the call's own; it need not begin at the block's first cell. -/
def OwnsO {α : Type} (t : Ty α) (w : World) (e : TypeId) (v : Value) (xs : List α) : Prop :=
  ∃ css : List (List Value), css.length = xs.length ∧ (∀ k, (h : k < css.length) → (h' : k < xs.length) → t.rv noMem css[k] xs[k]) ∧
   ((v = .slice none 0 0 ∧ xs = []) ∨ ∃ g off cap cur, v = .slice (some ⟨g, off, none⟩) xs.length cap ∧ w.heap[g]? = some (.cells cur e (0, 0)) ∧ xs.length ≤ cap ∧ cap ≤ maxLen ∧ off + cap * t.sz ≤ cur.size ∧ (cur.toList.drop off).take (xs.length * t.sz) = css.flatten)

theorem OwnsO.nil {α : Type} (t : Ty α) (w : World) (e : TypeId) : OwnsO t w e (.slice none 0 0) [] := ⟨[], rfl, fun k h => absurd h (by simp), .inl ⟨rfl, rfl⟩⟩
theorem OwnsO.form {α : Type} {t : Ty α} {w : World} {e : TypeId} {v : Value} {xs : List α} (h : OwnsO t w e v xs) : ∃ a cap, v = .slice a xs.length cap ∧ xs.length ≤ cap ∧ cap ≤ maxLen := by
  obtain ⟨css, _, _, h | ⟨g, off, cap, cur, h1, _, h3, h4, _⟩⟩ := h
  · obtain ⟨rfl, rfl⟩ := h; exact ⟨none, 0, rfl, Nat.le_refl _, Nat.zero_le _⟩
  · exact ⟨_, _, h1, h3, h4⟩
theorem OwnsO.keeps {α : Type} {t : Ty α} {w w' : World} {e : TypeId} {v : Value} {xs : List α} (h : OwnsO t w e v xs) (hk : ∀ k, v.ownBlock = some k → w'.heap[k]? = w.heap[k]?) : OwnsO t w' e v xs := by
  obtain ⟨css, g1, g2, h | ⟨g, off, cap, cur, rfl, h2, r⟩⟩ := h
  · exact ⟨css, g1, g2, .inl h⟩
  · exact ⟨css, g1, g2, .inr ⟨g, off, cap, cur, rfl, by rw [hk g rfl]; exact h2, r⟩⟩
theorem OwnsO.lt {α : Type} {t : Ty α} {w : World} {e : TypeId} {v : Value} {xs : List α} (h : OwnsO t w e v xs) : ∀ k, v.ownBlock = some k → k < w.heap.size := by
  obtain ⟨css, g1, g2, h | ⟨g, off, cap, cur, rfl, h2, r⟩⟩ := h
  · obtain ⟨rfl, _⟩ := h; intro k hk; cases hk
  · intro k hk; cases hk; exact (Array.getElem?_eq_some_iff.1 h2).1
theorem OwnsO.cells {α : Type} {t : Ty α} {w : World} {e : TypeId} {v : Value} {xs : List α} (h : OwnsO t w e v xs) : ∀ k, v.ownBlock = some k → ∃ cur, w.heap[k]? = some (.cells cur e (0, 0)) := by
  obtain ⟨css, g1, g2, h | ⟨g, off, cap, cur, rfl, h2, r⟩⟩ := h
  · obtain ⟨rfl, _⟩ := h; intro k hk; cases hk
  · intro k hk; cases hk; exact ⟨cur, h2⟩
theorem OwnsO.re {α : Type} {M M' : Mem} {t : Ty α} {w : World} {e : TypeId} {v : Value} {xs : List α} (h : OwnsO (tIn M t) w e v xs) (hM : M.le M') : OwnsO (tIn M' t) w e v xs := by
  obtain ⟨css, g1, g2, r⟩ := h
  exact ⟨css, g1, fun k h h' => t.mono _ _ _ _ hM (g2 k h h'), r⟩

theorem take_cell {cur : List Value} {off n k s j : Nat} {css : List (List Value)} {v : Value} (h : (cur.drop off).take (n * s) = css.flatten) (hl : css.length = n) (hs : ∀ c ∈ css, c.length = s) (hk : k < css.length) (e : css[k][j]? = some v) : cur[off + (k * s + j)]? = some v := by
  have hf := flatten_get css hs k hk j v e
  rw [← h, List.getElem?_take] at hf
  split at hf
  · rw [List.getElem?_drop] at hf; exact hf
  · cases hf

theorem OwnsO.lens {α : Type} {t : Ty α} {css : List (List Value)} {xs : List α} (h1 : css.length = xs.length) (h2 : ∀ k, (h : k < css.length) → (h' : k < xs.length) → t.rv noMem css[k] xs[k]) : ∀ c ∈ css, c.length = t.sz := fun c hc => by
  obtain ⟨k, hk, rfl⟩ := List.getElem_of_mem hc
  exact t.len _ _ _ (h2 k hk (by omega))

/-- Its elements, as a reading. -/
theorem OwnsO.rv {α : Type} {t : Ty α} (hf : t.flat) {w : World} {e : TypeId} {v : Value} {xs : List α} (h : OwnsO t w e v xs) {S : Nat → Prop} (hS : ∀ k, v.ownBlock = some k → S k) : (tSlice t).rv ((mem w).on S) [v] xs := by
  obtain ⟨css, g1, g2, h | ⟨g, off, cap, cur, rfl, h2, h3, h4, h5, h6⟩⟩ := h
  · obtain ⟨rfl, rfl⟩ := h; exact slice_nil _ _
  · refine ⟨some ⟨g, off, none⟩, cap, rfl, h3, h4, fun _ => ⟨g, off, rfl, fun k hk => ⟨css[k], fun j u hu => ?_, hf _ _ _ _ (g2 k (by omega) hk)⟩⟩⟩
    have hc := take_cell h6 g1 (OwnsO.lens g1 g2) (by omega) hu
    refine Mem.on_some ?_ (hS g rfl)
    rw [mem_cells h2]
    rw [Nat.add_assoc]
    simpa using hc
theorem OwnsO.rv' {α : Type} {t : Ty α} (hf : t.flat) {w : World} {e : TypeId} {v : Value} {xs : List α} (h : OwnsO t w e v xs) : (tSlice t).rv (mem w) [v] xs :=
  (tSlice t).mono _ _ _ _ (Mem.on_le _ (fun _ => True)) (h.rv hf (fun _ _ => trivial))

/-- What stands at an element's place; the block is not frozen. -/
theorem OwnsO.at {α : Type} {t : Ty α} {w : World} {e : TypeId} {v : Value} {xs : List α} (h : OwnsO t w e v xs) {k : Nat} (hk : k < xs.length) :
    ∃ g off cap cs, v = .slice (some ⟨g, off, none⟩) xs.length cap ∧ xs.length ≤ cap ∧ cap ≤ maxLen ∧ t.rv noMem cs xs[k] ∧ At (mem w) g (off + k * t.sz) cs := by
  obtain ⟨css, g1, g2, h | ⟨g, off, cap, cur, rfl, h2, h3, h4, h5, h6⟩⟩ := h
  · obtain ⟨_, rfl⟩ := h; simp at hk
  · refine ⟨g, off, cap, css[k]'(by omega), rfl, h3, h4, g2 k (by omega) hk, fun j u hu => ?_⟩
    have hc := take_cell h6 g1 (OwnsO.lens g1 g2) (by omega) hu
    rw [mem_cells h2, Nat.add_assoc]
    simpa using hc

theorem drop_take_succ {cur : List Value} {off n s : Nat} {c : List Value} {css : List (List Value)} (h : (cur.drop off).take ((n + 1) * s) = (c :: css).flatten) (hc : c.length = s) : (cur.drop (off + s)).take (n * s) = css.flatten := by
  rw [List.flatten_cons] at h
  have e : (cur.drop (off + s)).take (n * s) = ((cur.drop off).take ((n + 1) * s)).drop s := by
    rw [List.drop_take, List.drop_drop, Nat.succ_mul, Nat.add_sub_cancel]
  rw [e, h, ← hc, List.drop_left]

theorem flatten_length {β : Type} {s : Nat} : ∀ (css : List (List β)), (∀ c ∈ css, c.length = s) → css.flatten.length = css.length * s
  | [], _ => by simp
  | c :: css, h => by rw [List.flatten_cons, List.length_append, h c (by simp), flatten_length css (fun c hc => h c (by simp [hc])), List.length_cons, Nat.succ_mul]; omega

/-- The slice without its first element: 'x[1:]'. -/
theorem OwnsO.tail {α : Type} {P : Program} {t : Ty α} {w : World} {e T : TypeId} {v : Value} {x : α} {xs : List α} (h : OwnsO t w e v (x :: xs)) (hT : P.underlying T = some (.slice e)) (hs : (P.info? e).map (·.size) = some t.sz) :
    ∃ v', (∀ w2, (Instr.slice T v (some (.int .i64 1)) none none).run P w2 = .ok v' w2) ∧ OwnsO t w e v' xs ∧ v'.ownBlock = v.ownBlock ∧ ∃ a c, v' = .slice a xs.length c := by
  obtain ⟨css, g1, g2, h | ⟨g, off, cap, cur, rfl, h2, h3, h4, h5, h6⟩⟩ := h
  · obtain ⟨_, h⟩ := h; cases h
  · have hl := OwnsO.lens g1 g2
    cases css with
    | nil => simp at g1
    | cons c css =>
      have hc : c.length = t.sz := hl c (by simp)
      have hcl : css.length = xs.length := by simpa using g1
      simp only [List.length_cons] at h3 h6
      have h7 := drop_take_succ h6 hc
      have he : P.elem T = e := by simp [Program.elem, hT]
      have hsz : ∀ w2, (sizeOf e).run P w2 = .ok t.sz w2 := fun w2 => by
        cases hq : P.info? e with
        | none => simp [hq] at hs
        | some i => simp only [hq, Option.map_some, Option.some.injEq] at hs; simp [sizeOf, typeInfo, hq, hs]
      refine ⟨.slice (some (if cap = 1 then ⟨g, off, none⟩ else ⟨g, off + t.sz, none⟩)) xs.length (cap - 1), fun w2 => ?_, ⟨css, hcl, fun k h h' => by have := g2 (k + 1) (by simp; omega) (by simp; omega); simpa using this, .inr ?_⟩, ?_, _, _, rfl⟩
      · rw [run_slice_l w2 T _ _ cap (by rw [he]; exact hT) .i64 1 (by omega) (by simp; omega)]
        rw [he, hsz]
        simp only [Result.andThen, sliced, List.length_cons]
        by_cases h1 : cap = 1
        · simp [h1]
        · simp [h1, Addr.add]
      · by_cases h1 : cap = 1
        · have h0 : xs = [] := List.eq_nil_of_length_eq_zero (by omega)
          subst h0
          refine ⟨g, off, cap - 1, cur, by simp [h1], h2, by omega, by omega, by rw [h1] at h5 ⊢; omega, ?_⟩
          have : css = [] := List.eq_nil_of_length_eq_zero (by simpa using hcl)
          subst this; simp
        · refine ⟨g, off + t.sz, cap - 1, cur, by simp [h1], h2, by omega, by omega, ?_, h7⟩
          have e2 : cap * t.sz = (cap - 1) * t.sz + t.sz := by rw [← Nat.succ_mul]; congr 1; omega
          omega
      · by_cases h1 : cap = 1 <;> simp [h1, Value.ownBlock]

section
variable {P : Program}
theorem run_append_room_at (w : World) (t tx ty e : TypeId) (i : TypeInfo) (ht : P.underlying t = some (.slice e)) (hi : P.info? e = some i)
    (g off sLen sCap : Nat) (cur : Array Value) (hg : w.heap[g]? = some (.cells cur e (0, 0))) (x : Value) (n : Nat) (news : List Value) (hs : Src P i.size tx x n news w)
    (hroom : sLen + n ≤ sCap) (hfit : off + sLen * i.size + news.length ≤ cur.size) :
    (Builtin.append_ #[t, tx] ty #[.slice (some ⟨g, off, none⟩) sLen sCap, x]).run P w =
      .ok (.slice (some ⟨g, off, none⟩) (sLen + n) sCap) (w.setRow g (cur.toList.take (off + sLen * i.size) ++ news ++ cur.toList.drop (off + sLen * i.size + news.length)).toArray) := by
  have hst := run_storeCells_at P g (off + sLen * i.size) e news 0 cur w hg (by simpa using hfit) hs.one
  simp only [Nat.add_zero] at hst
  rcases hs.kind with ⟨e', hk⟩ | hk <;> simp [Builtin.append_, run_underlying ht, run_underlying hk, sizeOf, typeInfo, hi, hs.len, hroom, hs.cells, Addr.add_lit, hst]

theorem nextcap_fits {need old bytes : Nat} (h : old < need) (hb : need * bytes ≤ 140737488355328) : Builtin.nextslicecap need old * bytes ≤ 281474976710656 := growslice_fits h hb

theorem run_append_new {α : Type} {t : Ty α} (w : World) (T tx ty : TypeId) {e : TypeId} {z : Value} {bytes : Nat} (hT : P.underlying T = some (.slice e))
    (hinf : (P.info? e).map (fun i => (i.zero, i.size, i.bytes)) = some (some z, t.sz, bytes)) (hzs : z.cells.size = t.sz) (a : Option Addr) (cap : Nat) (xs ys : List α) (css : List (List Value))
    (hold : (Builtin.firstCells t.sz xs.length (.slice a xs.length cap)).run P w.drew = .ok css.flatten.toArray w.drew) (hcl : css.length = xs.length) (hcr : ∀ k, (h : k < css.length) → (h' : k < xs.length) → t.rv noMem css[k] xs[k])
    (x : Value) (dss : List (List Value)) (hs : Src P t.sz tx x ys.length dss.flatten w) (hl : dss.length = ys.length) (hr : ∀ k, (h : k < dss.length) → (h' : k < ys.length) → t.rv noMem dss[k] ys[k])
    (hn : cap < xs.length + ys.length) (h63 : xs.length + ys.length ≤ maxLen) (hbytes : (xs.length + ys.length) * bytes ≤ 140737488355328) :
    ∃ v' w', (Builtin.append_ #[T, tx] ty #[.slice a xs.length cap, x]).run P w = .ok v' w' ∧ OwnsO t w' e v' (xs ++ ys) ∧ Below w.heap.size w w' ∧ v'.ownBlock = some w.heap.size := by
  obtain ⟨i, hi, hz, hsize, hby⟩ := info_parts hinf
  have hsmall : xs.length + ys.length ≤ 9223372036854775807 := by simp only [maxLen] at h63; omega
  rw [← hsize] at hs hold
  rw [← hby] at hbytes
  have hrun := run_append_grow_src (P := P) w T tx ty e i z hT hi hz a xs.length cap css.flatten hold x ys.length dss.flatten hs hn (by omega) (growslice_fits hn hbytes)
  refine ⟨_, _, hrun, ⟨css ++ dss, by simp [hcl, hl], fun k h h' => ?_, .inr ⟨w.heap.size, 0, grownCap w (xs.length + ys.length) cap e, _, ?_, heap_alloc_new w.drew _, ?_, grownCap_le_maxLen w _ _ e h63, ?_, ?_⟩⟩, (Below.refl _ _).drew.alloc (Nat.le_refl _) _, rfl⟩
  · by_cases hk : k < css.length
    · rw [List.getElem_append_left hk, List.getElem_append_left (by omega)]
      exact hcr k hk (by omega)
    · have e1 : (css ++ dss)[k] = dss[k - css.length]'(by simp at h; omega) := List.getElem_append_right (by omega)
      have e2 : (xs ++ ys)[k] = ys[k - css.length]'(by simp at h'; omega) := by rw [List.getElem_append_right (by omega)]; congr 1; omega
      rw [e1, e2]
      exact hr _ _ _
  · rw [List.length_append]
  · rw [List.length_append]; exact grownCap_ge w _ _ e
  · have hge := grownCap_ge w (xs.length + ys.length) cap e
    have h1 : css.flatten.length = xs.length * t.sz := by rw [flatten_length css (OwnsO.lens hcl hcr), hcl]
    have h2 : dss.flatten.length = ys.length * t.sz := by rw [flatten_length dss (OwnsO.lens hl hr), hl]
    simp only [Array.size_append, List.size_toArray, size_zeroCells, hzs, List.length_append, h1, h2, ← Nat.add_mul]
    rw [Nat.zero_add]
    exact Nat.le_of_eq (by congr 1; omega)
  · have h1 : css.flatten.length = xs.length * t.sz := by rw [flatten_length css (OwnsO.lens hcl hcr), hcl]
    have h2 : dss.flatten.length = ys.length * t.sz := by rw [flatten_length dss (OwnsO.lens hl hr), hl]
    simp only [Array.toList_append, List.drop_zero, List.length_append, List.flatten_append]
    rw [Nat.add_mul, ← h1, ← h2, ← List.length_append, List.take_left]

/-- Where an append has put its elements: behind the old ones, where there was room, or all into a new block. -/
def AppAt (w w' : World) (v : Value) (n m : Nat) (v' : Value) : Prop :=
  (v'.ownBlock = v.ownBlock ∧ w.grownBy w' v.ownBlock ∧ ∃ a cap, v = .slice a n cap ∧ n + m ≤ cap) ∨ (Below w.heap.size w w' ∧ v'.ownBlock = some w.heap.size)
theorem AppAt.grown {w w' : World} {v v' : Value} {n m : Nat} (h : AppAt w w' v n m v') : w.grownBy w' v.ownBlock := by
  rcases h with ⟨_, h, _⟩ | ⟨hb, _⟩
  · exact h
  · exact ⟨hb.os, hb.tape, hb.output, hb.size, fun k hk _ => hb.block k hk⟩
theorem AppAt.block {w w' : World} {v v' : Value} {n m : Nat} (h : AppAt w w' v n m v') : v'.ownBlock = v.ownBlock ∨ ∀ k, v'.ownBlock = some k → w.heap.size ≤ k := by
  rcases h with ⟨h, _⟩ | ⟨_, h⟩
  · exact .inl h
  · exact .inr fun k hk => by rw [h] at hk; cases hk; exact Nat.le_refl _

/-- APPEND to a slice of the call's own, of any number of elements. -/
theorem run_append_o {α : Type} {t : Ty α} (w : World) (T tx ty : TypeId) {e : TypeId} {z : Value} {bytes : Nat} (hT : P.underlying T = some (.slice e))
    (hinf : (P.info? e).map (fun i => (i.zero, i.size, i.bytes)) = some (some z, t.sz, bytes)) (hzs : z.cells.size = t.sz) (v : Value) (xs ys : List α) (hown : OwnsO t w e v xs)
    (x : Value) (dss : List (List Value)) (hs : Src P t.sz tx x ys.length dss.flatten w) (hl : dss.length = ys.length) (hr : ∀ k, (h : k < dss.length) → (h' : k < ys.length) → t.rv noMem dss[k] ys[k])
    (h63 : xs.length + ys.length ≤ maxLen) (hbytes : (xs.length + ys.length) * bytes ≤ 140737488355328) :
    ∃ v' w', (Builtin.append_ #[T, tx] ty #[v, x]).run P w = .ok v' w' ∧ OwnsO t w' e v' (xs ++ ys) ∧ AppAt w w' v xs.length ys.length v' := by
  have h2 : dss.flatten.length = ys.length * t.sz := by rw [flatten_length dss (OwnsO.lens hl hr), hl]
  obtain ⟨css, g1, g2, h | ⟨g, off, cap, cur, rfl, hg, h3, h4, h5, h6⟩⟩ := hown
  · obtain ⟨rfl, rfl⟩ := h
    by_cases h0 : ys.length = 0
    · have hy : ys = [] := List.eq_nil_of_length_eq_zero h0
      subst hy
      have hd : dss = [] := List.eq_nil_of_length_eq_zero (by simpa using hl)
      subst hd
      obtain ⟨i, hi, hz, hsize, hby⟩ := info_parts hinf
      refine ⟨.slice none 0 0, w, ?_, OwnsO.nil _ _ _, .inl ⟨rfl, ⟨rfl, rfl, rfl, Nat.le_refl _, fun _ _ _ => rfl⟩, _, _, rfl, Nat.le_refl _⟩⟩
      rw [← hsize] at hs
      rcases hs.kind with ⟨e', hk⟩ | hk <;> (have hc := hs.cells; have hle := hs.len; simp only [List.length_nil] at hc hle; simp [Builtin.append_, run_underlying hT, run_underlying hk, sizeOf, typeInfo, hi, hle, hc])
    · obtain ⟨v', w', hrun, ho, hb, hblk⟩ := run_append_new (P := P) w T tx ty hT hinf hzs none 0 [] ys [] (run_firstCells_none w.drew t.sz 0 0 0) rfl (fun k h => absurd h (by simp)) x dss hs hl hr (by simp; omega) h63 hbytes
      exact ⟨v', w', hrun, ho, .inr ⟨hb, hblk⟩⟩
  · by_cases hroom : xs.length + ys.length ≤ cap
    · obtain ⟨i, hi, hz, hsize, hby⟩ := info_parts hinf
      have hfit : off + xs.length * t.sz + dss.flatten.length ≤ cur.size := by
        have := Nat.mul_le_mul_right t.sz hroom
        rw [Nat.add_mul] at this; omega
      rw [← hsize] at hs
      have hrun := run_append_room_at (P := P) w T tx ty e i hT hi g off xs.length cap cur hg x ys.length dss.flatten hs hroom (by rw [hsize]; exact hfit)
      rw [hsize] at hrun
      refine ⟨_, _, hrun, ⟨css ++ dss, by simp [g1, hl], fun k h h' => ?_, .inr ⟨g, off, cap, _, by rw [List.length_append], setRow_heap w g cur _ e _ hg, by rw [List.length_append]; exact hroom, h4, ?_, ?_⟩⟩, .inl ⟨rfl, ⟨rfl, rfl, rfl, by simp [World.setRow], fun k _ hk => setRow_other w g k _ (fun e => hk (by simp [Value.ownBlock, e]))⟩, _, _, rfl, hroom⟩⟩
      · by_cases hk : k < css.length
        · rw [List.getElem_append_left hk, List.getElem_append_left (by omega)]
          exact g2 k hk (by omega)
        · have e1 : (css ++ dss)[k] = dss[k - css.length]'(by simp at h; omega) := List.getElem_append_right (by omega)
          have e2 : (xs ++ ys)[k] = ys[k - css.length]'(by simp at h'; omega) := by rw [List.getElem_append_right (by omega)]; congr 1; omega
          rw [e1, e2]
          exact hr _ _ _
      · simp only [List.size_toArray, List.length_append, List.length_take, List.length_drop, Array.length_toList]
        omega
      · have h1 : css.flatten.length = xs.length * t.sz := by rw [flatten_length css (OwnsO.lens g1 g2), g1]
        simp only [List.length_append, List.flatten_append]
        have e0 : (cur.toList.take (off + xs.length * t.sz)).drop off = css.flatten := by rw [List.drop_take, ← h6]; congr 1; omega
        have el : off ≤ (cur.toList.take (off + xs.length * t.sz)).length := by simp; omega
        rw [List.append_assoc, List.drop_append_of_le_length el, e0, Nat.add_mul, ← h1, ← h2, ← List.append_assoc, ← List.length_append, List.take_left]
    · have hold : (Builtin.firstCells t.sz xs.length (.slice (some ⟨g, off, none⟩) xs.length cap)).run P w.drew = .ok css.flatten.toArray w.drew := by
        refine run_firstCells_some (P := P) w.drew t.sz xs.length ⟨g, off, none⟩ xs.length cap css.flatten (by rw [flatten_length css (OwnsO.lens g1 g2), g1]) (fun j u hj => ?_)
        rw [Addr.add_lit]
        show w.cell? ⟨g, off + j, none⟩ = some u
        rw [cell_of_row w g (off + j) cur e (0, 0) hg]
        rw [← h6, List.getElem?_take] at hj
        split at hj
        · rw [List.getElem?_drop] at hj; simpa using hj
        · cases hj
      obtain ⟨v', w', hrun, ho, hb, hblk⟩ := run_append_new (P := P) w T tx ty hT hinf hzs (some ⟨g, off, none⟩) cap xs ys css hold g1 g2 x dss hs hl hr (by omega) h63 hbytes
      exact ⟨v', w', hrun, ho, .inr ⟨hb, hblk⟩⟩

theorem run_append_o1 {α : Type} {t : Ty α} (w : World) (T ty : TypeId) {e : TypeId} {z : Value} {bytes : Nat} (hT : P.underlying T = some (.slice e))
    (hinf : (P.info? e).map (fun i => (i.zero, i.size, i.bytes)) = some (some z, t.sz, bytes)) (hzs : z.cells.size = t.sz) (v : Value) (xs : List α) (hown : OwnsO t w e v xs)
    (nb c : Nat) (y : α) (cs : List Value) (hat : At (mem w) nb 0 cs) (hrv : t.rv noMem cs y) (h1 : ∀ u ∈ cs, u.oneCell' = true)
    (h63 : xs.length + 1 ≤ maxLen) (hbytes : (xs.length + 1) * bytes ≤ 140737488355328) :
    ∃ v' w', (Builtin.append_ #[T, T] ty #[v, .slice (some ⟨nb, 0, none⟩) 1 c]).run P w = .ok v' w' ∧ OwnsO t w' e v' (xs ++ [y]) ∧ AppAt w w' v xs.length 1 v' := by
  have hl := t.len _ _ _ hrv
  refine run_append_o (P := P) w T T ty hT hinf hzs v xs [y] hown _ [cs] (Src.ofSlice w hT ⟨nb, 0, none⟩ 1 c _ (by simp [hl]) (fun j u hj => ?_) (by simpa using h1)) rfl (fun k h h' => ?_) h63 hbytes
  · rw [Addr.add_lit]
    exact hat j u (by simpa using hj)
  · have : k = 0 := by simp at h; omega
    subst this; exact hrv

/-- APPEND OF ONE ELEMENT. -/
theorem wpList_append_o1 {α : Type} {ops : Array Oper} {rest : List Oper} {o : Oper} {a : Act} {Q : Exit → Act → World → Prop} {w : World} (hgd : o.guard = none) (s x : Operand) (T : TypeId)
    (ho : o.op = .call { callee := .builtin .append, args := #[s, x], argTypes := #[T, T] }) (t : Ty α) {e : TypeId} {z : Value} {bytes : Nat} (hT : P.underlying T = some (.slice e))
    (hinf : (P.info? e).map (fun i => (i.zero, i.size, i.bytes)) = some (some z, t.sz, bytes)) (hzs : z.cells.size = t.sz) (v : Value) (xs : List α) (hs : a.eval s = v) (hown : OwnsO t w e v xs)
    (nb c : Nat) (y : α) (hx : a.eval x = .slice (some ⟨nb, 0, none⟩) 1 c) (cs : List Value) (hat : At (mem w) nb 0 cs) (hrv : t.rv noMem cs y) (h1 : ∀ u ∈ cs, u.oneCell' = true)
    (h63 : xs.length + 1 ≤ maxLen) (hbytes : (xs.length + 1) * bytes ≤ 140737488355328)
    (h : ∀ v' w', OwnsO t w' e v' (xs ++ [y]) → AppAt w w' v xs.length 1 v' → wpList P ops Q rest (a.put o.dst v') w') : wpList P ops Q (o :: rest) a w := by
  refine wpList_plain hgd fun K hK => ?_
  obtain ⟨v', w', hr, h2, h3⟩ := run_append_o1 (P := P) w T o.type hT hinf hzs v xs hown nb c y cs hat hrv h1 h63 hbytes
  unfold Oper.wp execOp
  simp only [ho, resolve, invoke, builtin, Sem.run_bind, Sem.run_pure, Result.andThen_ok, List.map_toArray, List.map_cons, List.map_nil, hs, hx, hr]
  exact hK _ _ (h v' w' h2 h3)
/-- The same as one step of a region that draws its order. -/
theorem step_append_o1 {α : Type} {ops : Array Oper} {o : Oper} {a : Act} {w : World} {K : Act → World → Prop} {Q : Exit → Act → World → Prop} {E : Prop} (hgd : o.guard = none) (s x : Operand) (T : TypeId)
    (ho : o.op = .call { callee := .builtin .append, args := #[s, x], argTypes := #[T, T] }) (t : Ty α) {e : TypeId} {z : Value} {bytes : Nat} (hT : P.underlying T = some (.slice e))
    (hinf : (P.info? e).map (fun i => (i.zero, i.size, i.bytes)) = some (some z, t.sz, bytes)) (hzs : z.cells.size = t.sz) (v : Value) (xs : List α) (hs : a.eval s = v) (hown : OwnsO t w e v xs)
    (nb c : Nat) (y : α) (hx : a.eval x = .slice (some ⟨nb, 0, none⟩) 1 c) (cs : List Value) (hat : At (mem w) nb 0 cs) (hrv : t.rv noMem cs y) (h1 : ∀ u ∈ cs, u.oneCell' = true)
    (h63 : xs.length + 1 ≤ maxLen) (hbytes : (xs.length + 1) * bytes ≤ 140737488355328)
    (h : ∀ v' w', OwnsO t w' e v' (xs ++ [y]) → AppAt w w' v xs.length 1 v' → K (a.put o.dst v') w') :
    if Region.wanted o (yielded ops a.tmps) = true then Oper.wp P o a w K Q else E := by
  have hw : Region.wanted o (yielded ops a.tmps) = true := by simp [Region.wanted, hgd]
  rw [if_pos hw]
  obtain ⟨v', w', hr, h2, h3⟩ := run_append_o1 (P := P) w T o.type hT hinf hzs v xs hown nb c y cs hat hrv h1 h63 hbytes
  unfold Oper.wp execOp
  simp only [ho, resolve, invoke, builtin, Sem.run_bind, Sem.run_pure, Result.andThen_ok, List.map_toArray, List.map_cons, List.map_nil, hs, hx, hr]
  exact h v' w' h2 h3
end
end Go.Proofs.YtbmpoecmjmmngaaGreat
/- Orders: comparison functions, bytes: plain (XOrd's first part). -/
namespace Go.Proofs.YtbmpoecmjmmngaaGreat

def bl (s : ByteArray) : List UInt8 := s.data.toList
theorem bl_inj {s t : ByteArray} (h : bl s = bl t) : s = t := by
  cases s; cases t; simpa [bl] using h

structure Good {α : Type} (c : α → α → Int) : Prop where
  refl : ∀ a, c a a = 0
  anti : ∀ a b, c b a = - c a b
  range : ∀ a b, c a b = -1 ∨ c a b = 0 ∨ c a b = 1
  trans : ∀ a b d, c a b ≤ 0 → c b d ≤ 0 → c a d ≤ 0 ∧ (c a d = 0 → c a b = 0 ∧ c b d = 0)

def cmpInt (a b : Int) : Int := if a < b then -1 else if b < a then 1 else 0
theorem cmpInt_good : Good cmpInt := by
  refine ⟨fun a => ?_, fun a b => ?_, fun a b => ?_, fun a b d => ?_⟩ <;> unfold cmpInt
  · simp
  · repeat' split
    all_goals omega
  · repeat' split
    all_goals omega
  · repeat' split
    all_goals omega
theorem Good.pull {α β : Type} {c : β → β → Int} (h : Good c) (f : α → β) : Good (fun a b => c (f a) (f b)) :=
  ⟨fun a => h.refl _, fun a b => h.anti _ _, fun a b => h.range _ _, fun a b d => h.trans _ _ _⟩
def lex {α : Type} (c1 c2 : α → α → Int) (a b : α) : Int := if c1 a b ≠ 0 then c1 a b else c2 a b
theorem lex_good {α : Type} {c1 c2 : α → α → Int} (h1 : Good c1) (h2 : Good c2) : Good (lex c1 c2) := by
  refine ⟨fun a => ?_, fun a b => ?_, fun a b => ?_, fun a b d => ?_⟩ <;> unfold lex
  · rw [h1.refl, h2.refl]; simp
  · have e1 := h1.anti a b
    have e2 := h2.anti a b
    repeat' split
    all_goals omega
  · have e1 := h1.range a b
    have e2 := h2.range a b
    split
    all_goals omega
  · have r1 := h1.range a b
    have r2 := h1.range b d
    have r3 := h1.range a d
    have t1 := h1.trans a b d
    have t2 := h2.trans a b d
    by_cases hx : c1 a b ≤ 0
    · by_cases hy : c1 b d ≤ 0
      · have t1 := t1 hx hy
        by_cases hx2 : c2 a b ≤ 0
        · by_cases hy2 : c2 b d ≤ 0
          · have t2 := t2 hx2 hy2
            repeat' split
            all_goals omega
          · repeat' split
            all_goals omega
        · repeat' split
          all_goals omega
      · repeat' split
        all_goals omega
    · repeat' split
      all_goals omega
def lexList {α : Type} (c : α → α → Int) : List α → List α → Int
  | [], [] => 0
  | [], _ :: _ => -1
  | _ :: _, [] => 1
  | a :: l, b :: m => if c a b ≠ 0 then c a b else lexList c l m
theorem lexList_good {α : Type} {c : α → α → Int} (h : Good c) : Good (lexList c) := by
  have hrefl : ∀ a, lexList c a a = 0 := fun a => by
    induction a with
    | nil => rfl
    | cons x l ih => simp [lexList, h.refl, ih]
  have hanti : ∀ a b, lexList c b a = - lexList c a b := fun a => by
    induction a with
    | nil => intro b; cases b <;> rfl
    | cons x l ih =>
      intro b
      cases b with
      | nil => rfl
      | cons y m =>
        have e1 := h.anti x y
        have e2 := ih m
        simp only [lexList]
        repeat' split
        all_goals omega
  have hrange : ∀ a b, lexList c a b = -1 ∨ lexList c a b = 0 ∨ lexList c a b = 1 := fun a => by
    induction a with
    | nil => intro b; cases b <;> simp [lexList]
    | cons x l ih =>
      intro b
      cases b with
      | nil => simp [lexList]
      | cons y m =>
        have e1 := h.range x y
        have e2 := ih m
        simp only [lexList]
        split
        all_goals omega
  refine ⟨hrefl, hanti, hrange, fun a => ?_⟩
  induction a with
  | nil =>
    intro b d
    cases b <;> cases d <;> simp [lexList]
  | cons x l ih =>
    intro b d
    cases b with
    | nil => simp [lexList]
    | cons y m =>
      cases d with
      | nil =>
        intro h1 h2
        simp [lexList] at h2
      | cons z n =>
        have r1 := h.range x y
        have r2 := h.range y z
        have r3 := h.range x z
        have t1 := h.trans x y z
        have t2 := ih m n
        simp only [lexList]
        by_cases hx : c x y ≤ 0
        · by_cases hy : c y z ≤ 0
          · have t1 := t1 hx hy
            by_cases hx2 : lexList c l m ≤ 0
            · by_cases hy2 : lexList c m n ≤ 0
              · have t2 := t2 hx2 hy2
                repeat' split
                all_goals omega
              · repeat' split
                all_goals omega
            · repeat' split
              all_goals omega
          · repeat' split
            all_goals omega
        · repeat' split
          all_goals omega

def cmpBytes : List UInt8 → List UInt8 → Int := lexList (fun a b => cmpInt a.toNat b.toNat)
theorem cmpBytes_good : Good cmpBytes := lexList_good (cmpInt_good.pull (fun a : UInt8 => (a.toNat : Int)))
theorem bytesLess_cmp : ∀ a b : List UInt8, Op.bytesLess a b = decide (cmpBytes a b < 0)
  | [], [] => rfl
  | [], _ :: _ => rfl
  | _ :: _, [] => rfl
  | a :: x, b :: y => by
    have ih := bytesLess_cmp x y
    have e : (a < b) = (a.toNat < b.toNat) := rfl
    simp only [Op.bytesLess, ih, cmpBytes, lexList, cmpInt]
    by_cases h1 : a.toNat < b.toNat
    · have h1' : a < b := h1
      simp [h1, h1']
    · have h1' : ¬ a < b := h1
      by_cases h2 : b.toNat < a.toNat
      · have h3 : (a == b) = false := by
          rw [beq_eq_false_iff_ne]; rintro rfl; omega
        simp [h3, h1', h1, h2]
      · obtain rfl : a = b := UInt8.toNat_inj.1 (by omega)
        simp [cmpBytes]
theorem bytesEq_cmp (a b : List UInt8) : (a == b) = decide (cmpBytes a b = 0) := by
  induction a generalizing b with
  | nil => cases b <;> rfl
  | cons x l ih =>
    cases b with
    | nil => rfl
    | cons y m =>
      rw [List.cons_beq_cons, ih m]
      simp only [cmpBytes, lexList, cmpInt]
      by_cases h : x = y
      · subst h; simp
      · have h3 : (x == y) = false := by rw [beq_eq_false_iff_ne]; exact h
        have h4 : ¬ x.toNat = y.toNat := fun e => h (UInt8.toNat_inj.1 e)
        rw [h3]
        simp
        repeat' split
        all_goals first | omega | simp
theorem bytesGtr_cmp (a b : List UInt8) : (!(Op.bytesLess a b || a == b)) = decide (0 < cmpBytes a b) := by
  rw [bytesLess_cmp, bytesEq_cmp]
  by_cases h : 0 < cmpBytes a b
  · have h1 : ¬ cmpBytes a b < 0 := by omega
    have h2 : ¬ cmpBytes a b = 0 := by omega
    simp [h, h1, h2]
  · by_cases h1 : cmpBytes a b < 0
    · simp [h, h1]
    · have h2 : cmpBytes a b = 0 := by omega
      simp [h2]

theorem cmpBytes_eq {a b : List UInt8} (h : cmpBytes a b = 0) : a = b := by
  have := bytesEq_cmp a b
  rw [h] at this
  simpa using this
end Go.Proofs.YtbmpoecmjmmngaaGreat
/- Places of entries within a group: their order: plain. -/
namespace Go.Proofs.YtbmpoecmjmmngaaGreat

/-- Where an entry stands within a group: name, key. -/
abbrev Spot := ByteArray × ByteArray
def spotC : Spot → Spot → Int := lex (fun a b => cmpBytes a.1.toList b.1.toList) (fun a b => cmpBytes a.2.toList b.2.toList)
theorem spotC_good : Good spotC := lex_good (cmpBytes_good.pull (fun a : Spot => a.1.toList)) (cmpBytes_good.pull (fun a : Spot => a.2.toList))
theorem spotC_eq {a b : Spot} (h : spotC a b = 0) : a = b := by
  have h1 : cmpBytes a.1.toList b.1.toList = 0 := by
    unfold spotC lex at h
    split at h
    · omega
    · next h1 => exact Classical.not_not.1 h1
  have h2 : cmpBytes a.2.toList b.2.toList = 0 := by
    unfold spotC lex at h
    rw [if_neg (by simpa using h1)] at h
    exact h
  have e1 := cmpBytes_eq h1
  have e2 := cmpBytes_eq h2
  rw [Lib.toList_data, Lib.toList_data] at e1 e2
  exact Prod.ext (bl_inj e1) (bl_inj e2)
/-- The keys of a map, ascending. -/
structure Keysof {α : Type} (f : Spot → Option α) (ss : List Spot) : Prop where
  up : ss.Pairwise (fun a b => spotC a b < 0)
  mem : ∀ k, k ∈ ss ↔ (f k).isSome = true
theorem sorted_unique {α : Type} {c : α → α → Int} (g : Good c) : ∀ {l m : List α}, l.Pairwise (fun a b => c a b < 0) → m.Pairwise (fun a b => c a b < 0) → (∀ x, x ∈ l ↔ x ∈ m) → l = m
  | [], [], _, _, _ => rfl
  | [], y :: m, _, _, h => absurd ((h y).2 List.mem_cons_self) (by simp)
  | x :: l, [], _, _, h => absurd ((h x).1 List.mem_cons_self) (by simp)
  | x :: l, y :: m, hl, hm, h => by
    rw [List.pairwise_cons] at hl hm
    have hxy : x = y := by
      rcases List.mem_cons.1 ((h x).1 List.mem_cons_self) with e | e
      · exact e
      rcases List.mem_cons.1 ((h y).2 List.mem_cons_self) with e' | e'
      · exact e'.symm
      · have h1 := hm.1 x e
        have h2 := hl.1 y e'
        have := g.anti x y
        omega
    subst hxy
    have hnx : ∀ {k : List α}, (∀ a ∈ k, c x a < 0) → x ∉ k := fun hk hx => by have := hk x hx; have := g.refl x; omega
    rw [sorted_unique g hl.2 hm.2 (fun z => ?_)]
    constructor
    · intro hz
      rcases List.mem_cons.1 ((h z).1 (List.mem_cons_of_mem _ hz)) with e | e
      · subst e; exact absurd hz (hnx hl.1)
      · exact e
    · intro hz
      rcases List.mem_cons.1 ((h z).2 (List.mem_cons_of_mem _ hz)) with e | e
      · subst e; exact absurd hz (hnx hm.1)
      · exact e
theorem Keysof.unique {α : Type} {f : Spot → Option α} {ss tt : List Spot} (h : Keysof f ss) (h' : Keysof f tt) : ss = tt :=
  sorted_unique spotC_good h.up h'.up (fun k => (h.mem k).trans (h'.mem k).symm)
theorem Good.lt_trans {α : Type} {c : α → α → Int} (g : Good c) {a b d : α} (h1 : c a b < 0) (h2 : c b d < 0) : c a d < 0 := by
  have := g.trans a b d (by omega) (by omega)
  by_cases h : c a d = 0
  · have := this.2 h; omega
  · omega
end Go.Proofs.YtbmpoecmjmmngaaGreat
/- Maps of the call's own, told by what stands at each key, for elements of any kind. No program in sight. -/
namespace Go.Proofs.YtbmpoecmjmmngaaGreat
open Go.RowKit Go.Maps

def rawE : Value → Option (DataW Value × List MemPlace) := fun v => some (.held v, [])
/-- How one value (an element of a map) reads. -/
structure VR (α : Type) where
  rel : Mem → Value → α → Prop
  mono : ∀ m m' v x, m.le m' → rel m v x → rel m' v x
def vBool : VR Bool := ⟨fun _ v x => v = .bool x, fun _ _ _ _ _ h => h⟩
def vInt : VR Int := ⟨fun _ v x => v = .int .i64 x ∧ inI64 x, fun _ _ _ _ _ h => h⟩
def Ty.one {α : Type} (t : Ty α) : VR α := ⟨fun m v x => t.rv m [v] x, fun _ _ _ _ h k => t.mono _ _ _ _ h k⟩

section
variable {κ α : Type} {P : Program} {k : TypeId} {lk : κ → Lit} {vr : VR α}
/-- What the entries are, key by key. -/
def MapSays (lk : κ → Lit) (vr : VR α) (m : Mem) (D : DataW Value) (f : κ → Option α) : Prop :=
  (∀ x, f x = none → Maps.has D (lk x) = false) ∧ (∀ x a, f x = some a → Maps.has D (lk x) = true ∧ ∃ v, (∀ z, D.atKey (lk x) z = .held v) ∧ vr.rel m v a) ∧ (∀ l, Maps.has D l = true → ∃ x, l = lk x)
theorem MapSays.mono {m m' : Mem} {D : DataW Value} {f : κ → Option α} (h : MapSays lk vr m D f) (hm : m.le m') : MapSays lk vr m' D f :=
  ⟨h.1, fun x a e => let ⟨g, v, g1, g2⟩ := h.2.1 x a e; ⟨g, v, g1, vr.mono _ _ _ _ hm g2⟩, h.2.2⟩
def MapOf (P : Program) (k : TypeId) (lk : κ → Lit) (vr : VR α) (w : World) (b n : Nat) (f : κ → Option α) : Prop :=
  ∃ D, w.ownsMap P k rawE b n D ∧ MapSays lk vr (mem w) D f

theorem mapBlock_mem {w : World} {b n : Nat} {D : DataW Value} (h : w.ownsMap P k rawE b n D) (o : Nat) : mem w b o = none := by
  obtain ⟨es, clock, hb, _⟩ := h
  simp [mem, World.cell?, hb]
theorem grown_mem {w w' : World} {b n : Nat} {D : DataW Value} (h : w.ownsMap P k rawE b n D) (hg : w.grownBy w' (some b)) : (mem w).le (mem w') := fun i o v e => by
  by_cases hi : i = b
  · subst hi; rw [mapBlock_mem h] at e; cases e
  · exact (mem_of_block (hg.block i (mem_lt e) (fun e => hi (by injection e))) o).trans e

theorem MapOf.made (w : World) : MapOf P k lk vr (w.alloc (.map #[] 0)) w.heap.size 0 (fun _ => (none : Option α)) :=
  ⟨.map [], World.ownsMap_made w P k rawE, fun _ _ => rfl, fun _ _ h => (by cases h), fun l h => (by simp [Maps.has] at h)⟩
theorem MapOf.lt {w : World} {b n : Nat} {f : κ → Option α} (h : MapOf P k lk vr w b n f) : b < w.heap.size := let ⟨_, h, _⟩ := h; h.lt
theorem MapOf.keeps {w w' : World} {b n : Nat} {f : κ → Option α} (h : MapOf P k lk vr w b n f) {F : Nat → Prop} (hk : Keeps F w w') (hF : ¬ F b) (hm : (mem w).le (mem w')) : MapOf P k lk vr w' b n f := by
  obtain ⟨D, ⟨es, clock, hb, r⟩, g⟩ := h
  exact ⟨D, ⟨es, clock, by rw [hk.block b (Array.getElem?_eq_some_iff.1 hb).1 hF]; exact hb, r⟩, g.mono hm⟩
theorem MapOf.below {w w' : World} {b n : Nat} {f : κ → Option α} (h : MapOf P k lk vr w b n f) (hb : Below w.heap.size w w') : MapOf P k lk vr w' b n f :=
  h.keeps (below_keeps hb) (by have := h.lt; omega) (below_mem hb)
theorem MapOf.mono {w : World} {b n n' : Nat} {f : κ → Option α} (h : MapOf P k lk vr w b n f) (hn : n ≤ n') : MapOf P k lk vr w b n' f :=
  let ⟨D, h1, h2⟩ := h; ⟨D, h1.mono hn, h2⟩
theorem MapOf.alloc {w : World} {b n : Nat} {f : κ → Option α} (h : MapOf P k lk vr w b n f) (o : Obj) : MapOf P k lk vr (w.alloc o) b n f :=
  h.below ((Below.refl _ _).alloc (Nat.le_refl _) o)
theorem MapOf.drew {w : World} {b n : Nat} {f : κ → Option α} (h : MapOf P k lk vr w b n f) : MapOf P k lk vr w.drew b n f :=
  h.below (Below.refl _ _).drew

open Classical in
noncomputable def putAt (f : κ → Option α) (x : κ) (a : α) : κ → Option α := fun y => if y = x then some a else f y
theorem putAt_same (f : κ → Option α) (x : κ) (a : α) : putAt f x a x = some a := by simp [putAt]
theorem putAt_other (f : κ → Option α) {x y : κ} (a : α) (h : y ≠ x) : putAt f x a y = f y := by simp [putAt, h]

theorem MapSays.put1 {m m' : Mem} {D : DataW Value} {f : κ → Option α} (h : MapSays lk vr m D f) (hm : m.le m') (hD : IsMap D) {x : κ} {a : α} {v : Value} (hinj : ∀ y, lk y = lk x → y = x) (hk : WideAt.IsKeyLit (lk x)) (hv : vr.rel m' v a) :
    MapSays lk vr m' (D.put (lk x) (.held v)) (putAt f x a) := by
  refine ⟨fun y hy => ?_, fun y c hy => ?_, fun l hl => ?_⟩
  · by_cases e : y = x
    · subst e; rw [putAt_same] at hy; cases hy
    · rw [putAt_other _ _ e] at hy
      rw [has_put_other (fun e' => e (hinj _ e'))]
      exact h.1 y hy
  · by_cases e : y = x
    · subst e
      rw [putAt_same] at hy
      cases hy
      exact ⟨has_put_same hD hk _, v, fun z => atKey_put_same hD hk _ z, hv⟩
    · rw [putAt_other _ _ e] at hy
      obtain ⟨g, u, g1, g2⟩ := h.2.1 y c hy
      have hne : lk y ≠ lk x := fun e' => e (hinj _ e')
      exact ⟨by rw [has_put_other hne]; exact g, u, fun z => by rw [atKey_put_other hne]; exact g1 z, vr.mono _ _ _ _ hm g2⟩
  · by_cases e : l = lk x
    · exact ⟨x, e⟩
    · rw [has_put_other e] at hl
      exact h.2.2 l hl
theorem MapSays.put {m m' : Mem} {D : DataW Value} {f : κ → Option α} (h : MapSays lk vr m D f) (hm : m.le m') (hD : IsMap D) {x : κ} {a : α} {v : Value} (hinj : ∀ x y, lk x = lk y → x = y) (hk : WideAt.IsKeyLit (lk x)) (hv : vr.rel m' v a) :
    MapSays lk vr m' (D.put (lk x) (.held v)) (putAt f x a) := h.put1 hm hD (fun _ e => hinj _ _ e) hk hv
end

/-- An operation that is carried out (unguarded, or its guard says yes). -/
theorem wpList_want {P : Program} {ops : Array Oper} {rest : List Oper} {o : Oper} {a : Act} {Q : Exit → Act → World → Prop} {w : World} (hw : Region.wanted o (yielded ops a.tmps) = true)
    (h : ∀ K : Act → World → Prop, (∀ a w, wpList P ops Q rest a w → K a w) → o.wp P a w K Q) : wpList P ops Q (o :: rest) a w :=
  wpList_step fun K hK => by rw [if_pos hw]; exact h K hK

section
variable {κ α : Type} {P : Program} {lk : κ → Lit} {vr : VR α} (w : World) {ops : Array Oper} {rest : List Oper} {o : Oper} {a : Act} {Q : Exit → Act → World → Prop}

/-- 'm[k]'. -/
theorem wpList_lookup_map (hg : Region.wanted o (yielded ops a.tmps) = true) (m x : Operand) (t : TypeId) (hop : o.op = Op.lookup t m x false)
    (k e : TypeId) (K : Keyed P k) (ht : P.underlying t = some (.map k e)) {z : Value} (hz : (zeroValue e).run P w = .ok z w) (b n : Nat) (f : κ → Option α)
    (hm : a.eval m = .map (some b)) (hown : MapOf P k lk vr w b n f) (key : Value) (y : κ) (hx : a.eval x = key) (hkey : keyOf P k key = some (lk y))
    (hK : ∀ v, (f y = none → v = z) → (∀ c, f y = some c → vr.rel (mem w) v c) → wpList P ops Q rest (a.put o.dst v) w) :
    wpList P ops Q (o :: rest) a w := by
  refine wpList_want hg fun K' hK' => ?_
  obtain ⟨D, hown, h1, h2, _⟩ := hown
  obtain ⟨v, ps, hrun, hv⟩ := hown.lookup K ht hz (zd := .held z) (zp := []) rfl hkey
  unfold Oper.wp
  simp [execOp, hop, hm, hx, hrun, Result.andThen]
  simp only [rawE, Option.some.injEq, Prod.mk.injEq] at hv
  refine hK' _ _ (hK v (fun e => ?_) (fun c e => ?_))
  · have := hv.1
    rw [atKey_of_not_has (h1 y e)] at this
    injection this
  · obtain ⟨_, u, g1, g2⟩ := h2 y c e
    have := hv.1
    rw [g1] at this
    injection this with this
    rw [this]; exact g2

theorem wpList_lookup_bool (hg : Region.wanted o (yielded ops a.tmps) = true) (m x : Operand) (t : TypeId) (hop : o.op = Op.lookup t m x false)
    (k e : TypeId) (K : Keyed P k) (ht : P.underlying t = some (.map k e)) (hz : (zeroValue e).run P w = .ok (.bool false) w) (b n : Nat) (f : κ → Option Bool)
    (hm : a.eval m = .map (some b)) (hown : MapOf P k lk vBool w b n f) (key : Value) (y : κ) (hx : a.eval x = key) (hkey : keyOf P k key = some (lk y)) (q : Bool) (hq : (f y).getD false = q)
    (hK : wpList P ops Q rest (a.put o.dst (.bool q)) w) :
    wpList P ops Q (o :: rest) a w := by
  subst hq
  exact wpList_lookup_map w hg m x t hop k e K ht hz b n f hm hown key y hx hkey (fun v g1 g2 => by
    cases hf : f y with
    | none => rw [g1 hf]; rw [hf] at hK; exact hK
    | some c => rw [show v = .bool c from g2 c hf]; rw [hf] at hK; exact hK)
theorem wpList_lookup_int (hg : Region.wanted o (yielded ops a.tmps) = true) (m x : Operand) (t : TypeId) (hop : o.op = Op.lookup t m x false)
    (k e : TypeId) (K : Keyed P k) (ht : P.underlying t = some (.map k e)) (hz : (zeroValue e).run P w = .ok (.int .i64 0) w) (b n : Nat) (f : κ → Option Int)
    (hm : a.eval m = .map (some b)) (hown : MapOf P k lk vInt w b n f) (key : Value) (y : κ) (hx : a.eval x = key) (hkey : keyOf P k key = some (lk y))
    (hK : wpList P ops Q rest (a.put o.dst (.int .i64 ((f y).getD 0))) w) :
    wpList P ops Q (o :: rest) a w :=
  wpList_lookup_map w hg m x t hop k e K ht hz b n f hm hown key y hx hkey (fun v g1 g2 => by
    cases hf : f y with
    | none => rw [g1 hf]; rw [hf] at hK; exact hK
    | some c => rw [(g2 c hf).1]; rw [hf] at hK; exact hK)

/-- 'v, ok := m[k]'. -/
theorem wpList_lookup_ok (hg : Region.wanted o (yielded ops a.tmps) = true) (m x : Operand) (t : TypeId) (hop : o.op = Op.lookup t m x true)
    (k e : TypeId) (K : Keyed P k) (ht : P.underlying t = some (.map k e)) {z : Value} (hz : (zeroValue e).run P w = .ok z w) (b n : Nat) (f : κ → Option α)
    (hm : a.eval m = .map (some b)) (hown : MapOf P k lk vr w b n f) (key : Value) (y : κ) (hx : a.eval x = key) (hkey : keyOf P k key = some (lk y))
    (hK : ∀ v, (f y = none → v = z) → (∀ c, f y = some c → vr.rel (mem w) v c) → wpList P ops Q rest (a.put o.dst (.tuple #[v, .bool (f y).isSome])) w) :
    wpList P ops Q (o :: rest) a w := by
  refine wpList_want hg fun K' hK' => ?_
  obtain ⟨D, hown, h1, h2, _⟩ := hown
  obtain ⟨v, ps, hrun, hv⟩ := hown.look_ok K ht hz (zd := .held z) (zp := []) rfl hkey
  have hs : Maps.has D (lk y) = (f y).isSome := by
    cases hf : f y with
    | none => exact h1 y hf
    | some c => exact (h2 y c hf).1
  rw [hs] at hrun
  unfold Oper.wp
  simp [execOp, hop, hm, hx, hrun, Result.andThen]
  simp only [rawE, Option.some.injEq, Prod.mk.injEq] at hv
  refine hK' _ _ (hK v (fun e => ?_) (fun c e => ?_))
  · have := hv.1
    rw [atKey_of_not_has (h1 y e)] at this
    injection this
  · obtain ⟨_, u, g1, g2⟩ := h2 y c e
    have := hv.1
    rw [g1] at this
    injection this with this
    rw [this]; exact g2

/-- 'm[k] = v'. -/
theorem wpList_update_map (hg : Region.wanted o (yielded ops a.tmps) = true) (m x v : Operand) (t : TypeId) (hop : o.op = Op.mapUpdate t m x v)
    (k e : TypeId) (K : Keyed P k) (ht : P.underlying t = some (.map k e)) (b n : Nat) (f : κ → Option α) (hinj : ∀ x y, lk x = lk y → x = y)
    (hm : a.eval m = .map (some b)) (hown : MapOf P k lk vr w b n f) (hn : n < maxLen) (key val : Value) (y : κ) (c : α) (hx : a.eval x = key) (hv : a.eval v = val) (hkey : keyOf P k key = some (lk y))
    (hval : vr.rel (mem w) val c)
    (hK : ∀ w', MapOf P k lk vr w' b (n + 1) (putAt f y c) → w.grownBy w' (some b) → (mem w).le (mem w') → wpList P ops Q rest (a.put o.dst undef) w') :
    wpList P ops Q (o :: rest) a w := by
  obtain ⟨D, hown, hs⟩ := hown
  refine wpList_want hg fun K' hK' => ?_
  obtain ⟨w', hrun, ho, hgr⟩ := hown.update K ht hn hkey (R := rawE) (val := val) (d := .held val) (ps := []) rfl
  have hle := grown_mem hown hgr
  unfold Oper.wp
  simp [execOp, hop, hm, hx, hv, hrun, Result.andThen]
  refine hK' _ _ ?_
  exact hK w' ⟨_, ho, hs.put hle hown.isMap hinj (K.key hkey) (vr.mono _ _ _ _ hle hval)⟩ hgr hle

/-- 'len(m)'. -/
theorem wpList_len_map (hg : Region.wanted o (yielded ops a.tmps) = true) (m : Operand) (t : TypeId) (hop : o.op = Op.call { callee := Callee.builtin Builtin.len, args := #[m], argTypes := #[t] })
    (k e : TypeId) (ht : P.underlying t = some (.map k e)) (b n : Nat) (f : κ → Option α) (hm : a.eval m = .map (some b)) (hown : MapOf P k lk vr w b n f)
    (hK : ∀ D, w.ownsMap P k rawE b n D → MapSays lk vr (mem w) D f → wpList P ops Q rest (a.put o.dst (.int .i64 (Maps.size D))) w) :
    wpList P ops Q (o :: rest) a w := by
  obtain ⟨D, hown, hs⟩ := hown
  refine wpList_want hg fun K' hK' => ?_
  unfold Oper.wp
  simp [execOp, hop, resolve, invoke, builtin, hm, hown.len ht o.type, Result.andThen]
  exact hK' _ _ (hK D hown hs)
end

/-! ### texts as keys -/
def strKey (s : ByteArray) : Lit := .string s.data.toList
theorem strKey_inj (x y : ByteArray) (h : strKey x = strKey y) : x = y := by
  obtain ⟨⟨l⟩⟩ := x
  obtain ⟨⟨l'⟩⟩ := y
  simpa [strKey] using h
theorem keyOf_str {P : Program} {k : TypeId} (hk : P.underlying k = some .string) {s : ByteArray} (hs : s.size ≤ maxLen) : keyOf P k (.string s) = some (strKey s) := Go.WideMaps.keyOf_string_mk hk hs
end Go.Proofs.YtbmpoecmjmmngaaGreat
/- Spots as keys of maps: their literals. -/
namespace Go.Proofs.YtbmpoecmjmmngaaGreat
open Go.RowKit Go.Maps

abbrev spotV (x : Spot) : Value := .agg #[.string x.1, .string x.2]
def okSpot (x : Spot) : Prop := x.1.size ≤ maxLen ∧ x.2.size ≤ maxLen
open Classical in
noncomputable def lkSpot (x : Spot) : Lit := if okSpot x then .string (keyBytes [.string x.1.data.toList, .string x.2.data.toList]) else .bool false
theorem cellsSpot : Tryz.prog.cellsOf 77 = 2 := by kernel_rfl
theorem cellsStr : Tryz.prog.cellsOf 9 = 1 := by kernel_rfl
theorem keyTypeSpot : Tryz.prog.keyType 77 = true := by kernel_rfl
theorem rowSpot : (77 : TypeId) < Tryz.prog.types.size := of_decide_eq_true (by kernel_rfl)
theorem keyS : Keyed Tryz.prog 77 := Keyed.of_law (deep_law_laid Tryz.laidOut (m := 2) (by omega) rowSpot (by kernel_rfl) (by rw [Tryz.underlying77]))
theorem size_pos : ∃ n, Tryz.prog.types.size = n + 1 := Nat.exists_eq_add_one.2 (Nat.lt_of_le_of_lt (Nat.zero_le _) rowSpot)
def strLits : Value → Option (List Lit)
  | .string s => if s.size ≤ maxLen then some [.string s.data.toList] else none
  | _ => none
theorem lits_str (n : Nat) (c : Value) : Tryz.prog.keyLits (n + 1) 9 [c] = strLits c := by
  unfold Program.keyLits
  rw [Tryz.underlying9]
  cases c <;> rfl
set_option maxRecDepth 100000 in
theorem keyOf_spot_eq (c0 c1 : Value) : keyOf Tryz.prog 77 (.agg #[c0, c1]) =
    match c0, c1 with | .string s, .string t => if s.size ≤ maxLen ∧ t.size ≤ maxLen then some (.string (keyBytes [.string s.data.toList, .string t.data.toList])) else none | _, _ => none := by
  obtain ⟨n, hn⟩ := size_pos
  unfold keyOf
  rw [Tryz.underlying77]
  simp only [keyTypeSpot, Value.formed, Tryz.underlying77, cellsSpot]
  rw [hn]
  unfold Program.keyLits
  rw [Tryz.underlying77]
  simp only [cellsSpot, Value.cells, cellsStr]
  simp [lits_str, cellsStr]
  cases c0 <;> cases c1 <;> simp [strLits]
  rename_i s t
  by_cases hs : s.size ≤ maxLen <;> by_cases ht : t.size ≤ maxLen <;> simp [hs, ht]
theorem keyOf_spot {x : Spot} (h : okSpot x) : keyOf Tryz.prog 77 (spotV x) = some (lkSpot x) := by
  rw [keyOf_spot_eq]
  unfold lkSpot
  rw [if_pos h]
  exact if_pos h
set_option maxRecDepth 100000 in
theorem keyOf_spot_inv {v : Value} {l : Lit} (h : keyOf Tryz.prog 77 v = some l) : ∃ x, v = spotV x ∧ l = lkSpot x ∧ okSpot x := by
  have hf : v.formed Tryz.prog 77 = true := by
    unfold keyOf at h
    rw [Tryz.underlying77] at h
    cases hv : v.formed Tryz.prog 77 with
    | true => rfl
    | false => simp [hv] at h
  have : ∃ c0 c1, v = .agg #[c0, c1] := by
    cases v with
    | agg cs =>
      simp only [Value.formed, Tryz.underlying77, cellsSpot, beq_iff_eq] at hf
      obtain ⟨l⟩ := cs
      match l, hf with
      | [c0, c1], _ => exact ⟨c0, c1, rfl⟩
    | _ => simp [Value.formed, Tryz.underlying77] at hf
  obtain ⟨c0, c1, rfl⟩ := this
  rw [keyOf_spot_eq] at h
  cases c0 <;> cases c1 <;> simp at h
  rename_i s t
  obtain ⟨hok, rfl⟩ := h
  have hok' : okSpot (s, t) := hok
  exact ⟨(s, t), rfl, by unfold lkSpot; rw [if_pos hok'], hok'⟩
theorem spotV_inj {x y : Spot} (h : spotV x = spotV y) : x = y := by
  simp at h
  exact Prod.ext h.1 h.2
theorem lkSpot_inj {x : Spot} (hx : okSpot x) (y : Spot) (h : lkSpot y = lkSpot x) : y = x := by
  by_cases hy : okSpot y
  · have h1 := keyOf_spot hx
    have h2 := keyOf_spot hy
    rw [h] at h2
    exact spotV_inj (keyS.inj h2 h1)
  · unfold lkSpot at h
    rw [if_pos hx, if_neg hy] at h
    cases h
theorem lkSpot_key {x : Spot} (hx : okSpot x) : WideAt.IsKeyLit (lkSpot x) := keyS.key (keyOf_spot hx)
end Go.Proofs.YtbmpoecmjmmngaaGreat
/- The state of package heap in memory: the invariant, its steps. -/
namespace Go.Proofs.YtbmpoecmjmmngaaGreat
open Go.RowKit Go.Maps

@[reducible] def ptrTo (a : Nat) : Value := .pointer (some ⟨a, 0, none⟩)
def tPtr : Ty Nat := ⟨1, fun _ cs a => cs = [ptrTo a], fun _ _ _ h => by rw [h]; rfl, fun _ _ _ _ _ h => h⟩
abbrev tPtrs : Ty (List Nat) := tSlice tPtr
theorem tPtr_flat : tPtr.flat := fun _ _ _ _ h => h
def intKey (n : Int) : Lit := .int .i64 n
theorem intKey_inj (x y : Int) (h : intKey x = intKey y) : x = y := by simpa [intKey] using h
theorem keyOf_i64 {n : Int} (h : inI64 n) : keyOf Tryz.prog 3 (.int .i64 n) = some (intKey n) := keyOf_int_mk Tryz.underlying3 (by have := h.1; have := h.2; unfold inI64 at h; simp [Lit.wf, IntKind.min, IntKind.max, IntKind.signed, IntKind.bits]; omega)
theorem keyK : Keyed Tryz.prog 3 := int_keyed Tryz.underlying3
def vStr : VR ByteArray := ⟨fun _ v x => v = .string x ∧ x.size ≤ maxLen, fun _ _ _ _ _ h => h⟩
def vRow : VR (Value × List Nat) := ⟨fun _ v x => v = x.1, fun _ _ _ _ _ h => h⟩
abbrev FMap := Spot → Option ByteArray
@[reducible] def GMap (W : World) (b n : Nat) (f : FMap) : Prop := MapOf Tryz.prog 77 lkSpot vStr W b n f
@[reducible] def SMap (W : World) (b n : Nat) (f : Int → Option (Value × List Nat)) : Prop := MapOf Tryz.prog 3 intKey vRow W b n f
theorem GMap.at {W W' : World} {b n : Nat} {f : FMap} (h : GMap W b n f) (hb : W'.heap[b]? = W.heap[b]?) : GMap W' b n f := by
  obtain ⟨D, ⟨es, clock, hh, r⟩, g⟩ := h
  exact ⟨D, ⟨es, clock, by rw [hb]; exact hh, r⟩, g⟩
theorem SMap.at {W W' : World} {b n : Nat} {f : Int → Option (Value × List Nat)} (h : SMap W b n f) (hb : W'.heap[b]? = W.heap[b]?) : SMap W' b n f := by
  obtain ⟨D, ⟨es, clock, hh, r⟩, g⟩ := h
  exact ⟨D, ⟨es, clock, by rw [hb]; exact hh, r⟩, g⟩
theorem GMap.obj {W : World} {b n : Nat} {f : FMap} (h : GMap W b n f) : ∃ es c, W.heap[b]? = some (.map es c) := by
  obtain ⟨D, ⟨es, clock, hh, r⟩, g⟩ := h
  exact ⟨es, clock, hh⟩
theorem SMap.obj {W : World} {b n : Nat} {f : Int → Option (Value × List Nat)} (h : SMap W b n f) : ∃ es c, W.heap[b]? = some (.map es c) := by
  obtain ⟨D, ⟨es, clock, hh, r⟩, g⟩ := h
  exact ⟨es, clock, hh⟩

/-- A group: its map's block, whether it is shared, its entries. -/
structure G where
  mb : Nat
  sh : Bool
  f : FMap
/-- What a state holds, and where. -/
structure HS where
  cv : Value
  cur : List Nat
  cnt : Int
  last : Int
  sm : Nat
  nn : Nat
  snaps : Int → Option (Value × List Nat)
  g : Nat → G
def used (r : HS) (a : Nat) : Prop := a ∈ r.cur ∨ ∃ k x, r.snaps k = some x ∧ a ∈ x.2
def mutB (p : Nat) (r : HS) (k : Nat) : Prop := k = p ∨ k = r.sm ∨ r.cv.ownBlock = some k ∨ ∃ a, used r a ∧ (k = a ∨ k = (r.g a).mb)
noncomputable def safe (W : World) (p : Nat) (r : HS) : Mem := (mem W).on (fun k => ¬ mutB p r k)
def hCells (r : HS) : Array Value := #[r.cv, .int .i64 r.cnt, .map (some r.sm), .int .i64 r.last]
def gCells (x : G) : Array Value := #[.map (some x.mb), .bool x.sh]
/-- A row of pointers that may be written. -/
def PRow (W : World) (v : Value) (l : List Nat) : Prop :=
  ∃ b off cap arr, v = .slice (some ⟨b, off, none⟩) l.length cap ∧ l.length ≤ cap ∧ cap ≤ maxLen ∧ W.heap[b]? = some (.cells arr 85 (0, 0)) ∧ off + cap ≤ arr.size ∧ ∀ i, (h : i < l.length) → arr[off + i]? = some (ptrTo l[i])
structure HeapInv (W : World) (base p : Nat) (r : HS) : Prop where
  hb : W.heap[p]? = some (.cells (hCells r) 81 (0, 0))
  cu : PRow W r.cv r.cur
  sn : SMap W r.sm r.nn r.snaps
  sr : ∀ k x, r.snaps k = some x → tPtrs.rv (safe W p r) [x.1] x.2 ∧ x.2.Nodup ∧ x.2.length = r.cur.length
  gb : ∀ a, used r a → W.heap[a]? = some (.cells (gCells (r.g a)) 84 (0, 0)) ∧ GMap W (r.g a).mb r.nn (r.g a).f
  inj : ∀ a b, used r a → used r b → (r.g a).mb = (r.g b).mb → a = b
  smb : ∀ a, used r a → (r.g a).mb ≠ r.sm
  sh : ∀ k x a, r.snaps k = some x → a ∈ x.2 → (r.g a).sh = true
  nd : r.cur.Nodup
  ge : ∀ k, mutB p r k → base ≤ k
  bw : base ≤ W.heap.size
/-- What a step leaves. -/
structure HStep (W : World) (base p : Nat) (r : HS) (W' : World) (r' : HS) : Prop where
  inv : HeapInv W' base p r'
  kp : Keeps (mutB p r) W W'
  mb : ∀ k, mutB p r' k → mutB p r k ∨ W.heap.size ≤ k
theorem PRow.block {W : World} {v : Value} {l : List Nat} (h : PRow W v l) : ∃ b arr, v.ownBlock = some b ∧ W.heap[b]? = some (.cells arr 85 (0, 0)) := by
  obtain ⟨b, off, cap, arr, rfl, _, _, h4, _⟩ := h
  exact ⟨b, arr, rfl, h4⟩
theorem PRow.lt {W : World} {v : Value} {l : List Nat} (h : PRow W v l) {k : Nat} (hk : v.ownBlock = some k) : k < W.heap.size := by
  obtain ⟨b, arr, e, h4⟩ := h.block
  rw [e] at hk; cases hk
  exact (Array.getElem?_eq_some_iff.1 h4).1
theorem PRow.at {W W' : World} {v : Value} {l : List Nat} (h : PRow W v l) (hk : ∀ k, v.ownBlock = some k → W'.heap[k]? = W.heap[k]?) : PRow W' v l := by
  obtain ⟨b, off, cap, arr, rfl, h2, h3, h4, h5⟩ := h
  exact ⟨b, off, cap, arr, rfl, h2, h3, (hk b rfl).trans h4, h5⟩
theorem PRow.rv {W : World} {v : Value} {l : List Nat} (h : PRow W v l) : tPtrs.rv (mem W) [v] l := by
  obtain ⟨b, off, cap, arr, rfl, h2, h3, h4, h5, h6⟩ := h
  refine ⟨some ⟨b, off, none⟩, cap, rfl, h2, h3, fun _ => ⟨b, off, rfl, fun k hk => ⟨[ptrTo l[k]], fun j u hj => ?_, rfl⟩⟩⟩
  match j, hj with
  | 0, hj =>
    have e : ptrTo l[k] = u := by simpa using hj
    rw [mem_cells h4]
    show arr[off + k * 1 + 0]? = some u
    rw [show off + k * 1 + 0 = off + k by omega, h6 k hk, e]
  | j + 1, hj => simp at hj
theorem PRow.of {W : World} {v : Value} {l : List Nat} (h : OwnsO tPtr W 85 v l) (h0 : l ≠ []) : PRow W v l := by
  obtain ⟨css, g1, g2, h | ⟨g, off, cap, cur, rfl, hg, h3, h4, h5, h6⟩⟩ := h
  · exact absurd h.2 h0
  · refine ⟨g, off, cap, cur, rfl, h3, h4, hg, by simpa [tPtr] using h5, fun i hi => ?_⟩
    have hc : css[i]'(by omega) = [ptrTo l[i]] := g2 i (by omega) hi
    have := take_cell (j := 0) (v := ptrTo l[i]) h6 g1 (OwnsO.lens g1 g2) (k := i) (by omega) (by rw [hc]; rfl)
    rw [show off + (i * tPtr.sz + 0) = off + i by show off + (i * 1 + 0) = _; omega] at this
    simpa using this
theorem set_block {w : World} {g o : Nat} {v : Value} {cur : Array Value} {t : TypeId} {f : Nat × Nat} (h : w.heap[g]? = some (.cells cur t f)) : (w.setCell ⟨g, o, none⟩ v).heap[g]? = some (.cells (cur.setIfInBounds o v) t f) := by
  simp [World.setCell, Array.getElem?_modify, h]
theorem set_block_other {w : World} {g g' o : Nat} {v : Value} (hne : g' ≠ g) : (w.setCell ⟨g, o, none⟩ v).heap[g']? = w.heap[g']? := Below.heap_setCell _ _ _ _ hne

section
variable {W W' : World} {base p : Nat} {r r' : HS}
theorem HeapInv.cells_kind (h : HeapInv W base p r) : ∀ k, mutB p r k → k < W.heap.size := fun k hk => by
  rcases hk with rfl | rfl | hk | ⟨a, ha, rfl | rfl⟩
  · exact (Array.getElem?_eq_some_iff.1 h.hb).1
  · exact h.sn.lt
  · exact h.cu.lt hk
  · exact (Array.getElem?_eq_some_iff.1 (h.gb _ ha).1).1
  · exact (h.gb _ ha).2.lt
theorem safe_le (hk : Keeps (mutB p r) W W') (hm : ∀ k, mutB p r' k → mutB p r k ∨ W.heap.size ≤ k) : (safe W p r).le (safe W' p r') := fun i o v e => by
  obtain ⟨hs, e⟩ := Mem.of_on e
  have hl := mem_lt e
  exact Mem.on_some ((mem_of_block (hk.block i hl hs) o).trans e) fun hx => by
    rcases hm i hx with h | h
    · exact hs h
    · omega
/-- Blocks of different kinds are different. -/
theorem HeapInv.apart (h : HeapInv W base p r) : p ≠ r.sm ∧ r.cv.ownBlock ≠ some p ∧ r.cv.ownBlock ≠ some r.sm ∧
    ∀ a, used r a → a ≠ p ∧ a ≠ r.sm ∧ r.cv.ownBlock ≠ some a ∧ (r.g a).mb ≠ p ∧ r.cv.ownBlock ≠ some (r.g a).mb ∧ ∀ b, used r b → (r.g b).mb ≠ a := by
  have hb := h.hb
  obtain ⟨cb, arr, ec, hc⟩ := h.cu.block
  obtain ⟨es, c, hs⟩ := h.sn.obj
  refine ⟨fun e => by (rw [e, hs] at hb; cases hb), fun e => ?_, fun e => ?_, fun a ha => ?_⟩
  · rw [ec] at e; cases e
    rw [hb] at hc
    exact absurd (by injection hc with hc; injection hc) (show ¬ ((81 : TypeId) = 85) by decide)
  · rw [ec] at e; cases e
    rw [hs] at hc; cases hc
  · obtain ⟨hg, hm⟩ := h.gb a ha
    obtain ⟨es', c', hm⟩ := hm.obj
    refine ⟨fun e => ?_, fun e => ?_, fun e => ?_, fun e => ?_, fun e => ?_, fun b hb' e => ?_⟩
    · subst e
      rw [hb] at hg
      exact absurd (by injection hg with hg; injection hg) (show ¬ ((81 : TypeId) = 84) by decide)
    · rw [e, hs] at hg; cases hg
    · rw [ec] at e; cases e
      rw [hc] at hg
      exact absurd (by injection hg with hg; injection hg) (show ¬ ((85 : TypeId) = 84) by decide)
    · rw [e, hb] at hm; cases hm
    · rw [ec] at e; cases e
      rw [hc] at hm; cases hm
    · obtain ⟨es2, c2, h2⟩ := (h.gb b hb').2.obj
      rw [e, hg] at h2; cases h2
theorem HeapInv.pure (h : HeapInv W base p r) (hk : Below W.heap.size W W') : HeapInv W' base p r := by
  have hlt := h.cells_kind
  have hs : (safe W p r).le (safe W' p r) := safe_le ((below_keeps hk).wide (fun k h1 h2 => by omega)) (fun k hm => .inl hm)
  have hat : ∀ k, mutB p r k → W'.heap[k]? = W.heap[k]? := fun k hm => hk.block k (hlt k hm)
  exact ⟨(hat p (.inl rfl)).trans h.hb, h.cu.at (fun k e => hat k (.inr (.inr (.inl e)))), h.sn.at (hat _ (.inr (.inl rfl))),
    fun k x e => let ⟨h1, h2⟩ := h.sr k x e; ⟨tPtrs.mono _ _ _ _ hs h1, h2⟩,
    fun a ha => let ⟨h1, h2⟩ := h.gb a ha; ⟨(hat a (.inr (.inr (.inr ⟨a, ha, .inl rfl⟩)))).trans h1, h2.at (hat _ (.inr (.inr (.inr ⟨a, ha, .inr rfl⟩))))⟩,
    h.inj, h.smb, h.sh, h.nd, h.ge, Nat.le_trans h.bw hk.size⟩
theorem HStep.pure (h : HeapInv W base p r) (hk : Below W.heap.size W W') : HStep W base p r W' r :=
  ⟨h.pure hk, (below_keeps hk).wide (fun k h1 h2 => by omega), fun _ h => .inl h⟩
theorem HStep.trans {W1 W2 : World} {r1 r2 : HS} (h : HStep W base p r W1 r1) (g : HStep W1 base p r1 W2 r2) : HStep W base p r W2 r2 := by
  have hsz := h.kp.size
  refine ⟨g.inv, ⟨g.kp.os.trans h.kp.os, g.kp.tape.trans h.kp.tape, g.kp.output.trans h.kp.output, Nat.le_trans hsz g.kp.size, fun k hk hn => ?_⟩, fun k hk => ?_⟩
  · refine (g.kp.block k (by omega) fun hm => ?_).trans (h.kp.block k hk hn)
    rcases h.mb k hm with e | e
    · exact hn e
    · omega
  · rcases g.mb k hk with e | e
    · exact h.mb k e
    · exact .inr (by omega)
theorem HStep.below (h : HStep W base p r W' r') (i : HeapInv W base p r) : Below base W W' := h.kp.below i.bw i.ge
/-- A step from its parts: what is new is told, what is old stays. -/
theorem HStep.mk' (h : HeapInv W base p r) (hk : Keeps (mutB p r) W W') (hm : ∀ k, mutB p r' k → mutB p r k ∨ W.heap.size ≤ k)
    (hb : W'.heap[p]? = some (.cells (hCells r') 81 (0, 0))) (cu : PRow W' r'.cv r'.cur) (sn : SMap W' r'.sm r'.nn r'.snaps)
    (sr : ∀ k x, r'.snaps k = some x → r.snaps k = some x ∨ (tPtrs.rv (safe W' p r') [x.1] x.2 ∧ x.2.Nodup ∧ x.2.length = r.cur.length)) (hlen : r'.cur.length = r.cur.length)
    (gb : ∀ a, used r' a → W'.heap[a]? = some (.cells (gCells (r'.g a)) 84 (0, 0)) ∧ GMap W' (r'.g a).mb r'.nn (r'.g a).f)
    (inj : ∀ a b, used r' a → used r' b → (r'.g a).mb = (r'.g b).mb → a = b) (smb : ∀ a, used r' a → (r'.g a).mb ≠ r'.sm)
    (sh : ∀ k x a, r'.snaps k = some x → a ∈ x.2 → (r'.g a).sh = true) (nd : r'.cur.Nodup) : HStep W base p r W' r' := by
  refine ⟨⟨hb, cu, sn, fun k x e => ?_, gb, inj, smb, sh, nd, fun k hk' => ?_, Nat.le_trans h.bw hk.size⟩, hk, hm⟩
  · rcases sr k x e with e | e
    · obtain ⟨h1, h2, h3⟩ := h.sr k x e
      exact ⟨tPtrs.mono _ _ _ _ (safe_le hk hm) h1, h2, h3.trans hlen.symm⟩
    · exact ⟨e.1, e.2.1, e.2.2.trans hlen.symm⟩
  · rcases hm k hk' with e | e
    · exact h.ge k e
    · have := h.bw; omega
/-- The state's own cells change: numbers, or the row's value. -/
theorem HStep.own (h : HeapInv W base p r) (hk : Keeps (fun k => k = p) W W') (cnt last : Int) (hb : W'.heap[p]? = some (.cells (hCells { r with cnt := cnt, last := last }) 81 (0, 0))) :
    HStep W base p r W' { r with cnt := cnt, last := last } := by
  have hap := h.apart
  have hlt := h.cells_kind
  have hat : ∀ k, mutB p r k → k ≠ p → W'.heap[k]? = W.heap[k]? := fun k hm hne => hk.block k (hlt k hm) hne
  exact HStep.mk' h (hk.wide (fun k _ e => .inl e)) (fun k e => .inl e) hb
    (h.cu.at (fun k e => hat k (.inr (.inr (.inl e))) (fun e2 => hap.2.1 (e2 ▸ e)))) (h.sn.at (hat _ (.inr (.inl rfl)) (Ne.symm hap.1))) (fun k x e => .inl e) rfl
    (fun a ha => let ⟨h1, h2⟩ := h.gb a ha; ⟨(hat a (.inr (.inr (.inr ⟨a, ha, .inl rfl⟩))) (hap.2.2.2 a ha).1).trans h1, h2.at (hat _ (.inr (.inr (.inr ⟨a, ha, .inr rfl⟩))) (hap.2.2.2 a ha).2.2.2.1)⟩)
    h.inj h.smb h.sh h.nd
end
end Go.Proofs.YtbmpoecmjmmngaaGreat
