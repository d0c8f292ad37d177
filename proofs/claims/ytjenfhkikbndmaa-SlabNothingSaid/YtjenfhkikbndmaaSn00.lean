/- Part 0 of the texts that the law's proof stands on, merged. -/
import Derived.WalkKit
import Derived.WalkSpells
import Derived.WalkLawsBesides
import Derived.Deep.QuietTactic
import Derived.BigQuiet
import Derived.Lib.Hide
import Derived.ChangeArms
import Derived.Deep.Slices
import Derived.DataReads
import Derived.Carry
import Derived.Deep.RegionLaw
import Derived.Test.YtjenfhkikbndmaaRows
import Derived.ProofKit
import Derived.OpenShut
import Derived.ShutString
import Derived.ChangeOld
import Derived.Sort.Statements
import Derived.Lib.Strings
import Derived.Maps.OwnSet
import Derived.Maps.Range
import Derived.Maps.RangeWalk
set_option linter.unusedVariables false
set_option linter.unusedSimpArgs false
/- Own words of these proofs: memory as a function of places, readings of Go's types as plain data (Ty), what a call keeps (Keeps), rows of the call's own. No program in sight. -/
namespace Go.Proofs.Ytjenfhkikbndmaa
open Go.RowKit

def Mem := Nat → Nat → Option Value
def mem (w : World) : Mem := fun b o => w.cell? ⟨b, o, none⟩
open Classical in
noncomputable def Mem.on (m : Mem) (S : Nat → Prop) : Mem := fun b o => if S b then m b o else none
def Mem.le (m m' : Mem) : Prop := ∀ b o v, m b o = some v → m' b o = some v

theorem Mem.le_refl (m : Mem) : m.le m := fun _ _ _ h => h
theorem Mem.le_trans {a b c : Mem} (h : a.le b) (k : b.le c) : a.le c := fun x y v e => k x y v (h x y v e)
theorem Mem.on_le (m : Mem) (S : Nat → Prop) : (m.on S).le m := fun b o v h => by
  unfold Mem.on at h
  split at h
  · exact h
  · cases h
theorem Mem.on_mono (m : Mem) {S S' : Nat → Prop} (h : ∀ b, S b → S' b) : (m.on S).le (m.on S') := fun b o v e => by
  unfold Mem.on at *
  split at e
  · rename_i hs
    rw [if_pos (h b hs)]; exact e
  · cases e
theorem Mem.on_some {m : Mem} {S : Nat → Prop} {b o : Nat} {v : Value} (h : m b o = some v) (hs : S b) : m.on S b o = some v := by
  unfold Mem.on; rw [if_pos hs]; exact h
theorem Mem.of_on {m : Mem} {S : Nat → Prop} {b o : Nat} {v : Value} (h : m.on S b o = some v) : S b ∧ m b o = some v := by
  unfold Mem.on at h
  split at h
  · exact ⟨‹_›, h⟩
  · cases h
theorem mem_lt {w : World} {b o : Nat} {v : Value} (h : mem w b o = some v) : b < w.heap.size := World.block_lt_of_cell? w ⟨b, o, none⟩ h

/-- What a call keeps: outside the blocks F all that was there is there. -/
structure Keeps (F : Nat → Prop) (w w' : World) : Prop where
  os : w'.os = w.os
  tape : w'.tape = w.tape
  output : w'.output = w.output
  size : w.heap.size ≤ w'.heap.size
  block : ∀ k, k < w.heap.size → ¬ F k → w'.heap[k]? = w.heap[k]?

theorem Keeps.refl (F : Nat → Prop) (w : World) : Keeps F w w := ⟨rfl, rfl, rfl, Nat.le_refl _, fun _ _ _ => rfl⟩
theorem Keeps.wide {F G : Nat → Prop} {w w' : World} (h : Keeps F w w') (hFG : ∀ k, k < w.heap.size → F k → G k) : Keeps G w w' :=
  ⟨h.os, h.tape, h.output, h.size, fun k hk hg => h.block k hk (fun hf => hg (hFG k hk hf))⟩
theorem Keeps.trans {F : Nat → Prop} {a b c : World} (h : Keeps F a b) (k : Keeps F b c) : Keeps F a c :=
  ⟨k.os.trans h.os, k.tape.trans h.tape, k.output.trans h.output, Nat.le_trans h.size k.size,
   fun i hi hf => (k.block i (Nat.lt_of_lt_of_le hi h.size) hf).trans (h.block i hi hf)⟩
theorem below_keeps {B : Nat} {w w' : World} (h : Below B w w') : Keeps (fun k => B ≤ k) w w' :=
  ⟨h.os, h.tape, h.output, h.size, fun k _ hk => h.block k (by omega)⟩
theorem Keeps.below {F : Nat → Prop} {w w' : World} (h : Keeps F w w') {B : Nat} (hB : B ≤ w.heap.size) (hF : ∀ k, F k → B ≤ k) : Below B w w' :=
  ⟨h.os, h.tape, h.output, h.size, fun k hk => h.block k (by omega) (fun hf => by have := hF k hf; omega)⟩
theorem below_step {B : Nat} {w wr w1 : World} (h : Below B w wr) (k : Below wr.heap.size wr w1) (hB : B ≤ wr.heap.size) : Below B w w1 := h.trans (k.mono hB)
theorem pure_trans {w wr w1 : World} (h : Below w.heap.size w wr) (k : Below wr.heap.size wr w1) : Below w.heap.size w w1 := h.trans (k.mono h.size)
theorem grown_keeps {w w' : World} {r : Option Nat} (h : w.grownBy w' r) : Keeps (fun k => some k = r) w w' :=
  ⟨h.os, h.tape, h.output, h.size, fun k hk hf => h.block k hk hf⟩
theorem Keeps.alloc {F : Nat → Prop} {a w : World} (h : Keeps F a w) (o : Obj) : Keeps F a (w.alloc o) :=
  h.trans ⟨rfl, rfl, rfl, by simp, fun k hk _ => Below.heap_alloc _ _ _ hk⟩
theorem Keeps.drew {F : Nat → Prop} {a w : World} (h : Keeps F a w) : Keeps F a w.drew := ⟨h.os, h.tape, h.output, h.size, h.block⟩
theorem Keeps.drewN {F : Nat → Prop} {a w : World} (h : Keeps F a w) (n : Nat) : Keeps F a (w.drewN n) := ⟨h.os, h.tape, h.output, h.size, h.block⟩
theorem Keeps.setCell {F : Nat → Prop} {a w : World} (h : Keeps F a w) {p : Addr} (hp : p.block < a.heap.size → F p.block) (u : Value) : Keeps F a (w.setCell p u) :=
  ⟨h.os, h.tape, h.output, by have := h.size; simpa [World.setCell] using this, fun k hk hf => (Below.heap_setCell _ _ _ _ (fun e => hf (by subst e; exact hp hk))).trans (h.block k hk hf)⟩
theorem Keeps.belowStep {F : Nat → Prop} {B : Nat} {w wr w1 : World} (h : Below B w wr) (k : Keeps F wr w1) (hF : ∀ k, F k → B ≤ k) (hB : B ≤ wr.heap.size) : Below B w w1 := h.trans (k.below hB hF)
theorem Keeps.pure {F : Nat → Prop} {a w w' : World} (h : Keeps F a w) (k : Below w.heap.size w w') : Keeps F a w' :=
  ⟨k.os.trans h.os, k.tape.trans h.tape, k.output.trans h.output, Nat.le_trans h.size k.size, fun i hi hf => (k.block i (Nat.lt_of_lt_of_le hi h.size)).trans (h.block i hi hf)⟩

theorem mem_of_block {w w' : World} {b : Nat} (h : w'.heap[b]? = w.heap[b]?) (o : Nat) : mem w' b o = mem w b o := World.cell?_of_block (w := w) (w' := w') (a := ⟨b, o, none⟩) h
theorem keeps_mem {F : Nat → Prop} {w w' : World} (h : Keeps F w w') {S : Nat → Prop} (hS : ∀ b, S b → ¬ F b) : ((mem w).on S).le ((mem w').on S) := fun b o v e => by
  obtain ⟨hs, e⟩ := Mem.of_on e
  exact Mem.on_some ((mem_of_block (h.block b (mem_lt e) (hS b hs)) o).trans e) hs
theorem keeps_mem' {F : Nat → Prop} {w w' : World} (h : Keeps F w w') {S : Nat → Prop} (hS : ∀ b, S b → ¬ F b) : ((mem w).on S).le (mem w') := Mem.le_trans (keeps_mem h hS) (Mem.on_le _ _)
theorem below_mem {w w' : World} (h : Below w.heap.size w w') : (mem w).le (mem w') := fun b o v e => (mem_of_block (h.block b (mem_lt e)) o).trans e
theorem below_memOn {B : Nat} {w w' : World} (h : Below B w w') : ((mem w).on (· < B)).le ((mem w').on (· < B)) := keeps_mem (below_keeps h) (fun b hb hn => by omega)
theorem mem_on_lt (w : World) : (mem w).le ((mem w).on (· < w.heap.size)) := fun _ _ _ e => Mem.on_some e (mem_lt e)
theorem mem_drewN (w : World) (n : Nat) : mem (w.drewN n) = mem w := rfl
theorem mem_drew (w : World) : mem w.drew = mem w := rfl

/-- How the cells of a value read as plain data. -/
structure Ty (α : Type) where
  sz : Nat
  rv : Mem → List Value → α → Prop
  len : ∀ m cs x, rv m cs x → cs.length = sz
  mono : ∀ m m' cs x, m.le m' → rv m cs x → rv m' cs x

def inI64 (n : Int) : Prop := -9223372036854775808 ≤ n ∧ n ≤ 9223372036854775807

def tInt : Ty Int := ⟨1, fun _ cs x => cs = [.int .i64 x] ∧ inI64 x, fun _ _ _ h => by rw [h.1]; rfl, fun _ _ _ _ _ h => h⟩
def tBool : Ty Bool := ⟨1, fun _ cs x => cs = [.bool x], fun _ _ _ h => by rw [h]; rfl, fun _ _ _ _ _ h => h⟩
def tStr : Ty ByteArray := ⟨1, fun _ cs x => cs = [.string x] ∧ x.size ≤ maxLen, fun _ _ _ h => by rw [h.1]; rfl, fun _ _ _ _ _ h => h⟩

/-- The cells of an element at a place. -/
def At (m : Mem) (b o : Nat) (cs : List Value) : Prop := ∀ j v, cs[j]? = some v → m b (o + j) = some v
theorem At.mono {m m' : Mem} {b o : Nat} {cs : List Value} (h : m.le m') (k : At m b o cs) : At m' b o cs := fun j v e => h _ _ _ (k j v e)
def Ty.at {α : Type} (t : Ty α) (m : Mem) (b o : Nat) (x : α) : Prop := ∃ cs, At m b o cs ∧ t.rv m cs x
theorem Ty.at_mono {α : Type} (t : Ty α) {m m' : Mem} {b o : Nat} {x : α} (h : m.le m') (k : t.at m b o x) : t.at m' b o x :=
  let ⟨cs, h1, h2⟩ := k; ⟨cs, h1.mono h, t.mono _ _ _ _ h h2⟩

def SliceRv {α : Type} (t : Ty α) (m : Mem) (cs : List Value) (xs : List α) : Prop :=
  ∃ a cap, cs = [.slice a xs.length cap] ∧ xs.length ≤ cap ∧ cap ≤ maxLen ∧
    (0 < xs.length → ∃ b o, a = some ⟨b, o, none⟩ ∧ ∀ k, (hk : k < xs.length) → t.at m b (o + k * t.sz) xs[k])
def tSlice {α : Type} (t : Ty α) : Ty (List α) where
  sz := 1
  rv := SliceRv t
  len := fun _ _ _ ⟨_, _, h, _⟩ => by rw [h]; rfl
  mono := fun m m' _ _ h ⟨a, cap, h1, h2, h3, h4⟩ => ⟨a, cap, h1, h2, h3, fun h0 => let ⟨b, o, e, hk⟩ := h4 h0; ⟨b, o, e, fun k hk' => t.at_mono h (hk k hk')⟩⟩

theorem slice_nil {α : Type} (t : Ty α) (m : Mem) : (tSlice t).rv m [.slice none 0 0] [] := ⟨none, 0, rfl, Nat.le_refl _, Nat.zero_le _, fun h => absurd h (by simp)⟩

/-- A slice's element: the cells at its place. -/
theorem slice_at {α : Type} {t : Ty α} {m : Mem} {a : Option Addr} {n cap : Nat} {xs : List α} (h : (tSlice t).rv m [.slice a n cap] xs) {k : Nat} (hk : k < xs.length) :
    ∃ b o, a = some ⟨b, o, none⟩ ∧ t.at m b (o + k * t.sz) xs[k] := by
  obtain ⟨a', cap', e, _, _, h4⟩ := h
  obtain ⟨b, o, ha, hat⟩ := h4 (by omega)
  simp only [List.cons.injEq, Value.slice.injEq, and_true] at e
  exact ⟨b, o, e.1.trans ha, hat k hk⟩
theorem slice_len {α : Type} {t : Ty α} {m : Mem} {a : Option Addr} {n cap : Nat} {xs : List α} (h : (tSlice t).rv m [.slice a n cap] xs) : n = xs.length ∧ xs.length ≤ cap ∧ cap ≤ maxLen := by
  obtain ⟨a', cap', e, h1, h2, _⟩ := h
  simp only [List.cons.injEq, Value.slice.injEq, and_true] at e
  obtain ⟨rfl, rfl, rfl⟩ := e
  exact ⟨rfl, h1, h2⟩
theorem slice_form {α : Type} {t : Ty α} {m : Mem} {v : Value} {xs : List α} (h : (tSlice t).rv m [v] xs) : ∃ a cap, v = .slice a xs.length cap ∧ xs.length ≤ cap ∧ cap ≤ maxLen ∧ (tSlice t).rv m [.slice a xs.length cap] xs := by
  have h0 := h
  obtain ⟨a', cap', e, h1, h2, _⟩ := h
  simp only [List.cons.injEq, and_true] at e
  exact ⟨a', cap', e, h1, h2, e ▸ h0⟩
/-- Elements of one cell. -/
theorem int_at {m : Mem} {b o : Nat} {x : Int} (h : tInt.at m b o x) : m b o = some (.int .i64 x) ∧ inI64 x := by
  obtain ⟨cs, h1, rfl, h3⟩ := h
  exact ⟨h1 0 _ rfl, h3⟩
theorem str_at {m : Mem} {b o : Nat} {x : ByteArray} (h : tStr.at m b o x) : m b o = some (.string x) ∧ x.size ≤ maxLen := by
  obtain ⟨cs, h1, rfl, h3⟩ := h
  exact ⟨h1 0 _ rfl, h3⟩
theorem slice_cell {α : Type} {t : Ty α} {m : Mem} {b o : Nat} {xs : List α} (h : (tSlice t).at m b o xs) : ∃ v, m b o = some v ∧ (tSlice t).rv m [v] xs := by
  obtain ⟨cs, h1, h2⟩ := h
  have hl := (tSlice t).len _ _ _ h2
  match cs, hl with
  | [v], _ => exact ⟨v, h1 0 _ rfl, h2⟩

/-! ### Rows of the call's own -/

/-- The slice value v owns its elements: they read as xs, and their deep parts do not lie in the row itself. -/
def Owns {α : Type} (t : Ty α) (w : World) (B : Nat) (e : TypeId) (v : Value) (xs : List α) : Prop :=
  ∃ css : List (List Value), css.length = xs.length ∧ w.ownsRow B e t.sz v xs.length css.flatten ∧ (∀ c ∈ css, c.length = t.sz) ∧
    ∀ k, (h : k < css.length) → (h' : k < xs.length) → t.rv ((mem w).on (fun b => some b ≠ v.ownBlock)) css[k] xs[k]

theorem Owns.nil {α : Type} (t : Ty α) (w : World) (B : Nat) (e : TypeId) : Owns t w B e (.slice none 0 0) [] :=
  ⟨[], rfl, World.ownsRow_nil w B e t.sz, fun c h => absurd h (by simp), fun k h => absurd h (by simp)⟩

theorem flatten_get {β : Type} {s : Nat} : ∀ (css : List (List β)), (∀ c ∈ css, c.length = s) → ∀ (k : Nat) (h : k < css.length) (j : Nat) (v : β), css[k][j]? = some v → css.flatten[k * s + j]? = some v
  | c :: css, hc, 0, _, j, v, e => by
    simp only [List.getElem_cons_zero] at e
    rw [List.flatten_cons, Nat.zero_mul, Nat.zero_add, List.getElem?_append_left (List.getElem?_eq_some_iff.1 e).1]
    exact e
  | c :: css, hc, k + 1, h, j, v, e => by
    have hl : c.length = s := hc c (by simp)
    rw [List.flatten_cons, List.getElem?_append_right (by rw [hl, Nat.succ_mul]; omega), hl, show (k + 1) * s + j - s = k * s + j by rw [Nat.succ_mul]; omega]
    exact flatten_get css (fun c hm => hc c (by simp [hm])) k (by simpa using h) j v (by simpa using e)

theorem Owns.rv {α : Type} {t : Ty α} {w : World} {B : Nat} {e : TypeId} {v : Value} {xs : List α} (h : Owns t w B e v xs) {S : Nat → Prop} (hS : ∀ b, B ≤ b → S b)
    (hd : ∀ k cs, (hk : k < xs.length) → t.rv ((mem w).on (fun b => some b ≠ v.ownBlock)) cs xs[k] → t.rv ((mem w).on S) cs xs[k]) : (tSlice t).rv ((mem w).on S) [v] xs := by
  obtain ⟨css, h1, ⟨h2, h3⟩, h4, h5⟩ := h
  rcases h3 with ⟨rfl, h6⟩ | ⟨g, cap, cur, rfl, hg, hh, hn, hm, hc, ht⟩
  · have : xs = [] := List.eq_nil_of_length_eq_zero h6
    subst this
    exact slice_nil t _
  · refine ⟨some ⟨g, 0, none⟩, cap, rfl, hn, hm, fun _ => ⟨g, 0, rfl, fun k hk => ⟨css[k], fun j u hu => ?_, hd k _ hk (h5 k (by omega) hk)⟩⟩⟩
    have hf := flatten_get css h4 k (by omega) j u hu
    rw [← ht] at hf
    rw [List.getElem?_take] at hf
    split at hf
    · rw [Nat.zero_add]
      refine Mem.on_some ?_ (hS g hg)
      show World.cell? w ⟨g, k * t.sz + j, none⟩ = some u
      rw [cell_of_row w g (k * t.sz + j) cur e (0, 0) hh]
      simpa using hf
    · cases hf

theorem Owns.rv' {α : Type} {t : Ty α} {w : World} {B : Nat} {e : TypeId} {v : Value} {xs : List α} (h : Owns t w B e v xs) : (tSlice t).rv (mem w) [v] xs :=
  (tSlice t).mono _ _ _ _ (Mem.on_le _ (fun _ => True)) (h.rv (fun _ _ => trivial) (fun _ cs _ hk => t.mono _ _ cs _ (Mem.on_mono _ (fun _ _ => trivial)) hk))
theorem Owns.len {α : Type} {t : Ty α} {w : World} {B : Nat} {e : TypeId} {v : Value} {xs : List α} (h : Owns t w B e v xs) : ∃ a cap, v = .slice a xs.length cap ∧ xs.length ≤ maxLen := by
  obtain ⟨a, cap, h1, h2, h3, _⟩ := slice_form h.rv'
  exact ⟨a, cap, h1, Nat.le_trans h2 h3⟩

/-- An owned row over a call that keeps it. -/
theorem Owns.keeps {α : Type} {t : Ty α} {w w' : World} {B : Nat} {e : TypeId} {v : Value} {xs : List α} (h : Owns t w B e v xs) (hb : Below w.heap.size w w') : Owns t w' B e v xs := by
  obtain ⟨css, h1, ⟨h2, h3⟩, h4, h5⟩ := h
  refine ⟨css, h1, ⟨h2, ?_⟩, h4, fun k h h' => t.mono _ _ _ _ (fun b o u e => ?_) (h5 k h h')⟩
  · rcases h3 with h3 | ⟨g, cap, cur, rfl, hg, hh, r⟩
    · exact .inl h3
    · exact .inr ⟨g, cap, cur, rfl, hg, by rw [hb.block g (Array.getElem?_eq_some_iff.1 hh).1]; exact hh, r⟩
  · obtain ⟨hs, e⟩ := Mem.of_on e
    exact Mem.on_some (below_mem hb _ _ _ e) hs

/-- A reading that asks nothing of memory. -/
def Ty.flat {α : Type} (t : Ty α) : Prop := ∀ m m' cs x, t.rv m cs x → t.rv m' cs x
theorem tInt_flat : tInt.flat := fun _ _ _ _ h => h
theorem tBool_flat : tBool.flat := fun _ _ _ _ h => h
theorem tStr_flat : tStr.flat := fun _ _ _ _ h => h
theorem Owns.keepsFlat {α : Type} {t : Ty α} {w w' : World} {B : Nat} {e : TypeId} {v : Value} {xs : List α} (h : Owns t w B e v xs) (hf : t.flat) {F : Nat → Prop} (hk : Keeps F w w') (hF : ∀ k, v.ownBlock = some k → ¬ F k) : Owns t w' B e v xs := by
  obtain ⟨css, h1, ⟨h2, h3⟩, h4, h5⟩ := h
  refine ⟨css, h1, ⟨h2, ?_⟩, h4, fun k h h' => hf _ _ _ _ (h5 k h h')⟩
  rcases h3 with h3 | ⟨g, cap, cur, rfl, hg, hh, r⟩
  · exact .inl h3
  · exact .inr ⟨g, cap, cur, rfl, hg, by rw [hk.block g (Array.getElem?_eq_some_iff.1 hh).1 (hF g rfl)]; exact hh, r⟩

theorem Owns.lt {α : Type} {t : Ty α} {w : World} {B : Nat} {e : TypeId} {v : Value} {xs : List α} (h : Owns t w B e v xs) : ∀ k, v.ownBlock = some k → B ≤ k ∧ k < w.heap.size := let ⟨_, _, h2, _⟩ := h; h2.lt

/-- What stands behind an append of one element: the row owns one more. -/
theorem Owns.snoc {α : Type} {t : Ty α} {w w' : World} {B : Nat} {e : TypeId} {v v' : Value} {xs : List α} {x : α} {cs : List Value} (h : Owns t w B e v xs)
    (hw : ∀ css : List (List Value), w.ownsRow B e t.sz v xs.length css.flatten → w'.ownsRow B e t.sz v' (xs.length + 1) (css.flatten ++ cs)) (hg : w.grownBy w' v.ownBlock)
    (hv : v'.ownBlock = v.ownBlock ∨ ∀ k, v'.ownBlock = some k → w.heap.size ≤ k)
    (hx : t.rv ((mem w).on (fun b => some b ≠ v.ownBlock)) cs x) : Owns t w' B e v' (xs ++ [x]) := by
  obtain ⟨css, h1, h2, h4, h5⟩ := h
  have hle : ((mem w).on (fun b => some b ≠ v.ownBlock)).le ((mem w').on (fun b => some b ≠ v'.ownBlock)) := fun b o u e => by
    obtain ⟨hs, e⟩ := Mem.of_on e
    refine Mem.on_some ((mem_of_block (hg.block b (mem_lt e) hs) o).trans e) ?_
    rcases hv with hv | hv
    · rw [hv]; exact hs
    · intro hk
      have := hv b hk.symm
      have := mem_lt e
      omega
  refine ⟨css ++ [cs], by simp [h1], ?_, ?_, ?_⟩
  · have := hw css h2
    simpa using this
  · intro c hc
    rcases List.mem_append.1 hc with hc | hc
    · exact h4 c hc
    · simp at hc; subst hc; exact t.len _ _ _ hx
  · intro k hk hk'
    by_cases hlt : k < xs.length
    · rw [List.getElem_append_left (by omega), List.getElem_append_left hlt]
      exact t.mono _ _ _ _ hle (h5 k (by omega) hlt)
    · have : k = xs.length := by simp at hk'; omega
      subst this
      rw [List.getElem_append_right (by omega), List.getElem_append_right (by omega)]
      simp only [h1, Nat.sub_self, List.getElem_cons_zero]
      exact t.mono _ _ _ _ hle hx

theorem mem_cells_new (w : World) (cs : Array Value) (T : TypeId) (f : Nat × Nat) (o : Nat) : (w.alloc (.cells cs T f)).cell? ⟨w.heap.size, o, none⟩ = cs[o]? := by
  have h := heap_alloc_new w (.cells cs T f)
  generalize w.alloc (.cells cs T f) = w' at h ⊢
  simp [World.cell?, h]
theorem Owns.alloc {α : Type} {t : Ty α} {w : World} {B : Nat} {e : TypeId} {v : Value} {xs : List α} (h : Owns t w B e v xs) (o : Obj) : Owns t (w.alloc o) B e v xs :=
  h.keeps ((Below.refl _ _).alloc (Nat.le_refl _) o)
theorem Owns.drew {α : Type} {t : Ty α} {w : World} {B : Nat} {e : TypeId} {v : Value} {xs : List α} (h : Owns t w B e v xs) : Owns t w.drew B e v xs :=
  h.keeps (Below.refl _ _).drew

section
variable {P : Program}
/-- Where an append has put its row: in the same one, or in a new one. -/
theorem append_block (w : World) (base : Nat) (t ty e : TypeId) (i : TypeInfo) (z : Value) (size bytes : Nat) (ht : P.underlying t = some (.slice e)) (hi : P.info? e = some i) (hz : i.zero = some z)
    (hsize : i.size = size) (hby : i.bytes = bytes) (v : Value) (n : Nat) (xs : List Value) (hown : w.ownsRow base e size v n xs)
    (a : Addr) (m c : Nat) (news : List Value) (hl : news.length = m * size) (hnews : ∀ j u, news[j]? = some u → w.cell? (a.add j) = some u) (h1 : ∀ u ∈ news, u.oneCell' = true)
    (hm : 0 < m) (h63 : n + m ≤ maxLen) (hbytes : (n + m) * bytes ≤ 140737488355328) {v' : Value} {w' : World}
    (hr : (Builtin.append_ #[t, t] ty #[v, .slice (some a) m c]).run P w = .ok v' w') : v'.ownBlock = v.ownBlock ∨ ∀ k, v'.ownBlock = some k → w.heap.size ≤ k := by
  subst hsize
  subst hby
  have h9 : n + m ≤ 9223372036854775807 := by unfold maxLen at h63; exact h63
  rcases hown.2 with ⟨rfl, rfl⟩ | ⟨g, cap, cur, rfl, hbg, hg, hnc, hcm, hcs, htake⟩
  · rw [run_append_nil (P := P) w t ty e i z ht hi hz a m c news hl hnews hm (by omega) (by have hb := hbytes; simp only [Nat.zero_add] at hb; omega)] at hr
    injection hr with hv _
    subst hv
    right; intro k hk
    simp [Value.ownBlock] at hk
    omega
  · by_cases hroom : n + m ≤ cap
    · have hfit : n * i.size + news.length ≤ cur.size := by rw [hl, hcs, ← Nat.add_mul]; exact Nat.mul_le_mul_right _ hroom
      rw [run_append_room (P := P) w t ty e i ht hi g n cap cur hg a m c news hl hnews h1 hroom hfit] at hr
      injection hr with hv _
      subst hv
      left; rfl
    · rw [run_append_grow (P := P) w t ty e i z ht hi hz ⟨g, 0, none⟩ n cap xs hown.1 (hown.cells (g := g) rfl) a m c news hl hnews (by omega) (by omega) (growslice_fits (by omega) hbytes)] at hr
      injection hr with hv _
      subst hv
      right; intro k hk
      simp [Value.ownBlock] at hk
      omega

/-- APPEND OF ONE ELEMENT to a row of the call's own, in readings. -/
theorem wpList_append_one {α : Type} {ops : Array Oper} {rest : List Oper} {o : Oper} {a : Act} {Q : Exit → Act → World → Prop} {w : World} (hgd : o.guard = none) (s x : Operand) (T : TypeId)
    (ho : o.op = .call { callee := .builtin .append, args := #[s, x], argTypes := #[T, T] }) (t : Ty α) {e : TypeId} {z : Value} {bytes : Nat} (hT : P.underlying T = some (.slice e))
    (hinf : (P.info? e).map (fun i => (i.zero, i.size, i.bytes)) = some (some z, t.sz, bytes)) (hzs : z.cells.size = t.sz) (hsz : 0 < t.sz) (B : Nat) (v : Value) (xs : List α) (hs : a.eval s = v) (hown : Owns t w B e v xs)
    (nb c : Nat) (y : α) (hx : a.eval x = .slice (some ⟨nb, 0, none⟩) 1 c) (cs : List Value) (hat : At (mem w) nb 0 cs) (hrv : t.rv ((mem w).on (fun b => some b ≠ v.ownBlock)) cs y) (h1 : ∀ u ∈ cs, u.oneCell' = true)
    (h63 : xs.length + 1 ≤ maxLen) (hbytes : (xs.length + 1) * bytes ≤ 140737488355328) (hbase : B ≤ w.heap.size)
    (h : ∀ v' w', Owns t w' B e v' (xs ++ [y]) → w.grownBy w' v.ownBlock → (v'.ownBlock = v.ownBlock ∨ ∀ k, v'.ownBlock = some k → w.heap.size ≤ k) → wpList P ops Q rest (a.put o.dst v') w') : wpList P ops Q (o :: rest) a w := by
  obtain ⟨i, hi, hz, hsize, hby⟩ := info_parts hinf
  have hown' := hown
  obtain ⟨css, g1, g2, g4, g5⟩ := hown
  have hl : cs.length = 1 * t.sz := by rw [t.len _ _ _ hrv, Nat.one_mul]
  have hnews : ∀ j u, cs[j]? = some u → w.cell? ((⟨nb, 0, none⟩ : Addr).add j) = some u := fun j u hj => by rw [Addr.add_lit]; exact hat j u hj
  refine wpList_plain hgd fun K hK => ?_
  obtain ⟨v', w', hr, h2, h3, _⟩ := run_append_own (P := P) w B T o.type e i z t.sz bytes hT hi hz hsize hby hzs hsz v xs.length css.flatten g2 ⟨nb, 0, none⟩ 1 c cs hl hnews h1 h63 hbytes hbase
  have hblk := append_block w B T o.type e i z t.sz bytes hT hi hz hsize hby v xs.length css.flatten g2 ⟨nb, 0, none⟩ 1 c cs hl hnews h1 (by omega) h63 hbytes hr
  have key : Owns t w' B e v' (xs ++ [y]) := by
    refine hown'.snoc (fun css' hc' => ?_) h3 hblk hrv
    obtain ⟨v2, w2, hr2, h22, _, _⟩ := run_append_own (P := P) w B T o.type e i z t.sz bytes hT hi hz hsize hby hzs hsz v xs.length css'.flatten hc' ⟨nb, 0, none⟩ 1 c cs hl hnews h1 h63 hbytes hbase
    rw [hr] at hr2
    injection hr2 with ev ew
    subst ev; subst ew
    exact h22
  unfold Oper.wp execOp
  simp only [ho, resolve, invoke, builtin, Sem.run_bind, Sem.run_pure, Result.andThen_ok, List.map_toArray, List.map_cons, List.map_nil, hs, hx, hr]
  exact hK _ _ (h v' w' key h3 hblk)
end

theorem cell_new {w : World} {cs : Array Value} {T : TypeId} {f : Nat × Nat} {b : Nat} (o : Nat) (h : b = w.heap.size) : (w.alloc (.cells cs T f)).cell? ⟨b, o, none⟩ = cs[o]? := by
  subst h; exact mem_cells_new w cs T f o
/-- Append of one number. -/
theorem wpList_append_int {P : Program} {ops : Array Oper} {rest : List Oper} {o : Oper} {a : Act} {Q : Exit → Act → World → Prop} {w : World} (hgd : o.guard = none) (s x : Operand) (T : TypeId)
    (ho : o.op = .call { callee := .builtin .append, args := #[s, x], argTypes := #[T, T] }) {e : TypeId} (hT : P.underlying T = some (.slice e))
    (hinf : (P.info? e).map (fun i => (i.zero, i.size, i.bytes)) = some (some (.int .i64 0), 1, 8)) (B : Nat) (v : Value) (xs : List Int) (hs : a.eval s = v) (hown : Owns tInt w B e v xs)
    (nb c : Nat) (y : Int) (hx : a.eval x = .slice (some ⟨nb, 0, none⟩) 1 c) (hc : w.cell? ⟨nb, 0, none⟩ = some (.int .i64 y)) (hin : inI64 y) (hlen : xs.length ≤ 1000000000) (hbase : B ≤ w.heap.size)
    (h : ∀ v' w', Owns tInt w' B e v' (xs ++ [y]) → w.grownBy w' v.ownBlock → (v'.ownBlock = v.ownBlock ∨ ∀ k, v'.ownBlock = some k → w.heap.size ≤ k) → wpList P ops Q rest (a.put o.dst v') w') : wpList P ops Q (o :: rest) a w :=
  wpList_append_one hgd s x T ho tInt hT hinf rfl (by decide) B v xs hs hown nb c y hx [.int .i64 y] (fun j u hj => by match j, hj with | 0, hj => simp at hj; subst hj; exact hc) ⟨rfl, hin⟩ (fun u hu => by simp at hu; subst hu; rfl) (by unfold maxLen; omega) (by omega) hbase h

section
variable {P : Program}
/-- COPY of elements of whatever size into a block that is known whole. -/
theorem run_copy_cells (w : World) (dT sT ty elem : TypeId) (g o dLen dCap : Nat) (a : Addr) (sLen sCap n : Nat) (cur : Array Value) (t : TypeId) (cs : List Value) (sz : Nat)
    (hu : P.underlying dT = some (.slice elem)) (hs : (P.info? elem).map (·.size) = some sz)
    (hg : w.heap[g]? = some (.cells cur t (0, 0))) (hn : n = Nat.min sLen dLen) (hl : cs.length = n * sz)
    (hsrc : ∀ j v, cs[j]? = some v → w.cell? (a.add j) = some v) (hfit : o + cs.length ≤ cur.size) (h1 : ∀ v ∈ cs, v.oneCell' = true) :
    (Builtin.copy_ #[dT, sT] ty #[.slice (some ⟨g, o, none⟩) dLen dCap, .slice (some a) sLen sCap]).run P w =
      .ok (goInt n) (w.setRow g (cur.toList.take o ++ cs ++ cur.toList.drop (o + cs.length)).toArray) := by
  subst hn
  cases hq : P.info? elem with
  | none => simp [hq] at hs
  | some i =>
    simp only [hq, Option.map_some, Option.some.injEq] at hs
    subst hs
    have hf := run_firstCells_some (P := P) w i.size (Nat.min sLen dLen) a sLen sCap cs hl hsrc
    have hst := run_storeCells_at P g o t cs 0 cur w hg (by simpa using hfit) h1
    simp only [Nat.add_zero] at hst
    simp [Builtin.copy_, run_underlying hu, Builtin.lenOf, sizeOf, typeInfo, hq, hf, hst]

theorem wpList_copy_cells {w : World} {ops : Array Oper} {rest : List Oper} {o : Oper} {a : Act} {Q : Exit → Act → World → Prop} (hgd : o.guard = none) (d s : Operand) (dT sT : TypeId)
    (ho : o.op = .call { callee := .builtin .copy, args := #[d, s], argTypes := #[dT, sT] }) (elem sz : Nat) (hu : P.underlying dT = some (.slice elem)) (hs : (P.info? elem).map (·.size) = some sz)
    (g off dLen dCap : Nat) (ad : Addr) (sLen sCap n : Nat) (hd : a.eval d = .slice (some ⟨g, off, none⟩) dLen dCap) (hsv : a.eval s = .slice (some ad) sLen sCap)
    (cur : Array Value) (t : TypeId) (hg : w.heap[g]? = some (.cells cur t (0, 0))) (cs : List Value) (hn : n = Nat.min sLen dLen) (hl : cs.length = n * sz)
    (hsrc : ∀ j v, cs[j]? = some v → w.cell? (ad.add j) = some v) (hfit : off + cs.length ≤ cur.size) (h1 : ∀ v ∈ cs, v.oneCell' = true)
    (h : wpList P ops Q rest (a.put o.dst (goInt n)) (w.setRow g (cur.toList.take off ++ cs ++ cur.toList.drop (off + cs.length)).toArray)) : wpList P ops Q (o :: rest) a w := by
  refine wpList_plain hgd fun K hK => ?_
  have hrun := run_copy_cells (P := P) w dT sT o.type elem g off dLen dCap ad sLen sCap n cur t cs sz hu hs hg hn hl hsrc hfit h1
  unfold Oper.wp
  rw [List.append_assoc] at h
  simp [execOp, ho, resolve, invoke, builtin, hd, hsv, hrun, Result.andThen]
  exact hK _ _ h
end

/-- COPY as one step of a region that draws its order. -/
theorem step_copy_cells {P : Program} {ops : Array Oper} {o : Oper} {a : Act} {w : World} {K : Act → World → Prop} {Q : Exit → Act → World → Prop} {E : Prop} (hgd : o.guard = none) (d s : Operand) (dT sT : TypeId)
    (ho : o.op = .call { callee := .builtin .copy, args := #[d, s], argTypes := #[dT, sT] }) (elem sz : Nat) (hu : P.underlying dT = some (.slice elem)) (hs : (P.info? elem).map (·.size) = some sz)
    (g off dLen dCap : Nat) (ad : Addr) (sLen sCap n : Nat) (hd : a.eval d = .slice (some ⟨g, off, none⟩) dLen dCap) (hsv : a.eval s = .slice (some ad) sLen sCap)
    (cur : Array Value) (t : TypeId) (hg : w.heap[g]? = some (.cells cur t (0, 0))) (cs : List Value) (hn : n = Nat.min sLen dLen) (hl : cs.length = n * sz)
    (hsrc : ∀ j v, cs[j]? = some v → w.cell? (ad.add j) = some v) (hfit : off + cs.length ≤ cur.size) (h1 : ∀ v ∈ cs, v.oneCell' = true)
    (h : K (a.put o.dst (goInt n)) (w.setRow g (cur.toList.take off ++ cs ++ cur.toList.drop (off + cs.length)).toArray)) :
    if Region.wanted o (yielded ops a.tmps) = true then Oper.wp P o a w K Q else E := by
  have hw : Region.wanted o (yielded ops a.tmps) = true := by simp [Region.wanted, hgd]
  rw [if_pos hw]
  have hrun := run_copy_cells (P := P) w dT sT o.type elem g off dLen dCap ad sLen sCap n cur t cs sz hu hs hg hn hl hsrc hfit h1
  unfold Oper.wp
  rw [List.append_assoc] at h
  simp [execOp, ho, resolve, invoke, builtin, hd, hsv, hrun, Result.andThen]
  exact h

theorem frozen_cells {w : World} {b : Nat} {c : Array Value} {t : TypeId} (h : w.heap[b]? = some (.cells c t (0, 0))) (o : Nat) : w.frozen? ⟨b, o, none⟩ = false := by simp [World.frozen?, h]
theorem mem_cells {w : World} {b : Nat} {c : Array Value} {t : TypeId} {f : Nat × Nat} (h : w.heap[b]? = some (.cells c t f)) (o : Nat) : mem w b o = c[o]? := by simp [mem, World.cell?, h]

theorem setRow_facts {w0 w : World} {B g : Nat} {cur new : Array Value} {t : TypeId} (hb : Below B w0 w) (hB : B ≤ g) (hg : w.heap[g]? = some (.cells cur t (0, 0))) :
    (w.setRow g new).heap[g]? = some (.cells new t (0, 0)) ∧ Below B w0 (w.setRow g new) := by
  refine ⟨setRow_heap w g cur new t _ hg, hb.trans ⟨rfl, rfl, rfl, ?_, fun k hk => setRow_other w g k _ (by omega)⟩⟩
  simp [World.setRow]

/-! ### From the reading of an argument to plain data -/
section
variable {H : Type} {enc : TypeId × Value → H} {P : Program}
def Reads (P : Program) (T : TypeId) {α : Type} (t : Ty α) : Prop :=
  ∀ (H : Type) (enc : TypeId × Value → H) (w : World) (n : Nat) (cs : List Value) (d : DataW H × List MemPlace), DataW.trod enc P w 0 (fun _ => true) true n T cs = some d → ∃ x, t.rv (mem w) cs x
theorem reads_int {T : TypeId} (ht : P.underlying T = some (.int .i64)) : Reads P T tInt := fun _ _ _ _ _ _ h => by
  obtain ⟨n, h1, _, h3⟩ := DataW.trod_int ht h
  refine ⟨n, h1, ?_⟩
  have : -9223372036854775808 ≤ n ∧ n ≤ 9223372036854775807 := by simpa [Lit.wf, IntKind.min, IntKind.max, IntKind.signed, IntKind.bits] using h3
  exact this
theorem reads_bool {T : TypeId} (ht : P.underlying T = some .bool) : Reads P T tBool := fun _ _ _ _ _ _ h => by
  obtain ⟨n, h1, _⟩ := DataW.trod_bool ht h
  exact ⟨n, h1⟩
theorem reads_str {T : TypeId} (ht : P.underlying T = some .string) : Reads P T tStr := fun _ _ _ _ _ _ h => by
  obtain ⟨n, h1, _, h3⟩ := DataW.trod_string ht h
  exact ⟨n, h1, h3⟩
theorem reads_slice {T E : TypeId} {α : Type} [Inhabited α] {t : Ty α} (ht : P.underlying T = some (.slice E)) (hc : P.cellsOf E = t.sz) (hpos : 0 < t.sz) (hE : Reads P E t) : Reads P T (tSlice t) := fun H enc w n cs d h => by
  rcases Deep.open_slice ht h with ⟨rfl, _⟩ | ⟨a, len, cap, m, n', D, Pl, rfl, _, hl, hm, hmm, _, hi⟩
  · exact ⟨[], slice_nil t _⟩
  have hm' : m = cap := by simpa using hmm
  have hx : ∀ i, i < len → ∃ x, ∃ cs', w.cells? 0 (a.add (i * t.sz)) t.sz = some cs' ∧ t.rv (mem w) cs' x := fun i hil => by
    obtain ⟨cs', h1, h2⟩ := hi i (by omega)
    obtain ⟨x, hx⟩ := hE H enc w _ _ _ h2
    rw [hc] at h1
    exact ⟨x, cs', h1, hx⟩
  obtain ⟨f, hf⟩ := Deep.choose_lt hx
  refine ⟨(List.range len).map f, some a, cap, by simp, by simpa using hl, hm, fun h0 => ?_⟩
  have h0' : 0 < len := by simpa using h0
  obtain ⟨cs0, h1, h2⟩ := hf 0 h0'
  obtain ⟨_, hlen, hat⟩ := World.cells?_some h1
  have hsp : a.spot = none := by
    have := hat 0 hpos
    rw [Nat.zero_mul, Addr.add_zero', Addr.add_zero'] at this
    rw [List.getElem?_eq_getElem (by omega)] at this
    unfold World.cell? at this
    split at this
    · split at this
      · cases this
      · rename_i hns; simpa using hns
    · cases this
  obtain ⟨b, o, sp⟩ := a
  simp only at hsp
  subst hsp
  refine ⟨b, o, rfl, fun k hk => ?_⟩
  have hk' : k < len := by simpa using hk
  obtain ⟨cs', g1, g2⟩ := hf k hk'
  obtain ⟨_, glen, gat⟩ := World.cells?_some g1
  refine ⟨cs', fun j v hv => ?_, by simpa using g2⟩
  have hj : j < cs'.length := (List.getElem?_eq_some_iff.1 hv).1
  have := gat j (by omega)
  rw [Addr.add_lit, Addr.add_lit] at this
  exact this.trans hv
theorem field_read {T : TypeId} {α : Type} {t : Ty α} (hR : Reads P T t) {w : World} {n i : Nat} {cs : List Value} {xs : List (DataW H × List MemPlace)} {f : Field} (o k : Nat) (hF : f.type = T) (ho : f.offset = o) (hk : P.cellsOf T = k)
    (hg : DataW.trod enc P w 0 (fun _ => true) true n f.type ((cs.drop f.offset).take (P.cellsOf f.type)) = xs[i]?) (hi : i < xs.length) : ∃ x, t.rv (mem w) ((cs.drop o).take k) x := by
  subst hF; subst ho; subst hk
  exact hR H enc w n _ xs[i] (hg.trans (List.getElem?_eq_getElem hi))
end
end Go.Proofs.Ytjenfhkikbndmaa
/- The frame of a law's statement: what is common to all laws. -/
namespace Go.Proofs.Ytjenfhkikbndmaa
open Go.ChangeShapes Go.WideShapes Go.ChangeAt Go.RowKit

theorem Try.own : ownKnob Try.prog.godebug = none := by kernel_rfl
theorem Try.laidOut : laidOutB Try.prog = true := by kernel_rfl

theorem args_below {H : Type} {enc : TypeId × Value → H} {P : Program} (hl : laidOutB P = true) {W W' : World} (hb : Below W.heap.size W W') : ∀ (ts : List TypeId) (vs : List Value) (ds : List (DataW H)) (ps : List MemPlace),
    (∀ t ∈ ts, P.readableRec t = true ∧ t < P.types.size) → DataW.TrodAll enc P W 0 (fun _ => true) true ts vs ds ps → DataW.TrodAll enc P W' 0 (fun b => decide (b < W.heap.size)) true ts vs ds ps
  | [], [], [], _, _, h => h
  | t :: ts, v :: vs, d :: ds, ps, hr, h => by
    obtain ⟨p, q, h1, h2, rfl⟩ := h
    obtain ⟨r1, r2⟩ := hr t (by simp)
    have lt0 : ∀ x ∈ p, x.block < W.heap.size := by obtain ⟨m, hm⟩ := h1; exact DataW.trod_lt m _ _ _ hm
    exact ⟨p, q, Below.trod hl r1 r2 h1 hb lt0, args_below hl hb ts vs ds q (fun t ht => hr t (by simp [ht])) h2, rfl⟩
  | [], _ :: _, _, _, _, h => h.elim
  | [], [], _ :: _, _, _, h => h.elim
  | _ :: _, [], _, _, _, h => h.elim
  | _ :: _, _ :: _, [], _, _, h => h.elim

theorem law_post {H : Type} {enc : TypeId × Value → H} {P : Program} {f : Func} {s : ChangeSpec} {W W' : World} {args : Array Value} {ds gs : List (DataW H)} {before : List MemPlace} (hl : laidOutB P = true) (hv : s.vars = [])
    (hread : ∀ t ∈ f.params.toList, P.readableRec t = true ∧ t < P.types.size) {T : TypeId} (hres : f.resultTypes = #[T]) (hT : P.underlying T = some .bool)
    (hfr : (s.fn H (ds ++ gs)).results = [.lit (.bool true)]) (hfa : (s.fn H (ds ++ gs)).args = ds) (hfv : (s.fn H (ds ++ gs)).vars = [])
    (hW : DataW.Whole enc P f.params.toList s.vars false W args.toList ds gs before) (hb : Below W.heap.size W W') : s.post enc P f false true false false W args (.bool true) W' := by
  have hW' := hW
  obtain ⟨p, q, hA, hV, rfl, _, _⟩ := hW
  refine ⟨ds, gs, _, [], p, [], hW', ?_, ?_, ?_, hb.frame _, fun h => by cases h⟩
  · rw [hfr, hres]
    exact trodAll_mk1 (shut_bool hT _)
  · rw [hfa]
    exact args_below hl hb _ _ _ _ hread hA
  · rw [hfv, hv]; rfl

/-- A slice among the arguments, as plain data. -/
theorem arg_slice {H : Type} {enc : TypeId × Value → H} {P : Program} {W : World} {T E : TypeId} {v : Value} {d : DataW H} {p : List MemPlace} {α : Type} {t : Ty α} (hR : Reads P T (tSlice t)) (hT : P.underlying T = some (.slice E)) {r : Reach} {base : Nat}
    (hval : Value.okWide P W r base T v) (h : DataW.Trod enc P W 0 (fun _ => true) true T v d p) : ∃ xs, (tSlice t).rv (mem W) [v] xs := by
  obtain ⟨a0, len0, cap0, rfl⟩ := okWide_slice hT hval
  obtain ⟨fuel, hf⟩ := h
  obtain ⟨x, hx⟩ := hR H enc W fuel _ _ hf
  exact ⟨x, by simpa [Value.cells] using hx⟩
theorem arg_int {H : Type} {enc : TypeId × Value → H} {P : Program} {W : World} {T : TypeId} {v : Value} {d : DataW H} {p : List MemPlace} (hT : P.underlying T = some (.int .i64)) {r : Reach} {base : Nat}
    (hval : Value.okWide P W r base T v) (h : DataW.Trod enc P W 0 (fun _ => true) true T v d p) : ∃ n, v = .int .i64 n ∧ inI64 n := by
  obtain ⟨n, rfl, _, _, hw⟩ := open_int hT hval h
  refine ⟨n, rfl, ?_⟩
  have : -9223372036854775808 ≤ n ∧ n ≤ 9223372036854775807 := by simpa [Lit.wf, IntKind.min, IntKind.max, IntKind.signed, IntKind.bits] using hw
  exact this
theorem arg_str {H : Type} {enc : TypeId × Value → H} {P : Program} {W : World} {T : TypeId} {v : Value} {d : DataW H} {p : List MemPlace} (hT : P.underlying T = some .string) {r : Reach} {base : Nat}
    (hval : Value.okWide P W r base T v) (h : DataW.Trod enc P W 0 (fun _ => true) true T v d p) : ∃ s, v = .string s ∧ s.size ≤ maxLen := by
  obtain ⟨s, rfl, _, _, hs⟩ := Go.ChangeMaps.open_string hT hval h
  exact ⟨s, rfl, hs⟩
end Go.Proofs.Ytjenfhkikbndmaa
/- Arguments that are structs or arrays, as plain data; pairs of numbers. -/
namespace Go.Proofs.Ytjenfhkikbndmaa
open Go.ChangeShapes Go.WideShapes Go.ChangeAt Go.RowKit

def tInt2 : Ty (Int × Int) := ⟨2, fun _ cs x => cs = [.int .i64 x.1, .int .i64 x.2] ∧ inI64 x.1 ∧ inI64 x.2, fun _ _ _ h => by rw [h.1]; rfl, fun _ _ _ _ _ h => h⟩
theorem tInt2_flat : tInt2.flat := fun _ _ _ _ h => h
theorem int2_at {m : Mem} {b o : Nat} {x : Int × Int} (h : tInt2.at m b o x) : m b o = some (.int .i64 x.1) ∧ m b (o + 1) = some (.int .i64 x.2) ∧ inI64 x.1 ∧ inI64 x.2 := by
  obtain ⟨cs, h1, rfl, h3, h4⟩ := h
  exact ⟨h1 0 _ rfl, h1 1 _ rfl, h3, h4⟩
theorem reads_int2 {P : Program} {T E : TypeId} (ht : P.underlying T = some (.array 2 E)) (hE : P.underlying E = some (.int .i64)) (hc : P.cellsOf E = 1) (hT : P.cellsOf T = 2) : Reads P T tInt2 := fun H enc w n cs d h => by
  obtain ⟨xs, m, _, _, hl, hx, hg⟩ := DataW.trod_array ht h
  rw [hT] at hl
  rw [hc] at hg
  match cs, hl with
  | [c0, c1], _ =>
    have g0 := hg 0 (by omega)
    have g1 := hg 1 (by omega)
    simp only [Nat.zero_mul, List.drop_zero, List.take_succ_cons, List.take_zero, Nat.one_mul, List.drop_succ_cons] at g0 g1
    obtain ⟨x0, r0, i0⟩ := reads_int hE H enc w m [c0] xs[0] (g0.trans (List.getElem?_eq_getElem (by omega)))
    obtain ⟨x1, r1, i1⟩ := reads_int hE H enc w m [c1] xs[1] (g1.trans (List.getElem?_eq_getElem (by omega)))
    simp only [List.cons.injEq, and_true] at r0 r1
    exact ⟨(x0, x1), by rw [r0, r1], i0, i1⟩
theorem arg_array {H : Type} {enc : TypeId × Value → H} {P : Program} {W : World} {T E : TypeId} {k : Nat} {v : Value} {d : DataW H} {p : List MemPlace} {α : Type} {t : Ty α} (hR : Reads P T t) (hT : P.underlying T = some (.array k E)) {r : Reach} {base : Nat}
    (hval : Value.okWide P W r base T v) (h : DataW.Trod enc P W 0 (fun _ => true) true T v d p) : ∃ x cs, v = .agg cs ∧ t.rv (mem W) cs.toList x := by
  unfold Value.okWide at hval
  rw [hT] at hval
  obtain ⟨cs, rfl, _⟩ := hval
  obtain ⟨fuel, hf⟩ := h
  obtain ⟨x, hx⟩ := hR H enc W fuel _ _ hf
  exact ⟨x, cs, rfl, by simpa [Value.cells] using hx⟩
theorem arg_struct {H : Type} {enc : TypeId × Value → H} {P : Program} {W : World} {T : TypeId} {fs : Array Field} {v : Value} {d : DataW H} {p : List MemPlace} {α : Type} {t : Ty α} (hR : Reads P T t) (hT : P.underlying T = some (.struct fs)) {r : Reach} {base : Nat}
    (hval : Value.okWide P W r base T v) (h : DataW.Trod enc P W 0 (fun _ => true) true T v d p) : ∃ x cs, v = .agg cs ∧ t.rv (mem W) cs.toList x := by
  unfold Value.okWide at hval
  rw [hT] at hval
  obtain ⟨cs, rfl, _⟩ := hval
  obtain ⟨fuel, hf⟩ := h
  obtain ⟨x, hx⟩ := hR H enc W fuel _ _ hf
  exact ⟨x, cs, rfl, by simpa [Value.cells] using hx⟩
end Go.Proofs.Ytjenfhkikbndmaa
/- Orders: comparison functions, bytes: plain (XOrd's first part). -/
namespace Go.Proofs.Ytjenfhkikbndmaa

def bl (s : ByteArray) : List UInt8 := s.data.toList
theorem bl_inj {s t : ByteArray} (h : bl s = bl t) : s = t := by
  cases s; cases t; simpa [bl] using h

structure Good {α : Type} (c : α → α → Int) : Prop where
  refl : ∀ a, c a a = 0
  anti : ∀ a b, c b a = - c a b
  range : ∀ a b, c a b = -1 ∨ c a b = 0 ∨ c a b = 1
  trans : ∀ a b d, c a b ≤ 0 → c b d ≤ 0 → c a d ≤ 0 ∧ (c a d = 0 → c a b = 0 ∧ c b d = 0)

def cmpInt (a b : Int) : Int := if a < b then -1 else if b < a then 1 else 0
theorem cmpInt_good : Good cmpInt := by
  refine ⟨fun a => ?_, fun a b => ?_, fun a b => ?_, fun a b d => ?_⟩ <;> unfold cmpInt
  · simp
  · repeat' split
    all_goals omega
  · repeat' split
    all_goals omega
  · repeat' split
    all_goals omega
theorem Good.pull {α β : Type} {c : β → β → Int} (h : Good c) (f : α → β) : Good (fun a b => c (f a) (f b)) :=
  ⟨fun a => h.refl _, fun a b => h.anti _ _, fun a b => h.range _ _, fun a b d => h.trans _ _ _⟩
def lex {α : Type} (c1 c2 : α → α → Int) (a b : α) : Int := if c1 a b ≠ 0 then c1 a b else c2 a b
theorem lex_good {α : Type} {c1 c2 : α → α → Int} (h1 : Good c1) (h2 : Good c2) : Good (lex c1 c2) := by
  refine ⟨fun a => ?_, fun a b => ?_, fun a b => ?_, fun a b d => ?_⟩ <;> unfold lex
  · rw [h1.refl, h2.refl]; simp
  · have e1 := h1.anti a b
    have e2 := h2.anti a b
    repeat' split
    all_goals omega
  · have e1 := h1.range a b
    have e2 := h2.range a b
    split
    all_goals omega
  · have r1 := h1.range a b
    have r2 := h1.range b d
    have r3 := h1.range a d
    have t1 := h1.trans a b d
    have t2 := h2.trans a b d
    by_cases hx : c1 a b ≤ 0
    · by_cases hy : c1 b d ≤ 0
      · have t1 := t1 hx hy
        by_cases hx2 : c2 a b ≤ 0
        · by_cases hy2 : c2 b d ≤ 0
          · have t2 := t2 hx2 hy2
            repeat' split
            all_goals omega
          · repeat' split
            all_goals omega
        · repeat' split
          all_goals omega
      · repeat' split
        all_goals omega
    · repeat' split
      all_goals omega
def lexList {α : Type} (c : α → α → Int) : List α → List α → Int
  | [], [] => 0
  | [], _ :: _ => -1
  | _ :: _, [] => 1
  | a :: l, b :: m => if c a b ≠ 0 then c a b else lexList c l m
theorem lexList_good {α : Type} {c : α → α → Int} (h : Good c) : Good (lexList c) := by
  have hrefl : ∀ a, lexList c a a = 0 := fun a => by
    induction a with
    | nil => rfl
    | cons x l ih => simp [lexList, h.refl, ih]
  have hanti : ∀ a b, lexList c b a = - lexList c a b := fun a => by
    induction a with
    | nil => intro b; cases b <;> rfl
    | cons x l ih =>
      intro b
      cases b with
      | nil => rfl
      | cons y m =>
        have e1 := h.anti x y
        have e2 := ih m
        simp only [lexList]
        repeat' split
        all_goals omega
  have hrange : ∀ a b, lexList c a b = -1 ∨ lexList c a b = 0 ∨ lexList c a b = 1 := fun a => by
    induction a with
    | nil => intro b; cases b <;> simp [lexList]
    | cons x l ih =>
      intro b
      cases b with
      | nil => simp [lexList]
      | cons y m =>
        have e1 := h.range x y
        have e2 := ih m
        simp only [lexList]
        split
        all_goals omega
  refine ⟨hrefl, hanti, hrange, fun a => ?_⟩
  induction a with
  | nil =>
    intro b d
    cases b <;> cases d <;> simp [lexList]
  | cons x l ih =>
    intro b d
    cases b with
    | nil => simp [lexList]
    | cons y m =>
      cases d with
      | nil =>
        intro h1 h2
        simp [lexList] at h2
      | cons z n =>
        have r1 := h.range x y
        have r2 := h.range y z
        have r3 := h.range x z
        have t1 := h.trans x y z
        have t2 := ih m n
        simp only [lexList]
        by_cases hx : c x y ≤ 0
        · by_cases hy : c y z ≤ 0
          · have t1 := t1 hx hy
            by_cases hx2 : lexList c l m ≤ 0
            · by_cases hy2 : lexList c m n ≤ 0
              · have t2 := t2 hx2 hy2
                repeat' split
                all_goals omega
              · repeat' split
                all_goals omega
            · repeat' split
              all_goals omega
          · repeat' split
            all_goals omega
        · repeat' split
          all_goals omega

def cmpBytes : List UInt8 → List UInt8 → Int := lexList (fun a b => cmpInt a.toNat b.toNat)
theorem cmpBytes_good : Good cmpBytes := lexList_good (cmpInt_good.pull (fun a : UInt8 => (a.toNat : Int)))
theorem bytesLess_cmp : ∀ a b : List UInt8, Op.bytesLess a b = decide (cmpBytes a b < 0)
  | [], [] => rfl
  | [], _ :: _ => rfl
  | _ :: _, [] => rfl
  | a :: x, b :: y => by
    have ih := bytesLess_cmp x y
    have e : (a < b) = (a.toNat < b.toNat) := rfl
    simp only [Op.bytesLess, ih, cmpBytes, lexList, cmpInt]
    by_cases h1 : a.toNat < b.toNat
    · have h1' : a < b := h1
      simp [h1, h1']
    · have h1' : ¬ a < b := h1
      by_cases h2 : b.toNat < a.toNat
      · have h3 : (a == b) = false := by
          rw [beq_eq_false_iff_ne]; rintro rfl; omega
        simp [h3, h1', h1, h2]
      · obtain rfl : a = b := UInt8.toNat_inj.1 (by omega)
        simp [cmpBytes]
theorem bytesEq_cmp (a b : List UInt8) : (a == b) = decide (cmpBytes a b = 0) := by
  induction a generalizing b with
  | nil => cases b <;> rfl
  | cons x l ih =>
    cases b with
    | nil => rfl
    | cons y m =>
      rw [List.cons_beq_cons, ih m]
      simp only [cmpBytes, lexList, cmpInt]
      by_cases h : x = y
      · subst h; simp
      · have h3 : (x == y) = false := by rw [beq_eq_false_iff_ne]; exact h
        have h4 : ¬ x.toNat = y.toNat := fun e => h (UInt8.toNat_inj.1 e)
        rw [h3]
        simp
        repeat' split
        all_goals first | omega | simp
theorem bytesGtr_cmp (a b : List UInt8) : (!(Op.bytesLess a b || a == b)) = decide (0 < cmpBytes a b) := by
  rw [bytesLess_cmp, bytesEq_cmp]
  by_cases h : 0 < cmpBytes a b
  · have h1 : ¬ cmpBytes a b < 0 := by omega
    have h2 : ¬ cmpBytes a b = 0 := by omega
    simp [h, h1, h2]
  · by_cases h1 : cmpBytes a b < 0
    · simp [h, h1]
    · have h2 : cmpBytes a b = 0 := by omega
      simp [h2]

theorem cmpBytes_eq {a b : List UInt8} (h : cmpBytes a b = 0) : a = b := by
  have := bytesEq_cmp a b
  rw [h] at this
  simpa using this
end Go.Proofs.Ytjenfhkikbndmaa
/- Places of entries within a group: their order: plain. -/
namespace Go.Proofs.Ytjenfhkikbndmaa

/-- Where an entry stands within a group: name, key. -/
abbrev Spot := ByteArray × ByteArray
def spotC : Spot → Spot → Int := lex (fun a b => cmpBytes a.1.toList b.1.toList) (fun a b => cmpBytes a.2.toList b.2.toList)
theorem spotC_good : Good spotC := lex_good (cmpBytes_good.pull (fun a : Spot => a.1.toList)) (cmpBytes_good.pull (fun a : Spot => a.2.toList))
theorem spotC_eq {a b : Spot} (h : spotC a b = 0) : a = b := by
  have h1 : cmpBytes a.1.toList b.1.toList = 0 := by
    unfold spotC lex at h
    split at h
    · omega
    · next h1 => exact Classical.not_not.1 h1
  have h2 : cmpBytes a.2.toList b.2.toList = 0 := by
    unfold spotC lex at h
    rw [if_neg (by simpa using h1)] at h
    exact h
  have e1 := cmpBytes_eq h1
  have e2 := cmpBytes_eq h2
  rw [Lib.toList_data, Lib.toList_data] at e1 e2
  exact Prod.ext (bl_inj e1) (bl_inj e2)
/-- The keys of a map, ascending. -/
structure Keysof {α : Type} (f : Spot → Option α) (ss : List Spot) : Prop where
  up : ss.Pairwise (fun a b => spotC a b < 0)
  mem : ∀ k, k ∈ ss ↔ (f k).isSome = true
theorem sorted_unique {α : Type} {c : α → α → Int} (g : Good c) : ∀ {l m : List α}, l.Pairwise (fun a b => c a b < 0) → m.Pairwise (fun a b => c a b < 0) → (∀ x, x ∈ l ↔ x ∈ m) → l = m
  | [], [], _, _, _ => rfl
  | [], y :: m, _, _, h => absurd ((h y).2 List.mem_cons_self) (by simp)
  | x :: l, [], _, _, h => absurd ((h x).1 List.mem_cons_self) (by simp)
  | x :: l, y :: m, hl, hm, h => by
    rw [List.pairwise_cons] at hl hm
    have hxy : x = y := by
      rcases List.mem_cons.1 ((h x).1 List.mem_cons_self) with e | e
      · exact e
      rcases List.mem_cons.1 ((h y).2 List.mem_cons_self) with e' | e'
      · exact e'.symm
      · have h1 := hm.1 x e
        have h2 := hl.1 y e'
        have := g.anti x y
        omega
    subst hxy
    have hnx : ∀ {k : List α}, (∀ a ∈ k, c x a < 0) → x ∉ k := fun hk hx => by have := hk x hx; have := g.refl x; omega
    rw [sorted_unique g hl.2 hm.2 (fun z => ?_)]
    constructor
    · intro hz
      rcases List.mem_cons.1 ((h z).1 (List.mem_cons_of_mem _ hz)) with e | e
      · subst e; exact absurd hz (hnx hl.1)
      · exact e
    · intro hz
      rcases List.mem_cons.1 ((h z).2 (List.mem_cons_of_mem _ hz)) with e | e
      · subst e; exact absurd hz (hnx hm.1)
      · exact e
theorem Keysof.unique {α : Type} {f : Spot → Option α} {ss tt : List Spot} (h : Keysof f ss) (h' : Keysof f tt) : ss = tt :=
  sorted_unique spotC_good h.up h'.up (fun k => (h.mem k).trans (h'.mem k).symm)
theorem Good.lt_trans {α : Type} {c : α → α → Int} (g : Good c) {a b d : α} (h1 : c a b < 0) (h2 : c b d < 0) : c a d < 0 := by
  have := g.trans a b d (by omega) (by omega)
  by_cases h : c a d = 0
  · have := this.2 h; omega
  · omega
end Go.Proofs.Ytjenfhkikbndmaa
/- Entries and their places (out of XHIter and XHRel, so that a seat without package heap has them). -/
namespace Go.Proofs.Ytjenfhkikbndmaa
open Go.RowKit
/-- An entry. -/
structure Ent where
  g : Int
  nm : ByteArray
  key : ByteArray
  val : ByteArray
deriving Inhabited
def Ent.okE (x : Ent) : Prop := inI64 x.g ∧ x.nm.size ≤ maxLen ∧ x.key.size ≤ maxLen ∧ x.val.size ≤ maxLen
def tEnt : Ty Ent := ⟨4, fun _ cs x => cs = [.int .i64 x.g, .string x.nm, .string x.key, .string x.val] ∧ x.okE, fun _ _ _ h => by rw [h.1]; rfl, fun _ _ _ _ _ h => h⟩
theorem tEnt_flat : tEnt.flat := fun _ _ _ _ h => h
abbrev tEnts : Ty (List Ent) := tSlice tEnt
abbrev Ent.v (x : Ent) : Value := .agg #[.int .i64 x.g, .string x.nm, .string x.key, .string x.val]
def placeC : Ent → Ent → Int := lex (fun a b => cmpInt a.g b.g) (fun a b => spotC (a.nm, a.key) (b.nm, b.key))
theorem placeC_good : Good placeC := lex_good (cmpInt_good.pull (fun a : Ent => a.g)) (spotC_good.pull (fun a : Ent => (a.nm, a.key)))
end Go.Proofs.Ytjenfhkikbndmaa
/- Maps of the call's own, told by what stands at each key, for elements of any kind. No program in sight. -/
namespace Go.Proofs.Ytjenfhkikbndmaa
open Go.RowKit Go.Maps

def rawE : Value → Option (DataW Value × List MemPlace) := fun v => some (.held v, [])
/-- How one value (an element of a map) reads. -/
structure VR (α : Type) where
  rel : Mem → Value → α → Prop
  mono : ∀ m m' v x, m.le m' → rel m v x → rel m' v x
def vBool : VR Bool := ⟨fun _ v x => v = .bool x, fun _ _ _ _ _ h => h⟩
def vInt : VR Int := ⟨fun _ v x => v = .int .i64 x ∧ inI64 x, fun _ _ _ _ _ h => h⟩
def Ty.one {α : Type} (t : Ty α) : VR α := ⟨fun m v x => t.rv m [v] x, fun _ _ _ _ h k => t.mono _ _ _ _ h k⟩

section
variable {κ α : Type} {P : Program} {k : TypeId} {lk : κ → Lit} {vr : VR α}
/-- What the entries are, key by key. -/
def MapSays (lk : κ → Lit) (vr : VR α) (m : Mem) (D : DataW Value) (f : κ → Option α) : Prop :=
  (∀ x, f x = none → Maps.has D (lk x) = false) ∧ (∀ x a, f x = some a → Maps.has D (lk x) = true ∧ ∃ v, (∀ z, D.atKey (lk x) z = .held v) ∧ vr.rel m v a) ∧ (∀ l, Maps.has D l = true → ∃ x, l = lk x)
theorem MapSays.mono {m m' : Mem} {D : DataW Value} {f : κ → Option α} (h : MapSays lk vr m D f) (hm : m.le m') : MapSays lk vr m' D f :=
  ⟨h.1, fun x a e => let ⟨g, v, g1, g2⟩ := h.2.1 x a e; ⟨g, v, g1, vr.mono _ _ _ _ hm g2⟩, h.2.2⟩
def MapOf (P : Program) (k : TypeId) (lk : κ → Lit) (vr : VR α) (w : World) (b n : Nat) (f : κ → Option α) : Prop :=
  ∃ D, w.ownsMap P k rawE b n D ∧ MapSays lk vr (mem w) D f

theorem mapBlock_mem {w : World} {b n : Nat} {D : DataW Value} (h : w.ownsMap P k rawE b n D) (o : Nat) : mem w b o = none := by
  obtain ⟨es, clock, hb, _⟩ := h
  simp [mem, World.cell?, hb]
theorem grown_mem {w w' : World} {b n : Nat} {D : DataW Value} (h : w.ownsMap P k rawE b n D) (hg : w.grownBy w' (some b)) : (mem w).le (mem w') := fun i o v e => by
  by_cases hi : i = b
  · subst hi; rw [mapBlock_mem h] at e; cases e
  · exact (mem_of_block (hg.block i (mem_lt e) (fun e => hi (by injection e))) o).trans e

theorem MapOf.made (w : World) : MapOf P k lk vr (w.alloc (.map #[] 0)) w.heap.size 0 (fun _ => (none : Option α)) :=
  ⟨.map [], World.ownsMap_made w P k rawE, fun _ _ => rfl, fun _ _ h => (by cases h), fun l h => (by simp [Maps.has] at h)⟩
theorem MapOf.lt {w : World} {b n : Nat} {f : κ → Option α} (h : MapOf P k lk vr w b n f) : b < w.heap.size := let ⟨_, h, _⟩ := h; h.lt
theorem MapOf.keeps {w w' : World} {b n : Nat} {f : κ → Option α} (h : MapOf P k lk vr w b n f) {F : Nat → Prop} (hk : Keeps F w w') (hF : ¬ F b) (hm : (mem w).le (mem w')) : MapOf P k lk vr w' b n f := by
  obtain ⟨D, ⟨es, clock, hb, r⟩, g⟩ := h
  exact ⟨D, ⟨es, clock, by rw [hk.block b (Array.getElem?_eq_some_iff.1 hb).1 hF]; exact hb, r⟩, g.mono hm⟩
theorem MapOf.below {w w' : World} {b n : Nat} {f : κ → Option α} (h : MapOf P k lk vr w b n f) (hb : Below w.heap.size w w') : MapOf P k lk vr w' b n f :=
  h.keeps (below_keeps hb) (by have := h.lt; omega) (below_mem hb)
theorem MapOf.mono {w : World} {b n n' : Nat} {f : κ → Option α} (h : MapOf P k lk vr w b n f) (hn : n ≤ n') : MapOf P k lk vr w b n' f :=
  let ⟨D, h1, h2⟩ := h; ⟨D, h1.mono hn, h2⟩
theorem MapOf.alloc {w : World} {b n : Nat} {f : κ → Option α} (h : MapOf P k lk vr w b n f) (o : Obj) : MapOf P k lk vr (w.alloc o) b n f :=
  h.below ((Below.refl _ _).alloc (Nat.le_refl _) o)
theorem MapOf.drew {w : World} {b n : Nat} {f : κ → Option α} (h : MapOf P k lk vr w b n f) : MapOf P k lk vr w.drew b n f :=
  h.below (Below.refl _ _).drew

open Classical in
noncomputable def putAt (f : κ → Option α) (x : κ) (a : α) : κ → Option α := fun y => if y = x then some a else f y
theorem putAt_same (f : κ → Option α) (x : κ) (a : α) : putAt f x a x = some a := by simp [putAt]
theorem putAt_other (f : κ → Option α) {x y : κ} (a : α) (h : y ≠ x) : putAt f x a y = f y := by simp [putAt, h]

theorem MapSays.put1 {m m' : Mem} {D : DataW Value} {f : κ → Option α} (h : MapSays lk vr m D f) (hm : m.le m') (hD : IsMap D) {x : κ} {a : α} {v : Value} (hinj : ∀ y, lk y = lk x → y = x) (hk : WideAt.IsKeyLit (lk x)) (hv : vr.rel m' v a) :
    MapSays lk vr m' (D.put (lk x) (.held v)) (putAt f x a) := by
  refine ⟨fun y hy => ?_, fun y c hy => ?_, fun l hl => ?_⟩
  · by_cases e : y = x
    · subst e; rw [putAt_same] at hy; cases hy
    · rw [putAt_other _ _ e] at hy
      rw [has_put_other (fun e' => e (hinj _ e'))]
      exact h.1 y hy
  · by_cases e : y = x
    · subst e
      rw [putAt_same] at hy
      cases hy
      exact ⟨has_put_same hD hk _, v, fun z => atKey_put_same hD hk _ z, hv⟩
    · rw [putAt_other _ _ e] at hy
      obtain ⟨g, u, g1, g2⟩ := h.2.1 y c hy
      have hne : lk y ≠ lk x := fun e' => e (hinj _ e')
      exact ⟨by rw [has_put_other hne]; exact g, u, fun z => by rw [atKey_put_other hne]; exact g1 z, vr.mono _ _ _ _ hm g2⟩
  · by_cases e : l = lk x
    · exact ⟨x, e⟩
    · rw [has_put_other e] at hl
      exact h.2.2 l hl
theorem MapSays.put {m m' : Mem} {D : DataW Value} {f : κ → Option α} (h : MapSays lk vr m D f) (hm : m.le m') (hD : IsMap D) {x : κ} {a : α} {v : Value} (hinj : ∀ x y, lk x = lk y → x = y) (hk : WideAt.IsKeyLit (lk x)) (hv : vr.rel m' v a) :
    MapSays lk vr m' (D.put (lk x) (.held v)) (putAt f x a) := h.put1 hm hD (fun _ e => hinj _ _ e) hk hv
end

/-- An operation that is carried out (unguarded, or its guard says yes). -/
theorem wpList_want {P : Program} {ops : Array Oper} {rest : List Oper} {o : Oper} {a : Act} {Q : Exit → Act → World → Prop} {w : World} (hw : Region.wanted o (yielded ops a.tmps) = true)
    (h : ∀ K : Act → World → Prop, (∀ a w, wpList P ops Q rest a w → K a w) → o.wp P a w K Q) : wpList P ops Q (o :: rest) a w :=
  wpList_step fun K hK => by rw [if_pos hw]; exact h K hK

section
variable {κ α : Type} {P : Program} {lk : κ → Lit} {vr : VR α} (w : World) {ops : Array Oper} {rest : List Oper} {o : Oper} {a : Act} {Q : Exit → Act → World → Prop}

/-- 'm[k]'. -/
theorem wpList_lookup_map (hg : Region.wanted o (yielded ops a.tmps) = true) (m x : Operand) (t : TypeId) (hop : o.op = Op.lookup t m x false)
    (k e : TypeId) (K : Keyed P k) (ht : P.underlying t = some (.map k e)) {z : Value} (hz : (zeroValue e).run P w = .ok z w) (b n : Nat) (f : κ → Option α)
    (hm : a.eval m = .map (some b)) (hown : MapOf P k lk vr w b n f) (key : Value) (y : κ) (hx : a.eval x = key) (hkey : keyOf P k key = some (lk y))
    (hK : ∀ v, (f y = none → v = z) → (∀ c, f y = some c → vr.rel (mem w) v c) → wpList P ops Q rest (a.put o.dst v) w) :
    wpList P ops Q (o :: rest) a w := by
  refine wpList_want hg fun K' hK' => ?_
  obtain ⟨D, hown, h1, h2, _⟩ := hown
  obtain ⟨v, ps, hrun, hv⟩ := hown.lookup K ht hz (zd := .held z) (zp := []) rfl hkey
  unfold Oper.wp
  simp [execOp, hop, hm, hx, hrun, Result.andThen]
  simp only [rawE, Option.some.injEq, Prod.mk.injEq] at hv
  refine hK' _ _ (hK v (fun e => ?_) (fun c e => ?_))
  · have := hv.1
    rw [atKey_of_not_has (h1 y e)] at this
    injection this
  · obtain ⟨_, u, g1, g2⟩ := h2 y c e
    have := hv.1
    rw [g1] at this
    injection this with this
    rw [this]; exact g2

theorem wpList_lookup_bool (hg : Region.wanted o (yielded ops a.tmps) = true) (m x : Operand) (t : TypeId) (hop : o.op = Op.lookup t m x false)
    (k e : TypeId) (K : Keyed P k) (ht : P.underlying t = some (.map k e)) (hz : (zeroValue e).run P w = .ok (.bool false) w) (b n : Nat) (f : κ → Option Bool)
    (hm : a.eval m = .map (some b)) (hown : MapOf P k lk vBool w b n f) (key : Value) (y : κ) (hx : a.eval x = key) (hkey : keyOf P k key = some (lk y)) (q : Bool) (hq : (f y).getD false = q)
    (hK : wpList P ops Q rest (a.put o.dst (.bool q)) w) :
    wpList P ops Q (o :: rest) a w := by
  subst hq
  exact wpList_lookup_map w hg m x t hop k e K ht hz b n f hm hown key y hx hkey (fun v g1 g2 => by
    cases hf : f y with
    | none => rw [g1 hf]; rw [hf] at hK; exact hK
    | some c => rw [show v = .bool c from g2 c hf]; rw [hf] at hK; exact hK)
theorem wpList_lookup_int (hg : Region.wanted o (yielded ops a.tmps) = true) (m x : Operand) (t : TypeId) (hop : o.op = Op.lookup t m x false)
    (k e : TypeId) (K : Keyed P k) (ht : P.underlying t = some (.map k e)) (hz : (zeroValue e).run P w = .ok (.int .i64 0) w) (b n : Nat) (f : κ → Option Int)
    (hm : a.eval m = .map (some b)) (hown : MapOf P k lk vInt w b n f) (key : Value) (y : κ) (hx : a.eval x = key) (hkey : keyOf P k key = some (lk y))
    (hK : wpList P ops Q rest (a.put o.dst (.int .i64 ((f y).getD 0))) w) :
    wpList P ops Q (o :: rest) a w :=
  wpList_lookup_map w hg m x t hop k e K ht hz b n f hm hown key y hx hkey (fun v g1 g2 => by
    cases hf : f y with
    | none => rw [g1 hf]; rw [hf] at hK; exact hK
    | some c => rw [(g2 c hf).1]; rw [hf] at hK; exact hK)

/-- 'v, ok := m[k]'. -/
theorem wpList_lookup_ok (hg : Region.wanted o (yielded ops a.tmps) = true) (m x : Operand) (t : TypeId) (hop : o.op = Op.lookup t m x true)
    (k e : TypeId) (K : Keyed P k) (ht : P.underlying t = some (.map k e)) {z : Value} (hz : (zeroValue e).run P w = .ok z w) (b n : Nat) (f : κ → Option α)
    (hm : a.eval m = .map (some b)) (hown : MapOf P k lk vr w b n f) (key : Value) (y : κ) (hx : a.eval x = key) (hkey : keyOf P k key = some (lk y))
    (hK : ∀ v, (f y = none → v = z) → (∀ c, f y = some c → vr.rel (mem w) v c) → wpList P ops Q rest (a.put o.dst (.tuple #[v, .bool (f y).isSome])) w) :
    wpList P ops Q (o :: rest) a w := by
  refine wpList_want hg fun K' hK' => ?_
  obtain ⟨D, hown, h1, h2, _⟩ := hown
  obtain ⟨v, ps, hrun, hv⟩ := hown.look_ok K ht hz (zd := .held z) (zp := []) rfl hkey
  have hs : Maps.has D (lk y) = (f y).isSome := by
    cases hf : f y with
    | none => exact h1 y hf
    | some c => exact (h2 y c hf).1
  rw [hs] at hrun
  unfold Oper.wp
  simp [execOp, hop, hm, hx, hrun, Result.andThen]
  simp only [rawE, Option.some.injEq, Prod.mk.injEq] at hv
  refine hK' _ _ (hK v (fun e => ?_) (fun c e => ?_))
  · have := hv.1
    rw [atKey_of_not_has (h1 y e)] at this
    injection this
  · obtain ⟨_, u, g1, g2⟩ := h2 y c e
    have := hv.1
    rw [g1] at this
    injection this with this
    rw [this]; exact g2

/-- 'm[k] = v'. -/
theorem wpList_update_map (hg : Region.wanted o (yielded ops a.tmps) = true) (m x v : Operand) (t : TypeId) (hop : o.op = Op.mapUpdate t m x v)
    (k e : TypeId) (K : Keyed P k) (ht : P.underlying t = some (.map k e)) (b n : Nat) (f : κ → Option α) (hinj : ∀ x y, lk x = lk y → x = y)
    (hm : a.eval m = .map (some b)) (hown : MapOf P k lk vr w b n f) (hn : n < maxLen) (key val : Value) (y : κ) (c : α) (hx : a.eval x = key) (hv : a.eval v = val) (hkey : keyOf P k key = some (lk y))
    (hval : vr.rel (mem w) val c)
    (hK : ∀ w', MapOf P k lk vr w' b (n + 1) (putAt f y c) → w.grownBy w' (some b) → (mem w).le (mem w') → wpList P ops Q rest (a.put o.dst undef) w') :
    wpList P ops Q (o :: rest) a w := by
  obtain ⟨D, hown, hs⟩ := hown
  refine wpList_want hg fun K' hK' => ?_
  obtain ⟨w', hrun, ho, hgr⟩ := hown.update K ht hn hkey (R := rawE) (val := val) (d := .held val) (ps := []) rfl
  have hle := grown_mem hown hgr
  unfold Oper.wp
  simp [execOp, hop, hm, hx, hv, hrun, Result.andThen]
  refine hK' _ _ ?_
  exact hK w' ⟨_, ho, hs.put hle hown.isMap hinj (K.key hkey) (vr.mono _ _ _ _ hle hval)⟩ hgr hle

/-- 'len(m)'. -/
theorem wpList_len_map (hg : Region.wanted o (yielded ops a.tmps) = true) (m : Operand) (t : TypeId) (hop : o.op = Op.call { callee := Callee.builtin Builtin.len, args := #[m], argTypes := #[t] })
    (k e : TypeId) (ht : P.underlying t = some (.map k e)) (b n : Nat) (f : κ → Option α) (hm : a.eval m = .map (some b)) (hown : MapOf P k lk vr w b n f)
    (hK : ∀ D, w.ownsMap P k rawE b n D → MapSays lk vr (mem w) D f → wpList P ops Q rest (a.put o.dst (.int .i64 (Maps.size D))) w) :
    wpList P ops Q (o :: rest) a w := by
  obtain ⟨D, hown, hs⟩ := hown
  refine wpList_want hg fun K' hK' => ?_
  unfold Oper.wp
  simp [execOp, hop, resolve, invoke, builtin, hm, hown.len ht o.type, Result.andThen]
  exact hK' _ _ (hK D hown hs)
end

/-! ### texts as keys -/
def strKey (s : ByteArray) : Lit := .string s.data.toList
theorem strKey_inj (x y : ByteArray) (h : strKey x = strKey y) : x = y := by
  obtain ⟨⟨l⟩⟩ := x
  obtain ⟨⟨l'⟩⟩ := y
  simpa [strKey] using h
theorem keyOf_str {P : Program} {k : TypeId} (hk : P.underlying k = some .string) {s : ByteArray} (hs : s.size ≤ maxLen) : keyOf P k (.string s) = some (strKey s) := Go.WideMaps.keyOf_string_mk hk hs
end Go.Proofs.Ytjenfhkikbndmaa
/- Ascending lists that are merged, the newest first (for chapter 14). No program in sight. -/
namespace Go.Proofs.Ytjenfhkikbndmaa
section
variable {α : Type} (c : α → α → Int)
def AscC (l : List α) : Prop := l.Pairwise (fun a b => c a b < 0)
/-- A list with one more, in the place of that of its key. -/
def withC (l : List α) (x : α) : List α := l.filter (fun y => decide (c y x < 0)) ++ x :: l.filter (fun y => decide (c x y < 0))
/-- A list without that of a key. -/
def lessC (l : List α) (x : α) : List α := l.filter (fun y => decide (c y x < 0)) ++ l.filter (fun y => decide (c x y < 0))
/-- Lists merged: the first one is the newest. -/
def mergeC : List (List α) → List α
  | [] => []
  | l :: ls => l.foldl (withC c) (mergeC ls)
variable {c} (hg : Good c)
include hg
theorem goodLt {a b d : α} (h : c a b < 0) (k : c b d < 0) : c a d < 0 := by
  have := hg.trans a b d (by omega) (by omega)
  by_cases e : c a d = 0
  · have := (this.2 e).1; omega
  · omega
theorem ascC_unique {l m : List α} (h : AscC c l) (k : AscC c m) (e : ∀ x, x ∈ l ↔ x ∈ m) : l = m := sorted_unique hg h k e
theorem withC_asc {l : List α} (h : AscC c l) (x : α) : AscC c (withC c l x) := by
  refine List.pairwise_append.2 ⟨List.Pairwise.filter _ h, List.pairwise_cons.2 ⟨fun b hb => of_decide_eq_true (List.mem_filter.1 hb).2, List.Pairwise.filter _ h⟩, fun a ha b hb => ?_⟩
  have h1 := of_decide_eq_true (List.mem_filter.1 ha).2
  rcases List.mem_cons.1 hb with e | hb
  · rw [e]; exact h1
  · exact goodLt hg h1 (of_decide_eq_true (List.mem_filter.1 hb).2)
theorem mem_withC {l : List α} {x y : α} : y ∈ withC c l x ↔ y = x ∨ (y ∈ l ∧ c y x ≠ 0) := by
  unfold withC
  rw [List.mem_append, List.mem_cons, List.mem_filter, List.mem_filter]
  simp only [decide_eq_true_eq]
  have ha := hg.anti y x
  constructor
  · rintro (⟨h1, h2⟩ | h | ⟨h1, h2⟩)
    · exact .inr ⟨h1, by omega⟩
    · exact .inl h
    · exact .inr ⟨h1, by omega⟩
  · rintro (h | ⟨h1, h2⟩)
    · exact .inr (.inl h)
    · by_cases h3 : c y x < 0
      · exact .inl ⟨h1, h3⟩
      · exact .inr (.inr ⟨h1, by omega⟩)
theorem foldC_asc : ∀ (l : List α) {m : List α}, AscC c m → AscC c (l.foldl (withC c) m)
  | [], _, h => h
  | x :: l, _, h => foldC_asc l (withC_asc hg h x)
theorem mem_foldC : ∀ {l m : List α} {y : α}, AscC c l → (y ∈ l.foldl (withC c) m ↔ y ∈ l ∨ (y ∈ m ∧ ∀ z ∈ l, c y z ≠ 0))
  | [], m, y, _ => by simp
  | x :: l, m, y, h => by
    obtain ⟨h1, h2⟩ := List.pairwise_cons.1 h
    rw [List.foldl_cons, mem_foldC h2, mem_withC hg]
    simp only [List.mem_cons]
    constructor
    · rintro (k | ⟨k | ⟨k1, k2⟩, k3⟩)
      · exact .inl (.inr k)
      · exact .inl (.inl k)
      · exact .inr ⟨k1, fun z hz => by
          rcases hz with e | hz
          · rw [e]; exact k2
          · exact k3 z hz⟩
    · rintro ((k | k) | ⟨k1, k2⟩)
      · subst k
        exact .inr ⟨.inl rfl, fun z hz => by have := h1 z hz; omega⟩
      · exact .inl k
      · exact .inr ⟨.inr ⟨k1, k2 x (.inl rfl)⟩, fun z hz => k2 z (.inr hz)⟩
theorem mergeC_asc : ∀ ls : List (List α), AscC c (mergeC c ls)
  | [] => List.Pairwise.nil
  | l :: ls => foldC_asc hg l (mergeC_asc ls)
theorem mem_mergeC {l : List α} {ls : List (List α)} {y : α} (h : AscC c l) : y ∈ mergeC c (l :: ls) ↔ y ∈ l ∨ (y ∈ mergeC c ls ∧ ∀ z ∈ l, c y z ≠ 0) := mem_foldC hg h
theorem mergeC_sub : ∀ {ls : List (List α)} {y : α}, (∀ l ∈ ls, AscC c l) → y ∈ mergeC c ls → ∃ l ∈ ls, y ∈ l
  | [], y, _, h => by cases h
  | l :: ls, y, ha, h => by
    rcases (mem_mergeC hg (ha l List.mem_cons_self)).1 h with h | ⟨h, -⟩
    · exact ⟨l, List.mem_cons_self, h⟩
    · obtain ⟨m, hm, hy⟩ := mergeC_sub (fun m hm => ha m (List.mem_cons_of_mem _ hm)) h
      exact ⟨m, List.mem_cons_of_mem _ hm, hy⟩
theorem mergeC_has : ∀ {ls : List (List α)} {y : α}, (∀ l ∈ ls, AscC c l) → (∃ l ∈ ls, y ∈ l) → ∃ z ∈ mergeC c ls, c y z = 0
  | [], y, _, h => by obtain ⟨l, h, -⟩ := h; cases h
  | l :: ls, y, ha, h => by
    have hl := ha l List.mem_cons_self
    obtain ⟨m, hm, hy⟩ := h
    by_cases hz : ∃ z ∈ l, c y z = 0
    · obtain ⟨z, hz, e⟩ := hz
      exact ⟨z, (mem_mergeC hg hl).2 (.inl hz), e⟩
    · have hn : ∀ z ∈ l, c y z ≠ 0 := fun z h e => hz ⟨z, h, e⟩
      rcases List.mem_cons.1 hm with e | hm
      · subst e; exact absurd (hg.refl y) (hn y hy)
      · obtain ⟨z, h1, h2⟩ := mergeC_has (fun m hm => ha m (List.mem_cons_of_mem _ hm)) ⟨m, hm, hy⟩
        refine ⟨z, (mem_mergeC hg hl).2 (.inr ⟨h1, fun u hu e => hn u hu ?_⟩), h2⟩
        have := hg.trans y z u (by omega) (by omega)
        have a1 := hg.anti y z
        have a2 := hg.anti z u
        have := hg.trans u z y (by omega) (by omega)
        have a3 := hg.anti y u
        omega
/-- Lists in the midst count as one. -/
theorem mergeC_mid (a b m : List (List α)) (ha : ∀ l ∈ a, AscC c l) (hm : ∀ l ∈ m, AscC c l) : mergeC c (a ++ (m ++ b)) = mergeC c (a ++ (mergeC c m :: b)) := by
  induction a with
  | cons l a ih =>
    show l.foldl _ (mergeC c (a ++ (m ++ b))) = l.foldl _ (mergeC c (a ++ (mergeC c m :: b)))
    rw [ih (fun x hx => ha x (List.mem_cons_of_mem _ hx))]
  | nil =>
    rw [List.nil_append, List.nil_append]
    refine ascC_unique hg (mergeC_asc hg _) (mergeC_asc hg _) (fun y => ?_)
    rw [mem_mergeC hg (mergeC_asc hg m)]
    induction m with
    | nil => simp [mergeC]
    | cons l m ih =>
      have hl := hm l List.mem_cons_self
      have hm' : ∀ l ∈ m, AscC c l := fun x hx => hm x (List.mem_cons_of_mem _ hx)
      show y ∈ mergeC c (l :: (m ++ b)) ↔ _
      rw [mem_mergeC hg hl, ih hm', mem_mergeC hg hl]
      constructor
      · rintro (h | ⟨h | ⟨h1, h2⟩, h3⟩)
        · exact .inl (.inl h)
        · exact .inl (.inr ⟨h, h3⟩)
        · exact .inr ⟨h1, fun z hz => by
            rcases (mem_mergeC hg hl).1 hz with hz | ⟨hz, -⟩
            · exact h3 z hz
            · exact h2 z hz⟩
      · rintro ((h | ⟨h, h3⟩) | ⟨h1, h2⟩)
        · exact .inl h
        · exact .inr ⟨.inl h, h3⟩
        · refine .inr ⟨.inr ⟨h1, fun z hz => ?_⟩, fun z hz => h2 z ((mem_mergeC hg hl).2 (.inl hz))⟩
          by_cases hq : ∀ u ∈ l, c z u ≠ 0
          · exact h2 z ((mem_mergeC hg hl).2 (.inr ⟨hz, hq⟩))
          · intro e
            refine hq (fun u hu e2 => h2 u ((mem_mergeC hg hl).2 (.inl hu)) ?_)
            have a1 := hg.anti y z
            have a2 := hg.anti z u
            have := hg.trans y z u (by omega) (by omega)
            have := hg.trans u z y (by omega) (by omega)
            have a3 := hg.anti y u
            omega
end
end Go.Proofs.Ytjenfhkikbndmaa
/- Merged lists: what is yielded next, what is found, graves (for chapter 14). No program in sight. -/
namespace Go.Proofs.Ytjenfhkikbndmaa
section
variable {α : Type} {c : α → α → Int} (hg : Good c)
/-- A list without its first element, if that is of a key. -/
def dropEq (c : α → α → Int) (r : α) : List α → List α
  | [] => []
  | x :: t => if c x r = 0 then t else x :: t
theorem dropEq_cons (r x : α) (t : List α) : dropEq c r (x :: t) = if c x r = 0 then t else x :: t := rfl
/-- The newest of a key. -/
def lkC (c : α → α → Int) (ls : List (List α)) (x : α) : Option α := ls.findSome? fun l => l.find? fun y => decide (c y x = 0)
include hg
theorem goodEq {a b d : α} (h : c a b = 0) (k : c b d = 0) : c a d = 0 := by
  have h1 := hg.trans a b d (by omega) (by omega)
  have a1 := hg.anti a b
  have a2 := hg.anti b d
  have a3 := hg.anti a d
  have h2 := hg.trans d b a (by omega) (by omega)
  omega
theorem goodEqL {a b d : α} (h : c a b = 0) (k : c b d < 0) : c a d < 0 := by
  have h1 := hg.trans a b d (by omega) (by omega)
  by_cases e : c a d = 0
  · have := (h1.2 e).2; omega
  · omega
theorem goodEqR {a b d : α} (h : c a b < 0) (k : c b d = 0) : c a d < 0 := by
  have h1 := hg.trans a b d (by omega) (by omega)
  by_cases e : c a d = 0
  · have := (h1.2 e).1; omega
  · omega
theorem ascC_eq {l : List α} (h : AscC c l) {x y : α} (hx : x ∈ l) (hy : y ∈ l) (e : c x y = 0) : x = y := by
  induction l with
  | nil => cases hx
  | cons z l ih =>
    obtain ⟨h1, h2⟩ := List.pairwise_cons.1 h
    rcases List.mem_cons.1 hx with hx | hx <;> rcases List.mem_cons.1 hy with hy | hy
    · rw [hx, hy]
    · rw [hx] at e; have := h1 y hy; omega
    · rw [hy] at e; have := h1 x hx; have := hg.anti z x; omega
    · exact ih h2 hx hy
omit hg in
theorem mem_dropEq {l : List α} {r y : α} (h : c y r ≠ 0) : y ∈ dropEq c r l ↔ y ∈ l := by
  cases l with
  | nil => rfl
  | cons x t =>
    rw [dropEq_cons]
    split
    · next e =>
      rw [List.mem_cons]
      exact ⟨.inr, fun k => k.elim (fun k => by subst k; exact absurd e h) id⟩
    · rfl
omit hg in
theorem dropEq_sub {l : List α} {r y : α} (h : y ∈ dropEq c r l) : y ∈ l := by
  cases l with
  | nil => exact h
  | cons x t =>
    rw [dropEq_cons] at h
    split at h
    · exact List.mem_cons_of_mem _ h
    · exact h
omit hg in
theorem dropEq_asc {l : List α} (h : AscC c l) (r : α) : AscC c (dropEq c r l) := by
  cases l with
  | nil => exact h
  | cons x t =>
    rw [dropEq_cons]
    split
    · exact (List.pairwise_cons.1 h).2
    · exact h
theorem dropEq_gt {l : List α} (h : AscC c l) {r : α} (hl : ∀ z ∈ l, c r z ≤ 0) {y : α} (hy : y ∈ dropEq c r l) : c r y < 0 := by
  have h0 := hl y (dropEq_sub hy)
  by_cases e : c r y = 0
  · exfalso
    cases l with
    | nil => cases hy
    | cons x t =>
      obtain ⟨h1, h2⟩ := List.pairwise_cons.1 h
      rw [dropEq_cons] at hy
      have hx := hl x List.mem_cons_self
      have a1 := hg.anti r y
      have a2 := hg.anti r x
      split at hy
      · next e2 =>
        have h3 := h1 y hy
        have h4 := goodEqL hg (show c r x = 0 by omega) h3
        omega
      · next e2 =>
        rcases List.mem_cons.1 hy with k | k
        · subst k; omega
        · have h3 := h1 y k
          have h4 := goodEqR hg h3 (show c y r = 0 by omega)
          omega
  · omega
theorem mergeC_drop {r y : α} (hy : c y r ≠ 0) : ∀ {ls : List (List α)}, (∀ l ∈ ls, AscC c l) → (y ∈ mergeC c ls ↔ y ∈ mergeC c (ls.map (dropEq c r)))
  | [], _ => Iff.rfl
  | l :: ls, ha => by
    have hl := ha l List.mem_cons_self
    rw [List.map_cons, mem_mergeC hg hl, mem_mergeC hg (dropEq_asc hl r), mem_dropEq hy, mergeC_drop hy (fun m hm => ha m (List.mem_cons_of_mem _ hm))]
    constructor
    · rintro (h | ⟨h1, h2⟩)
      · exact .inl h
      · exact .inr ⟨h1, fun z hz => h2 z (dropEq_sub hz)⟩
    · rintro (h | ⟨h1, h2⟩)
      · exact .inl h
      · refine .inr ⟨h1, fun z hz => ?_⟩
        by_cases e : c z r = 0
        · intro e2; exact hy (goodEq hg e2 e)
        · exact h2 z ((mem_dropEq e).2 hz)
theorem mergeC_first : ∀ {ls : List (List α)} {i : Nat} {r : α} (h : i < ls.length), (∀ l ∈ ls, AscC c l) → r ∈ ls[i] → (∀ j, (h : j < ls.length) → j < i → ∀ z ∈ ls[j], c r z ≠ 0) → r ∈ mergeC c ls
  | l :: ls, 0, r, _, ha, hr, _ => (mem_mergeC hg (ha l List.mem_cons_self)).2 (.inl hr)
  | l :: ls, i + 1, r, h, ha, hr, hf => (mem_mergeC hg (ha l List.mem_cons_self)).2 (.inr ⟨mergeC_first (by simpa using h) (fun m hm => ha m (List.mem_cons_of_mem _ hm)) hr (fun j hj h' z hz => hf (j + 1) (by simpa using hj) (by omega) z hz), hf 0 (by simp) (by omega)⟩)
/-- What is yielded next. -/
theorem mergeC_step {ls : List (List α)} {i : Nat} {r : α} (h : i < ls.length) (ha : ∀ l ∈ ls, AscC c l) (hr : r ∈ ls[i]) (hmin : ∀ l ∈ ls, ∀ z ∈ l, c r z ≤ 0) (hf : ∀ j, (h : j < ls.length) → j < i → ∀ z ∈ ls[j], c r z ≠ 0) :
    mergeC c ls = r :: mergeC c (ls.map (dropEq c r)) := by
  have ha' : ∀ l ∈ ls.map (dropEq c r), AscC c l := fun l hl => by
    obtain ⟨m, hm, rfl⟩ := List.mem_map.1 hl
    exact dropEq_asc (ha m hm) r
  have hgt : ∀ y ∈ mergeC c (ls.map (dropEq c r)), c r y < 0 := fun y hy => by
    obtain ⟨l, hl, hy⟩ := mergeC_sub hg ha' hy
    obtain ⟨m, hm, rfl⟩ := List.mem_map.1 hl
    exact dropEq_gt hg (ha m hm) (hmin m hm) hy
  have hrm := mergeC_first hg h ha hr hf
  refine ascC_unique hg (mergeC_asc hg ls) (List.pairwise_cons.2 ⟨hgt, mergeC_asc hg _⟩) (fun y => ?_)
  rw [List.mem_cons]
  by_cases e : c y r = 0
  · constructor
    · exact fun k => .inl (ascC_eq hg (mergeC_asc hg ls) k hrm e)
    · rintro (k | k)
      · rw [k]; exact hrm
      · have := hgt y k; have := hg.anti r y; omega
  · rw [mergeC_drop hg e ha]
    constructor
    · exact .inr
    · rintro (k | k)
      · subst k; exact absurd (hg.refl y) e
      · exact k
omit hg in
theorem mergeC_none : ∀ {ls : List (List α)}, (∀ l ∈ ls, l = []) → mergeC c ls = []
  | [], _ => rfl
  | l :: ls, h => by
    show l.foldl _ (mergeC c ls) = []
    rw [h l List.mem_cons_self, mergeC_none (fun m hm => h m (List.mem_cons_of_mem _ hm))]; rfl
theorem find_asc {l : List α} (h : AscC c l) {x y : α} : l.find? (fun z => decide (c z x = 0)) = some y ↔ y ∈ l ∧ c y x = 0 := by
  constructor
  · intro k
    exact ⟨List.mem_of_find?_eq_some k, by simpa using List.find?_some k⟩
  · rintro ⟨h1, h2⟩
    cases e : l.find? (fun z => decide (c z x = 0)) with
    | none => exact absurd (List.find?_eq_none.1 e y h1) (by simpa using h2)
    | some z =>
      have hz := List.mem_of_find?_eq_some e
      have h3 : c z x = 0 := by simpa using List.find?_some e
      have h4 : c x y = 0 := by have := hg.anti y x; omega
      rw [ascC_eq hg h hz h1 (goodEq hg h3 h4)]
theorem lkC_merge : ∀ {ls : List (List α)} {x : α}, (∀ l ∈ ls, AscC c l) → (mergeC c ls).find? (fun y => decide (c y x = 0)) = lkC c ls x
  | [], _, _ => rfl
  | l :: ls, x, ha => by
    have hl := ha l List.mem_cons_self
    have ih := lkC_merge (x := x) (fun m hm => ha m (List.mem_cons_of_mem _ hm))
    show _ = List.findSome? _ (l :: ls)
    rw [List.findSome?_cons]
    cases e : l.find? (fun y => decide (c y x = 0)) with
    | some y =>
      obtain ⟨h1, h2⟩ := (find_asc hg hl).1 e
      exact (find_asc hg (mergeC_asc hg _)).2 ⟨(mem_mergeC hg hl).2 (.inl h1), h2⟩
    | none =>
      have hn : ∀ z ∈ l, c z x ≠ 0 := fun z hz e2 => (List.find?_eq_none.1 e z hz) (by simpa using e2)
      show _ = lkC c ls x
      rw [← ih]
      have hz : ∀ {y}, c y x = 0 → ∀ z ∈ l, c y z ≠ 0 := fun {y} h z hz e2 => hn z hz (by
        have := hg.anti y z
        exact goodEq hg (show c z y = 0 by omega) h)
      cases e2 : (mergeC c ls).find? (fun y => decide (c y x = 0)) with
      | some y =>
        obtain ⟨h1, h2⟩ := (find_asc hg (mergeC_asc hg _)).1 e2
        exact (find_asc hg (mergeC_asc hg _)).2 ⟨(mem_mergeC hg hl).2 (.inr ⟨h1, hz h2⟩), h2⟩
      | none =>
        refine List.find?_eq_none.2 (fun y hy => ?_)
        rcases (mem_mergeC hg hl).1 hy with h | ⟨h, -⟩
        · simpa using hn y h
        · exact List.find?_eq_none.1 e2 y h
omit hg in
theorem filter_withC (p : α → Bool) (l : List α) (x : α) : (withC c l x).filter p = if p x = true then withC c (l.filter p) x else lessC c (l.filter p) x := by
  have e : ∀ q : α → Bool, (l.filter q).filter p = (l.filter p).filter q := fun q => by
    rw [List.filter_filter, List.filter_filter]
    congr 1
    funext y
    exact Bool.and_comm _ _
  unfold withC lessC
  rw [List.filter_append, List.filter_cons, e, e]
  split <;> rfl
/-- Graves of the oldest list tell nothing. -/
theorem mergeC_graves (p : α → Bool) {m : List α} (hm : AscC c m) : ∀ {ls : List (List α)}, (∀ l ∈ ls, AscC c l) → (mergeC c (ls ++ [m.filter p])).filter p = (mergeC c (ls ++ [m])).filter p := by
  intro ls ha
  have key : ∀ {ls : List (List α)}, (∀ l ∈ ls, AscC c l) → ∀ y, p y = true → (y ∈ mergeC c (ls ++ [m.filter p]) ↔ y ∈ mergeC c (ls ++ [m])) := by
    intro ls
    induction ls with
    | nil =>
      intro _ y hy
      rw [List.nil_append, List.nil_append, mem_mergeC hg (List.Pairwise.filter _ hm), mem_mergeC hg hm]
      simp [mergeC, List.mem_filter, hy]
    | cons l ls ih =>
      intro ha y hy
      have hl := ha l List.mem_cons_self
      show y ∈ mergeC c (l :: (ls ++ [m.filter p])) ↔ y ∈ mergeC c (l :: (ls ++ [m]))
      rw [mem_mergeC hg hl, mem_mergeC hg hl, ih (fun x hx => ha x (List.mem_cons_of_mem _ hx)) y hy]
  refine ascC_unique hg (List.Pairwise.filter _ (mergeC_asc hg _)) (List.Pairwise.filter _ (mergeC_asc hg _)) (fun y => ?_)
  rw [List.mem_filter, List.mem_filter]
  constructor
  · rintro ⟨h1, h2⟩; exact ⟨(key ha y h2).1 h1, h2⟩
  · rintro ⟨h1, h2⟩; exact ⟨(key ha y h2).2 h1, h2⟩
end
end Go.Proofs.Ytjenfhkikbndmaa
/- Merging a level keeps what is told; places in an ascending list (for chapter 14). No program in sight. -/
namespace Go.Proofs.Ytjenfhkikbndmaa
section
variable {α : Type} {c : α → α → Int} (hg : Good c)
include hg
/-- A level's lists made one: behind others its graves stay, at the end they go. -/
theorem merge_tells (p : α → Bool) (t full rest : List (List α)) (ht : ∀ l ∈ t, AscC c l) (hf : ∀ l ∈ full, AscC c l) :
    (mergeC c (t ++ ((mergeC c full).filter (fun r => p r || !rest.isEmpty) :: rest))).filter p = (mergeC c (t ++ (full ++ rest))).filter p := by
  rw [mergeC_mid hg t rest full ht hf]
  cases rest with
  | nil =>
    have e : (fun r => p r || !([] : List (List α)).isEmpty) = p := by funext r; simp
    rw [e]
    exact mergeC_graves hg p (mergeC_asc hg full) ht
  | cons m rest =>
    have e : (mergeC c full).filter (fun r => p r || !(m :: rest).isEmpty) = mergeC c full := List.filter_eq_self.2 (fun r _ => by simp)
    rw [e]
omit hg in
/-- An empty list tells nothing. -/
theorem merge_empty (t rest : List (List α)) : mergeC c (t ++ ([] :: rest)) = mergeC c (t ++ rest) := by
  induction t with
  | nil => rfl
  | cons l t ih =>
    show l.foldl _ (mergeC c (t ++ ([] :: rest))) = l.foldl _ (mergeC c (t ++ rest))
    rw [ih]
omit hg in
theorem filter_take {l : List α} {i : Nat} (q : α → Bool) (h1 : ∀ j, (h : j < l.length) → j < i → q l[j] = true) (h2 : ∀ j, (h : j < l.length) → i ≤ j → q l[j] = false) : l.filter q = l.take i := by
  conv => lhs; rw [← List.take_append_drop i l, List.filter_append]
  rw [List.filter_eq_self.2, List.filter_eq_nil_iff.2, List.append_nil]
  · intro y hy
    obtain ⟨j, hj, rfl⟩ := List.getElem_of_mem hy
    rw [List.getElem_drop, h2 (i + j) (by rw [List.length_drop] at hj; omega) (by omega)]
    simp
  · intro y hy
    obtain ⟨j, hj, rfl⟩ := List.getElem_of_mem hy
    rw [List.length_take] at hj
    rw [List.getElem_take, h1 j (by omega) (by omega)]
omit hg in
theorem filter_drop {l : List α} {i : Nat} (q : α → Bool) (h1 : ∀ j, (h : j < l.length) → j < i → q l[j] = false) (h2 : ∀ j, (h : j < l.length) → i ≤ j → q l[j] = true) : l.filter q = l.drop i := by
  conv => lhs; rw [← List.take_append_drop i l, List.filter_append]
  rw [List.filter_eq_nil_iff.2, List.nil_append, List.filter_eq_self.2]
  · intro y hy
    obtain ⟨j, hj, rfl⟩ := List.getElem_of_mem hy
    rw [List.getElem_drop, h2 (i + j) (by rw [List.length_drop] at hj; omega) (by omega)]
  · intro y hy
    obtain ⟨j, hj, rfl⟩ := List.getElem_of_mem hy
    rw [List.length_take] at hj
    rw [List.getElem_take, h1 j (by omega) (by omega)]
    simp
/-- Where a thing is put in. -/
theorem withC_insert {l : List α} {x : α} {i : Nat} (h1 : ∀ j, (h : j < l.length) → j < i → c l[j] x < 0) (h2 : ∀ j, (h : j < l.length) → i ≤ j → 0 < c l[j] x) : withC c l x = l.take i ++ x :: l.drop i := by
  unfold withC
  rw [filter_take (i := i), filter_drop (i := i)]
  · intro j hj h
    have := h1 j hj h
    have := hg.anti l[j] x
    exact decide_eq_false (by omega)
  · intro j hj h
    have := h2 j hj h
    have := hg.anti l[j] x
    exact decide_eq_true (by omega)
  · exact fun j hj h => decide_eq_true (h1 j hj h)
  · intro j hj h
    have := h2 j hj h
    exact decide_eq_false (by omega)
/-- Where a thing is replaced. -/
theorem withC_set {l : List α} {x : α} {i : Nat} (ha : AscC c l) (hi : i < l.length) (he : c l[i] x = 0) : withC c l x = l.set i x := by
  have hlt : ∀ j, (h : j < l.length) → j < i → c l[j] x < 0 := fun j hj h => goodEqR hg (List.pairwise_iff_getElem.1 ha j i hj hi h) he
  have hgt : ∀ j, (h : j < l.length) → i < j → c x l[j] < 0 := fun j hj h => by
    have := hg.anti l[i] x
    exact goodEqL hg (show c x l[i] = 0 by omega) (List.pairwise_iff_getElem.1 ha i j hi hj h)
  unfold withC
  rw [filter_take (i := i), filter_drop (i := i + 1), List.set_eq_take_append_cons_drop, if_pos hi]
  · intro j hj h
    by_cases e : j = i
    · subst e
      have := hg.anti l[j] x
      exact decide_eq_false (by omega)
    · have := hlt j hj (by omega)
      have := hg.anti l[j] x
      exact decide_eq_false (by omega)
  · exact fun j hj h => decide_eq_true (hgt j hj (by omega))
  · exact fun j hj h => decide_eq_true (hlt j hj h)
  · intro j hj h
    by_cases e : j = i
    · subst e; exact decide_eq_false (by omega)
    · have := hgt j hj (by omega)
      have := hg.anti l[j] x
      exact decide_eq_false (by omega)
/-- Binary search: between two bounds. -/
structure Srch (c : α → α → Int) (l : List α) (x : α) (a b : Nat) : Prop where
  le : a ≤ b
  len : b ≤ l.length
  lo : ∀ j, (h : j < l.length) → j < a → c l[j] x < 0
  hi : ∀ j, (h : j < l.length) → b ≤ j → 0 < c l[j] x
omit hg in
theorem Srch.start (c : α → α → Int) (l : List α) (x : α) : Srch c l x 0 l.length := ⟨Nat.zero_le _, Nat.le_refl _, fun j _ h => absurd h (by omega), fun j h h' => absurd h (by omega)⟩
theorem Srch.up {l : List α} {x : α} {a b m : Nat} (h : Srch c l x a b) (ha : AscC c l) (hm : m < l.length) (hb : m < b) (hc : c l[m] x < 0) : Srch c l x (m + 1) b := by
  refine ⟨hb, h.len, fun j hj hl => ?_, h.hi⟩
  by_cases e : j = m
  · subst e; exact hc
  · exact goodLt hg (List.pairwise_iff_getElem.1 ha j m hj hm (by omega)) hc
theorem Srch.down {l : List α} {x : α} {a b m : Nat} (h : Srch c l x a b) (ha : AscC c l) (hm : m < l.length) (hb : a ≤ m) (hc : 0 < c l[m] x) : Srch c l x a m := by
  refine ⟨hb, by omega, h.lo, fun j hj hl => ?_⟩
  by_cases e : j = m
  · subst e; exact hc
  · have h1 := List.pairwise_iff_getElem.1 ha m j hm hj (by omega)
    have a1 := hg.anti l[m] x
    have a2 := hg.anti l[j] x
    have := goodLt hg (show c x l[m] < 0 by omega) h1
    omega
end
end Go.Proofs.Ytjenfhkikbndmaa
/- The slab's levels and runs, by numbers: how a table becomes a run and levels merge; what is told stays (for chapter 14). No program in sight. -/
namespace Go.Proofs.Ytjenfhkikbndmaa
/-- A function changed at one place. -/
def updN {β : Type} (f : Nat → β) (i : Nat) (x : β) : Nat → β := fun k => if k = i then x else f k
theorem updN_same {β : Type} (f : Nat → β) (i : Nat) (x : β) : updN f i x i = x := if_pos rfl
theorem updN_other {β : Type} (f : Nat → β) {i k : Nat} (x : β) (h : k ≠ i) : updN f i x k = f k := if_neg h
/-- Levels (numbers of runs, the newest first), the runs' records, the next number. -/
structure Mst (α : Type) where
  lv : Nat → List Nat
  run : Nat → List α
  next : Nat
section
variable {α : Type} (c : α → α → Int) (p : α → Bool)
/-- A new run becomes the newest of a level. -/
def Mst.push (s : Mst α) (n : Nat) (l : List α) : Mst α := ⟨updN s.lv n (s.next :: s.lv n), updN s.run s.next l, s.next + 1⟩
def Mst.bare (s : Mst α) (n : Nat) : Mst α := { s with lv := updN s.lv n [] }
/-- Whether a level behind one has runs. -/
def Mst.beyond (s : Mst α) (n : Nat) : Prop := ∃ k, n < k ∧ s.lv k ≠ []
def Mst.lists (s : Mst α) (n : Nat) : List (List α) := (s.lv n).map s.run
open Classical in
/-- What a full level becomes. -/
noncomputable def Mst.left (s : Mst α) (n : Nat) : List α := (mergeC c (s.lists n)).filter fun r => p r || decide (s.beyond n)
noncomputable def Mst.merge1 (s : Mst α) (n : Nat) : Mst α := if s.left c p n = [] then s.bare n else (s.bare n).push (n + 1) (s.left c p n)
noncomputable def Mst.casc (fan : Nat) : Nat → Nat → Mst α → Mst α
  | 0, _, s => s
  | k + 1, n, s => if (s.lv n).length < fan then s else Mst.casc fan k (n + 1) (s.merge1 c p n)
noncomputable def Mst.flush (fan k : Nat) (s : Mst α) (table : List α) : Mst α := if table = [] then s else Mst.casc c p fan k 0 (s.push 0 table)
/-- All lists of the levels from one on, below hi. -/
def Mst.all (s : Mst α) (hi : Nat) : Nat → List (List α)
  | 0 => []
  | k + 1 => s.lists (hi - (k + 1)) ++ Mst.all s hi k
/-- Runs are ascending; a level's numbers were given; behind hi there is nothing. -/
structure Mst.Ok (s : Mst α) (hi : Nat) : Prop where
  asc : ∀ n, AscC c (s.run n)
  lt : ∀ i, ∀ n ∈ s.lv i, n < s.next
  top : ∀ i, hi ≤ i → s.lv i = []
variable {c} {p}
theorem Mst.lists_push {s : Mst α} {hi n i : Nat} {l : List α} (h : s.Ok c hi) : (s.push n l).lists i = if i = n then l :: s.lists n else s.lists i := by
  have hne : ∀ m ∈ s.lv i, updN s.run s.next l m = s.run m := fun m hm => updN_other _ _ (by have := h.lt i m hm; omega)
  show (updN s.lv n (s.next :: s.lv n) i).map (updN s.run s.next l) = _
  by_cases e : i = n
  · subst e
    rw [updN_same, if_pos rfl, List.map_cons, updN_same]
    congr 1
    exact List.map_congr_left hne
  · rw [updN_other _ _ e, if_neg e]
    exact List.map_congr_left hne
theorem Mst.lists_bare {s : Mst α} {n i : Nat} : (s.bare n).lists i = if i = n then [] else s.lists i := by
  show (updN s.lv n [] i).map s.run = _
  by_cases e : i = n
  · subst e; rw [updN_same, if_pos rfl]; rfl
  · rw [updN_other _ _ e, if_neg e]; rfl
theorem Mst.all_congr {s t : Mst α} {hi : Nat} : ∀ {k : Nat}, k ≤ hi → (∀ i, hi - k ≤ i → i < hi → s.lists i = t.lists i) → s.all hi k = t.all hi k
  | 0, _, _ => rfl
  | k + 1, hk, h => by
    show s.lists (hi - (k + 1)) ++ s.all hi k = t.lists (hi - (k + 1)) ++ t.all hi k
    rw [h _ (Nat.le_refl _) (by omega), Mst.all_congr (by omega) (fun i h1 h2 => h i (by omega) h2)]
/-- With nothing below a level, all lists are that level's and those behind it. -/
theorem Mst.all_from {s : Mst α} {hi n : Nat} (h : ∀ i, i < n → s.lv i = []) : ∀ {k : Nat}, n ≤ hi → hi - n ≤ k → k ≤ hi → s.all hi k = s.all hi (hi - n)
  | 0, hn, h1, _ => by rw [show hi - n = 0 by omega]
  | k + 1, hn, h1, h2 => by
    by_cases e : hi - n = k + 1
    · rw [e]
    · show s.lists (hi - (k + 1)) ++ s.all hi k = _
      have : s.lists (hi - (k + 1)) = [] := by
        unfold Mst.lists
        rw [h _ (by omega)]; rfl
      rw [this, List.nil_append, Mst.all_from h hn (by omega) (by omega)]
end
end Go.Proofs.Ytjenfhkikbndmaa
/- What is told stays when levels merge; no level is full behind it (for chapter 14). No program in sight. -/
namespace Go.Proofs.Ytjenfhkikbndmaa
section
variable {α : Type} {c : α → α → Int} {p : α → Bool}
theorem Mst.all_nil {s : Mst α} {hi : Nat} : ∀ {k : Nat}, k ≤ hi → (s.all hi k = [] ↔ ∀ i, hi - k ≤ i → i < hi → s.lv i = [])
  | 0, _ => ⟨fun _ i h1 h2 => by omega, fun _ => rfl⟩
  | k + 1, hk => by
    show s.lists (hi - (k + 1)) ++ s.all hi k = [] ↔ _
    rw [List.append_eq_nil_iff, Mst.all_nil (by omega)]
    constructor
    · rintro ⟨h1, h2⟩ i h3 h4
      by_cases e : i = hi - (k + 1)
      · rw [e]; exact List.map_eq_nil_iff.1 h1
      · exact h2 i (by omega) h4
    · exact fun h => ⟨by unfold Mst.lists; rw [h _ (Nat.le_refl _) (by omega)]; rfl, fun i h1 h2 => h i (by omega) h2⟩
theorem Mst.beyond_iff {s : Mst α} {hi n : Nat} (h : s.Ok c hi) (hn : n + 1 ≤ hi) : s.beyond n ↔ s.all hi (hi - (n + 1)) ≠ [] := by
  rw [Ne, Mst.all_nil (by omega)]
  constructor
  · rintro ⟨k, h1, h2⟩ h3
    by_cases e : k < hi
    · exact h2 (h3 k (by omega) e)
    · exact h2 (h.top k (by omega))
  · intro h2
    apply Classical.byContradiction
    intro h3
    exact h2 (fun i h4 h5 => Classical.byContradiction (fun h6 => h3 ⟨i, by omega, h6⟩))
variable (hg : Good c)
include hg
theorem Mst.left_asc {s : Mst α} {n : Nat} : AscC c (s.left c p n) := List.Pairwise.filter _ (mergeC_asc hg _)
omit hg in
theorem Mst.bare_ok {s : Mst α} {hi n : Nat} (h : s.Ok c hi) : (s.bare n).Ok c hi := by
  refine ⟨h.asc, fun i m hm => ?_, fun i hi' => ?_⟩
  · by_cases e : i = n
    · subst e
      change m ∈ updN s.lv i [] i at hm
      rw [updN_same] at hm; cases hm
    · change m ∈ updN s.lv n [] i at hm
      rw [updN_other _ _ e] at hm
      exact h.lt i m hm
  · show updN s.lv n [] i = []
    by_cases e : i = n
    · subst e; exact updN_same _ _ _
    · rw [updN_other _ _ e]; exact h.top i hi'
omit hg in
theorem Mst.push_ok {s : Mst α} {hi n : Nat} {l : List α} (h : s.Ok c hi) (hn : n < hi) (hl : AscC c l) : (s.push n l).Ok c hi := by
  refine ⟨fun m => ?_, fun i m hm => ?_, fun i hi' => ?_⟩
  · show AscC c (updN s.run s.next l m)
    by_cases e : m = s.next
    · rw [e, updN_same]; exact hl
    · rw [updN_other _ _ e]; exact h.asc m
  · change m ∈ updN s.lv n (s.next :: s.lv n) i at hm
    show m < s.next + 1
    by_cases e : i = n
    · subst e
      rw [updN_same] at hm
      rcases List.mem_cons.1 hm with e2 | hm
      · omega
      · have := h.lt i m hm; omega
    · rw [updN_other _ _ e] at hm
      have := h.lt i m hm; omega
  · show updN s.lv n _ i = []
    rw [updN_other _ _ (by omega)]
    exact h.top i hi'
theorem Mst.merge1_ok {s : Mst α} {hi n : Nat} (h : s.Ok c hi) (hn : n + 1 < hi) : (s.merge1 c p n).Ok c hi := by
  unfold Mst.merge1
  split
  · exact Mst.bare_ok h
  · exact Mst.push_ok (Mst.bare_ok h) hn (Mst.left_asc hg)
omit hg in
theorem Mst.merge1_lv (s : Mst α) (n i : Nat) : (s.merge1 c p n).lv i = if i = n then [] else if i = n + 1 then (if s.left c p n = [] then s.lv i else s.next :: s.lv i) else s.lv i := by
  unfold Mst.merge1
  by_cases e : s.left c p n = []
  · rw [if_pos e]
    show updN s.lv n [] i = _
    by_cases e1 : i = n
    · rw [if_pos e1, e1, updN_same]
    · rw [updN_other _ _ e1, if_neg e1]
      by_cases e2 : i = n + 1
      · rw [if_pos e2, if_pos e]
      · rw [if_neg e2]
  · rw [if_neg e]
    show updN (updN s.lv n []) (n + 1) (s.next :: updN s.lv n [] (n + 1)) i = _
    by_cases e2 : i = n + 1
    · subst e2
      rw [updN_same, updN_other _ _ (by omega), if_neg (by omega), if_pos rfl, if_neg e]
    · rw [updN_other _ _ e2]
      by_cases e1 : i = n
      · rw [if_pos e1, e1, updN_same]
      · rw [updN_other _ _ e1, if_neg e1, if_neg e2]
open Classical in
/-- Merging a level keeps what is told. -/
theorem Mst.merge1_tells {s : Mst α} {hi n : Nat} (h : s.Ok c hi) (hn : n + 1 < hi) (h0 : ∀ i, i < n → s.lv i = []) : (mergeC c ((s.merge1 c p n).all hi hi)).filter p = (mergeC c (s.all hi hi)).filter p := by
  have hfull : ∀ l ∈ s.lists n, AscC c l := fun l hl => by
    obtain ⟨m, _, rfl⟩ := List.mem_map.1 hl
    exact h.asc m
  have hA : s.all hi hi = s.lists n ++ s.all hi (hi - (n + 1)) := by
    rw [Mst.all_from (n := n) h0 (by omega) (by omega) (Nat.le_refl _)]
    obtain ⟨k, hk⟩ : ∃ k, hi - n = k + 1 := ⟨hi - n - 1, by omega⟩
    rw [hk, show hi - (n + 1) = k by omega]
    show s.lists (hi - (k + 1)) ++ _ = _
    rw [show hi - (k + 1) = n by omega]
  have hT := merge_tells hg p [] (s.lists n) (s.all hi (hi - (n + 1))) (by simp) hfull
  rw [List.nil_append, List.nil_append, ← hA] at hT
  rw [← hT]
  have hL : s.left c p n = (mergeC c (s.lists n)).filter (fun r => p r || !(s.all hi (hi - (n + 1))).isEmpty) := by
    unfold Mst.left
    congr 1
    funext r
    congr 1
    by_cases e : s.beyond n
    · rw [decide_eq_true e]
      have := (Mst.beyond_iff h (by omega)).1 e
      cases e2 : s.all hi (hi - (n + 1)) with
      | nil => exact absurd e2 this
      | cons _ _ => rfl
    · rw [decide_eq_false e]
      have : s.all hi (hi - (n + 1)) = [] := Classical.byContradiction (fun k => e ((Mst.beyond_iff h (by omega)).2 k))
      rw [this]; rfl
  rw [← hL]
  have h1 : ∀ i, i < n + 1 → (s.merge1 c p n).lv i = [] := fun i hi' => by
    rw [Mst.merge1_lv]
    by_cases e : i = n
    · rw [if_pos e]
    · rw [if_neg e, if_neg (by omega)]; exact h0 i (by omega)
  rw [Mst.all_from (n := n + 1) h1 (by omega) (by omega) (Nat.le_refl _)]
  unfold Mst.merge1
  by_cases e : s.left c p n = []
  · rw [if_pos e, e]
    have : (s.bare n).all hi (hi - (n + 1)) = s.all hi (hi - (n + 1)) := Mst.all_congr (by omega) (fun i h1 _ => by rw [Mst.lists_bare, if_neg (by omega)])
    rw [this]; rfl
  · rw [if_neg e]
    obtain ⟨k, hk⟩ : ∃ k, hi - (n + 1) = k + 1 := ⟨hi - (n + 1) - 1, by omega⟩
    have e1 : ((s.bare n).push (n + 1) (s.left c p n)).all hi (hi - (n + 1)) = s.left c p n :: s.all hi (hi - (n + 1)) := by
      rw [hk]
      show Mst.lists _ (hi - (k + 1)) ++ _ = s.left c p n :: (s.lists (hi - (k + 1)) ++ _)
      rw [show hi - (k + 1) = n + 1 by omega, Mst.lists_push (Mst.bare_ok h), if_pos rfl, Mst.lists_bare, if_neg (by omega), List.cons_append]
      congr 2
      exact Mst.all_congr (by omega) (fun i h1 _ => by rw [Mst.lists_push (Mst.bare_ok h), if_neg (by omega), Mst.lists_bare, if_neg (by omega)])
    rw [e1]
end
end Go.Proofs.Ytjenfhkikbndmaa
/- The whole flush: what is told stays, no level is full (for chapter 14). No program in sight. -/
namespace Go.Proofs.Ytjenfhkikbndmaa
section
variable {α : Type} {c : α → α → Int} {p : α → Bool} (hg : Good c)
include hg
theorem Mst.casc_ok {fan hi : Nat} : ∀ {k n : Nat} {s : Mst α}, s.Ok c hi → n + k < hi → (Mst.casc c p fan k n s).Ok c hi
  | 0, _, _, h, _ => h
  | k + 1, n, s, h, hn => by
    unfold Mst.casc
    split
    · exact h
    · exact Mst.casc_ok (Mst.merge1_ok hg h (by omega)) (by omega)
theorem Mst.casc_tells {fan hi : Nat} : ∀ {k n : Nat} {s : Mst α}, s.Ok c hi → n + k < hi → (∀ i, i < n → s.lv i = []) → (mergeC c ((Mst.casc c p fan k n s).all hi hi)).filter p = (mergeC c (s.all hi hi)).filter p
  | 0, _, _, _, _, _ => rfl
  | k + 1, n, s, h, hn, h0 => by
    unfold Mst.casc
    split
    · rfl
    · rw [Mst.casc_tells (Mst.merge1_ok hg h (by omega)) (by omega) (fun i hi' => by
        rw [Mst.merge1_lv]
        by_cases e : i = n
        · rw [if_pos e]
        · rw [if_neg e, if_neg (by omega)]; exact h0 i (by omega))]
      exact Mst.merge1_tells hg h (by omega) h0
omit hg in
/-- Before a level is looked at: those below are empty, those behind are not full; behind m there is nothing but the run just put. -/
structure Mst.Fan (s : Mst α) (fan n m : Nat) : Prop where
  below : ∀ i, i < n → s.lv i = []
  here : (s.lv n).length ≤ fan
  beyond' : ∀ i, n < i → (s.lv i).length < fan
  top : ∀ i, n < i → m ≤ i → s.lv i = []
  last : m ≤ n → (s.lv n).length ≤ 1
omit hg in
theorem Mst.casc_fan {fan m : Nat} (hf : 2 ≤ fan) : ∀ {k n : Nat} {s : Mst α}, s.Fan fan n m → m ≤ n + k → ∀ i, ((Mst.casc c p fan k n s).lv i).length < fan
  | 0, n, s, h, hm => fun i => by
    show (s.lv i).length < fan
    by_cases e : i < n
    · rw [h.below i e]; simp; omega
    · by_cases e2 : i = n
      · subst e2; have := h.last (by omega); omega
      · exact h.beyond' i (by omega)
  | k + 1, n, s, h, hm => fun i => by
    unfold Mst.casc
    by_cases hl : (s.lv n).length < fan
    · rw [if_pos hl]
      by_cases e : i < n
      · rw [h.below i e]; simp; omega
      · by_cases e2 : i = n
        · subst e2; exact hl
        · exact h.beyond' i (by omega)
    · rw [if_neg hl]
      have hnm : n < m := by
        rcases Nat.lt_or_ge n m with e | e
        · exact e
        · have := h.last e; omega
      have hm2 : m ≤ (n + 1) + k := by omega
      refine Mst.casc_fan (n := n + 1) (k := k) hf ⟨fun j hj => ?_, ?_, fun j hj => ?_, fun j hj hj' => ?_, fun hmn => ?_⟩ hm2 i
      · rw [Mst.merge1_lv]
        by_cases e : j = n
        · rw [if_pos e]
        · rw [if_neg e, if_neg (by omega)]; exact h.below j (by omega)
      · rw [Mst.merge1_lv, if_neg (by omega), if_pos rfl]
        have := h.beyond' (n + 1) (by omega)
        split
        · omega
        · simp; omega
      · rw [Mst.merge1_lv, if_neg (by omega), if_neg (by omega)]
        exact h.beyond' j (by omega)
      · rw [Mst.merge1_lv, if_neg (by omega), if_neg (by omega)]
        exact h.top j (by omega) hj'
      · rw [Mst.merge1_lv, if_neg (by omega), if_pos rfl, h.top (n + 1) (by omega) hmn]
        split <;> simp
theorem Mst.flush_ok {fan hi k : Nat} {s : Mst α} {table : List α} (h : s.Ok c hi) (hk : k < hi) (ht : AscC c table) : (Mst.flush c p fan k s table).Ok c hi := by
  unfold Mst.flush
  split
  · exact h
  · exact Mst.casc_ok hg (Mst.push_ok h (by omega) ht) (by omega)
/-- A flush changes nothing of what is told. -/
theorem Mst.flush_tells {fan hi k : Nat} {s : Mst α} {table : List α} (h : s.Ok c hi) (hk : k < hi) (ht : AscC c table) : (mergeC c ((Mst.flush c p fan k s table).all hi hi)).filter p = (mergeC c (table :: s.all hi hi)).filter p := by
  unfold Mst.flush
  split
  · next e => rw [e]; rfl
  · rw [Mst.casc_tells hg (Mst.push_ok h (by omega) ht) (by omega) (fun i h => absurd h (by omega))]
    have : (s.push 0 table).all hi hi = table :: s.all hi hi := by
      obtain ⟨j, rfl⟩ : ∃ j, hi = j + 1 := ⟨hi - 1, by omega⟩
      show Mst.lists _ (j + 1 - (j + 1)) ++ _ = table :: (s.lists (j + 1 - (j + 1)) ++ _)
      rw [Nat.sub_self, Mst.lists_push h, if_pos rfl, List.cons_append]
      congr 2
      exact Mst.all_congr (by omega) (fun i h1 _ => by rw [Mst.lists_push h, if_neg (by omega)])
    rw [this]
omit hg in
theorem Mst.flush_fan {fan m : Nat} {s : Mst α} {table : List α} (hf : 2 ≤ fan) (h : ∀ i, (s.lv i).length < fan) (ht : ∀ i, m ≤ i → s.lv i = []) : ∀ i, ((Mst.flush c p fan m s table).lv i).length < fan := by
  unfold Mst.flush
  split
  · exact h
  · have e : ∀ j, j ≠ 0 → (s.push 0 table).lv j = s.lv j := fun j hj => updN_other _ _ hj
    have e0 : (s.push 0 table).lv 0 = s.next :: s.lv 0 := by
      show updN s.lv 0 (s.next :: s.lv 0) 0 = _
      exact updN_same _ _ _
    refine Mst.casc_fan (m := m) hf ⟨fun j hj => absurd hj (by omega), ?_, fun j hj => ?_, fun j hj hj' => ?_, fun hm => ?_⟩ (by omega)
    · rw [e0]; have := h 0; simp; omega
    · rw [e j (by omega)]; exact h j
    · rw [e j (by omega)]; exact ht j hj'
    · rw [e0, ht 0 (by omega)]; simp
end
end Go.Proofs.Ytjenfhkikbndmaa
/- Writing into the table is writing into what is told (for chapter 14). No program in sight. -/
namespace Go.Proofs.Ytjenfhkikbndmaa
section
variable {α : Type} {c : α → α → Int} (hg : Good c)
include hg
theorem merge_write {t : List α} {r : α} {ls : List (List α)} (ht : AscC c t) : mergeC c (withC c t r :: ls) = withC c (mergeC c (t :: ls)) r := by
  refine ascC_unique hg (mergeC_asc hg _) (withC_asc hg (mergeC_asc hg _) r) (fun y => ?_)
  rw [mem_mergeC hg (withC_asc hg ht r), mem_withC hg, mem_withC hg, mem_mergeC hg ht]
  constructor
  · rintro ((h | ⟨h1, h2⟩) | ⟨h1, h2⟩)
    · exact .inl h
    · exact .inr ⟨.inl h1, h2⟩
    · have hr := h2 r ((mem_withC hg).2 (.inl rfl))
      refine .inr ⟨.inr ⟨h1, fun z hz e => ?_⟩, hr⟩
      by_cases e2 : c z r = 0
      · exact hr (goodEq hg e e2)
      · exact h2 z ((mem_withC hg).2 (.inr ⟨hz, e2⟩)) e
  · rintro (h | ⟨h1 | ⟨h1, h2⟩, h3⟩)
    · exact .inl (.inl h)
    · exact .inl (.inr ⟨h1, h3⟩)
    · refine .inr ⟨h1, fun z hz => ?_⟩
      rcases (mem_withC hg).1 hz with e | ⟨hz, _⟩
      · rw [e]; exact h3
      · exact h2 z hz
omit hg in
/-- Seen through a map that keeps the order. -/
theorem withC_map {β : Type} {d : β → β → Int} (f : α → β) (h : ∀ a b, c a b = d (f a) (f b)) (l : List α) (x : α) : (withC c l x).map f = withC d (l.map f) (f x) := by
  unfold withC
  rw [List.map_append, List.map_cons, List.filter_map, List.filter_map]
  simp only [Function.comp_def, h]
omit hg in
theorem lessC_map {β : Type} {d : β → β → Int} (f : α → β) (h : ∀ a b, c a b = d (f a) (f b)) (l : List α) (x : α) : (lessC c l x).map f = lessC d (l.map f) (f x) := by
  unfold lessC
  rw [List.map_append, List.filter_map, List.filter_map]
  simp only [Function.comp_def, h]
/-- What is told behind a write: a record that is no grave is put, a grave takes away. -/
theorem write_tells (p : α → Bool) {t : List α} {r : α} {ls : List (List α)} (ht : AscC c t) : (mergeC c (withC c t r :: ls)).filter p = if p r = true then withC c ((mergeC c (t :: ls)).filter p) r else lessC c ((mergeC c (t :: ls)).filter p) r := by
  rw [merge_write hg ht, filter_withC]
omit hg in
theorem filter_both (q : α → Bool) : ∀ l : List α, (l.filter q).length + (l.filter fun y => !q y).length = l.length
  | [] => rfl
  | x :: l => by
    have := filter_both q l
    cases h : q x <;> simp [List.filter_cons, h] <;> omega
/-- How many there are behind a write. -/
theorem withC_len {l : List α} {r : α} (ha : AscC c l) : (withC c l r).length = if (l.find? fun y => decide (c y r = 0)).isSome then l.length else l.length + 1 := by
  cases e : l.find? (fun y => decide (c y r = 0)) with
  | some y =>
    obtain ⟨h1, h2⟩ := (find_asc hg ha).1 e
    obtain ⟨i, hi, rfl⟩ := List.getElem_of_mem h1
    rw [withC_set hg ha hi h2]
    simp
  | none =>
    have hn : ∀ y ∈ l, c y r ≠ 0 := fun y hy e2 => (List.find?_eq_none.1 e y hy) (by simpa using e2)
    have h1 : (l.filter fun y => decide (c r y < 0)).length = (l.filter fun y => !decide (c y r < 0)).length := by
      congr 1
      refine List.filter_congr (fun y hy => ?_)
      have := hn y hy
      have := hg.anti r y
      by_cases h : c y r < 0
      · rw [decide_eq_true h, decide_eq_false (by omega)]; rfl
      · rw [decide_eq_false h, decide_eq_true (by omega)]; rfl
    have h2 := filter_both (fun y => decide (c y r < 0)) l
    unfold withC
    rw [List.length_append, List.length_cons, h1]
    simp only [Option.isSome_none, Bool.false_eq_true, if_false]
    omega
end
end Go.Proofs.Ytjenfhkikbndmaa
/- Levels as lists: with and without empty ones at the end (for chapter 14). No program in sight. -/
namespace Go.Proofs.Ytjenfhkikbndmaa
/-- A level of a list of levels. -/
def lvL (LL : List (List Nat)) (i : Nat) : List Nat := LL.getD i []
/-- Levels that are at least n + 1. -/
def extL (LL : List (List Nat)) (n : Nat) : List (List Nat) := LL ++ List.replicate (n + 1 - LL.length) []
def putLv (LL : List (List Nat)) (n x : Nat) : List (List Nat) := (extL LL n).set n (x :: lvL LL n)
/-- Without the empty ones at the end. -/
def trimL : List (List Nat) → List (List Nat)
  | [] => []
  | l :: LL => match trimL LL with
    | [] => if l = [] then [] else [l]
    | m :: r => l :: m :: r
theorem lvL_lt {LL : List (List Nat)} {i : Nat} (h : i < LL.length) : lvL LL i = LL[i] := by unfold lvL; rw [List.getD_eq_getElem?_getD, List.getElem?_eq_getElem h]; rfl
theorem lvL_ge {LL : List (List Nat)} {i : Nat} (h : LL.length ≤ i) : lvL LL i = [] := by unfold lvL; rw [List.getD_eq_getElem?_getD, List.getElem?_eq_none h]; rfl
theorem extL_len (LL : List (List Nat)) (n : Nat) : n < (extL LL n).length := by unfold extL; simp; omega
theorem lvL_ext (LL : List (List Nat)) (n i : Nat) : lvL (extL LL n) i = lvL LL i := by
  unfold extL lvL
  rw [List.getD_eq_getElem?_getD, List.getD_eq_getElem?_getD]
  by_cases h : i < LL.length
  · rw [List.getElem?_append_left h]
  · rw [List.getElem?_append_right (by omega), List.getElem?_eq_none (l := LL) (by omega), List.getElem?_replicate]
    split <;> rfl
theorem lvL_set {LL : List (List Nat)} {n : Nat} (h : n < LL.length) (x : List Nat) : lvL (LL.set n x) = updN (lvL LL) n x := by
  funext i
  by_cases e : i = n
  · subst e
    rw [updN_same, lvL_lt (by simpa using h), List.getElem_set_self]
  · rw [updN_other _ _ e]
    by_cases hi : i < LL.length
    · rw [lvL_lt (by simpa using hi), lvL_lt hi, List.getElem_set_ne (by omega)]
    · rw [lvL_ge (by simp; omega), lvL_ge (by omega)]
theorem lvL_put (LL : List (List Nat)) (n x : Nat) : lvL (putLv LL n x) = updN (lvL LL) n (x :: lvL LL n) := by
  unfold putLv
  rw [lvL_set (extL_len LL n)]
  have : lvL (extL LL n) = lvL LL := funext (lvL_ext LL n)
  rw [this]
theorem lvL_cons (l : List Nat) (LL : List (List Nat)) (i : Nat) : lvL (l :: LL) (i + 1) = lvL LL i := rfl
theorem trimL_nil : ∀ {LL : List (List Nat)}, trimL LL = [] ↔ ∀ i, lvL LL i = []
  | [] => ⟨fun _ i => lvL_ge (Nat.zero_le _), fun _ => rfl⟩
  | l :: LL => by
    have ih := trimL_nil (LL := LL)
    constructor
    · intro h i
      cases i with
      | zero =>
        unfold trimL at h
        split at h
        · split at h
          · next e => exact e
          · cases h
        · cases h
      | succ i =>
        rw [lvL_cons]
        refine ih.1 ?_ i
        unfold trimL at h
        split at h
        · next e => exact e
        · cases h
    · intro h
      unfold trimL
      rw [ih.2 (fun i => by have := h (i + 1); rwa [lvL_cons] at this)]
      have h0 : l = [] := h 0
      rw [if_pos h0]
theorem trimL_unique : ∀ {A B : List (List Nat)}, (∀ i, lvL A i = lvL B i) → trimL A = trimL B
  | [], B, h => (trimL_nil.2 (fun i => (h i).symm.trans (lvL_ge (Nat.zero_le _)))).symm
  | l :: A, [], h => trimL_nil.2 (fun i => (h i).trans (lvL_ge (Nat.zero_le _)))
  | l :: A, m :: B, h => by
    have h0 : l = m := h 0
    have ih := trimL_unique (A := A) (B := B) (fun i => by have := h (i + 1); rwa [lvL_cons, lvL_cons] at this)
    unfold trimL
    rw [h0, ih]
theorem lvL_trim : ∀ (LL : List (List Nat)) (i : Nat), lvL (trimL LL) i = lvL LL i
  | [], _ => rfl
  | l :: LL, i => by
    have ih := lvL_trim LL
    unfold trimL
    split
    · next e =>
      rw [e] at ih
      cases i with
      | zero => split <;> simp_all [lvL]
      | succ i =>
        have h0 : lvL ([] : List (List Nat)) i = [] := lvL_ge (Nat.zero_le _)
        rw [lvL_cons, ← ih i, h0]
        exact lvL_ge (by split <;> simp)
    · next e =>
      rw [e] at ih
      cases i with
      | zero => rfl
      | succ i => rw [lvL_cons, lvL_cons]; exact ih i
theorem trimL_trim (LL : List (List Nat)) : trimL (trimL LL) = trimL LL := trimL_unique (lvL_trim LL)
theorem trimL_put (LL : List (List Nat)) (n x : Nat) : trimL (putLv LL n x) = trimL (putLv (trimL LL) n x) := trimL_unique (fun i => by
  rw [lvL_put, lvL_put]
  have e : lvL (trimL LL) = lvL LL := funext (lvL_trim LL)
  rw [e])
end Go.Proofs.Ytjenfhkikbndmaa
/- Records: entries and graves (for chapter 14). -/
namespace Go.Proofs.Ytjenfhkikbndmaa
open Go.RowKit
/-- A record: an entry, or a grave. -/
structure RecS where
  e : Ent
  grave : Bool
deriving Inhabited
abbrev RecS.cells (x : RecS) : List Value := [.int .i64 x.e.g, .string x.e.nm, .string x.e.key, .string x.e.val, .bool x.grave]
abbrev RecS.v (x : RecS) : Value := .agg #[.int .i64 x.e.g, .string x.e.nm, .string x.e.key, .string x.e.val, .bool x.grave]
def tRecS : Ty RecS := ⟨5, fun _ cs x => cs = x.cells ∧ x.e.okE, fun _ _ _ h => by rw [h.1]; rfl, fun _ _ _ _ _ h => h⟩
theorem tRecS_flat : tRecS.flat := fun _ _ _ _ h => h
abbrev tRecSs : Ty (List RecS) := tSlice tRecS
/-- By their places. -/
def recC (a b : RecS) : Int := placeC a.e b.e
theorem recC_good : Good recC := placeC_good.pull (fun a : RecS => a.e)
def liveR (a : RecS) : Bool := !a.grave
/-- The entries that records tell. -/
def toldE (l : List RecS) : List Ent := (l.filter liveR).map (·.e)
theorem told_asc {l : List RecS} (h : AscC recC l) : AscC placeC (toldE l) := List.pairwise_map.2 (List.Pairwise.filter _ h)
/-- What is told behind a write. -/
theorem told_put {t : List RecS} {x : Ent} {ls : List (List RecS)} (ht : AscC recC t) : toldE (mergeC recC (withC recC t ⟨x, false⟩ :: ls)) = withC placeC (toldE (mergeC recC (t :: ls))) x := by
  unfold toldE
  rw [write_tells recC_good liveR ht, if_pos (show liveR ⟨x, false⟩ = true from rfl)]
  exact withC_map (c := recC) (d := placeC) (fun a : RecS => a.e) (fun _ _ => rfl) _ _
theorem told_del {t : List RecS} {x : Ent} {ls : List (List RecS)} (ht : AscC recC t) : toldE (mergeC recC (withC recC t ⟨x, true⟩ :: ls)) = lessC placeC (toldE (mergeC recC (t :: ls))) x := by
  unfold toldE
  rw [write_tells recC_good liveR ht, if_neg (show ¬ liveR ⟨x, true⟩ = true from by simp [liveR])]
  exact lessC_map (c := recC) (d := placeC) (fun a : RecS => a.e) (fun _ _ => rfl) _ _
theorem recs_at {m : Mem} {xs : List RecS} {a : Option Addr} {n cap : Nat} (h : tRecSs.rv m [.slice a n cap] xs) {k : Nat} (hk : k < xs.length) :
    ∃ b o, a = some ⟨b, o, none⟩ ∧ (m b (o + k * 5) = some (.int .i64 xs[k].e.g) ∧ m b (o + k * 5 + 1) = some (.string xs[k].e.nm) ∧ m b (o + k * 5 + 2) = some (.string xs[k].e.key) ∧ m b (o + k * 5 + 3) = some (.string xs[k].e.val) ∧ m b (o + k * 5 + 4) = some (.bool xs[k].grave)) ∧ xs[k].e.okE := by
  obtain ⟨b, o, rfl, cs, hat, rfl, hok⟩ := slice_at h hk
  exact ⟨b, o, rfl, ⟨hat 0 _ rfl, hat 1 _ rfl, hat 2 _ rfl, hat 3 _ rfl, hat 4 _ rfl⟩, hok⟩
end Go.Proofs.Ytjenfhkikbndmaa
