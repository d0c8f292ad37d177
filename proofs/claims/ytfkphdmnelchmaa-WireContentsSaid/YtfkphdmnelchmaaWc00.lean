/- Part 0 of the texts that the law's proof stands on, merged. -/
import Derived.WalkKit
import Derived.WalkSpells
import Derived.WalkLawsBesides
import Derived.Deep.QuietTactic
import Derived.BigQuiet
import Derived.Lib.Hide
import Derived.ChangeArms
import Derived.Deep.Slices
import Derived.DataReads
import Derived.Carry
import Derived.Deep.RegionLaw
import Derived.Test.YtfkphdmnelchmaaRows
import Derived.ProofKit
import Derived.OpenShut
import Derived.ShutString
import Derived.ChangeOld
import Derived.Deep.RegionHeld3
import Derived.Laws.OwnMore
set_option linter.unusedVariables false
set_option linter.unusedSimpArgs false
/- Own words of these proofs: memory as a function of places, readings of Go's types as plain data (Ty), what a call keeps (Keeps), rows of the call's own. No program in sight. -/
namespace Go.Proofs.Ytfkphdmnelchmaa
open Go.RowKit

def Mem := Nat → Nat → Option Value
def mem (w : World) : Mem := fun b o => w.cell? ⟨b, o, none⟩
open Classical in
noncomputable def Mem.on (m : Mem) (S : Nat → Prop) : Mem := fun b o => if S b then m b o else none
def Mem.le (m m' : Mem) : Prop := ∀ b o v, m b o = some v → m' b o = some v

theorem Mem.le_refl (m : Mem) : m.le m := fun _ _ _ h => h
theorem Mem.le_trans {a b c : Mem} (h : a.le b) (k : b.le c) : a.le c := fun x y v e => k x y v (h x y v e)
theorem Mem.on_le (m : Mem) (S : Nat → Prop) : (m.on S).le m := fun b o v h => by
  unfold Mem.on at h
  split at h
  · exact h
  · cases h
theorem Mem.on_mono (m : Mem) {S S' : Nat → Prop} (h : ∀ b, S b → S' b) : (m.on S).le (m.on S') := fun b o v e => by
  unfold Mem.on at *
  split at e
  · rename_i hs
    rw [if_pos (h b hs)]; exact e
  · cases e
theorem Mem.on_some {m : Mem} {S : Nat → Prop} {b o : Nat} {v : Value} (h : m b o = some v) (hs : S b) : m.on S b o = some v := by
  unfold Mem.on; rw [if_pos hs]; exact h
theorem Mem.of_on {m : Mem} {S : Nat → Prop} {b o : Nat} {v : Value} (h : m.on S b o = some v) : S b ∧ m b o = some v := by
  unfold Mem.on at h
  split at h
  · exact ⟨‹_›, h⟩
  · cases h
theorem mem_lt {w : World} {b o : Nat} {v : Value} (h : mem w b o = some v) : b < w.heap.size := World.block_lt_of_cell? w ⟨b, o, none⟩ h

/-- What a call keeps: outside the blocks F all that was there is there. -/
structure Keeps (F : Nat → Prop) (w w' : World) : Prop where
  os : w'.os = w.os
  tape : w'.tape = w.tape
  output : w'.output = w.output
  size : w.heap.size ≤ w'.heap.size
  block : ∀ k, k < w.heap.size → ¬ F k → w'.heap[k]? = w.heap[k]?

theorem Keeps.refl (F : Nat → Prop) (w : World) : Keeps F w w := ⟨rfl, rfl, rfl, Nat.le_refl _, fun _ _ _ => rfl⟩
theorem Keeps.wide {F G : Nat → Prop} {w w' : World} (h : Keeps F w w') (hFG : ∀ k, k < w.heap.size → F k → G k) : Keeps G w w' :=
  ⟨h.os, h.tape, h.output, h.size, fun k hk hg => h.block k hk (fun hf => hg (hFG k hk hf))⟩
theorem Keeps.trans {F : Nat → Prop} {a b c : World} (h : Keeps F a b) (k : Keeps F b c) : Keeps F a c :=
  ⟨k.os.trans h.os, k.tape.trans h.tape, k.output.trans h.output, Nat.le_trans h.size k.size,
   fun i hi hf => (k.block i (Nat.lt_of_lt_of_le hi h.size) hf).trans (h.block i hi hf)⟩
theorem below_keeps {B : Nat} {w w' : World} (h : Below B w w') : Keeps (fun k => B ≤ k) w w' :=
  ⟨h.os, h.tape, h.output, h.size, fun k _ hk => h.block k (by omega)⟩
theorem Keeps.below {F : Nat → Prop} {w w' : World} (h : Keeps F w w') {B : Nat} (hB : B ≤ w.heap.size) (hF : ∀ k, F k → B ≤ k) : Below B w w' :=
  ⟨h.os, h.tape, h.output, h.size, fun k hk => h.block k (by omega) (fun hf => by have := hF k hf; omega)⟩
theorem below_step {B : Nat} {w wr w1 : World} (h : Below B w wr) (k : Below wr.heap.size wr w1) (hB : B ≤ wr.heap.size) : Below B w w1 := h.trans (k.mono hB)
theorem pure_trans {w wr w1 : World} (h : Below w.heap.size w wr) (k : Below wr.heap.size wr w1) : Below w.heap.size w w1 := h.trans (k.mono h.size)
theorem grown_keeps {w w' : World} {r : Option Nat} (h : w.grownBy w' r) : Keeps (fun k => some k = r) w w' :=
  ⟨h.os, h.tape, h.output, h.size, fun k hk hf => h.block k hk hf⟩
theorem Keeps.alloc {F : Nat → Prop} {a w : World} (h : Keeps F a w) (o : Obj) : Keeps F a (w.alloc o) :=
  h.trans ⟨rfl, rfl, rfl, by simp, fun k hk _ => Below.heap_alloc _ _ _ hk⟩
theorem Keeps.drew {F : Nat → Prop} {a w : World} (h : Keeps F a w) : Keeps F a w.drew := ⟨h.os, h.tape, h.output, h.size, h.block⟩
theorem Keeps.drewN {F : Nat → Prop} {a w : World} (h : Keeps F a w) (n : Nat) : Keeps F a (w.drewN n) := ⟨h.os, h.tape, h.output, h.size, h.block⟩
theorem Keeps.setCell {F : Nat → Prop} {a w : World} (h : Keeps F a w) {p : Addr} (hp : p.block < a.heap.size → F p.block) (u : Value) : Keeps F a (w.setCell p u) :=
  ⟨h.os, h.tape, h.output, by have := h.size; simpa [World.setCell] using this, fun k hk hf => (Below.heap_setCell _ _ _ _ (fun e => hf (by subst e; exact hp hk))).trans (h.block k hk hf)⟩
theorem Keeps.belowStep {F : Nat → Prop} {B : Nat} {w wr w1 : World} (h : Below B w wr) (k : Keeps F wr w1) (hF : ∀ k, F k → B ≤ k) (hB : B ≤ wr.heap.size) : Below B w w1 := h.trans (k.below hB hF)
theorem Keeps.pure {F : Nat → Prop} {a w w' : World} (h : Keeps F a w) (k : Below w.heap.size w w') : Keeps F a w' :=
  ⟨k.os.trans h.os, k.tape.trans h.tape, k.output.trans h.output, Nat.le_trans h.size k.size, fun i hi hf => (k.block i (Nat.lt_of_lt_of_le hi h.size)).trans (h.block i hi hf)⟩

theorem mem_of_block {w w' : World} {b : Nat} (h : w'.heap[b]? = w.heap[b]?) (o : Nat) : mem w' b o = mem w b o := World.cell?_of_block (w := w) (w' := w') (a := ⟨b, o, none⟩) h
theorem keeps_mem {F : Nat → Prop} {w w' : World} (h : Keeps F w w') {S : Nat → Prop} (hS : ∀ b, S b → ¬ F b) : ((mem w).on S).le ((mem w').on S) := fun b o v e => by
  obtain ⟨hs, e⟩ := Mem.of_on e
  exact Mem.on_some ((mem_of_block (h.block b (mem_lt e) (hS b hs)) o).trans e) hs
theorem keeps_mem' {F : Nat → Prop} {w w' : World} (h : Keeps F w w') {S : Nat → Prop} (hS : ∀ b, S b → ¬ F b) : ((mem w).on S).le (mem w') := Mem.le_trans (keeps_mem h hS) (Mem.on_le _ _)
theorem below_mem {w w' : World} (h : Below w.heap.size w w') : (mem w).le (mem w') := fun b o v e => (mem_of_block (h.block b (mem_lt e)) o).trans e
theorem below_memOn {B : Nat} {w w' : World} (h : Below B w w') : ((mem w).on (· < B)).le ((mem w').on (· < B)) := keeps_mem (below_keeps h) (fun b hb hn => by omega)
theorem mem_on_lt (w : World) : (mem w).le ((mem w).on (· < w.heap.size)) := fun _ _ _ e => Mem.on_some e (mem_lt e)
theorem mem_drewN (w : World) (n : Nat) : mem (w.drewN n) = mem w := rfl
theorem mem_drew (w : World) : mem w.drew = mem w := rfl

/-- How the cells of a value read as plain data. -/
structure Ty (α : Type) where
  sz : Nat
  rv : Mem → List Value → α → Prop
  len : ∀ m cs x, rv m cs x → cs.length = sz
  mono : ∀ m m' cs x, m.le m' → rv m cs x → rv m' cs x

def inI64 (n : Int) : Prop := -9223372036854775808 ≤ n ∧ n ≤ 9223372036854775807

def tInt : Ty Int := ⟨1, fun _ cs x => cs = [.int .i64 x] ∧ inI64 x, fun _ _ _ h => by rw [h.1]; rfl, fun _ _ _ _ _ h => h⟩
def tBool : Ty Bool := ⟨1, fun _ cs x => cs = [.bool x], fun _ _ _ h => by rw [h]; rfl, fun _ _ _ _ _ h => h⟩
def tStr : Ty ByteArray := ⟨1, fun _ cs x => cs = [.string x] ∧ x.size ≤ maxLen, fun _ _ _ h => by rw [h.1]; rfl, fun _ _ _ _ _ h => h⟩

/-- The cells of an element at a place. -/
def At (m : Mem) (b o : Nat) (cs : List Value) : Prop := ∀ j v, cs[j]? = some v → m b (o + j) = some v
theorem At.mono {m m' : Mem} {b o : Nat} {cs : List Value} (h : m.le m') (k : At m b o cs) : At m' b o cs := fun j v e => h _ _ _ (k j v e)
def Ty.at {α : Type} (t : Ty α) (m : Mem) (b o : Nat) (x : α) : Prop := ∃ cs, At m b o cs ∧ t.rv m cs x
theorem Ty.at_mono {α : Type} (t : Ty α) {m m' : Mem} {b o : Nat} {x : α} (h : m.le m') (k : t.at m b o x) : t.at m' b o x :=
  let ⟨cs, h1, h2⟩ := k; ⟨cs, h1.mono h, t.mono _ _ _ _ h h2⟩

def SliceRv {α : Type} (t : Ty α) (m : Mem) (cs : List Value) (xs : List α) : Prop :=
  ∃ a cap, cs = [.slice a xs.length cap] ∧ xs.length ≤ cap ∧ cap ≤ maxLen ∧
    (0 < xs.length → ∃ b o, a = some ⟨b, o, none⟩ ∧ ∀ k, (hk : k < xs.length) → t.at m b (o + k * t.sz) xs[k])
def tSlice {α : Type} (t : Ty α) : Ty (List α) where
  sz := 1
  rv := SliceRv t
  len := fun _ _ _ ⟨_, _, h, _⟩ => by rw [h]; rfl
  mono := fun m m' _ _ h ⟨a, cap, h1, h2, h3, h4⟩ => ⟨a, cap, h1, h2, h3, fun h0 => let ⟨b, o, e, hk⟩ := h4 h0; ⟨b, o, e, fun k hk' => t.at_mono h (hk k hk')⟩⟩

theorem slice_nil {α : Type} (t : Ty α) (m : Mem) : (tSlice t).rv m [.slice none 0 0] [] := ⟨none, 0, rfl, Nat.le_refl _, Nat.zero_le _, fun h => absurd h (by simp)⟩

/-- A slice's element: the cells at its place. -/
theorem slice_at {α : Type} {t : Ty α} {m : Mem} {a : Option Addr} {n cap : Nat} {xs : List α} (h : (tSlice t).rv m [.slice a n cap] xs) {k : Nat} (hk : k < xs.length) :
    ∃ b o, a = some ⟨b, o, none⟩ ∧ t.at m b (o + k * t.sz) xs[k] := by
  obtain ⟨a', cap', e, _, _, h4⟩ := h
  obtain ⟨b, o, ha, hat⟩ := h4 (by omega)
  simp only [List.cons.injEq, Value.slice.injEq, and_true] at e
  exact ⟨b, o, e.1.trans ha, hat k hk⟩
theorem slice_len {α : Type} {t : Ty α} {m : Mem} {a : Option Addr} {n cap : Nat} {xs : List α} (h : (tSlice t).rv m [.slice a n cap] xs) : n = xs.length ∧ xs.length ≤ cap ∧ cap ≤ maxLen := by
  obtain ⟨a', cap', e, h1, h2, _⟩ := h
  simp only [List.cons.injEq, Value.slice.injEq, and_true] at e
  obtain ⟨rfl, rfl, rfl⟩ := e
  exact ⟨rfl, h1, h2⟩
theorem slice_form {α : Type} {t : Ty α} {m : Mem} {v : Value} {xs : List α} (h : (tSlice t).rv m [v] xs) : ∃ a cap, v = .slice a xs.length cap ∧ xs.length ≤ cap ∧ cap ≤ maxLen ∧ (tSlice t).rv m [.slice a xs.length cap] xs := by
  have h0 := h
  obtain ⟨a', cap', e, h1, h2, _⟩ := h
  simp only [List.cons.injEq, and_true] at e
  exact ⟨a', cap', e, h1, h2, e ▸ h0⟩
/-- Elements of one cell. -/
theorem int_at {m : Mem} {b o : Nat} {x : Int} (h : tInt.at m b o x) : m b o = some (.int .i64 x) ∧ inI64 x := by
  obtain ⟨cs, h1, rfl, h3⟩ := h
  exact ⟨h1 0 _ rfl, h3⟩
theorem str_at {m : Mem} {b o : Nat} {x : ByteArray} (h : tStr.at m b o x) : m b o = some (.string x) ∧ x.size ≤ maxLen := by
  obtain ⟨cs, h1, rfl, h3⟩ := h
  exact ⟨h1 0 _ rfl, h3⟩
theorem slice_cell {α : Type} {t : Ty α} {m : Mem} {b o : Nat} {xs : List α} (h : (tSlice t).at m b o xs) : ∃ v, m b o = some v ∧ (tSlice t).rv m [v] xs := by
  obtain ⟨cs, h1, h2⟩ := h
  have hl := (tSlice t).len _ _ _ h2
  match cs, hl with
  | [v], _ => exact ⟨v, h1 0 _ rfl, h2⟩

/-! ### Rows of the call's own -/

/-- The slice value v owns its elements: they read as xs, and their deep parts do not lie in the row itself. -/
def Owns {α : Type} (t : Ty α) (w : World) (B : Nat) (e : TypeId) (v : Value) (xs : List α) : Prop :=
  ∃ css : List (List Value), css.length = xs.length ∧ w.ownsRow B e t.sz v xs.length css.flatten ∧ (∀ c ∈ css, c.length = t.sz) ∧
    ∀ k, (h : k < css.length) → (h' : k < xs.length) → t.rv ((mem w).on (fun b => some b ≠ v.ownBlock)) css[k] xs[k]

theorem Owns.nil {α : Type} (t : Ty α) (w : World) (B : Nat) (e : TypeId) : Owns t w B e (.slice none 0 0) [] :=
  ⟨[], rfl, World.ownsRow_nil w B e t.sz, fun c h => absurd h (by simp), fun k h => absurd h (by simp)⟩

theorem flatten_get {β : Type} {s : Nat} : ∀ (css : List (List β)), (∀ c ∈ css, c.length = s) → ∀ (k : Nat) (h : k < css.length) (j : Nat) (v : β), css[k][j]? = some v → css.flatten[k * s + j]? = some v
  | c :: css, hc, 0, _, j, v, e => by
    simp only [List.getElem_cons_zero] at e
    rw [List.flatten_cons, Nat.zero_mul, Nat.zero_add, List.getElem?_append_left (List.getElem?_eq_some_iff.1 e).1]
    exact e
  | c :: css, hc, k + 1, h, j, v, e => by
    have hl : c.length = s := hc c (by simp)
    rw [List.flatten_cons, List.getElem?_append_right (by rw [hl, Nat.succ_mul]; omega), hl, show (k + 1) * s + j - s = k * s + j by rw [Nat.succ_mul]; omega]
    exact flatten_get css (fun c hm => hc c (by simp [hm])) k (by simpa using h) j v (by simpa using e)

theorem Owns.rv {α : Type} {t : Ty α} {w : World} {B : Nat} {e : TypeId} {v : Value} {xs : List α} (h : Owns t w B e v xs) {S : Nat → Prop} (hS : ∀ b, B ≤ b → S b)
    (hd : ∀ k cs, (hk : k < xs.length) → t.rv ((mem w).on (fun b => some b ≠ v.ownBlock)) cs xs[k] → t.rv ((mem w).on S) cs xs[k]) : (tSlice t).rv ((mem w).on S) [v] xs := by
  obtain ⟨css, h1, ⟨h2, h3⟩, h4, h5⟩ := h
  rcases h3 with ⟨rfl, h6⟩ | ⟨g, cap, cur, rfl, hg, hh, hn, hm, hc, ht⟩
  · have : xs = [] := List.eq_nil_of_length_eq_zero h6
    subst this
    exact slice_nil t _
  · refine ⟨some ⟨g, 0, none⟩, cap, rfl, hn, hm, fun _ => ⟨g, 0, rfl, fun k hk => ⟨css[k], fun j u hu => ?_, hd k _ hk (h5 k (by omega) hk)⟩⟩⟩
    have hf := flatten_get css h4 k (by omega) j u hu
    rw [← ht] at hf
    rw [List.getElem?_take] at hf
    split at hf
    · rw [Nat.zero_add]
      refine Mem.on_some ?_ (hS g hg)
      show World.cell? w ⟨g, k * t.sz + j, none⟩ = some u
      rw [cell_of_row w g (k * t.sz + j) cur e (0, 0) hh]
      simpa using hf
    · cases hf

theorem Owns.rv' {α : Type} {t : Ty α} {w : World} {B : Nat} {e : TypeId} {v : Value} {xs : List α} (h : Owns t w B e v xs) : (tSlice t).rv (mem w) [v] xs :=
  (tSlice t).mono _ _ _ _ (Mem.on_le _ (fun _ => True)) (h.rv (fun _ _ => trivial) (fun _ cs _ hk => t.mono _ _ cs _ (Mem.on_mono _ (fun _ _ => trivial)) hk))
theorem Owns.len {α : Type} {t : Ty α} {w : World} {B : Nat} {e : TypeId} {v : Value} {xs : List α} (h : Owns t w B e v xs) : ∃ a cap, v = .slice a xs.length cap ∧ xs.length ≤ maxLen := by
  obtain ⟨a, cap, h1, h2, h3, _⟩ := slice_form h.rv'
  exact ⟨a, cap, h1, Nat.le_trans h2 h3⟩

/-- An owned row over a call that keeps it. -/
theorem Owns.keeps {α : Type} {t : Ty α} {w w' : World} {B : Nat} {e : TypeId} {v : Value} {xs : List α} (h : Owns t w B e v xs) (hb : Below w.heap.size w w') : Owns t w' B e v xs := by
  obtain ⟨css, h1, ⟨h2, h3⟩, h4, h5⟩ := h
  refine ⟨css, h1, ⟨h2, ?_⟩, h4, fun k h h' => t.mono _ _ _ _ (fun b o u e => ?_) (h5 k h h')⟩
  · rcases h3 with h3 | ⟨g, cap, cur, rfl, hg, hh, r⟩
    · exact .inl h3
    · exact .inr ⟨g, cap, cur, rfl, hg, by rw [hb.block g (Array.getElem?_eq_some_iff.1 hh).1]; exact hh, r⟩
  · obtain ⟨hs, e⟩ := Mem.of_on e
    exact Mem.on_some (below_mem hb _ _ _ e) hs

/-- A reading that asks nothing of memory. -/
def Ty.flat {α : Type} (t : Ty α) : Prop := ∀ m m' cs x, t.rv m cs x → t.rv m' cs x
theorem tInt_flat : tInt.flat := fun _ _ _ _ h => h
theorem tBool_flat : tBool.flat := fun _ _ _ _ h => h
theorem tStr_flat : tStr.flat := fun _ _ _ _ h => h
theorem Owns.keepsFlat {α : Type} {t : Ty α} {w w' : World} {B : Nat} {e : TypeId} {v : Value} {xs : List α} (h : Owns t w B e v xs) (hf : t.flat) {F : Nat → Prop} (hk : Keeps F w w') (hF : ∀ k, v.ownBlock = some k → ¬ F k) : Owns t w' B e v xs := by
  obtain ⟨css, h1, ⟨h2, h3⟩, h4, h5⟩ := h
  refine ⟨css, h1, ⟨h2, ?_⟩, h4, fun k h h' => hf _ _ _ _ (h5 k h h')⟩
  rcases h3 with h3 | ⟨g, cap, cur, rfl, hg, hh, r⟩
  · exact .inl h3
  · exact .inr ⟨g, cap, cur, rfl, hg, by rw [hk.block g (Array.getElem?_eq_some_iff.1 hh).1 (hF g rfl)]; exact hh, r⟩

theorem Owns.lt {α : Type} {t : Ty α} {w : World} {B : Nat} {e : TypeId} {v : Value} {xs : List α} (h : Owns t w B e v xs) : ∀ k, v.ownBlock = some k → B ≤ k ∧ k < w.heap.size := let ⟨_, _, h2, _⟩ := h; h2.lt

/-- What stands behind an append of one element: the row owns one more. -/
theorem Owns.snoc {α : Type} {t : Ty α} {w w' : World} {B : Nat} {e : TypeId} {v v' : Value} {xs : List α} {x : α} {cs : List Value} (h : Owns t w B e v xs)
    (hw : ∀ css : List (List Value), w.ownsRow B e t.sz v xs.length css.flatten → w'.ownsRow B e t.sz v' (xs.length + 1) (css.flatten ++ cs)) (hg : w.grownBy w' v.ownBlock)
    (hv : v'.ownBlock = v.ownBlock ∨ ∀ k, v'.ownBlock = some k → w.heap.size ≤ k)
    (hx : t.rv ((mem w).on (fun b => some b ≠ v.ownBlock)) cs x) : Owns t w' B e v' (xs ++ [x]) := by
  obtain ⟨css, h1, h2, h4, h5⟩ := h
  have hle : ((mem w).on (fun b => some b ≠ v.ownBlock)).le ((mem w').on (fun b => some b ≠ v'.ownBlock)) := fun b o u e => by
    obtain ⟨hs, e⟩ := Mem.of_on e
    refine Mem.on_some ((mem_of_block (hg.block b (mem_lt e) hs) o).trans e) ?_
    rcases hv with hv | hv
    · rw [hv]; exact hs
    · intro hk
      have := hv b hk.symm
      have := mem_lt e
      omega
  refine ⟨css ++ [cs], by simp [h1], ?_, ?_, ?_⟩
  · have := hw css h2
    simpa using this
  · intro c hc
    rcases List.mem_append.1 hc with hc | hc
    · exact h4 c hc
    · simp at hc; subst hc; exact t.len _ _ _ hx
  · intro k hk hk'
    by_cases hlt : k < xs.length
    · rw [List.getElem_append_left (by omega), List.getElem_append_left hlt]
      exact t.mono _ _ _ _ hle (h5 k (by omega) hlt)
    · have : k = xs.length := by simp at hk'; omega
      subst this
      rw [List.getElem_append_right (by omega), List.getElem_append_right (by omega)]
      simp only [h1, Nat.sub_self, List.getElem_cons_zero]
      exact t.mono _ _ _ _ hle hx

theorem mem_cells_new (w : World) (cs : Array Value) (T : TypeId) (f : Nat × Nat) (o : Nat) : (w.alloc (.cells cs T f)).cell? ⟨w.heap.size, o, none⟩ = cs[o]? := by
  have h := heap_alloc_new w (.cells cs T f)
  generalize w.alloc (.cells cs T f) = w' at h ⊢
  simp [World.cell?, h]
theorem Owns.alloc {α : Type} {t : Ty α} {w : World} {B : Nat} {e : TypeId} {v : Value} {xs : List α} (h : Owns t w B e v xs) (o : Obj) : Owns t (w.alloc o) B e v xs :=
  h.keeps ((Below.refl _ _).alloc (Nat.le_refl _) o)
theorem Owns.drew {α : Type} {t : Ty α} {w : World} {B : Nat} {e : TypeId} {v : Value} {xs : List α} (h : Owns t w B e v xs) : Owns t w.drew B e v xs :=
  h.keeps (Below.refl _ _).drew

section
variable {P : Program}
/-- Where an append has put its row: in the same one, or in a new one. -/
theorem append_block (w : World) (base : Nat) (t ty e : TypeId) (i : TypeInfo) (z : Value) (size bytes : Nat) (ht : P.underlying t = some (.slice e)) (hi : P.info? e = some i) (hz : i.zero = some z)
    (hsize : i.size = size) (hby : i.bytes = bytes) (v : Value) (n : Nat) (xs : List Value) (hown : w.ownsRow base e size v n xs)
    (a : Addr) (m c : Nat) (news : List Value) (hl : news.length = m * size) (hnews : ∀ j u, news[j]? = some u → w.cell? (a.add j) = some u) (h1 : ∀ u ∈ news, u.oneCell' = true)
    (hm : 0 < m) (h63 : n + m ≤ maxLen) (hbytes : (n + m) * bytes ≤ 140737488355328) {v' : Value} {w' : World}
    (hr : (Builtin.append_ #[t, t] ty #[v, .slice (some a) m c]).run P w = .ok v' w') : v'.ownBlock = v.ownBlock ∨ ∀ k, v'.ownBlock = some k → w.heap.size ≤ k := by
  subst hsize
  subst hby
  have h9 : n + m ≤ 9223372036854775807 := by unfold maxLen at h63; exact h63
  rcases hown.2 with ⟨rfl, rfl⟩ | ⟨g, cap, cur, rfl, hbg, hg, hnc, hcm, hcs, htake⟩
  · rw [run_append_nil (P := P) w t ty e i z ht hi hz a m c news hl hnews hm (by omega) (by have hb := hbytes; simp only [Nat.zero_add] at hb; omega)] at hr
    injection hr with hv _
    subst hv
    right; intro k hk
    simp [Value.ownBlock] at hk
    omega
  · by_cases hroom : n + m ≤ cap
    · have hfit : n * i.size + news.length ≤ cur.size := by rw [hl, hcs, ← Nat.add_mul]; exact Nat.mul_le_mul_right _ hroom
      rw [run_append_room (P := P) w t ty e i ht hi g n cap cur hg a m c news hl hnews h1 hroom hfit] at hr
      injection hr with hv _
      subst hv
      left; rfl
    · rw [run_append_grow (P := P) w t ty e i z ht hi hz ⟨g, 0, none⟩ n cap xs hown.1 (hown.cells (g := g) rfl) a m c news hl hnews (by omega) (by omega) (growslice_fits (by omega) hbytes)] at hr
      injection hr with hv _
      subst hv
      right; intro k hk
      simp [Value.ownBlock] at hk
      omega

/-- APPEND OF ONE ELEMENT to a row of the call's own, in readings. -/
theorem wpList_append_one {α : Type} {ops : Array Oper} {rest : List Oper} {o : Oper} {a : Act} {Q : Exit → Act → World → Prop} {w : World} (hgd : o.guard = none) (s x : Operand) (T : TypeId)
    (ho : o.op = .call { callee := .builtin .append, args := #[s, x], argTypes := #[T, T] }) (t : Ty α) {e : TypeId} {z : Value} {bytes : Nat} (hT : P.underlying T = some (.slice e))
    (hinf : (P.info? e).map (fun i => (i.zero, i.size, i.bytes)) = some (some z, t.sz, bytes)) (hzs : z.cells.size = t.sz) (hsz : 0 < t.sz) (B : Nat) (v : Value) (xs : List α) (hs : a.eval s = v) (hown : Owns t w B e v xs)
    (nb c : Nat) (y : α) (hx : a.eval x = .slice (some ⟨nb, 0, none⟩) 1 c) (cs : List Value) (hat : At (mem w) nb 0 cs) (hrv : t.rv ((mem w).on (fun b => some b ≠ v.ownBlock)) cs y) (h1 : ∀ u ∈ cs, u.oneCell' = true)
    (h63 : xs.length + 1 ≤ maxLen) (hbytes : (xs.length + 1) * bytes ≤ 140737488355328) (hbase : B ≤ w.heap.size)
    (h : ∀ v' w', Owns t w' B e v' (xs ++ [y]) → w.grownBy w' v.ownBlock → (v'.ownBlock = v.ownBlock ∨ ∀ k, v'.ownBlock = some k → w.heap.size ≤ k) → wpList P ops Q rest (a.put o.dst v') w') : wpList P ops Q (o :: rest) a w := by
  obtain ⟨i, hi, hz, hsize, hby⟩ := info_parts hinf
  have hown' := hown
  obtain ⟨css, g1, g2, g4, g5⟩ := hown
  have hl : cs.length = 1 * t.sz := by rw [t.len _ _ _ hrv, Nat.one_mul]
  have hnews : ∀ j u, cs[j]? = some u → w.cell? ((⟨nb, 0, none⟩ : Addr).add j) = some u := fun j u hj => by rw [Addr.add_lit]; exact hat j u hj
  refine wpList_plain hgd fun K hK => ?_
  obtain ⟨v', w', hr, h2, h3, _⟩ := run_append_own (P := P) w B T o.type e i z t.sz bytes hT hi hz hsize hby hzs hsz v xs.length css.flatten g2 ⟨nb, 0, none⟩ 1 c cs hl hnews h1 h63 hbytes hbase
  have hblk := append_block w B T o.type e i z t.sz bytes hT hi hz hsize hby v xs.length css.flatten g2 ⟨nb, 0, none⟩ 1 c cs hl hnews h1 (by omega) h63 hbytes hr
  have key : Owns t w' B e v' (xs ++ [y]) := by
    refine hown'.snoc (fun css' hc' => ?_) h3 hblk hrv
    obtain ⟨v2, w2, hr2, h22, _, _⟩ := run_append_own (P := P) w B T o.type e i z t.sz bytes hT hi hz hsize hby hzs hsz v xs.length css'.flatten hc' ⟨nb, 0, none⟩ 1 c cs hl hnews h1 h63 hbytes hbase
    rw [hr] at hr2
    injection hr2 with ev ew
    subst ev; subst ew
    exact h22
  unfold Oper.wp execOp
  simp only [ho, resolve, invoke, builtin, Sem.run_bind, Sem.run_pure, Result.andThen_ok, List.map_toArray, List.map_cons, List.map_nil, hs, hx, hr]
  exact hK _ _ (h v' w' key h3 hblk)
end

theorem cell_new {w : World} {cs : Array Value} {T : TypeId} {f : Nat × Nat} {b : Nat} (o : Nat) (h : b = w.heap.size) : (w.alloc (.cells cs T f)).cell? ⟨b, o, none⟩ = cs[o]? := by
  subst h; exact mem_cells_new w cs T f o
/-- Append of one number. -/
theorem wpList_append_int {P : Program} {ops : Array Oper} {rest : List Oper} {o : Oper} {a : Act} {Q : Exit → Act → World → Prop} {w : World} (hgd : o.guard = none) (s x : Operand) (T : TypeId)
    (ho : o.op = .call { callee := .builtin .append, args := #[s, x], argTypes := #[T, T] }) {e : TypeId} (hT : P.underlying T = some (.slice e))
    (hinf : (P.info? e).map (fun i => (i.zero, i.size, i.bytes)) = some (some (.int .i64 0), 1, 8)) (B : Nat) (v : Value) (xs : List Int) (hs : a.eval s = v) (hown : Owns tInt w B e v xs)
    (nb c : Nat) (y : Int) (hx : a.eval x = .slice (some ⟨nb, 0, none⟩) 1 c) (hc : w.cell? ⟨nb, 0, none⟩ = some (.int .i64 y)) (hin : inI64 y) (hlen : xs.length ≤ 1000000000) (hbase : B ≤ w.heap.size)
    (h : ∀ v' w', Owns tInt w' B e v' (xs ++ [y]) → w.grownBy w' v.ownBlock → (v'.ownBlock = v.ownBlock ∨ ∀ k, v'.ownBlock = some k → w.heap.size ≤ k) → wpList P ops Q rest (a.put o.dst v') w') : wpList P ops Q (o :: rest) a w :=
  wpList_append_one hgd s x T ho tInt hT hinf rfl (by decide) B v xs hs hown nb c y hx [.int .i64 y] (fun j u hj => by match j, hj with | 0, hj => simp at hj; subst hj; exact hc) ⟨rfl, hin⟩ (fun u hu => by simp at hu; subst hu; rfl) (by unfold maxLen; omega) (by omega) hbase h

section
variable {P : Program}
/-- COPY of elements of whatever size into a block that is known whole. -/
theorem run_copy_cells (w : World) (dT sT ty elem : TypeId) (g o dLen dCap : Nat) (a : Addr) (sLen sCap n : Nat) (cur : Array Value) (t : TypeId) (cs : List Value) (sz : Nat)
    (hu : P.underlying dT = some (.slice elem)) (hs : (P.info? elem).map (·.size) = some sz)
    (hg : w.heap[g]? = some (.cells cur t (0, 0))) (hn : n = Nat.min sLen dLen) (hl : cs.length = n * sz)
    (hsrc : ∀ j v, cs[j]? = some v → w.cell? (a.add j) = some v) (hfit : o + cs.length ≤ cur.size) (h1 : ∀ v ∈ cs, v.oneCell' = true) :
    (Builtin.copy_ #[dT, sT] ty #[.slice (some ⟨g, o, none⟩) dLen dCap, .slice (some a) sLen sCap]).run P w =
      .ok (goInt n) (w.setRow g (cur.toList.take o ++ cs ++ cur.toList.drop (o + cs.length)).toArray) := by
  subst hn
  cases hq : P.info? elem with
  | none => simp [hq] at hs
  | some i =>
    simp only [hq, Option.map_some, Option.some.injEq] at hs
    subst hs
    have hf := run_firstCells_some (P := P) w i.size (Nat.min sLen dLen) a sLen sCap cs hl hsrc
    have hst := run_storeCells_at P g o t cs 0 cur w hg (by simpa using hfit) h1
    simp only [Nat.add_zero] at hst
    simp [Builtin.copy_, run_underlying hu, Builtin.lenOf, sizeOf, typeInfo, hq, hf, hst]

theorem wpList_copy_cells {w : World} {ops : Array Oper} {rest : List Oper} {o : Oper} {a : Act} {Q : Exit → Act → World → Prop} (hgd : o.guard = none) (d s : Operand) (dT sT : TypeId)
    (ho : o.op = .call { callee := .builtin .copy, args := #[d, s], argTypes := #[dT, sT] }) (elem sz : Nat) (hu : P.underlying dT = some (.slice elem)) (hs : (P.info? elem).map (·.size) = some sz)
    (g off dLen dCap : Nat) (ad : Addr) (sLen sCap n : Nat) (hd : a.eval d = .slice (some ⟨g, off, none⟩) dLen dCap) (hsv : a.eval s = .slice (some ad) sLen sCap)
    (cur : Array Value) (t : TypeId) (hg : w.heap[g]? = some (.cells cur t (0, 0))) (cs : List Value) (hn : n = Nat.min sLen dLen) (hl : cs.length = n * sz)
    (hsrc : ∀ j v, cs[j]? = some v → w.cell? (ad.add j) = some v) (hfit : off + cs.length ≤ cur.size) (h1 : ∀ v ∈ cs, v.oneCell' = true)
    (h : wpList P ops Q rest (a.put o.dst (goInt n)) (w.setRow g (cur.toList.take off ++ cs ++ cur.toList.drop (off + cs.length)).toArray)) : wpList P ops Q (o :: rest) a w := by
  refine wpList_plain hgd fun K hK => ?_
  have hrun := run_copy_cells (P := P) w dT sT o.type elem g off dLen dCap ad sLen sCap n cur t cs sz hu hs hg hn hl hsrc hfit h1
  unfold Oper.wp
  rw [List.append_assoc] at h
  simp [execOp, ho, resolve, invoke, builtin, hd, hsv, hrun, Result.andThen]
  exact hK _ _ h
end

/-- COPY as one step of a region that draws its order. -/
theorem step_copy_cells {P : Program} {ops : Array Oper} {o : Oper} {a : Act} {w : World} {K : Act → World → Prop} {Q : Exit → Act → World → Prop} {E : Prop} (hgd : o.guard = none) (d s : Operand) (dT sT : TypeId)
    (ho : o.op = .call { callee := .builtin .copy, args := #[d, s], argTypes := #[dT, sT] }) (elem sz : Nat) (hu : P.underlying dT = some (.slice elem)) (hs : (P.info? elem).map (·.size) = some sz)
    (g off dLen dCap : Nat) (ad : Addr) (sLen sCap n : Nat) (hd : a.eval d = .slice (some ⟨g, off, none⟩) dLen dCap) (hsv : a.eval s = .slice (some ad) sLen sCap)
    (cur : Array Value) (t : TypeId) (hg : w.heap[g]? = some (.cells cur t (0, 0))) (cs : List Value) (hn : n = Nat.min sLen dLen) (hl : cs.length = n * sz)
    (hsrc : ∀ j v, cs[j]? = some v → w.cell? (ad.add j) = some v) (hfit : off + cs.length ≤ cur.size) (h1 : ∀ v ∈ cs, v.oneCell' = true)
    (h : K (a.put o.dst (goInt n)) (w.setRow g (cur.toList.take off ++ cs ++ cur.toList.drop (off + cs.length)).toArray)) :
    if Region.wanted o (yielded ops a.tmps) = true then Oper.wp P o a w K Q else E := by
  have hw : Region.wanted o (yielded ops a.tmps) = true := by simp [Region.wanted, hgd]
  rw [if_pos hw]
  have hrun := run_copy_cells (P := P) w dT sT o.type elem g off dLen dCap ad sLen sCap n cur t cs sz hu hs hg hn hl hsrc hfit h1
  unfold Oper.wp
  rw [List.append_assoc] at h
  simp [execOp, ho, resolve, invoke, builtin, hd, hsv, hrun, Result.andThen]
  exact h

theorem frozen_cells {w : World} {b : Nat} {c : Array Value} {t : TypeId} (h : w.heap[b]? = some (.cells c t (0, 0))) (o : Nat) : w.frozen? ⟨b, o, none⟩ = false := by simp [World.frozen?, h]
theorem mem_cells {w : World} {b : Nat} {c : Array Value} {t : TypeId} {f : Nat × Nat} (h : w.heap[b]? = some (.cells c t f)) (o : Nat) : mem w b o = c[o]? := by simp [mem, World.cell?, h]

theorem setRow_facts {w0 w : World} {B g : Nat} {cur new : Array Value} {t : TypeId} (hb : Below B w0 w) (hB : B ≤ g) (hg : w.heap[g]? = some (.cells cur t (0, 0))) :
    (w.setRow g new).heap[g]? = some (.cells new t (0, 0)) ∧ Below B w0 (w.setRow g new) := by
  refine ⟨setRow_heap w g cur new t _ hg, hb.trans ⟨rfl, rfl, rfl, ?_, fun k hk => setRow_other w g k _ (by omega)⟩⟩
  simp [World.setRow]

/-! ### From the reading of an argument to plain data -/
section
variable {H : Type} {enc : TypeId × Value → H} {P : Program}
def Reads (P : Program) (T : TypeId) {α : Type} (t : Ty α) : Prop :=
  ∀ (H : Type) (enc : TypeId × Value → H) (w : World) (n : Nat) (cs : List Value) (d : DataW H × List MemPlace), DataW.trod enc P w 0 (fun _ => true) true n T cs = some d → ∃ x, t.rv (mem w) cs x
theorem reads_int {T : TypeId} (ht : P.underlying T = some (.int .i64)) : Reads P T tInt := fun _ _ _ _ _ _ h => by
  obtain ⟨n, h1, _, h3⟩ := DataW.trod_int ht h
  refine ⟨n, h1, ?_⟩
  have : -9223372036854775808 ≤ n ∧ n ≤ 9223372036854775807 := by simpa [Lit.wf, IntKind.min, IntKind.max, IntKind.signed, IntKind.bits] using h3
  exact this
theorem reads_bool {T : TypeId} (ht : P.underlying T = some .bool) : Reads P T tBool := fun _ _ _ _ _ _ h => by
  obtain ⟨n, h1, _⟩ := DataW.trod_bool ht h
  exact ⟨n, h1⟩
theorem reads_str {T : TypeId} (ht : P.underlying T = some .string) : Reads P T tStr := fun _ _ _ _ _ _ h => by
  obtain ⟨n, h1, _, h3⟩ := DataW.trod_string ht h
  exact ⟨n, h1, h3⟩
theorem reads_slice {T E : TypeId} {α : Type} [Inhabited α] {t : Ty α} (ht : P.underlying T = some (.slice E)) (hc : P.cellsOf E = t.sz) (hpos : 0 < t.sz) (hE : Reads P E t) : Reads P T (tSlice t) := fun H enc w n cs d h => by
  rcases Deep.open_slice ht h with ⟨rfl, _⟩ | ⟨a, len, cap, m, n', D, Pl, rfl, _, hl, hm, hmm, _, hi⟩
  · exact ⟨[], slice_nil t _⟩
  have hm' : m = cap := by simpa using hmm
  have hx : ∀ i, i < len → ∃ x, ∃ cs', w.cells? 0 (a.add (i * t.sz)) t.sz = some cs' ∧ t.rv (mem w) cs' x := fun i hil => by
    obtain ⟨cs', h1, h2⟩ := hi i (by omega)
    obtain ⟨x, hx⟩ := hE H enc w _ _ _ h2
    rw [hc] at h1
    exact ⟨x, cs', h1, hx⟩
  obtain ⟨f, hf⟩ := Deep.choose_lt hx
  refine ⟨(List.range len).map f, some a, cap, by simp, by simpa using hl, hm, fun h0 => ?_⟩
  have h0' : 0 < len := by simpa using h0
  obtain ⟨cs0, h1, h2⟩ := hf 0 h0'
  obtain ⟨_, hlen, hat⟩ := World.cells?_some h1
  have hsp : a.spot = none := by
    have := hat 0 hpos
    rw [Nat.zero_mul, Addr.add_zero', Addr.add_zero'] at this
    rw [List.getElem?_eq_getElem (by omega)] at this
    unfold World.cell? at this
    split at this
    · split at this
      · cases this
      · rename_i hns; simpa using hns
    · cases this
  obtain ⟨b, o, sp⟩ := a
  simp only at hsp
  subst hsp
  refine ⟨b, o, rfl, fun k hk => ?_⟩
  have hk' : k < len := by simpa using hk
  obtain ⟨cs', g1, g2⟩ := hf k hk'
  obtain ⟨_, glen, gat⟩ := World.cells?_some g1
  refine ⟨cs', fun j v hv => ?_, by simpa using g2⟩
  have hj : j < cs'.length := (List.getElem?_eq_some_iff.1 hv).1
  have := gat j (by omega)
  rw [Addr.add_lit, Addr.add_lit] at this
  exact this.trans hv
theorem field_read {T : TypeId} {α : Type} {t : Ty α} (hR : Reads P T t) {w : World} {n i : Nat} {cs : List Value} {xs : List (DataW H × List MemPlace)} {f : Field} (o k : Nat) (hF : f.type = T) (ho : f.offset = o) (hk : P.cellsOf T = k)
    (hg : DataW.trod enc P w 0 (fun _ => true) true n f.type ((cs.drop f.offset).take (P.cellsOf f.type)) = xs[i]?) (hi : i < xs.length) : ∃ x, t.rv (mem w) ((cs.drop o).take k) x := by
  subst hF; subst ho; subst hk
  exact hR H enc w n _ xs[i] (hg.trans (List.getElem?_eq_getElem hi))
end
end Go.Proofs.Ytfkphdmnelchmaa
/- The frame of a law's statement: what is common to all laws. -/
namespace Go.Proofs.Ytfkphdmnelchmaa
open Go.ChangeShapes Go.WideShapes Go.ChangeAt Go.RowKit

theorem Try.own : ownKnob Try.prog.godebug = none := by kernel_rfl
theorem Try.laidOut : laidOutB Try.prog = true := by kernel_rfl

theorem args_below {H : Type} {enc : TypeId × Value → H} {P : Program} (hl : laidOutB P = true) {W W' : World} (hb : Below W.heap.size W W') : ∀ (ts : List TypeId) (vs : List Value) (ds : List (DataW H)) (ps : List MemPlace),
    (∀ t ∈ ts, P.readableRec t = true ∧ t < P.types.size) → DataW.TrodAll enc P W 0 (fun _ => true) true ts vs ds ps → DataW.TrodAll enc P W' 0 (fun b => decide (b < W.heap.size)) true ts vs ds ps
  | [], [], [], _, _, h => h
  | t :: ts, v :: vs, d :: ds, ps, hr, h => by
    obtain ⟨p, q, h1, h2, rfl⟩ := h
    obtain ⟨r1, r2⟩ := hr t (by simp)
    have lt0 : ∀ x ∈ p, x.block < W.heap.size := by obtain ⟨m, hm⟩ := h1; exact DataW.trod_lt m _ _ _ hm
    exact ⟨p, q, Below.trod hl r1 r2 h1 hb lt0, args_below hl hb ts vs ds q (fun t ht => hr t (by simp [ht])) h2, rfl⟩
  | [], _ :: _, _, _, _, h => h.elim
  | [], [], _ :: _, _, _, h => h.elim
  | _ :: _, [], _, _, _, h => h.elim
  | _ :: _, _ :: _, [], _, _, h => h.elim

theorem law_post {H : Type} {enc : TypeId × Value → H} {P : Program} {f : Func} {s : ChangeSpec} {W W' : World} {args : Array Value} {ds gs : List (DataW H)} {before : List MemPlace} (hl : laidOutB P = true) (hv : s.vars = [])
    (hread : ∀ t ∈ f.params.toList, P.readableRec t = true ∧ t < P.types.size) {T : TypeId} (hres : f.resultTypes = #[T]) (hT : P.underlying T = some .bool)
    (hfr : (s.fn H (ds ++ gs)).results = [.lit (.bool true)]) (hfa : (s.fn H (ds ++ gs)).args = ds) (hfv : (s.fn H (ds ++ gs)).vars = [])
    (hW : DataW.Whole enc P f.params.toList s.vars false W args.toList ds gs before) (hb : Below W.heap.size W W') : s.post enc P f false true false false W args (.bool true) W' := by
  have hW' := hW
  obtain ⟨p, q, hA, hV, rfl, _, _⟩ := hW
  refine ⟨ds, gs, _, [], p, [], hW', ?_, ?_, ?_, hb.frame _, fun h => by cases h⟩
  · rw [hfr, hres]
    exact trodAll_mk1 (shut_bool hT _)
  · rw [hfa]
    exact args_below hl hb _ _ _ _ hread hA
  · rw [hfv, hv]; rfl

/-- A slice among the arguments, as plain data. -/
theorem arg_slice {H : Type} {enc : TypeId × Value → H} {P : Program} {W : World} {T E : TypeId} {v : Value} {d : DataW H} {p : List MemPlace} {α : Type} {t : Ty α} (hR : Reads P T (tSlice t)) (hT : P.underlying T = some (.slice E)) {r : Reach} {base : Nat}
    (hval : Value.okWide P W r base T v) (h : DataW.Trod enc P W 0 (fun _ => true) true T v d p) : ∃ xs, (tSlice t).rv (mem W) [v] xs := by
  obtain ⟨a0, len0, cap0, rfl⟩ := okWide_slice hT hval
  obtain ⟨fuel, hf⟩ := h
  obtain ⟨x, hx⟩ := hR H enc W fuel _ _ hf
  exact ⟨x, by simpa [Value.cells] using hx⟩
theorem arg_int {H : Type} {enc : TypeId × Value → H} {P : Program} {W : World} {T : TypeId} {v : Value} {d : DataW H} {p : List MemPlace} (hT : P.underlying T = some (.int .i64)) {r : Reach} {base : Nat}
    (hval : Value.okWide P W r base T v) (h : DataW.Trod enc P W 0 (fun _ => true) true T v d p) : ∃ n, v = .int .i64 n ∧ inI64 n := by
  obtain ⟨n, rfl, _, _, hw⟩ := open_int hT hval h
  refine ⟨n, rfl, ?_⟩
  have : -9223372036854775808 ≤ n ∧ n ≤ 9223372036854775807 := by simpa [Lit.wf, IntKind.min, IntKind.max, IntKind.signed, IntKind.bits] using hw
  exact this
theorem arg_str {H : Type} {enc : TypeId × Value → H} {P : Program} {W : World} {T : TypeId} {v : Value} {d : DataW H} {p : List MemPlace} (hT : P.underlying T = some .string) {r : Reach} {base : Nat}
    (hval : Value.okWide P W r base T v) (h : DataW.Trod enc P W 0 (fun _ => true) true T v d p) : ∃ s, v = .string s ∧ s.size ≤ maxLen := by
  obtain ⟨s, rfl, _, _, hs⟩ := Go.ChangeMaps.open_string hT hval h
  exact ⟨s, rfl, hs⟩
end Go.Proofs.Ytfkphdmnelchmaa
/- Arguments that are structs or arrays, as plain data; pairs of numbers. -/
namespace Go.Proofs.Ytfkphdmnelchmaa
open Go.ChangeShapes Go.WideShapes Go.ChangeAt Go.RowKit

def tInt2 : Ty (Int × Int) := ⟨2, fun _ cs x => cs = [.int .i64 x.1, .int .i64 x.2] ∧ inI64 x.1 ∧ inI64 x.2, fun _ _ _ h => by rw [h.1]; rfl, fun _ _ _ _ _ h => h⟩
theorem tInt2_flat : tInt2.flat := fun _ _ _ _ h => h
theorem int2_at {m : Mem} {b o : Nat} {x : Int × Int} (h : tInt2.at m b o x) : m b o = some (.int .i64 x.1) ∧ m b (o + 1) = some (.int .i64 x.2) ∧ inI64 x.1 ∧ inI64 x.2 := by
  obtain ⟨cs, h1, rfl, h3, h4⟩ := h
  exact ⟨h1 0 _ rfl, h1 1 _ rfl, h3, h4⟩
theorem reads_int2 {P : Program} {T E : TypeId} (ht : P.underlying T = some (.array 2 E)) (hE : P.underlying E = some (.int .i64)) (hc : P.cellsOf E = 1) (hT : P.cellsOf T = 2) : Reads P T tInt2 := fun H enc w n cs d h => by
  obtain ⟨xs, m, _, _, hl, hx, hg⟩ := DataW.trod_array ht h
  rw [hT] at hl
  rw [hc] at hg
  match cs, hl with
  | [c0, c1], _ =>
    have g0 := hg 0 (by omega)
    have g1 := hg 1 (by omega)
    simp only [Nat.zero_mul, List.drop_zero, List.take_succ_cons, List.take_zero, Nat.one_mul, List.drop_succ_cons] at g0 g1
    obtain ⟨x0, r0, i0⟩ := reads_int hE H enc w m [c0] xs[0] (g0.trans (List.getElem?_eq_getElem (by omega)))
    obtain ⟨x1, r1, i1⟩ := reads_int hE H enc w m [c1] xs[1] (g1.trans (List.getElem?_eq_getElem (by omega)))
    simp only [List.cons.injEq, and_true] at r0 r1
    exact ⟨(x0, x1), by rw [r0, r1], i0, i1⟩
theorem arg_array {H : Type} {enc : TypeId × Value → H} {P : Program} {W : World} {T E : TypeId} {k : Nat} {v : Value} {d : DataW H} {p : List MemPlace} {α : Type} {t : Ty α} (hR : Reads P T t) (hT : P.underlying T = some (.array k E)) {r : Reach} {base : Nat}
    (hval : Value.okWide P W r base T v) (h : DataW.Trod enc P W 0 (fun _ => true) true T v d p) : ∃ x cs, v = .agg cs ∧ t.rv (mem W) cs.toList x := by
  unfold Value.okWide at hval
  rw [hT] at hval
  obtain ⟨cs, rfl, _⟩ := hval
  obtain ⟨fuel, hf⟩ := h
  obtain ⟨x, hx⟩ := hR H enc W fuel _ _ hf
  exact ⟨x, cs, rfl, by simpa [Value.cells] using hx⟩
theorem arg_struct {H : Type} {enc : TypeId × Value → H} {P : Program} {W : World} {T : TypeId} {fs : Array Field} {v : Value} {d : DataW H} {p : List MemPlace} {α : Type} {t : Ty α} (hR : Reads P T t) (hT : P.underlying T = some (.struct fs)) {r : Reach} {base : Nat}
    (hval : Value.okWide P W r base T v) (h : DataW.Trod enc P W 0 (fun _ => true) true T v d p) : ∃ x cs, v = .agg cs ∧ t.rv (mem W) cs.toList x := by
  unfold Value.okWide at hval
  rw [hT] at hval
  obtain ⟨cs, rfl, _⟩ := hval
  obtain ⟨fuel, hf⟩ := h
  obtain ⟨x, hx⟩ := hR H enc W fuel _ _ hf
  exact ⟨x, cs, rfl, by simpa [Value.cells] using hx⟩
end Go.Proofs.Ytfkphdmnelchmaa
/- Values, rows, events as plain data; contracts of package row and its reference: validity. -/
namespace Go.Proofs.Ytfkphdmnelchmaa
open Go.RowKit

structure Val where
  kind : Int
  n : Int
  s : ByteArray
deriving DecidableEq, Inhabited
abbrev Val.cells (x : Val) : List Value := [.int .i64 x.kind, .int .i64 x.n, .string x.s]
def tVal : Ty Val := ⟨3, fun _ cs x => cs = [.int .i64 x.kind, .int .i64 x.n, .string x.s] ∧ inI64 x.kind ∧ inI64 x.n ∧ x.s.size ≤ maxLen, fun _ _ _ h => by rw [h.1]; rfl, fun _ _ _ _ _ h => h⟩
def tRow : Ty (List Val) := tSlice tVal
theorem tVal_flat : tVal.flat := fun _ _ _ _ h => h
theorem val_at {m : Mem} {b o : Nat} {x : Val} (h : tVal.at m b o x) : m b o = some (.int .i64 x.kind) ∧ m b (o + 1) = some (.int .i64 x.n) ∧ m b (o + 2) = some (.string x.s) ∧ inI64 x.kind ∧ inI64 x.n ∧ x.s.size ≤ maxLen := by
  obtain ⟨cs, h1, rfl, h3⟩ := h
  exact ⟨h1 0 _ rfl, h1 1 _ rfl, h1 2 _ rfl, h3⟩

def validVal (x : Val) : Bool :=
  if x.kind = 0 then decide (x.n = 0 ∧ x.s.size = 0) else if x.kind = 1 then decide (-1000000000000000 ≤ x.n ∧ x.n ≤ 1000000000000000 ∧ x.s.size = 0) else if x.kind = 2 then decide (x.n = 0 ∧ x.s.size ≤ 200) else false
def validRow (r : List Val) : Bool := decide (r.length ≤ 8) && r.all validVal

/-- The number of the first element that a test takes; -1 if there is none. -/
def idxOf {α : Type} (p : α → Bool) (l : List α) : Int := match l.findIdx? p with | none => -1 | some i => i
theorem idxOf_any {α : Type} (p : α → Bool) (l : List α) : decide (0 ≤ idxOf p l) = l.any p := by
  unfold idxOf
  cases h : l.findIdx? p with
  | none =>
    rw [List.findIdx?_eq_none_iff] at h
    have : l.any p = false := by simpa using h
    rw [this]; rfl
  | some i =>
    rw [List.findIdx?_eq_some_iff_getElem] at h
    obtain ⟨h1, h2, _⟩ := h
    have : l.any p = true := List.any_eq_true.2 ⟨l[i], List.getElem_mem h1, h2⟩
    rw [this]; simp
theorem idxOf_none {α : Type} {p : α → Bool} {l : List α} (h : ∀ x ∈ l, p x = false) : idxOf p l = -1 := by
  unfold idxOf
  rw [List.findIdx?_eq_none_iff.2 (by simpa using h)]
theorem idxOf_at {α : Type} {p : α → Bool} {l : List α} {k : Nat} (hk : k < l.length) (hp : p l[k] = true) (h : ∀ x ∈ l.take k, p x = false) : idxOf p l = k := by
  unfold idxOf
  have : l.findIdx? p = some k := by
    rw [List.findIdx?_eq_some_iff_getElem]
    refine ⟨hk, hp, fun j hj => ?_⟩
    have := h l[j] (List.mem_take_iff_getElem.2 ⟨j, by omega, rfl⟩)
    simp [this]
  rw [this]

theorem mem_take_snoc {α : Type} {l : List α} {k : Nat} (hk : k < l.length) {q : α → Prop} (h : ∀ x ∈ l.take k, q x) (hx : q l[k]) : ∀ x ∈ l.take (k + 1), q x := fun x hm => by
  rw [List.take_succ_eq_append_getElem hk] at hm
  rcases List.mem_append.1 hm with hm | hm
  · exact h x hm
  · simp at hm; subst hm; exact hx

def rowWithinF : Nat := 110
set_option maxHeartbeats 400000 in
theorem rowWithin_any (n lo hi : Int) (w : World) :
    Calls Try.prog 110 #[.int .i64 n, .int .i64 lo, .int .i64 hi] w fun e w' => e = .returned (.bool (decide (lo ≤ n ∧ n ≤ hi))) ∧ w = w' := by
  by_cases h1 : lo ≤ n <;> by_cases h2 : n ≤ hi
  all_goals
    go_enter Try.func110, Try.ntmps110
    go_wp2
    go_ret
    exact ⟨by simp [*], rfl⟩
set_option maxHeartbeats 400000 in
theorem refRowWithin_any (n lo hi : Int) (w : World) :
    Calls Try.prog 111 #[.int .i64 n, .int .i64 lo, .int .i64 hi] w fun e w' => e = .returned (.bool (decide (lo ≤ n ∧ n ≤ hi))) ∧ w = w' := by
  by_cases h1 : lo ≤ n <;> by_cases h2 : n ≤ hi
  all_goals
    go_enter Try.func111, Try.ntmps111
    go_wp2
    go_ret
    exact ⟨by simp [*], rfl⟩

/-! GEN -/

theorem empty_iff (s : ByteArray) : s.toList.isEmpty = decide (s.size = 0) := by
  rw [ByteArray.toList_eq]
  obtain ⟨⟨l⟩⟩ := s
  cases l with
  | nil => rfl
  | cons a l => simp [ByteArray.size]
theorem validVal_0 (n : Int) (s : ByteArray) : validVal ⟨0, n, s⟩ = (n == 0 && s.toList.isEmpty) := by
  have : s.toList.isEmpty = decide (s.size = 0) := by rw [empty_iff]
  rw [this]; simp [validVal, Bool.decide_and]; rfl
theorem validVal_1 (n : Int) (s : ByteArray) : validVal ⟨1, n, s⟩ = (decide (-1000000000000000 ≤ n ∧ n ≤ 1000000000000000) && s.toList.isEmpty) := by
  rw [empty_iff]; simp [validVal, Bool.decide_and, Bool.and_assoc]
theorem validVal_2 (n : Int) (s : ByteArray) : validVal ⟨2, n, s⟩ = (n == 0 && decide ((s.size : Int) ≤ 200)) := by
  have : decide ((s.size : Int) ≤ 200) = decide (s.size ≤ 200) := by simp; omega
  rw [this]; simp [validVal, Bool.decide_and]; rfl

set_option maxHeartbeats 1000000 in
theorem validValue_any (x : Val) (w : World) (hs : x.s.size ≤ maxLen) :
    Calls Try.prog 99 #[.agg #[.int .i64 x.kind, .int .i64 x.n, .string x.s]] w fun e w' => e = .returned (.bool (validVal x)) ∧ Below w.heap.size w w' := by
  obtain ⟨k, n, s⟩ := x
  simp only at hs ⊢
  unfold maxLen at hs
  have hB : ∀ o, Below w.heap.size w (w.alloc o) := fun o => (Below.refl _ _).alloc (Nat.le_refl _) o
  have HB := Lib.hid hB
  clear hB
  by_cases h0 : k = 0
  · subst h0
    have HV := Lib.hid (show validVal ⟨0, n, s⟩ = (n == 0 && s.toList.isEmpty) from validVal_0 n s)
    have hk0 : ((0 : Int) == 0) = true := by decide
    by_cases hn : n = 0 <;> by_cases hs0 : s.toList = []
    · have e2 : s.toList.isEmpty = true := by simp [hs0]
      have e1 : (n == 0) = true := by simp [hn]
      rw [e1, e2] at HV
      clear hs0 hn
      go_enter Try.func99, Try.ntmps99
      go_wp2_with (go_at_call 110; refine (rowWithin_any _ _ _ _).mono ?_; rintro e w' ⟨rfl, rfl⟩)
      go_ret
      exact ⟨by rw [HV.out]; rfl, HB.out _⟩
    · have e2 : s.toList.isEmpty = false := by simp [hs0]
      have e1 : (n == 0) = true := by simp [hn]
      rw [e1, e2] at HV
      clear hs0 hn
      go_enter Try.func99, Try.ntmps99
      go_wp2_with (go_at_call 110; refine (rowWithin_any _ _ _ _).mono ?_; rintro e w' ⟨rfl, rfl⟩)
      go_ret
      exact ⟨by rw [HV.out]; rfl, HB.out _⟩
    · have e2 : s.toList.isEmpty = true := by simp [hs0]
      have e1 : (n == 0) = false := by simp [hn]
      rw [e1, e2] at HV
      clear hs0 hn
      go_enter Try.func99, Try.ntmps99
      go_wp2_with (go_at_call 110; refine (rowWithin_any _ _ _ _).mono ?_; rintro e w' ⟨rfl, rfl⟩)
      go_ret
      exact ⟨by rw [HV.out]; rfl, HB.out _⟩
    · have e2 : s.toList.isEmpty = false := by simp [hs0]
      have e1 : (n == 0) = false := by simp [hn]
      rw [e1, e2] at HV
      clear hs0 hn
      go_enter Try.func99, Try.ntmps99
      go_wp2_with (go_at_call 110; refine (rowWithin_any _ _ _ _).mono ?_; rintro e w' ⟨rfl, rfl⟩)
      go_ret
      exact ⟨by rw [HV.out]; rfl, HB.out _⟩
  by_cases h1 : k = 1
  · subst h1
    have HV := Lib.hid (show validVal ⟨1, n, s⟩ = (decide (-1000000000000000 ≤ n ∧ n ≤ 1000000000000000) && s.toList.isEmpty) from validVal_1 n s)
    have hk0 : ((1 : Int) == 0) = false := by decide
    have hk1 : ((1 : Int) == 1) = true := by decide
    by_cases hn : -1000000000000000 ≤ n ∧ n ≤ 1000000000000000 <;> by_cases hs0 : s.toList = []
    · have e2 : s.toList.isEmpty = true := by simp [hs0]
      have e1 : decide (-1000000000000000 ≤ n ∧ n ≤ 1000000000000000) = true := by simpa using hn
      rw [e1, e2] at HV
      clear hs0 hn
      go_enter Try.func99, Try.ntmps99
      go_wp2_with (go_at_call 110; refine (rowWithin_any _ _ _ _).mono ?_; rintro e w' ⟨rfl, rfl⟩)
      go_ret
      exact ⟨by rw [HV.out]; rfl, HB.out _⟩
    · have e2 : s.toList.isEmpty = false := by simp [hs0]
      have e1 : decide (-1000000000000000 ≤ n ∧ n ≤ 1000000000000000) = true := by simpa using hn
      rw [e1, e2] at HV
      clear hs0 hn
      go_enter Try.func99, Try.ntmps99
      go_wp2_with (go_at_call 110; refine (rowWithin_any _ _ _ _).mono ?_; rintro e w' ⟨rfl, rfl⟩)
      go_ret
      exact ⟨by rw [HV.out]; rfl, HB.out _⟩
    · have e2 : s.toList.isEmpty = true := by simp [hs0]
      have e1 : decide (-1000000000000000 ≤ n ∧ n ≤ 1000000000000000) = false := by simpa using hn
      rw [e1, e2] at HV
      clear hs0 hn
      go_enter Try.func99, Try.ntmps99
      go_wp2_with (go_at_call 110; refine (rowWithin_any _ _ _ _).mono ?_; rintro e w' ⟨rfl, rfl⟩)
      go_ret
      exact ⟨by rw [HV.out]; rfl, HB.out _⟩
    · have e2 : s.toList.isEmpty = false := by simp [hs0]
      have e1 : decide (-1000000000000000 ≤ n ∧ n ≤ 1000000000000000) = false := by simpa using hn
      rw [e1, e2] at HV
      clear hs0 hn
      go_enter Try.func99, Try.ntmps99
      go_wp2_with (go_at_call 110; refine (rowWithin_any _ _ _ _).mono ?_; rintro e w' ⟨rfl, rfl⟩)
      go_ret
      exact ⟨by rw [HV.out]; rfl, HB.out _⟩
  by_cases h2 : k = 2
  · subst h2
    have HV := Lib.hid (show validVal ⟨2, n, s⟩ = (n == 0 && decide ((s.size : Int) ≤ 200)) from validVal_2 n s)
    have hk0 : ((2 : Int) == 0) = false := by decide
    have hk1 : ((2 : Int) == 1) = false := by decide
    have hk2 : ((2 : Int) == 2) = true := by decide
    by_cases hn : n = 0 <;> by_cases hs0 : (s.size : Int) ≤ 200
    · have e2 : decide ((s.size : Int) ≤ 200) = true := by simpa using hs0
      have e1 : (n == 0) = true := by simp [hn]
      rw [e1, e2] at HV
      clear hs0 hn
      go_enter Try.func99, Try.ntmps99
      go_wp2_with (go_at_call 110; refine (rowWithin_any _ _ _ _).mono ?_; rintro e w' ⟨rfl, rfl⟩)
      go_ret
      exact ⟨by rw [HV.out]; rfl, HB.out _⟩
    · have e2 : decide ((s.size : Int) ≤ 200) = false := by simpa using hs0
      have e1 : (n == 0) = true := by simp [hn]
      rw [e1, e2] at HV
      clear hs0 hn
      go_enter Try.func99, Try.ntmps99
      go_wp2_with (go_at_call 110; refine (rowWithin_any _ _ _ _).mono ?_; rintro e w' ⟨rfl, rfl⟩)
      go_ret
      exact ⟨by rw [HV.out]; rfl, HB.out _⟩
    · have e2 : decide ((s.size : Int) ≤ 200) = true := by simpa using hs0
      have e1 : (n == 0) = false := by simp [hn]
      rw [e1, e2] at HV
      clear hs0 hn
      go_enter Try.func99, Try.ntmps99
      go_wp2_with (go_at_call 110; refine (rowWithin_any _ _ _ _).mono ?_; rintro e w' ⟨rfl, rfl⟩)
      go_ret
      exact ⟨by rw [HV.out]; rfl, HB.out _⟩
    · have e2 : decide ((s.size : Int) ≤ 200) = false := by simpa using hs0
      have e1 : (n == 0) = false := by simp [hn]
      rw [e1, e2] at HV
      clear hs0 hn
      go_enter Try.func99, Try.ntmps99
      go_wp2_with (go_at_call 110; refine (rowWithin_any _ _ _ _).mono ?_; rintro e w' ⟨rfl, rfl⟩)
      go_ret
      exact ⟨by rw [HV.out]; rfl, HB.out _⟩
  have HV := Lib.hid (show validVal ⟨k, n, s⟩ = false by simp [validVal, h0, h1, h2])
  have hk0 : (k == 0) = false := by simp; omega
  have hk1 : (k == 1) = false := by simp; omega
  have hk2 : (k == 2) = false := by simp; omega
  clear h0 h1 h2
  go_enter Try.func99, Try.ntmps99
  go_wp2
  go_ret
  exact ⟨by rw [HV.out]; rfl, HB.out _⟩

set_option maxHeartbeats 1000000 in
theorem refValidValue_any (x : Val) (w : World) (hs : x.s.size ≤ maxLen) :
    Calls Try.prog 101 #[.agg #[.int .i64 x.kind, .int .i64 x.n, .string x.s]] w fun e w' => e = .returned (.bool (validVal x)) ∧ Below w.heap.size w w' := by
  obtain ⟨k, n, s⟩ := x
  simp only at hs ⊢
  unfold maxLen at hs
  have hB : ∀ o, Below w.heap.size w (w.alloc o) := fun o => (Below.refl _ _).alloc (Nat.le_refl _) o
  have HB := Lib.hid hB
  clear hB
  by_cases h0 : k = 0
  · subst h0
    have HV := Lib.hid (show validVal ⟨0, n, s⟩ = (n == 0 && s.toList.isEmpty) from validVal_0 n s)
    have hk0 : ((0 : Int) == 0) = true := by decide
    by_cases hn : n = 0 <;> by_cases hs0 : s.toList = []
    · have e2 : s.toList.isEmpty = true := by simp [hs0]
      have e1 : (n == 0) = true := by simp [hn]
      rw [e1, e2] at HV
      clear hs0 hn
      go_enter Try.func101, Try.ntmps101
      go_wp2_with (go_at_call 111; refine (refRowWithin_any _ _ _ _).mono ?_; rintro e w' ⟨rfl, rfl⟩)
      go_ret
      exact ⟨by rw [HV.out]; rfl, HB.out _⟩
    · have e2 : s.toList.isEmpty = false := by simp [hs0]
      have e1 : (n == 0) = true := by simp [hn]
      rw [e1, e2] at HV
      clear hs0 hn
      go_enter Try.func101, Try.ntmps101
      go_wp2_with (go_at_call 111; refine (refRowWithin_any _ _ _ _).mono ?_; rintro e w' ⟨rfl, rfl⟩)
      go_ret
      exact ⟨by rw [HV.out]; rfl, HB.out _⟩
    · have e2 : s.toList.isEmpty = true := by simp [hs0]
      have e1 : (n == 0) = false := by simp [hn]
      rw [e1, e2] at HV
      clear hs0 hn
      go_enter Try.func101, Try.ntmps101
      go_wp2_with (go_at_call 111; refine (refRowWithin_any _ _ _ _).mono ?_; rintro e w' ⟨rfl, rfl⟩)
      go_ret
      exact ⟨by rw [HV.out]; rfl, HB.out _⟩
    · have e2 : s.toList.isEmpty = false := by simp [hs0]
      have e1 : (n == 0) = false := by simp [hn]
      rw [e1, e2] at HV
      clear hs0 hn
      go_enter Try.func101, Try.ntmps101
      go_wp2_with (go_at_call 111; refine (refRowWithin_any _ _ _ _).mono ?_; rintro e w' ⟨rfl, rfl⟩)
      go_ret
      exact ⟨by rw [HV.out]; rfl, HB.out _⟩
  by_cases h1 : k = 1
  · subst h1
    have HV := Lib.hid (show validVal ⟨1, n, s⟩ = (decide (-1000000000000000 ≤ n ∧ n ≤ 1000000000000000) && s.toList.isEmpty) from validVal_1 n s)
    have hk0 : ((1 : Int) == 0) = false := by decide
    have hk1 : ((1 : Int) == 1) = true := by decide
    by_cases hn : -1000000000000000 ≤ n ∧ n ≤ 1000000000000000 <;> by_cases hs0 : s.toList = []
    · have e2 : s.toList.isEmpty = true := by simp [hs0]
      have e1 : decide (-1000000000000000 ≤ n ∧ n ≤ 1000000000000000) = true := by simpa using hn
      rw [e1, e2] at HV
      clear hs0 hn
      go_enter Try.func101, Try.ntmps101
      go_wp2_with (go_at_call 111; refine (refRowWithin_any _ _ _ _).mono ?_; rintro e w' ⟨rfl, rfl⟩)
      go_ret
      exact ⟨by rw [HV.out]; rfl, HB.out _⟩
    · have e2 : s.toList.isEmpty = false := by simp [hs0]
      have e1 : decide (-1000000000000000 ≤ n ∧ n ≤ 1000000000000000) = true := by simpa using hn
      rw [e1, e2] at HV
      clear hs0 hn
      go_enter Try.func101, Try.ntmps101
      go_wp2_with (go_at_call 111; refine (refRowWithin_any _ _ _ _).mono ?_; rintro e w' ⟨rfl, rfl⟩)
      go_ret
      exact ⟨by rw [HV.out]; rfl, HB.out _⟩
    · have e2 : s.toList.isEmpty = true := by simp [hs0]
      have e1 : decide (-1000000000000000 ≤ n ∧ n ≤ 1000000000000000) = false := by simpa using hn
      rw [e1, e2] at HV
      clear hs0 hn
      go_enter Try.func101, Try.ntmps101
      go_wp2_with (go_at_call 111; refine (refRowWithin_any _ _ _ _).mono ?_; rintro e w' ⟨rfl, rfl⟩)
      go_ret
      exact ⟨by rw [HV.out]; rfl, HB.out _⟩
    · have e2 : s.toList.isEmpty = false := by simp [hs0]
      have e1 : decide (-1000000000000000 ≤ n ∧ n ≤ 1000000000000000) = false := by simpa using hn
      rw [e1, e2] at HV
      clear hs0 hn
      go_enter Try.func101, Try.ntmps101
      go_wp2_with (go_at_call 111; refine (refRowWithin_any _ _ _ _).mono ?_; rintro e w' ⟨rfl, rfl⟩)
      go_ret
      exact ⟨by rw [HV.out]; rfl, HB.out _⟩
  by_cases h2 : k = 2
  · subst h2
    have HV := Lib.hid (show validVal ⟨2, n, s⟩ = (n == 0 && decide ((s.size : Int) ≤ 200)) from validVal_2 n s)
    have hk0 : ((2 : Int) == 0) = false := by decide
    have hk1 : ((2 : Int) == 1) = false := by decide
    have hk2 : ((2 : Int) == 2) = true := by decide
    by_cases hn : n = 0 <;> by_cases hs0 : (s.size : Int) ≤ 200
    · have e2 : decide ((s.size : Int) ≤ 200) = true := by simpa using hs0
      have e1 : (n == 0) = true := by simp [hn]
      rw [e1, e2] at HV
      clear hs0 hn
      go_enter Try.func101, Try.ntmps101
      go_wp2_with (go_at_call 111; refine (refRowWithin_any _ _ _ _).mono ?_; rintro e w' ⟨rfl, rfl⟩)
      go_ret
      exact ⟨by rw [HV.out]; rfl, HB.out _⟩
    · have e2 : decide ((s.size : Int) ≤ 200) = false := by simpa using hs0
      have e1 : (n == 0) = true := by simp [hn]
      rw [e1, e2] at HV
      clear hs0 hn
      go_enter Try.func101, Try.ntmps101
      go_wp2_with (go_at_call 111; refine (refRowWithin_any _ _ _ _).mono ?_; rintro e w' ⟨rfl, rfl⟩)
      go_ret
      exact ⟨by rw [HV.out]; rfl, HB.out _⟩
    · have e2 : decide ((s.size : Int) ≤ 200) = true := by simpa using hs0
      have e1 : (n == 0) = false := by simp [hn]
      rw [e1, e2] at HV
      clear hs0 hn
      go_enter Try.func101, Try.ntmps101
      go_wp2_with (go_at_call 111; refine (refRowWithin_any _ _ _ _).mono ?_; rintro e w' ⟨rfl, rfl⟩)
      go_ret
      exact ⟨by rw [HV.out]; rfl, HB.out _⟩
    · have e2 : decide ((s.size : Int) ≤ 200) = false := by simpa using hs0
      have e1 : (n == 0) = false := by simp [hn]
      rw [e1, e2] at HV
      clear hs0 hn
      go_enter Try.func101, Try.ntmps101
      go_wp2_with (go_at_call 111; refine (refRowWithin_any _ _ _ _).mono ?_; rintro e w' ⟨rfl, rfl⟩)
      go_ret
      exact ⟨by rw [HV.out]; rfl, HB.out _⟩
  have HV := Lib.hid (show validVal ⟨k, n, s⟩ = false by simp [validVal, h0, h1, h2])
  have hk0 : (k == 0) = false := by simp; omega
  have hk1 : (k == 1) = false := by simp; omega
  have hk2 : (k == 2) = false := by simp; omega
  clear h0 h1 h2
  go_enter Try.func101, Try.ntmps101
  go_wp2
  go_ret
  exact ⟨by rw [HV.out]; rfl, HB.out _⟩

/-! slices.IndexFunc, slices.ContainsFunc at tidewright/api.Row,tidewright/api.Value -/
set_option maxHeartbeats 1000000 in
theorem indexFuncRow (Fn : FuncId) (capt : Array Value) (p : Val → Bool) (xs : List Val) (v : Value) (w : World) (hv : (tSlice tVal).rv (mem w) [v] xs)
    (hcf : ∀ args w, Sem.run Try.prog (callFunc Fn args) w = .ok (.enter Fn args) w)
    (hf : ∀ x ∈ xs, ∀ wr, Below w.heap.size w wr → ∀ u, tVal.rv (mem wr) u.cells.toList x → u = .agg #[.int .i64 x.kind, .int .i64 x.n, .string x.s] → Calls Try.prog Fn (#[u] ++ capt) wr fun e w' => e = .returned (.bool (p x)) ∧ Below wr.heap.size wr w') :
    Calls Try.prog 109 #[v, .func (.func Fn) #[] capt] w fun e w' => e = .returned (.int .i64 (idxOf p xs)) ∧ Below w.heap.size w w' := by
  obtain ⟨a, cap, rfl, hl, hm, hv⟩ := slice_form hv
  have hcap : cap ≤ 9223372036854775807 := by unfold maxLen at hm; exact hm
  clear hm
  have HF := Lib.hid hf
  clear hf
  go_enter Try.func109, Try.ntmps109
  go_wp2
  go_loopw [8] (fun i wr => ∃ k : Nat, k ≤ xs.length ∧ i = .int .i64 k ∧ Hid (∀ x ∈ xs.take k, p x = false) ∧ Below w.heap.size w wr) (fun i _ => xs.length - (intOf i).toNat)
  case atStart => exact ⟨0, by omega, rfl, Lib.hid (by simp), Below.refl _ _⟩
  case round =>
    obtain ⟨k, hk, rfl, HT, hB⟩ := hrel
    by_cases hlt : k < xs.length
    · obtain ⟨b, o, rfl, hat⟩ := slice_at hv hlt
      have hat := tVal.at_mono (below_mem hB) hat
      obtain ⟨c0, c1, c2, i0, i1, i2⟩ := val_at hat
      have c0 : wr.cell? ⟨b, o + k * 3, none⟩ = some (.int .i64 xs[k].kind) := c0
      have c1 : wr.cell? ⟨b, o + k * 3 + 1, none⟩ = some (.int .i64 xs[k].n) := c1
      have c2 : wr.cell? ⟨b, o + k * 3 + 2, none⟩ = some (.string xs[k].s) := c2
      have hcall := HF.out xs[k] (List.getElem_mem hlt) wr hB (.agg #[.int .i64 xs[k].kind, .int .i64 xs[k].n, .string xs[k].s]) ⟨rfl, i0, i1, i2⟩ rfl
      have HI : p xs[k] = true → idxOf p xs = k := fun h => idxOf_at hlt h HT.out
      have HN : p xs[k] = false → ∀ x ∈ xs.take (k + 1), p x = false := fun h => mem_take_snoc hlt HT.out h
      have HI := Lib.hid HI
      have HN := Lib.hid HN
      clear hat hv HF HT
      generalize xs[k] = x at *
      generalize hpx : p x = r at hcall HI HN
      clear hpx
      have HC := Lib.hid hcall
      clear hcall
      go_wp2_with fail
      refine HC.out.mono ?_
      rintro e w1 ⟨rfl, hB1⟩
      have hB2 := pure_trans hB hB1
      clear HC hB hB1 c0 c1 c2
      cases r
      · go_wp2
        go_roundw
        case rel => exact ⟨k + 1, by omega, by go_num, Lib.hid (HN.out (by trivial)), hB2⟩
        case measure => simp [intOf]; omega
      · go_wp2
        go_ret
        exact ⟨by rw [HI.out (by trivial)]; rfl, hB2⟩
    · obtain rfl : k = xs.length := by omega
      have HX := Lib.hid (idxOf_none (p := p) (l := xs) (fun x hx => HT.out x (by rw [List.take_length]; exact hx)))
      go_wp2
      go_ret
      exact ⟨by rw [HX.out]; rfl, hB⟩
set_option maxHeartbeats 1000000 in
theorem containsFuncRow (Fn : FuncId) (capt : Array Value) (p : Val → Bool) (xs : List Val) (v : Value) (w : World) (hv : (tSlice tVal).rv (mem w) [v] xs)
    (hcf : ∀ args w, Sem.run Try.prog (callFunc Fn args) w = .ok (.enter Fn args) w)
    (hf : ∀ x ∈ xs, ∀ wr, Below w.heap.size w wr → ∀ u, tVal.rv (mem wr) u.cells.toList x → u = .agg #[.int .i64 x.kind, .int .i64 x.n, .string x.s] → Calls Try.prog Fn (#[u] ++ capt) wr fun e w' => e = .returned (.bool (p x)) ∧ Below wr.heap.size wr w') :
    Calls Try.prog 97 #[v, .func (.func Fn) #[] capt] w fun e w' => e = .returned (.bool (xs.any p)) ∧ Below w.heap.size w w' := by
  have H := Lib.hid (indexFuncRow Fn capt p xs v w hv hcf hf)
  have HA := Lib.hid (idxOf_any p xs)
  clear hcf hf hv
  generalize idxOf p xs = i at H HA
  go_enter Try.func97, Try.ntmps97
  go_wp2_with fail
  refine H.out.mono ?_
  rintro e w1 ⟨rfl, hB⟩
  go_wp2
  go_ret
  exact ⟨by rw [← HA.out]; rfl, hB⟩

set_option maxHeartbeats 400000 in
theorem valid1_any (x : Val) (w : World) (hs : x.s.size ≤ maxLen) :
    Calls Try.prog 98 #[.agg #[.int .i64 x.kind, .int .i64 x.n, .string x.s]] w fun e w' => e = .returned (.bool (!validVal x)) ∧ Below w.heap.size w w' := by
  have H := fun o => validValue_any x (w.alloc o) hs
  have HH := Lib.hid H
  clear H
  generalize validVal x = r at HH
  go_enter Try.func98, Try.ntmps98
  go_wp2_with fail
  refine (HH.out _).mono ?_
  rintro e w1 ⟨rfl, hB⟩
  go_wp2
  go_ret
  exact ⟨rfl, ((Below.refl _ _).alloc (Nat.le_refl _) _).trans (hB.mono (by simp))⟩
theorem not_any (l : List Val) : (!l.any fun x => !validVal x) = l.all validVal := by simp [List.all_eq_not_any_not]
set_option maxRecDepth 100000 in
set_option maxHeartbeats 400000 in
theorem rowValid_any (xs : List Val) (v : Value) (w : World) (hv : tRow.rv (mem w) [v] xs) :
    Calls Try.prog 78 #[v] w fun e w' => e = .returned (.bool (validRow xs)) ∧ Below w.heap.size w w' := by
  have HC := Lib.hid (containsFuncRow 98 #[] (fun x => !validVal x) xs v w hv (fun _ _ => rfl) (fun x hx wr hB u hu e => by subst e; exact valid1_any x wr hu.2.2.2))
  obtain ⟨a, cap, rfl, hl, hm, _⟩ := slice_form hv
  have hcap : cap ≤ 9223372036854775807 := by unfold maxLen at hm; exact hm
  have HV := Lib.hid (show validRow xs = (decide (xs.length ≤ 8) && !xs.any fun x => !validVal x) by unfold validRow; rw [not_any])
  clear hm hv
  generalize (xs.any fun x => !validVal x) = r at HC HV
  by_cases h8 : xs.length ≤ 8
  · have hd : decide (xs.length ≤ 8) = true := by simpa using h8
    rw [hd] at HV
    go_enter Try.func78, Try.ntmps78
    go_wp2_with (go_at_call 97; refine HC.out.mono ?_; rintro e w1 ⟨rfl, hB⟩)
    go_ret
    exact ⟨by rw [HV.out]; rfl, hB⟩
  · have hd : decide (xs.length ≤ 8) = false := by simpa using h8
    rw [hd] at HV
    go_enter Try.func78, Try.ntmps78
    go_wp2_with fail
    go_ret
    exact ⟨by rw [HV.out]; rfl, Below.refl _ _⟩

set_option maxHeartbeats 1000000 in
theorem refValid_any (xs : List Val) (v : Value) (w : World) (hv : tRow.rv (mem w) [v] xs) :
    Calls Try.prog 81 #[v] w fun e w' => e = .returned (.bool (validRow xs)) ∧ Below w.heap.size w w' := by
  obtain ⟨a, cap, rfl, hl, hm, hv⟩ := slice_form hv
  have hcap : cap ≤ 9223372036854775807 := by unfold maxLen at hm; exact hm
  clear hm
  go_enter Try.func81, Try.ntmps81
  go_wp2
  go_loopw [3] (fun i wr => ∃ k : Nat, k ≤ xs.length ∧ i = .int .i64 k ∧ Hid (∀ x ∈ xs.take k, validVal x = true) ∧ Below w.heap.size w wr) (fun i _ => xs.length - (intOf i).toNat)
  case atStart => exact ⟨0, by omega, rfl, Lib.hid (by simp), Below.refl _ _⟩
  case round =>
    obtain ⟨k, hk, rfl, HT, hB⟩ := hrel
    by_cases hlt : k < xs.length
    · obtain ⟨b, o, rfl, hat⟩ := slice_at hv hlt
      have hat := tVal.at_mono (below_mem hB) hat
      obtain ⟨c0, c1, c2, i0, i1, i2⟩ := val_at hat
      have c0 : wr.cell? ⟨b, o + k * 3, none⟩ = some (.int .i64 xs[k].kind) := c0
      have c1 : wr.cell? ⟨b, o + k * 3 + 1, none⟩ = some (.int .i64 xs[k].n) := c1
      have c2 : wr.cell? ⟨b, o + k * 3 + 2, none⟩ = some (.string xs[k].s) := c2
      have hcall := refValidValue_any xs[k] wr i2
      have HI := Lib.hid (show validVal xs[k] = false → validRow xs = false from fun h => by
        unfold validRow
        have : xs.all validVal = false := by
          rw [List.all_eq_false]
          exact ⟨xs[k], List.getElem_mem hlt, by simp [h]⟩
        rw [this]; simp)
      have HN := Lib.hid (show validVal xs[k] = true → ∀ x ∈ xs.take (k + 1), validVal x = true from fun h => mem_take_snoc hlt HT.out h)
      clear hat hv HT
      generalize xs[k] = x at *
      generalize validVal x = r at hcall HI HN
      have HC := Lib.hid hcall
      clear hcall i0 i1 i2
      go_wp2_with fail
      refine HC.out.mono ?_
      rintro e w1 ⟨rfl, hB1⟩
      have hB2 := pure_trans hB hB1
      clear HC hB hB1 c0 c1 c2
      cases r
      · go_wp2
        go_ret
        exact ⟨by rw [HI.out (by trivial)]; rfl, hB2⟩
      · go_wp2
        go_roundw
        case rel => exact ⟨k + 1, by omega, by go_num, Lib.hid (HN.out (by trivial)), hB2⟩
        case measure => simp [intOf]; omega
    · obtain rfl : k = xs.length := by omega
      have HX := Lib.hid (show validRow xs = decide ((xs.length : Int) ≤ 8) from by
        unfold validRow
        have : xs.all validVal = true := by
          rw [List.all_eq_true]
          exact fun x hx => HT.out x (by rw [List.take_length]; exact hx)
        rw [this]; simp; omega)
      go_wp2
      go_ret
      exact ⟨by rw [HX.out]; rfl, hB⟩
end Go.Proofs.Ytfkphdmnelchmaa
/- The order of rows: plain. -/
namespace Go.Proofs.Ytfkphdmnelchmaa

structure Good {α : Type} (c : α → α → Int) : Prop where
  refl : ∀ a, c a a = 0
  anti : ∀ a b, c b a = - c a b
  range : ∀ a b, c a b = -1 ∨ c a b = 0 ∨ c a b = 1
  trans : ∀ a b d, c a b ≤ 0 → c b d ≤ 0 → c a d ≤ 0 ∧ (c a d = 0 → c a b = 0 ∧ c b d = 0)

def cmpInt (a b : Int) : Int := if a < b then -1 else if b < a then 1 else 0
theorem cmpInt_good : Good cmpInt := by
  refine ⟨fun a => ?_, fun a b => ?_, fun a b => ?_, fun a b d => ?_⟩ <;> unfold cmpInt
  · simp
  · repeat' split
    all_goals omega
  · repeat' split
    all_goals omega
  · repeat' split
    all_goals omega
theorem Good.pull {α β : Type} {c : β → β → Int} (h : Good c) (f : α → β) : Good (fun a b => c (f a) (f b)) :=
  ⟨fun a => h.refl _, fun a b => h.anti _ _, fun a b => h.range _ _, fun a b d => h.trans _ _ _⟩
def lex {α : Type} (c1 c2 : α → α → Int) (a b : α) : Int := if c1 a b ≠ 0 then c1 a b else c2 a b
theorem lex_good {α : Type} {c1 c2 : α → α → Int} (h1 : Good c1) (h2 : Good c2) : Good (lex c1 c2) := by
  refine ⟨fun a => ?_, fun a b => ?_, fun a b => ?_, fun a b d => ?_⟩ <;> unfold lex
  · rw [h1.refl, h2.refl]; simp
  · have e1 := h1.anti a b
    have e2 := h2.anti a b
    repeat' split
    all_goals omega
  · have e1 := h1.range a b
    have e2 := h2.range a b
    split
    all_goals omega
  · have r1 := h1.range a b
    have r2 := h1.range b d
    have r3 := h1.range a d
    have t1 := h1.trans a b d
    have t2 := h2.trans a b d
    by_cases hx : c1 a b ≤ 0
    · by_cases hy : c1 b d ≤ 0
      · have t1 := t1 hx hy
        by_cases hx2 : c2 a b ≤ 0
        · by_cases hy2 : c2 b d ≤ 0
          · have t2 := t2 hx2 hy2
            repeat' split
            all_goals omega
          · repeat' split
            all_goals omega
        · repeat' split
          all_goals omega
      · repeat' split
        all_goals omega
    · repeat' split
      all_goals omega
def lexList {α : Type} (c : α → α → Int) : List α → List α → Int
  | [], [] => 0
  | [], _ :: _ => -1
  | _ :: _, [] => 1
  | a :: l, b :: m => if c a b ≠ 0 then c a b else lexList c l m
theorem lexList_good {α : Type} {c : α → α → Int} (h : Good c) : Good (lexList c) := by
  have hrefl : ∀ a, lexList c a a = 0 := fun a => by
    induction a with
    | nil => rfl
    | cons x l ih => simp [lexList, h.refl, ih]
  have hanti : ∀ a b, lexList c b a = - lexList c a b := fun a => by
    induction a with
    | nil => intro b; cases b <;> rfl
    | cons x l ih =>
      intro b
      cases b with
      | nil => rfl
      | cons y m =>
        have e1 := h.anti x y
        have e2 := ih m
        simp only [lexList]
        repeat' split
        all_goals omega
  have hrange : ∀ a b, lexList c a b = -1 ∨ lexList c a b = 0 ∨ lexList c a b = 1 := fun a => by
    induction a with
    | nil => intro b; cases b <;> simp [lexList]
    | cons x l ih =>
      intro b
      cases b with
      | nil => simp [lexList]
      | cons y m =>
        have e1 := h.range x y
        have e2 := ih m
        simp only [lexList]
        split
        all_goals omega
  refine ⟨hrefl, hanti, hrange, fun a => ?_⟩
  induction a with
  | nil =>
    intro b d
    cases b <;> cases d <;> simp [lexList]
  | cons x l ih =>
    intro b d
    cases b with
    | nil => simp [lexList]
    | cons y m =>
      cases d with
      | nil =>
        intro h1 h2
        simp [lexList] at h2
      | cons z n =>
        have r1 := h.range x y
        have r2 := h.range y z
        have r3 := h.range x z
        have t1 := h.trans x y z
        have t2 := ih m n
        simp only [lexList]
        by_cases hx : c x y ≤ 0
        · by_cases hy : c y z ≤ 0
          · have t1 := t1 hx hy
            by_cases hx2 : lexList c l m ≤ 0
            · by_cases hy2 : lexList c m n ≤ 0
              · have t2 := t2 hx2 hy2
                repeat' split
                all_goals omega
              · repeat' split
                all_goals omega
            · repeat' split
              all_goals omega
          · repeat' split
            all_goals omega
        · repeat' split
          all_goals omega

def cmpBytes : List UInt8 → List UInt8 → Int := lexList (fun a b => cmpInt a.toNat b.toNat)
theorem cmpBytes_good : Good cmpBytes := lexList_good (cmpInt_good.pull (fun a : UInt8 => (a.toNat : Int)))
theorem bytesLess_cmp : ∀ a b : List UInt8, Op.bytesLess a b = decide (cmpBytes a b < 0)
  | [], [] => rfl
  | [], _ :: _ => rfl
  | _ :: _, [] => rfl
  | a :: x, b :: y => by
    have ih := bytesLess_cmp x y
    have e : (a < b) = (a.toNat < b.toNat) := rfl
    simp only [Op.bytesLess, ih, cmpBytes, lexList, cmpInt]
    by_cases h1 : a.toNat < b.toNat
    · have h1' : a < b := h1
      simp [h1, h1']
    · have h1' : ¬ a < b := h1
      by_cases h2 : b.toNat < a.toNat
      · have h3 : (a == b) = false := by
          rw [beq_eq_false_iff_ne]; rintro rfl; omega
        simp [h3, h1', h1, h2]
      · obtain rfl : a = b := UInt8.toNat_inj.1 (by omega)
        simp [cmpBytes]
theorem bytesEq_cmp (a b : List UInt8) : (a == b) = decide (cmpBytes a b = 0) := by
  induction a generalizing b with
  | nil => cases b <;> rfl
  | cons x l ih =>
    cases b with
    | nil => rfl
    | cons y m =>
      rw [List.cons_beq_cons, ih m]
      simp only [cmpBytes, lexList, cmpInt]
      by_cases h : x = y
      · subst h; simp
      · have h3 : (x == y) = false := by rw [beq_eq_false_iff_ne]; exact h
        have h4 : ¬ x.toNat = y.toNat := fun e => h (UInt8.toNat_inj.1 e)
        rw [h3]
        simp
        repeat' split
        all_goals first | omega | simp
theorem bytesGtr_cmp (a b : List UInt8) : (!(Op.bytesLess a b || a == b)) = decide (0 < cmpBytes a b) := by
  rw [bytesLess_cmp, bytesEq_cmp]
  by_cases h : 0 < cmpBytes a b
  · have h1 : ¬ cmpBytes a b < 0 := by omega
    have h2 : ¬ cmpBytes a b = 0 := by omega
    simp [h, h1, h2]
  · by_cases h1 : cmpBytes a b < 0
    · simp [h, h1]
    · have h2 : cmpBytes a b = 0 := by omega
      simp [h2]

def cls (x : Val) : Int := if x.kind = 1 ∨ x.kind = 2 then x.kind else 0
def key1 (x : Val) : Int := if cls x = 1 then x.n else 0
def key2 (x : Val) : List UInt8 := if cls x = 2 then x.s.toList else []
def cmpVal : Val → Val → Int := lex (fun a b => cmpInt (cls a) (cls b)) (lex (fun a b => cmpInt (key1 a) (key1 b)) (fun a b => cmpBytes (key2 a) (key2 b)))
theorem cmpVal_good : Good cmpVal := lex_good (cmpInt_good.pull cls) (lex_good (cmpInt_good.pull key1) (cmpBytes_good.pull key2))
def cmpRow : List Val → List Val → Int := lexList cmpVal
theorem cmpRow_good : Good cmpRow := lexList_good cmpVal_good
theorem cls_cases (x : Val) : cls x = 0 ∨ cls x = 1 ∨ cls x = 2 := by
  unfold cls
  split
  · omega
  · exact .inl rfl
theorem cmpVal_cls {a b : Val} (h : cls a ≠ cls b) : cmpVal a b = cmpInt (cls a) (cls b) := by
  have : cmpInt (cls a) (cls b) ≠ 0 := by unfold cmpInt; repeat' split
                                          all_goals omega
  unfold cmpVal lex
  rw [if_pos this]
theorem cmpVal_0 {a b : Val} (ha : cls a = 0) (hb : cls b = 0) : cmpVal a b = 0 := by
  simp [cmpVal, lex, key1, key2, ha, hb, cmpInt_good.refl, cmpBytes_good.refl]
theorem cmpVal_1 {a b : Val} (ha : cls a = 1) (hb : cls b = 1) : cmpVal a b = cmpInt a.n b.n := by
  simp [cmpVal, lex, key1, key2, ha, hb, cmpInt_good.refl, cmpBytes_good.refl]
  intro h; exact h.symm
theorem cmpVal_2 {a b : Val} (ha : cls a = 2) (hb : cls b = 2) : cmpVal a b = cmpBytes a.s.toList b.s.toList := by
  simp [cmpVal, lex, key1, key2, ha, hb, cmpInt_good.refl]
theorem cmpRow_step {a b : List Val} {k : Nat} (ha : k < a.length) (hb : k < b.length) :
    cmpRow (a.drop k) (b.drop k) = if cmpVal a[k] b[k] ≠ 0 then cmpVal a[k] b[k] else cmpRow (a.drop (k + 1)) (b.drop (k + 1)) := by
  rw [List.drop_eq_getElem_cons ha, List.drop_eq_getElem_cons hb]
  rfl
theorem cmpRow_end {a b : List Val} {k : Nat} (h : a.length ≤ k ∨ b.length ≤ k) (ha : k ≤ a.length) (hb : k ≤ b.length) :
    cmpRow (a.drop k) (b.drop k) = if a.length < b.length then -1 else if b.length < a.length then 1 else 0 := by
  rcases h with h | h
  · obtain rfl : k = a.length := by omega
    rw [List.drop_length]
    by_cases h2 : a.length < b.length
    · rw [List.drop_eq_getElem_cons h2, if_pos h2]; rfl
    · rw [List.drop_eq_nil_of_le (by omega), if_neg h2, if_neg (by omega)]; rfl
  · obtain rfl : k = b.length := by omega
    rw [List.drop_length]
    by_cases h2 : b.length < a.length
    · rw [List.drop_eq_getElem_cons h2, if_neg (by omega), if_pos h2]; rfl
    · rw [List.drop_eq_nil_of_le (by omega), if_neg (by omega), if_neg h2]; rfl
end Go.Proofs.Ytfkphdmnelchmaa
/- The reference's order of rows, walked. -/
namespace Go.Proofs.Ytfkphdmnelchmaa
open Go.RowKit

@[reducible] def Val.v (x : Val) : Value := .agg #[.int .i64 x.kind, .int .i64 x.n, .string x.s]
set_option maxHeartbeats 400000 in
theorem refClass_any (x : Val) (w : World) :
    Calls Try.prog 108 #[x.v] w fun e w' => e = .returned (.int .i64 (cls x)) ∧ Below w.heap.size w w' := by
  have hb : ∀ o, Below w.heap.size w (w.alloc o) := fun o => (Below.refl _ _).alloc (Nat.le_refl _) o
  have HC := Lib.hid (show cls x = if x.kind = 1 ∨ x.kind = 2 then x.kind else 0 from rfl)
  obtain ⟨xk, xn, xs⟩ := x
  simp only at HC
  by_cases h1 : xk = 1
  · subst h1
    go_enter Try.func108, Try.ntmps108
    go_wp2
    go_ret
    exact ⟨by rw [HC.out]; rfl, hb _⟩
  by_cases h2 : xk = 2
  · subst h2
    go_enter Try.func108, Try.ntmps108
    go_wp2
    go_ret
    exact ⟨by rw [HC.out]; rfl, hb _⟩
  · have b1 : (xk == 1) = false := by simpa using h1
    have b2 : (xk == 2) = false := by simpa using h2
    have HC := Lib.hid (HC.out.trans (if_neg (by omega)))
    go_enter Try.func108, Try.ntmps108
    go_wp2
    all_goals try (exfalso; simp only [beq_iff_eq, beq_eq_false_iff_ne, Bool.or_eq_true] at *; omega)
    go_ret
    exact ⟨by rw [HC.out]; rfl, hb _⟩

/-- Two values in two boxes of the call's own. -/
structure Box2 (w wr : World) (a b : Val) : Prop where
  a0 : wr.cell? ⟨w.heap.size, 0, none⟩ = some (.int .i64 a.kind)
  a1 : wr.cell? ⟨w.heap.size, 1, none⟩ = some (.int .i64 a.n)
  a2 : wr.cell? ⟨w.heap.size, 2, none⟩ = some (.string a.s)
  b0 : wr.cell? ⟨w.heap.size + 1, 0, none⟩ = some (.int .i64 b.kind)
  b1 : wr.cell? ⟨w.heap.size + 1, 1, none⟩ = some (.int .i64 b.n)
  b2 : wr.cell? ⟨w.heap.size + 1, 2, none⟩ = some (.string b.s)
  size : w.heap.size + 2 ≤ wr.heap.size
  below : Below w.heap.size w wr
theorem Box2.start (w : World) (a b : Val) (T : TypeId) : Box2 w ((w.alloc (.cells #[.int .i64 a.kind, .int .i64 a.n, .string a.s] T)).alloc (.cells #[.int .i64 b.kind, .int .i64 b.n, .string b.s] T)) a b := by
  have h1 : ∀ o, ((w.alloc (.cells #[.int .i64 a.kind, .int .i64 a.n, .string a.s] T)).alloc (.cells #[.int .i64 b.kind, .int .i64 b.n, .string b.s] T)).cell? ⟨w.heap.size, o, none⟩ = (#[Value.int .i64 a.kind, .int .i64 a.n, .string a.s] : Array Value)[o]? := fun o => by
    have e := mem_of_block (Lib.alloc_old (w.alloc (.cells #[.int .i64 a.kind, .int .i64 a.n, .string a.s] T)) (.cells #[.int .i64 b.kind, .int .i64 b.n, .string b.s] T) w.heap.size (by simp)) o
    exact e.trans (mem_cells_new w _ T (0, 0) o)
  have h2 : ∀ o, ((w.alloc (.cells #[.int .i64 a.kind, .int .i64 a.n, .string a.s] T)).alloc (.cells #[.int .i64 b.kind, .int .i64 b.n, .string b.s] T)).cell? ⟨w.heap.size + 1, o, none⟩ = (#[Value.int .i64 b.kind, .int .i64 b.n, .string b.s] : Array Value)[o]? := fun o => cell_new o (by simp)
  exact ⟨h1 0, h1 1, h1 2, h2 0, h2 1, h2 2, by simp, ((Below.refl _ _).alloc (Nat.le_refl _) _).alloc (by simp) _⟩
theorem Box2.pure {w wr w1 : World} {a b : Val} (h : Box2 w wr a b) (k : Below wr.heap.size wr w1) : Box2 w w1 a b := by
  have e : ∀ x o v, wr.cell? ⟨x, o, none⟩ = some v → w1.cell? ⟨x, o, none⟩ = some v := fun x o v hx => below_mem k x o v hx
  exact ⟨e _ _ _ h.a0, e _ _ _ h.a1, e _ _ _ h.a2, e _ _ _ h.b0, e _ _ _ h.b1, e _ _ _ h.b2, Nat.le_trans h.size k.size, pure_trans h.below k⟩
theorem Box2.six {w wr : World} {a b : Val} (h : Box2 w wr a b) : wr.cell? ⟨w.heap.size, 0, none⟩ = some (.int .i64 a.kind) ∧ wr.cell? ⟨w.heap.size, 1, none⟩ = some (.int .i64 a.n) ∧ wr.cell? ⟨w.heap.size, 2, none⟩ = some (.string a.s) ∧
    wr.cell? ⟨w.heap.size + 1, 0, none⟩ = some (.int .i64 b.kind) ∧ wr.cell? ⟨w.heap.size + 1, 1, none⟩ = some (.int .i64 b.n) ∧ wr.cell? ⟨w.heap.size + 1, 2, none⟩ = some (.string b.s) := ⟨h.a0, h.a1, h.a2, h.b0, h.b1, h.b2⟩
theorem Box2.drew {w wr : World} {a b : Val} (h : Box2 w wr a b) : Box2 w wr.drew a b := h.pure (Below.refl _ _).drew
set_option maxRecDepth 100000 in
set_option maxHeartbeats 1000000 in
theorem refCmpVals_any (a b : Val) (w : World) :
    Calls Try.prog 95 #[a.v, b.v] w fun e w' => e = .returned (.int .i64 (cmpVal a b)) ∧ Below w.heap.size w w' := by
  obtain ⟨ak, an, as'⟩ := a
  obtain ⟨bk, bn, bs⟩ := b
  have H0 := (Box2.start w ⟨ak, an, as'⟩ ⟨bk, bn, bs⟩ 118).drew
  obtain ⟨a0, a1, a2, b0, b1, b2, hsz, hbl⟩ := id H0
  simp only at a0 a1 a2 b0 b1 b2 H0
  go_enter Try.func95, Try.ntmps95
  by_cases hab : cls ⟨ak, an, as'⟩ = cls ⟨bk, bn, bs⟩
  · have hq : (cls ⟨ak, an, as'⟩ == cls ⟨bk, bn, bs⟩) = true := by simpa using hab
    go_wp2_with fail
    go_region_held3 (fun w' => w'.cell? ⟨w.heap.size, 0, none⟩ = some (.int .i64 ak) ∧ w'.cell? ⟨w.heap.size, 1, none⟩ = some (.int .i64 an) ∧ w'.cell? ⟨w.heap.size, 2, none⟩ = some (.string as') ∧
        w'.cell? ⟨w.heap.size + 1, 0, none⟩ = some (.int .i64 bk) ∧ w'.cell? ⟨w.heap.size + 1, 1, none⟩ = some (.int .i64 bn) ∧ w'.cell? ⟨w.heap.size + 1, 2, none⟩ = some (.string bs))
      (first | go_keep | exact Box2.six (a := ⟨ak, an, as'⟩) (b := ⟨bk, bn, bs⟩) (by assumption))
      ((go_at_call 108; refine (refClass_any ⟨_, _, _⟩ _).mono ?_; rintro e wa ⟨rfl, hba⟩; have hbx := Box2.pure (w := w) (a := ⟨ak, an, as'⟩) (b := ⟨bk, bn, bs⟩) (by assumption) hba; clear hba))
    all_goals
      clear H0 a0 a1 a2 b0 b1 b2 hsz hbl
      obtain ⟨a0, a1, a2, b0, b1, b2, hsz, hbl⟩ := id hbx
      simp only at a0 a1 a2 b0 b1 b2
      rcases cls_cases ⟨ak, an, as'⟩ with h0 | h0 | h0
      · have HR := Lib.hid (cmpVal_0 (a := ⟨ak, an, as'⟩) (b := ⟨bk, bn, bs⟩) h0 (hab.symm.trans h0))
        clear hab hq
        have q1 : (cls ⟨ak, an, as'⟩ == 1) = false := by rw [h0]; rfl
        have q2 : (cls ⟨ak, an, as'⟩ == 2) = false := by rw [h0]; rfl
        go_wp2_with (go_at_call 108; refine (refClass_any ⟨_, _, _⟩ _).mono ?_; rintro e wa ⟨rfl, hba⟩; have hbx := Box2.pure (w := w) (a := ⟨ak, an, as'⟩) (b := ⟨bk, bn, bs⟩) (by assumption) hba; clear hba; obtain ⟨a0, a1, a2, b0, b1, b2, hsz, hbl⟩ := id hbx; simp only at a0 a1 a2 b0 b1 b2)
        go_ret
        exact ⟨by rw [HR.out]; rfl, Box2.below (w := w) (a := ⟨ak, an, as'⟩) (b := ⟨bk, bn, bs⟩) (by assumption)⟩
      · have HR := Lib.hid (cmpVal_1 (a := ⟨ak, an, as'⟩) (b := ⟨bk, bn, bs⟩) h0 (hab.symm.trans h0))
        clear hab hq
        have q1 : (cls ⟨ak, an, as'⟩ == 1) = true := by rw [h0]; rfl
        have q2 : (cls ⟨ak, an, as'⟩ == 2) = false := by rw [h0]; rfl
        have HI := Lib.hid (show cmpInt an bn = if an < bn then -1 else if bn < an then 1 else 0 from rfl)
        rcases Int.lt_trichotomy an bn with hlt | heq | hgt
        · have HI := Lib.hid (HI.out.trans (if_pos hlt))
          go_wp2_with (go_at_call 108; refine (refClass_any ⟨_, _, _⟩ _).mono ?_; rintro e wa ⟨rfl, hba⟩; have hbx := Box2.pure (w := w) (a := ⟨ak, an, as'⟩) (b := ⟨bk, bn, bs⟩) (by assumption) hba; clear hba; obtain ⟨a0, a1, a2, b0, b1, b2, hsz, hbl⟩ := id hbx; simp only at a0 a1 a2 b0 b1 b2)
          go_ret
          exact ⟨by rw [HR.out]; show _ = Ending.returned (Value.int .i64 (cmpInt an bn)); rw [HI.out]; rfl, Box2.below (w := w) (a := ⟨ak, an, as'⟩) (b := ⟨bk, bn, bs⟩) (by assumption)⟩
        · have HI := Lib.hid ((HI.out.trans (if_neg (by omega))).trans (if_neg (by omega)))
          go_wp2_with (go_at_call 108; refine (refClass_any ⟨_, _, _⟩ _).mono ?_; rintro e wa ⟨rfl, hba⟩; have hbx := Box2.pure (w := w) (a := ⟨ak, an, as'⟩) (b := ⟨bk, bn, bs⟩) (by assumption) hba; clear hba; obtain ⟨a0, a1, a2, b0, b1, b2, hsz, hbl⟩ := id hbx; simp only at a0 a1 a2 b0 b1 b2)
          go_ret
          exact ⟨by rw [HR.out]; show _ = Ending.returned (Value.int .i64 (cmpInt an bn)); rw [HI.out]; rfl, Box2.below (w := w) (a := ⟨ak, an, as'⟩) (b := ⟨bk, bn, bs⟩) (by assumption)⟩
        · have HI := Lib.hid ((HI.out.trans (if_neg (by omega))).trans (if_pos hgt))
          go_wp2_with (go_at_call 108; refine (refClass_any ⟨_, _, _⟩ _).mono ?_; rintro e wa ⟨rfl, hba⟩; have hbx := Box2.pure (w := w) (a := ⟨ak, an, as'⟩) (b := ⟨bk, bn, bs⟩) (by assumption) hba; clear hba; obtain ⟨a0, a1, a2, b0, b1, b2, hsz, hbl⟩ := id hbx; simp only at a0 a1 a2 b0 b1 b2)
          go_ret
          exact ⟨by rw [HR.out]; show _ = Ending.returned (Value.int .i64 (cmpInt an bn)); rw [HI.out]; rfl, Box2.below (w := w) (a := ⟨ak, an, as'⟩) (b := ⟨bk, bn, bs⟩) (by assumption)⟩
      · have HR := Lib.hid (cmpVal_2 (a := ⟨ak, an, as'⟩) (b := ⟨bk, bn, bs⟩) h0 (hab.symm.trans h0))
        clear hab hq
        have q1 : (cls ⟨ak, an, as'⟩ == 1) = false := by rw [h0]; rfl
        have q2 : (cls ⟨ak, an, as'⟩ == 2) = true := by rw [h0]; rfl
        have HR := Lib.hid (show cmpVal ⟨ak, an, as'⟩ ⟨bk, bn, bs⟩ = cmpBytes as'.toList bs.toList from HR.out)
        have hl0 := bytesLess_cmp as'.toList bs.toList
        have hg0 := bytesGtr_cmp as'.toList bs.toList
        rcases cmpBytes_good.range as'.toList bs.toList with hc | hc | hc
        · have HI := Lib.hid hc
          have hl : Op.bytesLess as'.toList bs.toList = true := by rw [hl0, hc]; rfl
          clear hl0 hg0 hc
          go_wp2_with (go_at_call 108; refine (refClass_any ⟨_, _, _⟩ _).mono ?_; rintro e wa ⟨rfl, hba⟩; have hbx := Box2.pure (w := w) (a := ⟨ak, an, as'⟩) (b := ⟨bk, bn, bs⟩) (by assumption) hba; clear hba; obtain ⟨a0, a1, a2, b0, b1, b2, hsz, hbl⟩ := id hbx; simp only at a0 a1 a2 b0 b1 b2)
          go_ret
          exact ⟨by rw [HR.out, HI.out]; rfl, Box2.below (w := w) (a := ⟨ak, an, as'⟩) (b := ⟨bk, bn, bs⟩) (by assumption)⟩
        · have HI := Lib.hid hc
          have hl : Op.bytesLess as'.toList bs.toList = false := by rw [hl0, hc]; rfl
          have hg : (!(Op.bytesLess as'.toList bs.toList || as'.toList == bs.toList)) = false := by rw [hg0, hc]; rfl
          rw [hl, Bool.false_or] at hg
          clear hl0 hg0 hc
          go_wp2_with (go_at_call 108; refine (refClass_any ⟨_, _, _⟩ _).mono ?_; rintro e wa ⟨rfl, hba⟩; have hbx := Box2.pure (w := w) (a := ⟨ak, an, as'⟩) (b := ⟨bk, bn, bs⟩) (by assumption) hba; clear hba; obtain ⟨a0, a1, a2, b0, b1, b2, hsz, hbl⟩ := id hbx; simp only at a0 a1 a2 b0 b1 b2)
          go_ret
          exact ⟨by rw [HR.out, HI.out]; rfl, Box2.below (w := w) (a := ⟨ak, an, as'⟩) (b := ⟨bk, bn, bs⟩) (by assumption)⟩
        · have HI := Lib.hid hc
          have hl : Op.bytesLess as'.toList bs.toList = false := by rw [hl0, hc]; rfl
          have hg : (!(Op.bytesLess as'.toList bs.toList || as'.toList == bs.toList)) = true := by rw [hg0, hc]; rfl
          rw [hl, Bool.false_or] at hg
          clear hl0 hg0 hc
          go_wp2_with (go_at_call 108; refine (refClass_any ⟨_, _, _⟩ _).mono ?_; rintro e wa ⟨rfl, hba⟩; have hbx := Box2.pure (w := w) (a := ⟨ak, an, as'⟩) (b := ⟨bk, bn, bs⟩) (by assumption) hba; clear hba; obtain ⟨a0, a1, a2, b0, b1, b2, hsz, hbl⟩ := id hbx; simp only at a0 a1 a2 b0 b1 b2)
          go_ret
          exact ⟨by rw [HR.out, HI.out]; rfl, Box2.below (w := w) (a := ⟨ak, an, as'⟩) (b := ⟨bk, bn, bs⟩) (by assumption)⟩
  · have hq : (cls ⟨ak, an, as'⟩ == cls ⟨bk, bn, bs⟩) = false := by simpa using hab
    have HR := Lib.hid (cmpVal_cls (a := ⟨ak, an, as'⟩) (b := ⟨bk, bn, bs⟩) hab)
    have HI := Lib.hid (show cmpInt (cls ⟨ak, an, as'⟩) (cls ⟨bk, bn, bs⟩) = if cls ⟨ak, an, as'⟩ < cls ⟨bk, bn, bs⟩ then -1 else if cls ⟨bk, bn, bs⟩ < cls ⟨ak, an, as'⟩ then 1 else 0 from rfl)
    go_wp2_with fail
    go_region_held3 (fun w' => w'.cell? ⟨w.heap.size, 0, none⟩ = some (.int .i64 ak) ∧ w'.cell? ⟨w.heap.size, 1, none⟩ = some (.int .i64 an) ∧ w'.cell? ⟨w.heap.size, 2, none⟩ = some (.string as') ∧
        w'.cell? ⟨w.heap.size + 1, 0, none⟩ = some (.int .i64 bk) ∧ w'.cell? ⟨w.heap.size + 1, 1, none⟩ = some (.int .i64 bn) ∧ w'.cell? ⟨w.heap.size + 1, 2, none⟩ = some (.string bs))
      (first | go_keep | exact Box2.six (a := ⟨ak, an, as'⟩) (b := ⟨bk, bn, bs⟩) (by assumption))
      ((go_at_call 108; refine (refClass_any ⟨_, _, _⟩ _).mono ?_; rintro e wa ⟨rfl, hba⟩; have hbx := Box2.pure (w := w) (a := ⟨ak, an, as'⟩) (b := ⟨bk, bn, bs⟩) (by assumption) hba; clear hba))
    all_goals
      go_wp2_with fail
      clear H0 a0 a1 a2 b0 b1 b2 hsz hbl
      obtain ⟨a0, a1, a2, b0, b1, b2, hsz, hbl⟩ := id (Box2.drew (w := w) (a := ⟨ak, an, as'⟩) (b := ⟨bk, bn, bs⟩) hbx)
      simp only at a0 a1 a2 b0 b1 b2
      have hby := Box2.drew (w := w) (a := ⟨ak, an, as'⟩) (b := ⟨bk, bn, bs⟩) hbx
      clear hbx
      go_region_held3 (fun w' => w'.cell? ⟨w.heap.size, 0, none⟩ = some (.int .i64 ak) ∧ w'.cell? ⟨w.heap.size, 1, none⟩ = some (.int .i64 an) ∧ w'.cell? ⟨w.heap.size, 2, none⟩ = some (.string as') ∧
        w'.cell? ⟨w.heap.size + 1, 0, none⟩ = some (.int .i64 bk) ∧ w'.cell? ⟨w.heap.size + 1, 1, none⟩ = some (.int .i64 bn) ∧ w'.cell? ⟨w.heap.size + 1, 2, none⟩ = some (.string bs))
        (first | go_keep | exact Box2.six (a := ⟨ak, an, as'⟩) (b := ⟨bk, bn, bs⟩) (by assumption))
        ((go_at_call 108; refine (refClass_any ⟨_, _, _⟩ _).mono ?_; rintro e wa ⟨rfl, hba⟩; have hbx := Box2.pure (w := w) (a := ⟨ak, an, as'⟩) (b := ⟨bk, bn, bs⟩) (by assumption) hba; clear hba))
      all_goals
        by_cases hlt : cls ⟨ak, an, as'⟩ < cls ⟨bk, bn, bs⟩
        · have HI := Lib.hid (HI.out.trans (if_pos hlt))
          go_wp2
          go_ret
          exact ⟨by rw [HR.out, HI.out]; rfl, hbx.below⟩
        · have HI := Lib.hid ((HI.out.trans (if_neg hlt)).trans (if_pos (by omega)))
          go_wp2
          go_ret
          exact ⟨by rw [HR.out, HI.out]; rfl, hbx.below⟩
/-- The cells of a row's element. -/
theorem row_cells {m : Mem} {xs : List Val} {a : Option Addr} {n cap : Nat} (h : tRow.rv m [.slice a n cap] xs) {k : Nat} (hk : k < xs.length) :
    ∃ b o, a = some ⟨b, o, none⟩ ∧ m b (o + k * 3) = some (.int .i64 xs[k].kind) ∧ m b (o + k * 3 + 1) = some (.int .i64 xs[k].n) ∧ m b (o + k * 3 + 2) = some (.string xs[k].s) := by
  obtain ⟨b, o, rfl, hat⟩ := slice_at h hk
  obtain ⟨c0, c1, c2, _⟩ := val_at hat
  exact ⟨b, o, rfl, c0, c1, c2⟩

set_option maxRecDepth 100000 in
set_option maxHeartbeats 1000000 in
theorem refCmp_any (xs ys : List Val) (v u : Value) (w : World) (hv : tRow.rv (mem w) [v] xs) (hu : tRow.rv (mem w) [u] ys) :
    Calls Try.prog 72 #[v, u] w fun e w' => e = .returned (.int .i64 (cmpRow xs ys)) ∧ Below w.heap.size w w' := by
  obtain ⟨a, cap, rfl, hl, hm, hv⟩ := slice_form hv
  have hcap : cap ≤ 9223372036854775807 := by unfold maxLen at hm; exact hm
  obtain ⟨a2, cap2, rfl, hl2, hm2, hu⟩ := slice_form hu
  have hcap2 : cap2 ≤ 9223372036854775807 := by unfold maxLen at hm2; exact hm2
  clear hm hm2
  go_enter Try.func72, Try.ntmps72
  go_wp2
  go_loopw [5] (fun i wr => ∃ k : Nat, k ≤ xs.length ∧ k ≤ ys.length ∧ i = .int .i64 k ∧ Hid (cmpRow xs ys = cmpRow (xs.drop k) (ys.drop k)) ∧ Below w.heap.size w wr) (fun i _ => xs.length - (intOf i).toNat)
  case atStart => exact ⟨0, by omega, by omega, rfl, Lib.hid rfl, Below.refl _ _⟩
  case round =>
    obtain ⟨k, hk, hk2, rfl, HT, hB⟩ := hrel
    by_cases hlt : k < xs.length
    · by_cases hlt2 : k < ys.length
      · have hB := hB.drew
        obtain ⟨b, o, rfl, c0, c1, c2⟩ := row_cells (tRow.mono _ _ _ _ (below_mem hB) hv) hlt
        have c0 : wr.drew.cell? ⟨b, o + k * 3, none⟩ = some (.int .i64 xs[k].kind) := c0
        have c1 : wr.drew.cell? ⟨b, o + k * 3 + 1, none⟩ = some (.int .i64 xs[k].n) := c1
        have c2 : wr.drew.cell? ⟨b, o + k * 3 + 2, none⟩ = some (.string xs[k].s) := c2
        obtain ⟨b', o', rfl, d0, d1, d2⟩ := row_cells (tRow.mono _ _ _ _ (below_mem hB) hu) hlt2
        have d0 : wr.drew.cell? ⟨b', o' + k * 3, none⟩ = some (.int .i64 ys[k].kind) := d0
        have d1 : wr.drew.cell? ⟨b', o' + k * 3 + 1, none⟩ = some (.int .i64 ys[k].n) := d1
        have d2 : wr.drew.cell? ⟨b', o' + k * 3 + 2, none⟩ = some (.string ys[k].s) := d2
        have HS := Lib.hid (HT.out.trans (cmpRow_step hlt hlt2))
        have HC := Lib.hid (refCmpVals_any xs[k] ys[k])
        clear hv hu HT
        generalize cmpVal xs[k] ys[k] = r at HS HC
        generalize xs[k] = x at *
        generalize ys[k] = y at *
        obtain ⟨xk, xn, xs'⟩ := x
        obtain ⟨yk, yn, ys'⟩ := y
        simp only at c0 c1 c2 d0 d1 d2
        go_wp2_with fail
        go_region_held3 (fun w' => w'.cell? ⟨b, o + k * 3, none⟩ = some (.int .i64 xk) ∧ w'.cell? ⟨b, o + k * 3 + 1, none⟩ = some (.int .i64 xn) ∧ w'.cell? ⟨b, o + k * 3 + 2, none⟩ = some (.string xs') ∧
            w'.cell? ⟨b', o' + k * 3, none⟩ = some (.int .i64 yk) ∧ w'.cell? ⟨b', o' + k * 3 + 1, none⟩ = some (.int .i64 yn) ∧ w'.cell? ⟨b', o' + k * 3 + 2, none⟩ = some (.string ys'))
          (first | go_keep | exact ⟨below_mem hb _ _ _ c0, below_mem hb _ _ _ c1, below_mem hb _ _ _ c2, below_mem hb _ _ _ d0, below_mem hb _ _ _ d1, below_mem hb _ _ _ d2⟩)
          ((first | (go_at_call 95; refine (HC.out _).mono ?_; rintro e w1 ⟨rfl, hb⟩)))
        all_goals
          have hB1 := pure_trans hB hb
          clear hb hB HC c0 c1 c2 d0 d1 d2
          by_cases hr : r = 0
          · subst hr
            go_wp2
            go_roundw
            case rel => exact ⟨k + 1, by omega, by omega, by go_num, Lib.hid (by rw [HS.out]; rfl), hB1⟩
            case measure => simp [intOf]; omega
          · have hr1 : (r == 0) = false := by simpa using hr
            have HS := Lib.hid (HS.out.trans (if_pos hr))
            go_wp2
            go_ret
            exact ⟨by rw [HS.out]; rfl, hB1⟩
      · have HE := Lib.hid (HT.out.trans (cmpRow_end (.inr (by omega)) hk hk2))
        have HE := Lib.hid ((HE.out.trans (if_neg (by omega))).trans (if_pos (by omega)))
        clear HT
        go_wp2
        go_ret
        exact ⟨by rw [HE.out]; rfl, hB⟩
    · obtain rfl : k = xs.length := by omega
      have HE := Lib.hid (HT.out.trans (cmpRow_end (.inl (by omega)) hk hk2))
      clear HT
      by_cases hlt2 : xs.length < ys.length
      · have HE := Lib.hid (HE.out.trans (if_pos hlt2))
        go_wp2
        go_ret
        exact ⟨by rw [HE.out]; rfl, hB⟩
      · have HE := Lib.hid ((HE.out.trans (if_neg hlt2)).trans (if_neg (by omega)))
        go_wp2
        go_ret
        exact ⟨by rw [HE.out]; rfl, hB⟩
end Go.Proofs.Ytfkphdmnelchmaa
/- Append of a whole slice to a row of the call's own, in readings that ask nothing of memory. -/
namespace Go.Proofs.Ytfkphdmnelchmaa
open Go.RowKit

theorem Try.infoVal : (Try.prog.info? 118).map (fun i => (i.zero, i.size, i.bytes)) = some (some (.agg #[.int .i64 0, .int .i64 0, .string ⟨#[]⟩]), tVal.sz, 32) := by kernel_rfl

theorem flatten_split {β : Type} {s : Nat} (hs : 0 < s) : ∀ (css : List (List β)), (∀ c ∈ css, c.length = s) → ∀ (j : Nat) (v : β), css.flatten[j]? = some v → ∃ k, ∃ h : k < css.length, ∃ r, j = k * s + r ∧ css[k][r]? = some v
  | [], _, j, v, h => by simp at h
  | c :: css, hl, j, v, h => by
    have hc : c.length = s := hl c List.mem_cons_self
    rw [List.flatten_cons] at h
    by_cases hj : j < c.length
    · rw [List.getElem?_append_left hj] at h
      exact ⟨0, by simp, j, by omega, by simpa using h⟩
    · rw [List.getElem?_append_right (by omega)] at h
      obtain ⟨k, hk, r, e, hv⟩ := flatten_split hs css (fun x hx => hl x (List.mem_cons_of_mem _ hx)) _ _ h
      exact ⟨k + 1, by simp; omega, r, by rw [Nat.add_mul]; omega, by simpa using hv⟩

theorem flatten_len {β : Type} {s : Nat} : ∀ (css : List (List β)), (∀ c ∈ css, c.length = s) → css.flatten.length = css.length * s
  | [], _ => by simp
  | c :: css, hl => by
    rw [List.flatten_cons, List.length_append, flatten_len css (fun x hx => hl x (List.mem_cons_of_mem _ hx)), hl c List.mem_cons_self, List.length_cons, Nat.add_mul]
    omega

theorem slice_css {α : Type} {t : Ty α} {m : Mem} {b o : Nat} {n cap : Nat} {ys : List α} (h : (tSlice t).rv m [.slice (some ⟨b, o, none⟩) n cap] ys) :
    ∃ css : List (List Value), css.length = ys.length ∧ (∀ c ∈ css, c.length = t.sz) ∧ ∀ k, (h : k < css.length) → (h' : k < ys.length) → At m b (o + k * t.sz) css[k] ∧ t.rv m css[k] ys[k] := by
  have hk : ∀ k : Fin ys.length, ∃ cs, At m b (o + k.val * t.sz) cs ∧ t.rv m cs ys[k.val] := fun k => by
    obtain ⟨b', o', e, hat⟩ := slice_at h k.isLt
    injection e with e
    injection e with e1 e2
    subst e1; subst e2
    exact hat
  refine ⟨List.ofFn (fun k => Classical.choose (hk k)), by simp, fun c hc => ?_, fun k h1 h2 => ?_⟩
  · obtain ⟨k, rfl⟩ := List.mem_ofFn.1 hc
    exact t.len _ _ _ (Classical.choose_spec (hk k)).2
  · simp only [List.getElem_ofFn]
    exact Classical.choose_spec (hk ⟨k, h2⟩)

section
variable {P : Program}
theorem run_append_flat {α : Type} {t : Ty α} (hf : t.flat) (hone : ∀ m cs x, t.rv m cs x → ∀ u ∈ cs, u.oneCell' = true) (w : World) (T ty : TypeId) {e : TypeId} {z : Value} {bytes : Nat} (hT : P.underlying T = some (.slice e))
    (hinf : (P.info? e).map (fun i => (i.zero, i.size, i.bytes)) = some (some z, t.sz, bytes)) (hzs : z.cells.size = t.sz) (hsz : 0 < t.sz) (B : Nat) (v : Value) (xs ys : List α) (hown : Owns t w B e v xs)
    (a : Option Addr) (c : Nat) (hy : (tSlice t).rv (mem w) [.slice a ys.length c] ys) (h63 : xs.length + ys.length ≤ maxLen) (hbytes : (xs.length + ys.length) * bytes ≤ 140737488355328) (hbase : B ≤ w.heap.size) :
    ∃ v' w', (Builtin.append_ #[T, T] ty #[v, .slice a ys.length c]).run P w = .ok v' w' ∧ Owns t w' B e v' (xs ++ ys) ∧ w.grownBy w' v.ownBlock := by
  obtain ⟨i, hi, hz, hsize, hby⟩ := info_parts hinf
  obtain ⟨css, g1, g2, g4, g5⟩ := hown
  by_cases h0 : ys.length = 0
  · obtain rfl := List.length_eq_zero_iff.1 h0
    cases a with
    | none =>
      have hr : (Builtin.append_ #[T, T] ty #[v, .slice none 0 c]).run P w = .ok v w := by
        rcases g2.2 with ⟨rfl, _⟩ | ⟨g, cap, cur, rfl, _, _, hnc, _⟩
        · simp [Builtin.append_, run_underlying hT, sizeOf, typeInfo, hi, Builtin.lenOf, Builtin.firstCells]
        · simp [Builtin.append_, run_underlying hT, sizeOf, typeInfo, hi, Builtin.lenOf, Builtin.firstCells, hnc, storeCells]
      exact ⟨v, w, hr, by rw [List.append_nil]; exact ⟨css, g1, g2, g4, g5⟩, ⟨rfl, rfl, rfl, Nat.le_refl _, fun _ _ _ => rfl⟩⟩
    | some ad =>
      obtain ⟨v', w', hr, h2, h3, _⟩ := run_append_own (P := P) w B T ty e i z t.sz bytes hT hi hz hsize hby hzs hsz v xs.length css.flatten g2 ad 0 c [] (by simp) (fun j u hj => by simp at hj) (fun u hu => by simp at hu) (by simpa using h63) (by simpa using hbytes) hbase
      exact ⟨v', w', hr, ⟨css, by simp [g1], by simpa using h2, g4, fun k h h' => by
        have h'' : k < xs.length := by simpa using h'
        have := hf _ ((mem w').on (fun b => some b ≠ v'.ownBlock)) _ _ (g5 k h h'')
        simpa using this⟩, h3⟩
  · obtain ⟨b, o, rfl, _⟩ := slice_at hy (k := 0) (by omega)
    obtain ⟨dss, d1, d2, d3⟩ := slice_css hy
    have hl : dss.flatten.length = ys.length * t.sz := by rw [flatten_len dss d2, d1]
    obtain ⟨v', w', hr, h2, h3, _⟩ := run_append_own (P := P) w B T ty e i z t.sz bytes hT hi hz hsize hby hzs hsz v xs.length css.flatten g2 ⟨b, o, none⟩ ys.length c dss.flatten hl (fun j u hj => by
        obtain ⟨k, hk, r, rfl, hv⟩ := flatten_split hsz dss d2 j u hj
        have := (d3 k hk (by omega)).1 r u hv
        rw [Addr.add_lit, ← Nat.add_assoc]
        exact this) (fun u hu => by
        obtain ⟨l, hl, hu⟩ := List.mem_flatten.1 hu
        obtain ⟨k, hk, rfl⟩ := List.getElem_of_mem hl
        exact hone _ _ _ (d3 k hk (by omega)).2 u hu) h63 hbytes hbase
    refine ⟨v', w', hr, ⟨css ++ dss, by simp [g1, d1], by simpa using h2, fun cc hc => ?_, fun k h h' => ?_⟩, h3⟩
    · rcases List.mem_append.1 hc with hc | hc
      · exact g4 _ hc
      · exact d2 _ hc
    · by_cases hlt : k < xs.length
      · rw [List.getElem_append_left (by omega), List.getElem_append_left hlt]
        exact hf _ _ _ _ (g5 k (by omega) hlt)
      · rw [List.getElem_append_right (by omega), List.getElem_append_right (by omega)]
        have hk : k - xs.length < ys.length := by simp at h'; omega
        have := (d3 (k - xs.length) (by omega) hk).2
        simp only [g1]
        exact hf _ _ _ _ this

theorem wpList_append_flat {α : Type} {ops : Array Oper} {rest : List Oper} {o : Oper} {a : Act} {Q : Exit → Act → World → Prop} {w : World} (hgd : o.guard = none) (s x : Operand) (T : TypeId)
    (ho : o.op = .call { callee := .builtin .append, args := #[s, x], argTypes := #[T, T] }) {t : Ty α} (hf : t.flat) (hone : ∀ m cs x, t.rv m cs x → ∀ u ∈ cs, u.oneCell' = true) {e : TypeId} {z : Value} {bytes : Nat} (hT : P.underlying T = some (.slice e))
    (hinf : (P.info? e).map (fun i => (i.zero, i.size, i.bytes)) = some (some z, t.sz, bytes)) (hzs : z.cells.size = t.sz) (hsz : 0 < t.sz) (B : Nat) (v : Value) (xs ys : List α) (hs : a.eval s = v) (hown : Owns t w B e v xs)
    (ad : Option Addr) (n c : Nat) (hx : a.eval x = .slice ad n c) (hn : n = ys.length) (hy : (tSlice t).rv (mem w) [.slice ad n c] ys) (h63 : xs.length + ys.length ≤ maxLen) (hbytes : (xs.length + ys.length) * bytes ≤ 140737488355328) (hbase : B ≤ w.heap.size)
    (h : ∀ v' w', Owns t w' B e v' (xs ++ ys) → w.grownBy w' v.ownBlock → wpList P ops Q rest (a.put o.dst v') w') : wpList P ops Q (o :: rest) a w := by
  subst hn
  refine wpList_plain hgd fun K hK => ?_
  obtain ⟨v', w', hr, h2, h3⟩ := run_append_flat (P := P) hf hone w T o.type hT hinf hzs hsz B v xs ys hown ad c hy h63 hbytes hbase
  unfold Oper.wp execOp
  simp only [ho, resolve, invoke, builtin, Sem.run_bind, Sem.run_pure, Result.andThen_ok, List.map_toArray, List.map_cons, List.map_nil, hs, hx, hr]
  exact hK _ _ (h v' w' h2 h3)
theorem tVal_one : ∀ m cs x, tVal.rv m cs x → ∀ u ∈ cs, u.oneCell' = true := fun m cs x h u hu => by
  obtain ⟨rfl, _⟩ := h
  simp at hu
  rcases hu with rfl | rfl | rfl <;> rfl
end
end Go.Proofs.Ytfkphdmnelchmaa
/- slices.Clone at rows. -/
namespace Go.Proofs.Ytfkphdmnelchmaa
open Go.RowKit

set_option maxRecDepth 100000 in
set_option maxHeartbeats 1000000 in
theorem cloneRow_any (xs : List Val) (v : Value) (w : World) (hv : tRow.rv (mem w) [v] xs) (h8 : xs.length ≤ 1000000) :
    Calls Try.prog 71 #[v] w fun e w' => ∃ x, e = .returned x ∧ Owns tVal w' w.heap.size 118 x xs ∧ Below w.heap.size w w' := by
  have hb0 : ∀ o, Below w.heap.size w (w.alloc o) := fun o => (Below.refl _ _).alloc (Nat.le_refl _) o
  have hown : ∀ T, T = 118 → Owns tVal (w.alloc (.cells #[] T)) w.heap.size 118 (.slice (some ⟨w.heap.size, 0, none⟩) 0 0) [] := fun T hT => by
    subst hT
    exact ⟨[], rfl, World.ownsRow_lit w #[] 0 (Nat.le_refl _) (Nat.zero_le _) (by simp), fun c h => absurd h (by simp), fun k h => absurd h (by simp)⟩
  obtain ⟨a1, cap1, rfl, hl1, hm1, hv⟩ := slice_form hv
  have HV := Lib.hid (fun o => (tRow.mono _ _ _ _ (below_mem (hb0 o)) hv : tRow.rv (mem (w.alloc o)) _ xs))
  cases a1 with
  | none =>
    have h0 : xs = [] := by
      cases xs with
      | nil => rfl
      | cons x l => obtain ⟨b, o, e, _⟩ := slice_at hv (k := 0) (by simp); cases e
    subst h0
    clear hm1 hv HV
    have hq := fun w => Lib.run_eql_slice_nil (P := Try.prog) w 38 _ none 0 cap1 0 0 Try.underlying38
    go_enter Try.func71, Try.ntmps71
    go_wp2
    go_ret
    exact ⟨_, rfl, Owns.nil _ _ _ _, Below.refl _ _⟩
  | some ad =>
    clear hm1 hv
    have hq := fun w => Lib.run_eql_slice_nil (P := Try.prog) w 38 _ (some ad) xs.length cap1 0 0 Try.underlying38
    go_enter Try.func71, Try.ntmps71
    go_wp2_with (at_builtin; refine wpList_append_flat rfl _ _ 38 rfl tVal_flat tVal_one Try.underlying38 Try.infoVal rfl (by decide) w.heap.size _ [] xs rfl (hown _ rfl) _ _ _ rfl rfl (HV.out _) ?c1 ?c2 ?c3 ?_)
    case c1 => simp; unfold maxLen; omega
    case c2 => simp; omega
    case c3 => simp
    intro v' w2 hown' hgrow
    have hB : Below w.heap.size w w2 := (hb0 _).grown hgrow (by simp) (fun k hk => by simp [Value.ownBlock] at hk; omega)
    obtain ⟨a', cap', rfl, _⟩ := hown'.len
    clear hown hgrow HV
    go_wp2
    go_ret
    exact ⟨_, rfl, hown', hB⟩
end Go.Proofs.Ytfkphdmnelchmaa
