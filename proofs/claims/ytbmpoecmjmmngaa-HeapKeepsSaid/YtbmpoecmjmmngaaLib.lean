/- Own words of these proofs: memory as a function of places, readings of Go's types as plain data (Ty), what a call keeps (Keeps), rows of the call's own. No program in sight. -/
import Derived.WalkKit
import Derived.WalkSpells
import Derived.WalkLawsBesides
import Derived.Deep.QuietTactic
import Derived.BigQuiet
import Derived.Lib.Hide
import Derived.ChangeArms
import Derived.Deep.Slices
import Derived.DataReads
import Derived.Carry
import Derived.Deep.RegionLaw
namespace Go.Proofs.Ytbmpoecmjmmngaa
open Go.RowKit

def Mem := Nat → Nat → Option Value
def mem (w : World) : Mem := fun b o => w.cell? ⟨b, o, none⟩
open Classical in
noncomputable def Mem.on (m : Mem) (S : Nat → Prop) : Mem := fun b o => if S b then m b o else none
def Mem.le (m m' : Mem) : Prop := ∀ b o v, m b o = some v → m' b o = some v

theorem Mem.le_refl (m : Mem) : m.le m := fun _ _ _ h => h
theorem Mem.le_trans {a b c : Mem} (h : a.le b) (k : b.le c) : a.le c := fun x y v e => k x y v (h x y v e)
theorem Mem.on_le (m : Mem) (S : Nat → Prop) : (m.on S).le m := fun b o v h => by
  unfold Mem.on at h
  split at h
  · exact h
  · cases h
theorem Mem.on_mono (m : Mem) {S S' : Nat → Prop} (h : ∀ b, S b → S' b) : (m.on S).le (m.on S') := fun b o v e => by
  unfold Mem.on at *
  split at e
  · rename_i hs
    rw [if_pos (h b hs)]; exact e
  · cases e
theorem Mem.on_some {m : Mem} {S : Nat → Prop} {b o : Nat} {v : Value} (h : m b o = some v) (hs : S b) : m.on S b o = some v := by
  unfold Mem.on; rw [if_pos hs]; exact h
theorem Mem.of_on {m : Mem} {S : Nat → Prop} {b o : Nat} {v : Value} (h : m.on S b o = some v) : S b ∧ m b o = some v := by
  unfold Mem.on at h
  split at h
  · exact ⟨‹_›, h⟩
  · cases h
theorem mem_lt {w : World} {b o : Nat} {v : Value} (h : mem w b o = some v) : b < w.heap.size := World.block_lt_of_cell? w ⟨b, o, none⟩ h

/-- What a call keeps: outside the blocks F all that was there is there. -/
structure Keeps (F : Nat → Prop) (w w' : World) : Prop where
  os : w'.os = w.os
  tape : w'.tape = w.tape
  output : w'.output = w.output
  size : w.heap.size ≤ w'.heap.size
  block : ∀ k, k < w.heap.size → ¬ F k → w'.heap[k]? = w.heap[k]?

theorem Keeps.refl (F : Nat → Prop) (w : World) : Keeps F w w := ⟨rfl, rfl, rfl, Nat.le_refl _, fun _ _ _ => rfl⟩
theorem Keeps.wide {F G : Nat → Prop} {w w' : World} (h : Keeps F w w') (hFG : ∀ k, k < w.heap.size → F k → G k) : Keeps G w w' :=
  ⟨h.os, h.tape, h.output, h.size, fun k hk hg => h.block k hk (fun hf => hg (hFG k hk hf))⟩
theorem Keeps.trans {F : Nat → Prop} {a b c : World} (h : Keeps F a b) (k : Keeps F b c) : Keeps F a c :=
  ⟨k.os.trans h.os, k.tape.trans h.tape, k.output.trans h.output, Nat.le_trans h.size k.size,
   fun i hi hf => (k.block i (Nat.lt_of_lt_of_le hi h.size) hf).trans (h.block i hi hf)⟩
theorem below_keeps {B : Nat} {w w' : World} (h : Below B w w') : Keeps (fun k => B ≤ k) w w' :=
  ⟨h.os, h.tape, h.output, h.size, fun k _ hk => h.block k (by omega)⟩
theorem Keeps.below {F : Nat → Prop} {w w' : World} (h : Keeps F w w') {B : Nat} (hB : B ≤ w.heap.size) (hF : ∀ k, F k → B ≤ k) : Below B w w' :=
  ⟨h.os, h.tape, h.output, h.size, fun k hk => h.block k (by omega) (fun hf => by have := hF k hf; omega)⟩
theorem below_step {B : Nat} {w wr w1 : World} (h : Below B w wr) (k : Below wr.heap.size wr w1) (hB : B ≤ wr.heap.size) : Below B w w1 := h.trans (k.mono hB)
theorem pure_trans {w wr w1 : World} (h : Below w.heap.size w wr) (k : Below wr.heap.size wr w1) : Below w.heap.size w w1 := h.trans (k.mono h.size)
theorem grown_keeps {w w' : World} {r : Option Nat} (h : w.grownBy w' r) : Keeps (fun k => some k = r) w w' :=
  ⟨h.os, h.tape, h.output, h.size, fun k hk hf => h.block k hk hf⟩
theorem Keeps.alloc {F : Nat → Prop} {a w : World} (h : Keeps F a w) (o : Obj) : Keeps F a (w.alloc o) :=
  h.trans ⟨rfl, rfl, rfl, by simp, fun k hk _ => Below.heap_alloc _ _ _ hk⟩
theorem Keeps.drew {F : Nat → Prop} {a w : World} (h : Keeps F a w) : Keeps F a w.drew := ⟨h.os, h.tape, h.output, h.size, h.block⟩
theorem Keeps.drewN {F : Nat → Prop} {a w : World} (h : Keeps F a w) (n : Nat) : Keeps F a (w.drewN n) := ⟨h.os, h.tape, h.output, h.size, h.block⟩
theorem Keeps.setCell {F : Nat → Prop} {a w : World} (h : Keeps F a w) {p : Addr} (hp : p.block < a.heap.size → F p.block) (u : Value) : Keeps F a (w.setCell p u) :=
  ⟨h.os, h.tape, h.output, by have := h.size; simpa [World.setCell] using this, fun k hk hf => (Below.heap_setCell _ _ _ _ (fun e => hf (by subst e; exact hp hk))).trans (h.block k hk hf)⟩
theorem Keeps.belowStep {F : Nat → Prop} {B : Nat} {w wr w1 : World} (h : Below B w wr) (k : Keeps F wr w1) (hF : ∀ k, F k → B ≤ k) (hB : B ≤ wr.heap.size) : Below B w w1 := h.trans (k.below hB hF)
theorem Keeps.pure {F : Nat → Prop} {a w w' : World} (h : Keeps F a w) (k : Below w.heap.size w w') : Keeps F a w' :=
  ⟨k.os.trans h.os, k.tape.trans h.tape, k.output.trans h.output, Nat.le_trans h.size k.size, fun i hi hf => (k.block i (Nat.lt_of_lt_of_le hi h.size)).trans (h.block i hi hf)⟩

theorem mem_of_block {w w' : World} {b : Nat} (h : w'.heap[b]? = w.heap[b]?) (o : Nat) : mem w' b o = mem w b o := World.cell?_of_block (w := w) (w' := w') (a := ⟨b, o, none⟩) h
theorem keeps_mem {F : Nat → Prop} {w w' : World} (h : Keeps F w w') {S : Nat → Prop} (hS : ∀ b, S b → ¬ F b) : ((mem w).on S).le ((mem w').on S) := fun b o v e => by
  obtain ⟨hs, e⟩ := Mem.of_on e
  exact Mem.on_some ((mem_of_block (h.block b (mem_lt e) (hS b hs)) o).trans e) hs
theorem keeps_mem' {F : Nat → Prop} {w w' : World} (h : Keeps F w w') {S : Nat → Prop} (hS : ∀ b, S b → ¬ F b) : ((mem w).on S).le (mem w') := Mem.le_trans (keeps_mem h hS) (Mem.on_le _ _)
theorem below_mem {w w' : World} (h : Below w.heap.size w w') : (mem w).le (mem w') := fun b o v e => (mem_of_block (h.block b (mem_lt e)) o).trans e
theorem below_memOn {B : Nat} {w w' : World} (h : Below B w w') : ((mem w).on (· < B)).le ((mem w').on (· < B)) := keeps_mem (below_keeps h) (fun b hb hn => by omega)
theorem mem_on_lt (w : World) : (mem w).le ((mem w).on (· < w.heap.size)) := fun _ _ _ e => Mem.on_some e (mem_lt e)
theorem mem_drewN (w : World) (n : Nat) : mem (w.drewN n) = mem w := rfl
theorem mem_drew (w : World) : mem w.drew = mem w := rfl

/-- How the cells of a value read as plain data. -/
structure Ty (α : Type) where
  sz : Nat
  rv : Mem → List Value → α → Prop
  len : ∀ m cs x, rv m cs x → cs.length = sz
  mono : ∀ m m' cs x, m.le m' → rv m cs x → rv m' cs x

def inI64 (n : Int) : Prop := -9223372036854775808 ≤ n ∧ n ≤ 9223372036854775807

def tInt : Ty Int := ⟨1, fun _ cs x => cs = [.int .i64 x] ∧ inI64 x, fun _ _ _ h => by rw [h.1]; rfl, fun _ _ _ _ _ h => h⟩
def tBool : Ty Bool := ⟨1, fun _ cs x => cs = [.bool x], fun _ _ _ h => by rw [h]; rfl, fun _ _ _ _ _ h => h⟩
def tStr : Ty ByteArray := ⟨1, fun _ cs x => cs = [.string x] ∧ x.size ≤ maxLen, fun _ _ _ h => by rw [h.1]; rfl, fun _ _ _ _ _ h => h⟩

/-- The cells of an element at a place. -/
def At (m : Mem) (b o : Nat) (cs : List Value) : Prop := ∀ j v, cs[j]? = some v → m b (o + j) = some v
theorem At.mono {m m' : Mem} {b o : Nat} {cs : List Value} (h : m.le m') (k : At m b o cs) : At m' b o cs := fun j v e => h _ _ _ (k j v e)
def Ty.at {α : Type} (t : Ty α) (m : Mem) (b o : Nat) (x : α) : Prop := ∃ cs, At m b o cs ∧ t.rv m cs x
theorem Ty.at_mono {α : Type} (t : Ty α) {m m' : Mem} {b o : Nat} {x : α} (h : m.le m') (k : t.at m b o x) : t.at m' b o x :=
  let ⟨cs, h1, h2⟩ := k; ⟨cs, h1.mono h, t.mono _ _ _ _ h h2⟩

def SliceRv {α : Type} (t : Ty α) (m : Mem) (cs : List Value) (xs : List α) : Prop :=
  ∃ a cap, cs = [.slice a xs.length cap] ∧ xs.length ≤ cap ∧ cap ≤ maxLen ∧
    (0 < xs.length → ∃ b o, a = some ⟨b, o, none⟩ ∧ ∀ k, (hk : k < xs.length) → t.at m b (o + k * t.sz) xs[k])
def tSlice {α : Type} (t : Ty α) : Ty (List α) where
  sz := 1
  rv := SliceRv t
  len := fun _ _ _ ⟨_, _, h, _⟩ => by rw [h]; rfl
  mono := fun m m' _ _ h ⟨a, cap, h1, h2, h3, h4⟩ => ⟨a, cap, h1, h2, h3, fun h0 => let ⟨b, o, e, hk⟩ := h4 h0; ⟨b, o, e, fun k hk' => t.at_mono h (hk k hk')⟩⟩

theorem slice_nil {α : Type} (t : Ty α) (m : Mem) : (tSlice t).rv m [.slice none 0 0] [] := ⟨none, 0, rfl, Nat.le_refl _, Nat.zero_le _, fun h => absurd h (by simp)⟩

/-- A slice's element: the cells at its place. -/
theorem slice_at {α : Type} {t : Ty α} {m : Mem} {a : Option Addr} {n cap : Nat} {xs : List α} (h : (tSlice t).rv m [.slice a n cap] xs) {k : Nat} (hk : k < xs.length) :
    ∃ b o, a = some ⟨b, o, none⟩ ∧ t.at m b (o + k * t.sz) xs[k] := by
  obtain ⟨a', cap', e, _, _, h4⟩ := h
  obtain ⟨b, o, ha, hat⟩ := h4 (by omega)
  simp only [List.cons.injEq, Value.slice.injEq, and_true] at e
  exact ⟨b, o, e.1.trans ha, hat k hk⟩
theorem slice_len {α : Type} {t : Ty α} {m : Mem} {a : Option Addr} {n cap : Nat} {xs : List α} (h : (tSlice t).rv m [.slice a n cap] xs) : n = xs.length ∧ xs.length ≤ cap ∧ cap ≤ maxLen := by
  obtain ⟨a', cap', e, h1, h2, _⟩ := h
  simp only [List.cons.injEq, Value.slice.injEq, and_true] at e
  obtain ⟨rfl, rfl, rfl⟩ := e
  exact ⟨rfl, h1, h2⟩
theorem slice_form {α : Type} {t : Ty α} {m : Mem} {v : Value} {xs : List α} (h : (tSlice t).rv m [v] xs) : ∃ a cap, v = .slice a xs.length cap ∧ xs.length ≤ cap ∧ cap ≤ maxLen ∧ (tSlice t).rv m [.slice a xs.length cap] xs := by
  have h0 := h
  obtain ⟨a', cap', e, h1, h2, _⟩ := h
  simp only [List.cons.injEq, and_true] at e
  exact ⟨a', cap', e, h1, h2, e ▸ h0⟩
/-- Elements of one cell. -/
theorem int_at {m : Mem} {b o : Nat} {x : Int} (h : tInt.at m b o x) : m b o = some (.int .i64 x) ∧ inI64 x := by
  obtain ⟨cs, h1, rfl, h3⟩ := h
  exact ⟨h1 0 _ rfl, h3⟩
theorem str_at {m : Mem} {b o : Nat} {x : ByteArray} (h : tStr.at m b o x) : m b o = some (.string x) ∧ x.size ≤ maxLen := by
  obtain ⟨cs, h1, rfl, h3⟩ := h
  exact ⟨h1 0 _ rfl, h3⟩
theorem slice_cell {α : Type} {t : Ty α} {m : Mem} {b o : Nat} {xs : List α} (h : (tSlice t).at m b o xs) : ∃ v, m b o = some v ∧ (tSlice t).rv m [v] xs := by
  obtain ⟨cs, h1, h2⟩ := h
  have hl := (tSlice t).len _ _ _ h2
  match cs, hl with
  | [v], _ => exact ⟨v, h1 0 _ rfl, h2⟩

/-! ### Rows of the call's own -/

/-- The slice value v owns its elements: they read as xs, and their deep parts do not lie in the row itself. -/
def Owns {α : Type} (t : Ty α) (w : World) (B : Nat) (e : TypeId) (v : Value) (xs : List α) : Prop :=
  ∃ css : List (List Value), css.length = xs.length ∧ w.ownsRow B e t.sz v xs.length css.flatten ∧ (∀ c ∈ css, c.length = t.sz) ∧
    ∀ k, (h : k < css.length) → (h' : k < xs.length) → t.rv ((mem w).on (fun b => some b ≠ v.ownBlock)) css[k] xs[k]

theorem Owns.nil {α : Type} (t : Ty α) (w : World) (B : Nat) (e : TypeId) : Owns t w B e (.slice none 0 0) [] :=
  ⟨[], rfl, World.ownsRow_nil w B e t.sz, fun c h => absurd h (by simp), fun k h => absurd h (by simp)⟩

theorem flatten_get {β : Type} {s : Nat} : ∀ (css : List (List β)), (∀ c ∈ css, c.length = s) → ∀ (k : Nat) (h : k < css.length) (j : Nat) (v : β), css[k][j]? = some v → css.flatten[k * s + j]? = some v
  | c :: css, hc, 0, _, j, v, e => by
    simp only [List.getElem_cons_zero] at e
    rw [List.flatten_cons, Nat.zero_mul, Nat.zero_add, List.getElem?_append_left (List.getElem?_eq_some_iff.1 e).1]
    exact e
  | c :: css, hc, k + 1, h, j, v, e => by
    have hl : c.length = s := hc c (by simp)
    rw [List.flatten_cons, List.getElem?_append_right (by rw [hl, Nat.succ_mul]; omega), hl, show (k + 1) * s + j - s = k * s + j by rw [Nat.succ_mul]; omega]
    exact flatten_get css (fun c hm => hc c (by simp [hm])) k (by simpa using h) j v (by simpa using e)

theorem Owns.rv {α : Type} {t : Ty α} {w : World} {B : Nat} {e : TypeId} {v : Value} {xs : List α} (h : Owns t w B e v xs) {S : Nat → Prop} (hS : ∀ b, B ≤ b → S b)
    (hd : ∀ k cs, (hk : k < xs.length) → t.rv ((mem w).on (fun b => some b ≠ v.ownBlock)) cs xs[k] → t.rv ((mem w).on S) cs xs[k]) : (tSlice t).rv ((mem w).on S) [v] xs := by
  obtain ⟨css, h1, ⟨h2, h3⟩, h4, h5⟩ := h
  rcases h3 with ⟨rfl, h6⟩ | ⟨g, cap, cur, rfl, hg, hh, hn, hm, hc, ht⟩
  · have : xs = [] := List.eq_nil_of_length_eq_zero h6
    subst this
    exact slice_nil t _
  · refine ⟨some ⟨g, 0, none⟩, cap, rfl, hn, hm, fun _ => ⟨g, 0, rfl, fun k hk => ⟨css[k], fun j u hu => ?_, hd k _ hk (h5 k (by omega) hk)⟩⟩⟩
    have hf := flatten_get css h4 k (by omega) j u hu
    rw [← ht] at hf
    rw [List.getElem?_take] at hf
    split at hf
    · rw [Nat.zero_add]
      refine Mem.on_some ?_ (hS g hg)
      show World.cell? w ⟨g, k * t.sz + j, none⟩ = some u
      rw [cell_of_row w g (k * t.sz + j) cur e (0, 0) hh]
      simpa using hf
    · cases hf

theorem Owns.rv' {α : Type} {t : Ty α} {w : World} {B : Nat} {e : TypeId} {v : Value} {xs : List α} (h : Owns t w B e v xs) : (tSlice t).rv (mem w) [v] xs :=
  (tSlice t).mono _ _ _ _ (Mem.on_le _ (fun _ => True)) (h.rv (fun _ _ => trivial) (fun _ cs _ hk => t.mono _ _ cs _ (Mem.on_mono _ (fun _ _ => trivial)) hk))
theorem Owns.len {α : Type} {t : Ty α} {w : World} {B : Nat} {e : TypeId} {v : Value} {xs : List α} (h : Owns t w B e v xs) : ∃ a cap, v = .slice a xs.length cap ∧ xs.length ≤ maxLen := by
  obtain ⟨a, cap, h1, h2, h3, _⟩ := slice_form h.rv'
  exact ⟨a, cap, h1, Nat.le_trans h2 h3⟩

/-- An owned row over a call that keeps it. -/
theorem Owns.keeps {α : Type} {t : Ty α} {w w' : World} {B : Nat} {e : TypeId} {v : Value} {xs : List α} (h : Owns t w B e v xs) (hb : Below w.heap.size w w') : Owns t w' B e v xs := by
  obtain ⟨css, h1, ⟨h2, h3⟩, h4, h5⟩ := h
  refine ⟨css, h1, ⟨h2, ?_⟩, h4, fun k h h' => t.mono _ _ _ _ (fun b o u e => ?_) (h5 k h h')⟩
  · rcases h3 with h3 | ⟨g, cap, cur, rfl, hg, hh, r⟩
    · exact .inl h3
    · exact .inr ⟨g, cap, cur, rfl, hg, by rw [hb.block g (Array.getElem?_eq_some_iff.1 hh).1]; exact hh, r⟩
  · obtain ⟨hs, e⟩ := Mem.of_on e
    exact Mem.on_some (below_mem hb _ _ _ e) hs

/-- A reading that asks nothing of memory. -/
def Ty.flat {α : Type} (t : Ty α) : Prop := ∀ m m' cs x, t.rv m cs x → t.rv m' cs x
theorem tInt_flat : tInt.flat := fun _ _ _ _ h => h
theorem tBool_flat : tBool.flat := fun _ _ _ _ h => h
theorem tStr_flat : tStr.flat := fun _ _ _ _ h => h
theorem Owns.keepsFlat {α : Type} {t : Ty α} {w w' : World} {B : Nat} {e : TypeId} {v : Value} {xs : List α} (h : Owns t w B e v xs) (hf : t.flat) {F : Nat → Prop} (hk : Keeps F w w') (hF : ∀ k, v.ownBlock = some k → ¬ F k) : Owns t w' B e v xs := by
  obtain ⟨css, h1, ⟨h2, h3⟩, h4, h5⟩ := h
  refine ⟨css, h1, ⟨h2, ?_⟩, h4, fun k h h' => hf _ _ _ _ (h5 k h h')⟩
  rcases h3 with h3 | ⟨g, cap, cur, rfl, hg, hh, r⟩
  · exact .inl h3
  · exact .inr ⟨g, cap, cur, rfl, hg, by rw [hk.block g (Array.getElem?_eq_some_iff.1 hh).1 (hF g rfl)]; exact hh, r⟩

theorem Owns.lt {α : Type} {t : Ty α} {w : World} {B : Nat} {e : TypeId} {v : Value} {xs : List α} (h : Owns t w B e v xs) : ∀ k, v.ownBlock = some k → B ≤ k ∧ k < w.heap.size := let ⟨_, _, h2, _⟩ := h; h2.lt

/-- What stands behind an append of one element: the row owns one more. -/
theorem Owns.snoc {α : Type} {t : Ty α} {w w' : World} {B : Nat} {e : TypeId} {v v' : Value} {xs : List α} {x : α} {cs : List Value} (h : Owns t w B e v xs)
    (hw : ∀ css : List (List Value), w.ownsRow B e t.sz v xs.length css.flatten → w'.ownsRow B e t.sz v' (xs.length + 1) (css.flatten ++ cs)) (hg : w.grownBy w' v.ownBlock)
    (hv : v'.ownBlock = v.ownBlock ∨ ∀ k, v'.ownBlock = some k → w.heap.size ≤ k)
    (hx : t.rv ((mem w).on (fun b => some b ≠ v.ownBlock)) cs x) : Owns t w' B e v' (xs ++ [x]) := by
  obtain ⟨css, h1, h2, h4, h5⟩ := h
  have hle : ((mem w).on (fun b => some b ≠ v.ownBlock)).le ((mem w').on (fun b => some b ≠ v'.ownBlock)) := fun b o u e => by
    obtain ⟨hs, e⟩ := Mem.of_on e
    refine Mem.on_some ((mem_of_block (hg.block b (mem_lt e) hs) o).trans e) ?_
    rcases hv with hv | hv
    · rw [hv]; exact hs
    · intro hk
      have := hv b hk.symm
      have := mem_lt e
      omega
  refine ⟨css ++ [cs], by simp [h1], ?_, ?_, ?_⟩
  · have := hw css h2
    simpa using this
  · intro c hc
    rcases List.mem_append.1 hc with hc | hc
    · exact h4 c hc
    · simp at hc; subst hc; exact t.len _ _ _ hx
  · intro k hk hk'
    by_cases hlt : k < xs.length
    · rw [List.getElem_append_left (by omega), List.getElem_append_left hlt]
      exact t.mono _ _ _ _ hle (h5 k (by omega) hlt)
    · have : k = xs.length := by simp at hk'; omega
      subst this
      rw [List.getElem_append_right (by omega), List.getElem_append_right (by omega)]
      simp only [h1, Nat.sub_self, List.getElem_cons_zero]
      exact t.mono _ _ _ _ hle hx

theorem mem_cells_new (w : World) (cs : Array Value) (T : TypeId) (f : Nat × Nat) (o : Nat) : (w.alloc (.cells cs T f)).cell? ⟨w.heap.size, o, none⟩ = cs[o]? := by
  have h := heap_alloc_new w (.cells cs T f)
  generalize w.alloc (.cells cs T f) = w' at h ⊢
  simp [World.cell?, h]
theorem Owns.alloc {α : Type} {t : Ty α} {w : World} {B : Nat} {e : TypeId} {v : Value} {xs : List α} (h : Owns t w B e v xs) (o : Obj) : Owns t (w.alloc o) B e v xs :=
  h.keeps ((Below.refl _ _).alloc (Nat.le_refl _) o)
theorem Owns.drew {α : Type} {t : Ty α} {w : World} {B : Nat} {e : TypeId} {v : Value} {xs : List α} (h : Owns t w B e v xs) : Owns t w.drew B e v xs :=
  h.keeps (Below.refl _ _).drew

section
variable {P : Program}
/-- Where an append has put its row: in the same one, or in a new one. -/
theorem append_block (w : World) (base : Nat) (t ty e : TypeId) (i : TypeInfo) (z : Value) (size bytes : Nat) (ht : P.underlying t = some (.slice e)) (hi : P.info? e = some i) (hz : i.zero = some z)
    (hsize : i.size = size) (hby : i.bytes = bytes) (v : Value) (n : Nat) (xs : List Value) (hown : w.ownsRow base e size v n xs)
    (a : Addr) (m c : Nat) (news : List Value) (hl : news.length = m * size) (hnews : ∀ j u, news[j]? = some u → w.cell? (a.add j) = some u) (h1 : ∀ u ∈ news, u.oneCell' = true)
    (hm : 0 < m) (h63 : n + m ≤ maxLen) (hbytes : (n + m) * bytes ≤ 140737488355328) {v' : Value} {w' : World}
    (hr : (Builtin.append_ #[t, t] ty #[v, .slice (some a) m c]).run P w = .ok v' w') : v'.ownBlock = v.ownBlock ∨ ∀ k, v'.ownBlock = some k → w.heap.size ≤ k := by
  subst hsize
  subst hby
  have h9 : n + m ≤ 9223372036854775807 := by unfold maxLen at h63; exact h63
  rcases hown.2 with ⟨rfl, rfl⟩ | ⟨g, cap, cur, rfl, hbg, hg, hnc, hcm, hcs, htake⟩
  · rw [run_append_nil (P := P) w t ty e i z ht hi hz a m c news hl hnews hm (by omega) (by have hb := hbytes; simp only [Nat.zero_add] at hb; omega)] at hr
    injection hr with hv _
    subst hv
    right; intro k hk
    simp [Value.ownBlock] at hk
    omega
  · by_cases hroom : n + m ≤ cap
    · have hfit : n * i.size + news.length ≤ cur.size := by rw [hl, hcs, ← Nat.add_mul]; exact Nat.mul_le_mul_right _ hroom
      rw [run_append_room (P := P) w t ty e i ht hi g n cap cur hg a m c news hl hnews h1 hroom hfit] at hr
      injection hr with hv _
      subst hv
      left; rfl
    · rw [run_append_grow (P := P) w t ty e i z ht hi hz ⟨g, 0, none⟩ n cap xs hown.1 (hown.cells (g := g) rfl) a m c news hl hnews (by omega) (by omega) (growslice_fits (by omega) hbytes)] at hr
      injection hr with hv _
      subst hv
      right; intro k hk
      simp [Value.ownBlock] at hk
      omega

/-- APPEND OF ONE ELEMENT to a row of the call's own, in readings. -/
theorem wpList_append_one {α : Type} {ops : Array Oper} {rest : List Oper} {o : Oper} {a : Act} {Q : Exit → Act → World → Prop} {w : World} (hgd : o.guard = none) (s x : Operand) (T : TypeId)
    (ho : o.op = .call { callee := .builtin .append, args := #[s, x], argTypes := #[T, T] }) (t : Ty α) {e : TypeId} {z : Value} {bytes : Nat} (hT : P.underlying T = some (.slice e))
    (hinf : (P.info? e).map (fun i => (i.zero, i.size, i.bytes)) = some (some z, t.sz, bytes)) (hzs : z.cells.size = t.sz) (hsz : 0 < t.sz) (B : Nat) (v : Value) (xs : List α) (hs : a.eval s = v) (hown : Owns t w B e v xs)
    (nb c : Nat) (y : α) (hx : a.eval x = .slice (some ⟨nb, 0, none⟩) 1 c) (cs : List Value) (hat : At (mem w) nb 0 cs) (hrv : t.rv ((mem w).on (fun b => some b ≠ v.ownBlock)) cs y) (h1 : ∀ u ∈ cs, u.oneCell' = true)
    (h63 : xs.length + 1 ≤ maxLen) (hbytes : (xs.length + 1) * bytes ≤ 140737488355328) (hbase : B ≤ w.heap.size)
    (h : ∀ v' w', Owns t w' B e v' (xs ++ [y]) → w.grownBy w' v.ownBlock → (v'.ownBlock = v.ownBlock ∨ ∀ k, v'.ownBlock = some k → w.heap.size ≤ k) → wpList P ops Q rest (a.put o.dst v') w') : wpList P ops Q (o :: rest) a w := by
  obtain ⟨i, hi, hz, hsize, hby⟩ := info_parts hinf
  have hown' := hown
  obtain ⟨css, g1, g2, g4, g5⟩ := hown
  have hl : cs.length = 1 * t.sz := by rw [t.len _ _ _ hrv, Nat.one_mul]
  have hnews : ∀ j u, cs[j]? = some u → w.cell? ((⟨nb, 0, none⟩ : Addr).add j) = some u := fun j u hj => by rw [Addr.add_lit]; exact hat j u hj
  refine wpList_plain hgd fun K hK => ?_
  obtain ⟨v', w', hr, h2, h3, _⟩ := run_append_own (P := P) w B T o.type e i z t.sz bytes hT hi hz hsize hby hzs hsz v xs.length css.flatten g2 ⟨nb, 0, none⟩ 1 c cs hl hnews h1 h63 hbytes hbase
  have hblk := append_block w B T o.type e i z t.sz bytes hT hi hz hsize hby v xs.length css.flatten g2 ⟨nb, 0, none⟩ 1 c cs hl hnews h1 (by omega) h63 hbytes hr
  have key : Owns t w' B e v' (xs ++ [y]) := by
    refine hown'.snoc (fun css' hc' => ?_) h3 hblk hrv
    obtain ⟨v2, w2, hr2, h22, _, _⟩ := run_append_own (P := P) w B T o.type e i z t.sz bytes hT hi hz hsize hby hzs hsz v xs.length css'.flatten hc' ⟨nb, 0, none⟩ 1 c cs hl hnews h1 h63 hbytes hbase
    rw [hr] at hr2
    injection hr2 with ev ew
    subst ev; subst ew
    exact h22
  unfold Oper.wp execOp
  simp only [ho, resolve, invoke, builtin, Sem.run_bind, Sem.run_pure, Result.andThen_ok, List.map_toArray, List.map_cons, List.map_nil, hs, hx, hr]
  exact hK _ _ (h v' w' key h3 hblk)
end

theorem cell_new {w : World} {cs : Array Value} {T : TypeId} {f : Nat × Nat} {b : Nat} (o : Nat) (h : b = w.heap.size) : (w.alloc (.cells cs T f)).cell? ⟨b, o, none⟩ = cs[o]? := by
  subst h; exact mem_cells_new w cs T f o
/-- Append of one number. -/
theorem wpList_append_int {P : Program} {ops : Array Oper} {rest : List Oper} {o : Oper} {a : Act} {Q : Exit → Act → World → Prop} {w : World} (hgd : o.guard = none) (s x : Operand) (T : TypeId)
    (ho : o.op = .call { callee := .builtin .append, args := #[s, x], argTypes := #[T, T] }) {e : TypeId} (hT : P.underlying T = some (.slice e))
    (hinf : (P.info? e).map (fun i => (i.zero, i.size, i.bytes)) = some (some (.int .i64 0), 1, 8)) (B : Nat) (v : Value) (xs : List Int) (hs : a.eval s = v) (hown : Owns tInt w B e v xs)
    (nb c : Nat) (y : Int) (hx : a.eval x = .slice (some ⟨nb, 0, none⟩) 1 c) (hc : w.cell? ⟨nb, 0, none⟩ = some (.int .i64 y)) (hin : inI64 y) (hlen : xs.length ≤ 1000000000) (hbase : B ≤ w.heap.size)
    (h : ∀ v' w', Owns tInt w' B e v' (xs ++ [y]) → w.grownBy w' v.ownBlock → (v'.ownBlock = v.ownBlock ∨ ∀ k, v'.ownBlock = some k → w.heap.size ≤ k) → wpList P ops Q rest (a.put o.dst v') w') : wpList P ops Q (o :: rest) a w :=
  wpList_append_one hgd s x T ho tInt hT hinf rfl (by decide) B v xs hs hown nb c y hx [.int .i64 y] (fun j u hj => by match j, hj with | 0, hj => simp at hj; subst hj; exact hc) ⟨rfl, hin⟩ (fun u hu => by simp at hu; subst hu; rfl) (by unfold maxLen; omega) (by omega) hbase h

section
variable {P : Program}
/-- COPY of elements of whatever size into a block that is known whole. -/
theorem run_copy_cells (w : World) (dT sT ty elem : TypeId) (g o dLen dCap : Nat) (a : Addr) (sLen sCap n : Nat) (cur : Array Value) (t : TypeId) (cs : List Value) (sz : Nat)
    (hu : P.underlying dT = some (.slice elem)) (hs : (P.info? elem).map (·.size) = some sz)
    (hg : w.heap[g]? = some (.cells cur t (0, 0))) (hn : n = Nat.min sLen dLen) (hl : cs.length = n * sz)
    (hsrc : ∀ j v, cs[j]? = some v → w.cell? (a.add j) = some v) (hfit : o + cs.length ≤ cur.size) (h1 : ∀ v ∈ cs, v.oneCell' = true) :
    (Builtin.copy_ #[dT, sT] ty #[.slice (some ⟨g, o, none⟩) dLen dCap, .slice (some a) sLen sCap]).run P w =
      .ok (goInt n) (w.setRow g (cur.toList.take o ++ cs ++ cur.toList.drop (o + cs.length)).toArray) := by
  subst hn
  cases hq : P.info? elem with
  | none => simp [hq] at hs
  | some i =>
    simp only [hq, Option.map_some, Option.some.injEq] at hs
    subst hs
    have hf := run_firstCells_some (P := P) w i.size (Nat.min sLen dLen) a sLen sCap cs hl hsrc
    have hst := run_storeCells_at P g o t cs 0 cur w hg (by simpa using hfit) h1
    simp only [Nat.add_zero] at hst
    simp [Builtin.copy_, run_underlying hu, Builtin.lenOf, sizeOf, typeInfo, hq, hf, hst]

theorem wpList_copy_cells {w : World} {ops : Array Oper} {rest : List Oper} {o : Oper} {a : Act} {Q : Exit → Act → World → Prop} (hgd : o.guard = none) (d s : Operand) (dT sT : TypeId)
    (ho : o.op = .call { callee := .builtin .copy, args := #[d, s], argTypes := #[dT, sT] }) (elem sz : Nat) (hu : P.underlying dT = some (.slice elem)) (hs : (P.info? elem).map (·.size) = some sz)
    (g off dLen dCap : Nat) (ad : Addr) (sLen sCap n : Nat) (hd : a.eval d = .slice (some ⟨g, off, none⟩) dLen dCap) (hsv : a.eval s = .slice (some ad) sLen sCap)
    (cur : Array Value) (t : TypeId) (hg : w.heap[g]? = some (.cells cur t (0, 0))) (cs : List Value) (hn : n = Nat.min sLen dLen) (hl : cs.length = n * sz)
    (hsrc : ∀ j v, cs[j]? = some v → w.cell? (ad.add j) = some v) (hfit : off + cs.length ≤ cur.size) (h1 : ∀ v ∈ cs, v.oneCell' = true)
    (h : wpList P ops Q rest (a.put o.dst (goInt n)) (w.setRow g (cur.toList.take off ++ cs ++ cur.toList.drop (off + cs.length)).toArray)) : wpList P ops Q (o :: rest) a w := by
  refine wpList_plain hgd fun K hK => ?_
  have hrun := run_copy_cells (P := P) w dT sT o.type elem g off dLen dCap ad sLen sCap n cur t cs sz hu hs hg hn hl hsrc hfit h1
  unfold Oper.wp
  rw [List.append_assoc] at h
  simp [execOp, ho, resolve, invoke, builtin, hd, hsv, hrun, Result.andThen]
  exact hK _ _ h
end

/-- COPY as one step of a region that draws its order. -/
theorem step_copy_cells {P : Program} {ops : Array Oper} {o : Oper} {a : Act} {w : World} {K : Act → World → Prop} {Q : Exit → Act → World → Prop} {E : Prop} (hgd : o.guard = none) (d s : Operand) (dT sT : TypeId)
    (ho : o.op = .call { callee := .builtin .copy, args := #[d, s], argTypes := #[dT, sT] }) (elem sz : Nat) (hu : P.underlying dT = some (.slice elem)) (hs : (P.info? elem).map (·.size) = some sz)
    (g off dLen dCap : Nat) (ad : Addr) (sLen sCap n : Nat) (hd : a.eval d = .slice (some ⟨g, off, none⟩) dLen dCap) (hsv : a.eval s = .slice (some ad) sLen sCap)
    (cur : Array Value) (t : TypeId) (hg : w.heap[g]? = some (.cells cur t (0, 0))) (cs : List Value) (hn : n = Nat.min sLen dLen) (hl : cs.length = n * sz)
    (hsrc : ∀ j v, cs[j]? = some v → w.cell? (ad.add j) = some v) (hfit : off + cs.length ≤ cur.size) (h1 : ∀ v ∈ cs, v.oneCell' = true)
    (h : K (a.put o.dst (goInt n)) (w.setRow g (cur.toList.take off ++ cs ++ cur.toList.drop (off + cs.length)).toArray)) :
    if Region.wanted o (yielded ops a.tmps) = true then Oper.wp P o a w K Q else E := by
  have hw : Region.wanted o (yielded ops a.tmps) = true := by simp [Region.wanted, hgd]
  rw [if_pos hw]
  have hrun := run_copy_cells (P := P) w dT sT o.type elem g off dLen dCap ad sLen sCap n cur t cs sz hu hs hg hn hl hsrc hfit h1
  unfold Oper.wp
  rw [List.append_assoc] at h
  simp [execOp, ho, resolve, invoke, builtin, hd, hsv, hrun, Result.andThen]
  exact h

theorem frozen_cells {w : World} {b : Nat} {c : Array Value} {t : TypeId} (h : w.heap[b]? = some (.cells c t (0, 0))) (o : Nat) : w.frozen? ⟨b, o, none⟩ = false := by simp [World.frozen?, h]
theorem mem_cells {w : World} {b : Nat} {c : Array Value} {t : TypeId} {f : Nat × Nat} (h : w.heap[b]? = some (.cells c t f)) (o : Nat) : mem w b o = c[o]? := by simp [mem, World.cell?, h]

theorem setRow_facts {w0 w : World} {B g : Nat} {cur new : Array Value} {t : TypeId} (hb : Below B w0 w) (hB : B ≤ g) (hg : w.heap[g]? = some (.cells cur t (0, 0))) :
    (w.setRow g new).heap[g]? = some (.cells new t (0, 0)) ∧ Below B w0 (w.setRow g new) := by
  refine ⟨setRow_heap w g cur new t _ hg, hb.trans ⟨rfl, rfl, rfl, ?_, fun k hk => setRow_other w g k _ (by omega)⟩⟩
  simp [World.setRow]

/-! ### From the reading of an argument to plain data -/
section
variable {H : Type} {enc : TypeId × Value → H} {P : Program}
def Reads (P : Program) (T : TypeId) {α : Type} (t : Ty α) : Prop :=
  ∀ (H : Type) (enc : TypeId × Value → H) (w : World) (n : Nat) (cs : List Value) (d : DataW H × List MemPlace), DataW.trod enc P w 0 (fun _ => true) true n T cs = some d → ∃ x, t.rv (mem w) cs x
theorem reads_int {T : TypeId} (ht : P.underlying T = some (.int .i64)) : Reads P T tInt := fun _ _ _ _ _ _ h => by
  obtain ⟨n, h1, _, h3⟩ := DataW.trod_int ht h
  refine ⟨n, h1, ?_⟩
  have : -9223372036854775808 ≤ n ∧ n ≤ 9223372036854775807 := by simpa [Lit.wf, IntKind.min, IntKind.max, IntKind.signed, IntKind.bits] using h3
  exact this
theorem reads_bool {T : TypeId} (ht : P.underlying T = some .bool) : Reads P T tBool := fun _ _ _ _ _ _ h => by
  obtain ⟨n, h1, _⟩ := DataW.trod_bool ht h
  exact ⟨n, h1⟩
theorem reads_str {T : TypeId} (ht : P.underlying T = some .string) : Reads P T tStr := fun _ _ _ _ _ _ h => by
  obtain ⟨n, h1, _, h3⟩ := DataW.trod_string ht h
  exact ⟨n, h1, h3⟩
theorem reads_slice {T E : TypeId} {α : Type} [Inhabited α] {t : Ty α} (ht : P.underlying T = some (.slice E)) (hc : P.cellsOf E = t.sz) (hpos : 0 < t.sz) (hE : Reads P E t) : Reads P T (tSlice t) := fun H enc w n cs d h => by
  rcases Deep.open_slice ht h with ⟨rfl, _⟩ | ⟨a, len, cap, m, n', D, Pl, rfl, _, hl, hm, hmm, _, hi⟩
  · exact ⟨[], slice_nil t _⟩
  have hm' : m = cap := by simpa using hmm
  have hx : ∀ i, i < len → ∃ x, ∃ cs', w.cells? 0 (a.add (i * t.sz)) t.sz = some cs' ∧ t.rv (mem w) cs' x := fun i hil => by
    obtain ⟨cs', h1, h2⟩ := hi i (by omega)
    obtain ⟨x, hx⟩ := hE H enc w _ _ _ h2
    rw [hc] at h1
    exact ⟨x, cs', h1, hx⟩
  obtain ⟨f, hf⟩ := Deep.choose_lt hx
  refine ⟨(List.range len).map f, some a, cap, by simp, by simpa using hl, hm, fun h0 => ?_⟩
  have h0' : 0 < len := by simpa using h0
  obtain ⟨cs0, h1, h2⟩ := hf 0 h0'
  obtain ⟨_, hlen, hat⟩ := World.cells?_some h1
  have hsp : a.spot = none := by
    have := hat 0 hpos
    rw [Nat.zero_mul, Addr.add_zero', Addr.add_zero'] at this
    rw [List.getElem?_eq_getElem (by omega)] at this
    unfold World.cell? at this
    split at this
    · split at this
      · cases this
      · rename_i hns; simpa using hns
    · cases this
  obtain ⟨b, o, sp⟩ := a
  simp only at hsp
  subst hsp
  refine ⟨b, o, rfl, fun k hk => ?_⟩
  have hk' : k < len := by simpa using hk
  obtain ⟨cs', g1, g2⟩ := hf k hk'
  obtain ⟨_, glen, gat⟩ := World.cells?_some g1
  refine ⟨cs', fun j v hv => ?_, by simpa using g2⟩
  have hj : j < cs'.length := (List.getElem?_eq_some_iff.1 hv).1
  have := gat j (by omega)
  rw [Addr.add_lit, Addr.add_lit] at this
  exact this.trans hv
theorem field_read {T : TypeId} {α : Type} {t : Ty α} (hR : Reads P T t) {w : World} {n i : Nat} {cs : List Value} {xs : List (DataW H × List MemPlace)} {f : Field} (o k : Nat) (hF : f.type = T) (ho : f.offset = o) (hk : P.cellsOf T = k)
    (hg : DataW.trod enc P w 0 (fun _ => true) true n f.type ((cs.drop f.offset).take (P.cellsOf f.type)) = xs[i]?) (hi : i < xs.length) : ∃ x, t.rv (mem w) ((cs.drop o).take k) x := by
  subst hF; subst ho; subst hk
  exact hR H enc w n _ xs[i] (hg.trans (List.getElem?_eq_getElem hi))
end
end Go.Proofs.Ytbmpoecmjmmngaa
