/- A range over a function whose iterator only makes blocks of its own; the rounds change no block of the kinds `ok` (so the iterator's own rows stay); no round leaves early. -/
import Derived.Test.YtbmpoecmjmmngaaRangeW
namespace Go.Proofs.Ytbmpoecmjmmngaa
open Go.RowKit

/-- The blocks of the kinds ok stay. -/
structure KeepsB (ok : Obj → Bool) (W W' : World) : Prop where
  size : W.heap.size ≤ W'.heap.size
  same : ∀ (k : Nat) (o : Obj), W.heap[k]? = some o → ok o = true → W'.heap[k]? = some o
theorem KeepsB.refl (ok : Obj → Bool) (W : World) : KeepsB ok W W := ⟨Nat.le_refl _, fun _ _ h _ => h⟩
theorem KeepsB.trans {ok : Obj → Bool} {A B C : World} (h : KeepsB ok A B) (k : KeepsB ok B C) : KeepsB ok A C := ⟨Nat.le_trans h.size k.size, fun j o e g => k.same j o (h.same j o e g) g⟩
theorem Keeps.kinds {ok : Obj → Bool} {F : Nat → Prop} {W W' : World} (h : Keeps F W W') (hF : ∀ (k : Nat) (o : Obj), F k → W.heap[k]? = some o → ok o = false) : KeepsB ok W W' :=
  ⟨h.size, fun k o e g => (h.block k (Array.getElem?_eq_some_iff.1 e).1 (fun hk => by rw [hF k o hk e] at g; cases g)).trans e⟩
theorem KeepsB.putObj {ok : Obj → Bool} {W : World} {l : Nat} {o : Obj} (o' : Obj) (h : W.heap[l]? = some o) (hn : ok o = false) : KeepsB ok W (W.putObj l o') :=
  Keeps.kinds (F := fun k => k = l) (Keeps.put rfl) (fun k u e hu => by subst e; rw [h] at hu; cases hu; exact hn)
/-- The iterator hands elements in turn, each as the values Enc, so that Stp holds of those before and this one, and Fin of all at last. -/
def GivesB (ok : Obj → Bool) {α : Type} (P : Program) (gf : Nat) (lb : Array Value) (Enc : α → Array Value) (Stp : List α → α → Prop) (Fin : List α → Prop) (w : World) : Prop :=
  ∀ (l : Nat) (J : List α → World → Prop) (W : World), Below w.heap.size w W → (∀ s A B, J s A → Below A.heap.size A B → J s B) →
    (∀ pre x W1, Stp pre x → J pre W1 → YieldAt Fence.wide 0 P l (Enc x) W1 fun e W' => e = .returned (.bool true) ∧ J (pre ++ [x]) W' ∧ KeepsB ok W1 W') →
    J [] W → CallsIn Fence.wide 0 P gf (#[.func (.yield l) #[] #[]] ++ lb) W fun e W' => (∃ v, e = .returned v) ∧ ∃ xs, Fin xs ∧ J xs W'
/-- How a round ends. -/
def roundEndB (ok : Obj → Bool) {α : Type} (I : List α → World → Prop) (s : List α) (W : World) : Exit → Act → World → Prop
  | .normal, _, W' => KeepsOthers W W' ∧ KeepsB ok W W' ∧ I s W'
  | _, _, _ => False

theorem wp_rangeB (ok : Obj → Bool) (hok : ∀ r, ok (.loop r) = false) {α : Type} {P : Program} {g : Operand} {ps : Array Tmp} {assign body : Code} {Q : Exit → Act → World → Prop} {a : Act} {w : World} {gf : Nat} {lb : Array Value}
    (hg : a.eval g = .func (.func gf) #[] lb) (eg : ∀ args w, (callFunc gf args).run P w = .ok (.enter gf args) w)
    {Enc : α → Array Value} {Stp : List α → α → Prop} {Fin : List α → Prop} {w0 : World} (hseq : GivesB ok P gf lb Enc Stp Fin w0) (hb0 : Below w0.heap.size w0 w)
    (hps : ∀ x, (Enc x).size = ps.size)
    (I : List α → World → Prop) (hI : ∀ s A B, I s A → Keeps (fun k => w.heap.size ≤ k ∧ NotCells A k) A B → I s B) (h0 : I [] w)
    (hround : ∀ (l : Nat) (pre : List α) (x : α) (W1 : World), Stp pre x → I pre W1 → w.heap.size ≤ W1.heap.size →
      assign.wpIn (Fence.wide.inRound l) 0 P (Exit.then (fun a₂ W2 => Keeps (fun _ => False) W1 W2 ∧ ∀ W3, Keeps (fun k => w.heap.size ≤ k ∧ NotCells W2 k) W2 W3 → body.wpIn (Fence.wide.inRound l) 0 P (roundEndB ok I (pre ++ [x]) W3) a₂ W3) (fun _ _ _ => False))
        { tmps := (ps.zip (Enc x)).foldl (fun t (p, v) => t.setIfInBounds p v) a.tmps, defers := [] } W1)
    (hdone : ∀ (D : Nat) (W : World) (xs : List α), Fin xs → w.heap.size ≤ D → I xs W → W.heap[D]? = some (.deferred (some [])) → Q .normal { a with defers := { target := .collected D, args := #[] } :: a.defers } W) :
    (Code.rangeFunc g ps assign body).wp P Q a w := by
  refine (wpIn_wide (n := 0)).1 (wpIn_rangeFunc (F := Fence.wide) ?_)
  intro fn hfn
  generalize hrec : (fun (st : LoopState) (pe : Option Code) => ({ state := st, pending := pe, fn := fn, tmps := a.tmps, params := ps, assign := assign, body := body, defers := w.heap.size } : Loop)) = rec
  have hr : ∀ st pe, rec st pe = { state := st, pending := pe, fn := fn, tmps := a.tmps, params := ps, assign := assign, body := body, defers := w.heap.size } := fun st pe => by rw [← hrec]
  have hst : ∀ st pe st' pe', ({ rec st pe with state := st', pending := pe' } : Loop) = rec st' pe' := fun st pe st' pe' => by rw [hr, hr]
  have hbusy : ∀ st pe st', ({ rec st pe with state := st' } : Loop) = rec st' pe := fun st pe st' => by rw [hr, hr]
  generalize hW1 : (w.alloc (.deferred (some []))).alloc (.loop (rec .ready none)) = W1
  have hD1 : W1.heap[w.heap.size]? = some (.deferred (some [])) := by
    rw [← hW1]; exact (Below.heap_alloc _ _ _ (by simp)).trans (World.alloc_heap_new w _)
  have hL1 : W1.heap[w.heap.size + 1]? = some (.loop (rec .ready none)) := by
    rw [← hW1]; have := World.alloc_heap_new (w.alloc (.deferred (some []))) (.loop (rec .ready none)); rwa [World.size_alloc] at this
  have hk1 : Keeps (fun _ => False) w W1 := by rw [← hW1]; exact ((Keeps.refl _ w).alloc _).alloc _
  have hb1 : Below w0.heap.size w0 W1 := hb0.trans (hk1.below hb0.size (fun _ h => h.elim))
  refine ⟨w.heap.size + 1, [{ target := .collected w.heap.size, args := #[] }], W1, { target := .fn (.func gf) lb, args := #[.func (.yield (w.heap.size + 1)) #[] #[]] }, W1, gf,
    #[.func (.yield (w.heap.size + 1)) #[] #[]] ++ lb, W1, ?_, ?_, fun _ _ => trivial, ?_, fun h => (by cases h), ?_⟩
  · rw [← hW1, hr]; exact run_enterLoop_outer _ _ _ _ _
  · simp only [resolve, hg]
    simp [go_sem]
  · simp [invoke, go_sem, eg]
  · refine (hseq (w.heap.size + 1) (fun pre W => I pre W ∧ W.heap[w.heap.size + 1]? = some (.loop (rec .ready none)) ∧ W.heap[w.heap.size]? = some (.deferred (some []))) W1 hb1 ?_ ?_
      ⟨hI _ _ _ h0 (hk1.wide (fun _ _ h => h.elim)), hL1, hD1⟩).mono ?_
    · rintro s A B ⟨hi, hl, hd⟩ hb
      exact ⟨hI _ _ _ hi ((below_keeps hb).wide (fun k h1 h2 => by omega)), (hb.block _ (Array.getElem?_eq_some_iff.1 hl).1).trans hl, (hb.block _ (Array.getElem?_eq_some_iff.1 hd).1).trans hd⟩
    · rintro pre x W hx ⟨hi, hl, hd⟩
      have hlt := (Array.getElem?_eq_some_iff.1 hl).1
      have hy := run_yield (P := P) (args := Enc x) hl (by rw [hr]; exact hps x)
      rw [hr] at hy
      refine ⟨fn, _, assign, body, hy, roundIn_of_wpIn hfn (wpIn_mono (hround _ pre x W hx hi (by omega)) ?_)⟩
      rintro e a1 Wa hp
      cases e with
      | ret => exact hp.elim
      | exit id => exact hp.elim
      | goto t => exact hp.elim
      | panic ch => exact hp.elim
      | outgrown => exact hp.elim
      | normal =>
      obtain ⟨hka, hpb⟩ := hp
      have hla : Wa.heap[w.heap.size + 1]? = some (.loop (rec .ready none)) := (hka.block _ hlt (fun h => h)).trans hl
      have hda : Wa.heap[w.heap.size]? = some (.deferred (some [])) := (hka.block _ (by omega) (fun h => h)).trans hd
      have hlta := (Array.getElem?_eq_some_iff.1 hla).1
      refine ⟨_, run_beginRound hla (by rw [hr]), ?_⟩
      rw [hbusy]
      generalize hW2 : Wa.putObj (w.heap.size + 1) (.loop (rec .busy none)) = W2
      have hp2 : KeepsB ok W W2 := by rw [← hW2]; exact (Keeps.kinds hka (fun _ _ h => h.elim)).trans (KeepsB.putObj _ hla (hok _))
      have hl2 : W2.heap[w.heap.size + 1]? = some (.loop (rec .busy none)) := by rw [← hW2]; exact World.putObj_heap_same hlta
      have hd2 : W2.heap[w.heap.size]? = some (.deferred (some [])) := by rw [← hW2]; exact (World.putObj_heap_other (by omega)).trans hda
      refine wpIn_mono (hpb W2 (by rw [← hW2]; exact Keeps.put ⟨by omega, _, hla, rfl⟩)) ?_
      rintro e a3 W3 hp
      cases e with
      | normal =>
        obtain ⟨hk3, hw3, hi3⟩ := hp
        have hl3 := hk3.same _ _ hl2 rfl
        have hd3 := hk3.same _ _ hd2 rfl
        have hlt3 := (Array.getElem?_eq_some_iff.1 hl3).1
        refine ⟨_, _, run_endRound none hl3, ⟨rfl, ⟨hI _ _ _ hi3 (Keeps.put ⟨by omega, _, hl3, rfl⟩), ?_, ?_⟩, (hp2.trans hw3).trans (KeepsB.putObj _ hl3 (hok _))⟩⟩
        · rw [hst]; exact World.putObj_heap_same hlt3
        · exact (World.putObj_heap_other (by omega)).trans hd3
      | ret => exact hp.elim
      | exit id => exact hp.elim
      | goto t => exact hp.elim
      | panic ch => exact hp.elim
      | outgrown => exact hp.elim
    · rintro e W2 ⟨⟨v, rfl⟩, xs, hfin, hi, hl, hd⟩
      have he := run_endLoop (P := P) hl (by rw [hr]; simp)
      rw [hr] at he
      exact ⟨none, _, he, hdone _ _ xs hfin (Nat.le_refl _) (hI _ _ _ hi (Keeps.put ⟨by omega, _, hl, rfl⟩)) ((World.putObj_heap_other (by omega)).trans hd)⟩
end Go.Proofs.Ytbmpoecmjmmngaa
