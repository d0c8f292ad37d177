/- Part 2 of the texts that the law's proof stands on, merged. -/
import Derived.RangeFuncKeeps
import Derived.RangeFuncLeaves
import Derived.RangeFuncGives
import Derived.Shelf.Abstract
import Derived.WalkKit
import Derived.OwnWalkIn
import Derived.TacticsInMore
import Derived.LoopNIn
import Derived.LoopIn
import Derived.RegionIn
import Derived.Test.YtjenfhkikbndmaaSn01
set_option linter.unusedVariables false
set_option linter.unusedSimpArgs false
/- package slab: find (for chapter 14). -/
namespace Go.Proofs.Ytjenfhkikbndmaa
open Go.RowKit

/-- Where a place stands, or would stand. -/
def FindAt (l : List RecS) (x : Ent) (i : Nat) (is : Bool) : Prop :=
  (is = true ∧ ∃ h : i < l.length, placeC l[i].e x = 0) ∨ (is = false ∧ Srch recC l ⟨x, false⟩ i i)
set_option maxRecDepth 100000 in
set_option maxHeartbeats 4000000 in
theorem slabFind_any (l : List RecS) (x : Ent) (v : Value) (W : World) (hv : tRecSs.rv (mem W) [v] l) (ha : AscC recC l) (hn : l.length ≤ 1000000000) :
    Calls Try.prog 43 #[v, x.v, .func (.func 44) #[] #[]] W fun e w' => ∃ (i : Nat) (is : Bool), e = .returned (.tuple #[.int .i64 i, .bool is]) ∧ Below W.heap.size W w' ∧ FindAt l x i is := by
  obtain ⟨a, cap, rfl, hlc, hm, hv⟩ := slice_form hv
  have hcap : cap ≤ 9223372036854775807 := by unfold maxLen at hm; exact hm
  have HV := Lib.hid (fun wr (hb : Below W.heap.size W wr) => tRecSs.mono _ _ _ _ (below_mem hb) hv)
  have HA := Lib.hid ha
  clear hm hv ha
  obtain ⟨g2, n2, k2, v2⟩ := x
  have HX := Lib.hid (heap_alloc_new W (.cells #[.int .i64 g2, .string n2, .string k2, .string v2] 52))
  have HB0 := Lib.hid ((Below.refl _ W).alloc (Nat.le_refl _) (.cells #[.int .i64 g2, .string n2, .string k2, .string v2] 52))
  go_enter Try.func43, Try.ntmps43
  go_wp2_with fail
  go_loopw [8, 9] (fun av bv wr => ∃ i j : Nat, av = .int .i64 i ∧ bv = .int .i64 j ∧ Hid (Srch recC l ⟨⟨g2, n2, k2, v2⟩, false⟩ i j) ∧ Hid (Below (W.alloc (.cells #[.int .i64 g2, .string n2, .string k2, .string v2] 52)).heap.size (W.alloc (.cells #[.int .i64 g2, .string n2, .string k2, .string v2] 52)) wr)) (fun av bv _ => (intOf bv).toNat - (intOf av).toNat)
  case atStart => exact ⟨0, l.length, rfl, rfl, Srch.start _ _ _, Below.refl _ _⟩
  case round =>
    obtain ⟨i, j, rfl, rfl, HS, HB⟩ := hrel
    have hij := HS.out.le
    have hjl := HS.out.len
    by_cases hlt : i < j
    · have hm : (i + j) / 2 < l.length := by omega
      have HBW := Lib.hid (show Below W.heap.size W wr from HB0.out.trans (HB.out.mono (by simp)))
      obtain ⟨bb, oo, rfl, ⟨q0, q1, q2, q3, q4⟩, -⟩ := recs_at (HV.out _ HBW.out) hm
      have HXC := Lib.hid ((HB.out.block _ (by simp)).trans HX.out)
      obtain ⟨mid, hmid⟩ : ∃ mid, mid = (i + j) / 2 := ⟨_, rfl⟩
      have hq : ((i : Int) + (j : Int)).tdiv 2 = (mid : Int) := by rw [hmid, Int.tdiv_eq_ediv_of_nonneg (by omega)]; omega
      have hq2 : ((i : Int) + (j : Int)) / 2 = (mid : Int) := by rw [hmid]; omega
      rw [← hmid] at hm
      simp only [← hmid] at q0 q1 q2 q3 q4
      have HMID := Lib.hid hmid
      have HUP := Lib.hid (fun h => HS.out.up recC_good HA.out hm (by have := HMID.out; omega) h)
      have HDN := Lib.hid (fun h => HS.out.down recC_good HA.out hm (by have := HMID.out; omega) h)
      have HEQ := Lib.hid (show placeC l[mid].e ⟨g2, n2, k2, v2⟩ = 0 → FindAt l ⟨g2, n2, k2, v2⟩ mid true from fun h => .inl ⟨rfl, hm, h⟩)
      have HCC := Lib.hid (show recC l[mid] ⟨⟨g2, n2, k2, v2⟩, false⟩ = placeC l[mid].e ⟨g2, n2, k2, v2⟩ from rfl)
      have c0 : wr.cell? ⟨bb, oo + mid * 5, none⟩ = some (.int .i64 l[mid].e.g) := q0
      have c1 : wr.cell? ⟨bb, oo + mid * 5 + 1, none⟩ = some (.string l[mid].e.nm) := q1
      have c2 : wr.cell? ⟨bb, oo + mid * 5 + 2, none⟩ = some (.string l[mid].e.key) := q2
      have c3 : wr.cell? ⟨bb, oo + mid * 5 + 3, none⟩ = some (.string l[mid].e.val) := q3
      have c4 : wr.cell? ⟨bb, oo + mid * 5 + 4, none⟩ = some (.bool l[mid].grave) := q4
      clear q0 q1 q2 q3 q4 hmid
      have m0 : (0 : Int) ≤ (mid : Int) := by omega
      have m1 : (mid : Int) < (l.length : Int) := by omega
      have x0 : wr.cell? ⟨W.heap.size, 0, none⟩ = some (.int .i64 g2) := mem_cells HXC.out 0
      have x1 : wr.cell? ⟨W.heap.size, 1, none⟩ = some (.string n2) := mem_cells HXC.out 1
      have x2 : wr.cell? ⟨W.heap.size, 2, none⟩ = some (.string k2) := mem_cells HXC.out 2
      have x3 : wr.cell? ⟨W.heap.size, 3, none⟩ = some (.string v2) := mem_cells HXC.out 3
      have hw : IntKind.i64.wrap ((i : Int) + (j : Int)) = (i : Int) + (j : Int) := IntWalk.i64_in _ (by omega)
      have hw2 : IntKind.i64.wrap (mid : Int) = (mid : Int) := IntWalk.i64_in _ (by omega)
      have hw3 : IntKind.i64.wrap ((mid : Int) + 1) = (mid : Int) + 1 := IntWalk.i64_in _ (by omega)
      have HAT := Lib.hid (fun w => slabAt_any l[mid] ⟨g2, n2, k2, v2⟩ w)
      generalize l[mid] = r at *
      obtain ⟨⟨g1, n1, k1, v1⟩, gr⟩ := r
      simp only at c0 c1 c2 c3 c4
      go_wp2_with fail
      have hb0 : Below wr.heap.size wr wr.drew := (Below.refl _ _).drew
      have HKP := Lib.hid (fun (w' : World) (hb : Below wr.heap.size wr w') => (show (w'.cell? ⟨bb, oo + mid * 5, none⟩ = some (.int .i64 g1) ∧ w'.cell? ⟨bb, oo + mid * 5 + 1, none⟩ = some (.string n1) ∧ w'.cell? ⟨bb, oo + mid * 5 + 2, none⟩ = some (.string k1) ∧ w'.cell? ⟨bb, oo + mid * 5 + 3, none⟩ = some (.string v1) ∧ w'.cell? ⟨bb, oo + mid * 5 + 4, none⟩ = some (.bool gr)) ∧ w'.cell? ⟨W.heap.size, 0, none⟩ = some (.int .i64 g2) ∧ w'.cell? ⟨W.heap.size, 1, none⟩ = some (.string n2) ∧ w'.cell? ⟨W.heap.size, 2, none⟩ = some (.string k2) ∧ w'.cell? ⟨W.heap.size, 3, none⟩ = some (.string v2) from
        ⟨⟨below_mem hb _ _ _ c0, below_mem hb _ _ _ c1, below_mem hb _ _ _ c2, below_mem hb _ _ _ c3, below_mem hb _ _ _ c4⟩, below_mem hb _ _ _ x0, below_mem hb _ _ _ x1, below_mem hb _ _ _ x2, below_mem hb _ _ _ x3⟩))
      go_region_held3 (fun w' => (w'.cell? ⟨bb, oo + mid * 5, none⟩ = some (.int .i64 g1) ∧ w'.cell? ⟨bb, oo + mid * 5 + 1, none⟩ = some (.string n1) ∧ w'.cell? ⟨bb, oo + mid * 5 + 2, none⟩ = some (.string k1) ∧ w'.cell? ⟨bb, oo + mid * 5 + 3, none⟩ = some (.string v1) ∧ w'.cell? ⟨bb, oo + mid * 5 + 4, none⟩ = some (.bool gr)) ∧ w'.cell? ⟨W.heap.size, 0, none⟩ = some (.int .i64 g2) ∧ w'.cell? ⟨W.heap.size, 1, none⟩ = some (.string n2) ∧ w'.cell? ⟨W.heap.size, 2, none⟩ = some (.string k2) ∧ w'.cell? ⟨W.heap.size, 3, none⟩ = some (.string v2))
        (first | with_reducible exact HKP.out _ hb0 | with_reducible exact HKP.out _ hb4)
        ((go_at_call 44; refine (HAT.out _).mono ?_; rintro e w4 ⟨rfl, hb⟩; have hb4 := pure_trans hb0 hb; clear hb))
      have HB2 := Lib.hid (HB.out.trans (hb4.mono HB.out.size))
      have HBE := Lib.hid (pure_trans HBW.out hb4)
      rename_i hHeld
      clear hHeld hb4 hb0 HKP HB HBW c0 c1 c2 c3 c4 x0 x1 x2 x3 HXC HX HAT HV
      have HUP2 := Lib.hid (fun (h : placeC ⟨g1, n1, k1, v1⟩ ⟨g2, n2, k2, v2⟩ < 0) => HUP.out (by rw [HCC.out]; exact h))
      have HDN2 := Lib.hid (fun (h : 0 < placeC ⟨g1, n1, k1, v1⟩ ⟨g2, n2, k2, v2⟩) => HDN.out (by rw [HCC.out]; exact h))
      clear HUP HDN HCC
      generalize placeC ⟨g1, n1, k1, v1⟩ ⟨g2, n2, k2, v2⟩ = c at *
      by_cases h0 : c = 0
      · have HF := Lib.hid (HEQ.out h0)
        clear HEQ HUP2 HDN2
        subst h0
        go_wp2
        go_ret2
        exact ⟨mid, true, rfl, HBE.out, HF.out⟩
      · have h0b : (c == 0) = false := by rw [beq_eq_false_iff_ne]; exact h0
        by_cases h1 : c < 0
        · have HS2 := Lib.hid (HUP2.out h1)
          clear HEQ HUP2 HDN2 h0
          go_wp2
          go_roundw
          case rel => exact ⟨mid + 1, j, by go_num, rfl, HS2, HB2⟩
          case measure => have := HMID.out; simp [intOf]; omega
        · have HS2 := Lib.hid (HDN2.out (by omega))
          clear HEQ HUP2 HDN2 h0
          go_wp2
          go_roundw
          case rel => exact ⟨i, mid, rfl, rfl, HS2, HB2⟩
          case measure => have := HMID.out; simp [intOf]; omega
    · obtain rfl : i = j := by omega
      have HBW := Lib.hid (show Below W.heap.size W wr from HB0.out.trans (HB.out.mono (by simp)))
      go_wp2
      go_ret2
      exact ⟨i, false, rfl, HBW.out, .inr ⟨rfl, HS.out⟩⟩
end Go.Proofs.Ytjenfhkikbndmaa
/- A range over a function whose iterator walks a map (it changes one walk's object laid since its call began); no round leaves early. What is handed over is told by two predicates. -/
namespace Go.Proofs.Ytjenfhkikbndmaa
open Go.RowKit

/-- The block holds something, but no cells. -/
def NotCells (A : World) (k : Nat) : Prop := ∃ o : Obj, A.heap[k]? = some o ∧ o.isCells = false
/-- The iterator hands elements in turn, each as the values Enc, so that Stp holds of those before and this one, and Fin of all at last. -/
def GivesW {α : Type} (P : Program) (gf : Nat) (lb : Array Value) (Enc : α → Array Value) (Stp : List α → α → Prop) (Fin : List α → Prop) (w : World) : Prop :=
  ∀ (l : Nat) (J : List α → World → Prop) (W : World), Below w.heap.size w W → AbidesFrom W.heap.size J →
    (∀ pre x W1, Stp pre x → J pre W1 → YieldAt Fence.wide 0 P l (Enc x) W1 fun e W' => e = .returned (.bool true) ∧ J (pre ++ [x]) W' ∧ KeepsWalks W1 W') →
    J [] W → CallsIn Fence.wide 0 P gf (#[.func (.yield l) #[] #[]] ++ lb) W fun e W' => (∃ v, e = .returned v) ∧ ∃ xs, Fin xs ∧ J xs W'
theorem Keeps.walks {W W' : World} (h : Keeps (fun _ => False) W W') : KeepsWalks W W' := ⟨h.size, fun k o e _ => (h.block k (Array.getElem?_eq_some_iff.1 e).1 (fun h => h)).trans e⟩
/-- How a round ends. -/
def roundEnd {α : Type} (I : List α → World → Prop) (s : List α) (W : World) : Exit → Act → World → Prop
  | .normal, _, W' => KeepsOthers W W' ∧ I s W'
  | _, _, _ => False

theorem Keeps.put {F : Nat → Prop} {W : World} {l : Nat} {o : Obj} (h : F l) : Keeps F W (W.putObj l o) :=
  (grown_keeps (grownBy_putObj' W l o)).wide (fun k _ hk => by cases hk; exact h)

theorem wp_rangeW {α : Type} {P : Program} {g : Operand} {ps : Array Tmp} {assign body : Code} {Q : Exit → Act → World → Prop} {a : Act} {w : World} {gf : Nat} {lb : Array Value}
    (hg : a.eval g = .func (.func gf) #[] lb) (eg : ∀ args w, (callFunc gf args).run P w = .ok (.enter gf args) w)
    {Enc : α → Array Value} {Stp : List α → α → Prop} {Fin : List α → Prop} {w0 : World} (hseq : GivesW P gf lb Enc Stp Fin w0) (hb0 : Below w0.heap.size w0 w)
    (hps : ∀ x, (Enc x).size = ps.size)
    (I : List α → World → Prop) (hI : ∀ s A B, I s A → Keeps (fun k => w.heap.size ≤ k ∧ NotCells A k) A B → I s B) (h0 : I [] w)
    (hround : ∀ (l : Nat) (pre : List α) (x : α) (W1 : World), Stp pre x → I pre W1 → w.heap.size ≤ W1.heap.size →
      assign.wpIn (Fence.wide.inRound l) 0 P (Exit.then (fun a₂ W2 => Keeps (fun _ => False) W1 W2 ∧ ∀ W3, Keeps (fun k => w.heap.size ≤ k ∧ NotCells W2 k) W2 W3 → body.wpIn (Fence.wide.inRound l) 0 P (roundEnd I (pre ++ [x]) W3) a₂ W3) (fun _ _ _ => False))
        { tmps := (ps.zip (Enc x)).foldl (fun t (p, v) => t.setIfInBounds p v) a.tmps, defers := [] } W1)
    (hdone : ∀ (D : Nat) (W : World) (xs : List α), Fin xs → w.heap.size ≤ D → I xs W → W.heap[D]? = some (.deferred (some [])) → Q .normal { a with defers := { target := .collected D, args := #[] } :: a.defers } W) :
    (Code.rangeFunc g ps assign body).wp P Q a w := by
  refine (wpIn_wide (n := 0)).1 (wpIn_rangeFunc (F := Fence.wide) ?_)
  intro fn hfn
  generalize hrec : (fun (st : LoopState) (pe : Option Code) => ({ state := st, pending := pe, fn := fn, tmps := a.tmps, params := ps, assign := assign, body := body, defers := w.heap.size } : Loop)) = rec
  have hr : ∀ st pe, rec st pe = { state := st, pending := pe, fn := fn, tmps := a.tmps, params := ps, assign := assign, body := body, defers := w.heap.size } := fun st pe => by rw [← hrec]
  have hst : ∀ st pe st' pe', ({ rec st pe with state := st', pending := pe' } : Loop) = rec st' pe' := fun st pe st' pe' => by rw [hr, hr]
  have hbusy : ∀ st pe st', ({ rec st pe with state := st' } : Loop) = rec st' pe := fun st pe st' => by rw [hr, hr]
  generalize hW1 : (w.alloc (.deferred (some []))).alloc (.loop (rec .ready none)) = W1
  have hD1 : W1.heap[w.heap.size]? = some (.deferred (some [])) := by
    rw [← hW1]; exact (Below.heap_alloc _ _ _ (by simp)).trans (World.alloc_heap_new w _)
  have hL1 : W1.heap[w.heap.size + 1]? = some (.loop (rec .ready none)) := by
    rw [← hW1]; have := World.alloc_heap_new (w.alloc (.deferred (some []))) (.loop (rec .ready none)); rwa [World.size_alloc] at this
  have hk1 : Keeps (fun _ => False) w W1 := by rw [← hW1]; exact ((Keeps.refl _ w).alloc _).alloc _
  have hb1 : Below w0.heap.size w0 W1 := hb0.trans (hk1.below hb0.size (fun _ h => h.elim))
  refine ⟨w.heap.size + 1, [{ target := .collected w.heap.size, args := #[] }], W1, { target := .fn (.func gf) lb, args := #[.func (.yield (w.heap.size + 1)) #[] #[]] }, W1, gf,
    #[.func (.yield (w.heap.size + 1)) #[] #[]] ++ lb, W1, ?_, ?_, fun _ _ => trivial, ?_, fun h => (by cases h), ?_⟩
  · rw [← hW1, hr]; exact run_enterLoop_outer _ _ _ _ _
  · simp only [resolve, hg]
    simp [go_sem]
  · simp [invoke, go_sem, eg]
  · refine (hseq (w.heap.size + 1) (fun pre W => I pre W ∧ W.heap[w.heap.size + 1]? = some (.loop (rec .ready none)) ∧ W.heap[w.heap.size]? = some (.deferred (some []))) W1 hb1 ?_ ?_
      ⟨hI _ _ _ h0 (hk1.wide (fun _ _ h => h.elim)), hL1, hD1⟩).mono ?_
    · rintro s A B row ⟨hi, hl, hd⟩ hg hrow
      have hz : w.heap.size ≤ W1.heap.size := hk1.size
      have hw : ∀ k o, A.heap[k]? = some o → o.isWalk = false → some k ≠ row := fun k o hk ho e => by
        obtain ⟨_, o', h1, h2⟩ := hrow k e.symm
        rw [hk] at h1; cases h1
        rw [ho] at h2; cases h2
      refine ⟨hI _ _ _ hi ((grown_keeps hg).wide (fun k _ e => ?_)), (hg.block _ (Array.getElem?_eq_some_iff.1 hl).1 (hw _ _ hl rfl)).trans hl, (hg.block _ (Array.getElem?_eq_some_iff.1 hd).1 (hw _ _ hd rfl)).trans hd⟩
      obtain ⟨h1, o, h2, h3⟩ := hrow k e.symm
      exact ⟨Nat.le_trans hz h1, o, h2, Obj.not_cells_of_walk h3⟩
    · rintro pre x W hx ⟨hi, hl, hd⟩
      have hlt := (Array.getElem?_eq_some_iff.1 hl).1
      have hy := run_yield (P := P) (args := Enc x) hl (by rw [hr]; exact hps x)
      rw [hr] at hy
      refine ⟨fn, _, assign, body, hy, roundIn_of_wpIn hfn (wpIn_mono (hround _ pre x W hx hi (by omega)) ?_)⟩
      rintro e a1 Wa hp
      cases e with
      | ret => exact hp.elim
      | exit id => exact hp.elim
      | goto t => exact hp.elim
      | panic ch => exact hp.elim
      | outgrown => exact hp.elim
      | normal =>
      obtain ⟨hka, hpb⟩ := hp
      have hla : Wa.heap[w.heap.size + 1]? = some (.loop (rec .ready none)) := (hka.block _ hlt (fun h => h)).trans hl
      have hda : Wa.heap[w.heap.size]? = some (.deferred (some [])) := (hka.block _ (by omega) (fun h => h)).trans hd
      have hlta := (Array.getElem?_eq_some_iff.1 hla).1
      refine ⟨_, run_beginRound hla (by rw [hr]), ?_⟩
      rw [hbusy]
      generalize hW2 : Wa.putObj (w.heap.size + 1) (.loop (rec .busy none)) = W2
      have hp2 : KeepsWalks W W2 := by rw [← hW2]; exact hka.walks.trans (KeepsWalks.putObj _ hla rfl)
      have hl2 : W2.heap[w.heap.size + 1]? = some (.loop (rec .busy none)) := by rw [← hW2]; exact World.putObj_heap_same hlta
      have hd2 : W2.heap[w.heap.size]? = some (.deferred (some [])) := by rw [← hW2]; exact (World.putObj_heap_other (by omega)).trans hda
      refine wpIn_mono (hpb W2 (by rw [← hW2]; exact Keeps.put ⟨by omega, _, hla, rfl⟩)) ?_
      rintro e a3 W3 hp
      cases e with
      | normal =>
        obtain ⟨hk3, hi3⟩ := hp
        have hl3 := hk3.same _ _ hl2 rfl
        have hd3 := hk3.same _ _ hd2 rfl
        have hlt3 := (Array.getElem?_eq_some_iff.1 hl3).1
        refine ⟨_, _, run_endRound none hl3, ⟨rfl, ⟨hI _ _ _ hi3 (Keeps.put ⟨by omega, _, hl3, rfl⟩), ?_, ?_⟩, (hp2.trans hk3.walks).trans (KeepsWalks.putObj _ hl3 rfl)⟩⟩
        · rw [hst]; exact World.putObj_heap_same hlt3
        · exact (World.putObj_heap_other (by omega)).trans hd3
      | ret => exact hp.elim
      | exit id => exact hp.elim
      | goto t => exact hp.elim
      | panic ch => exact hp.elim
      | outgrown => exact hp.elim
    · rintro e W2 ⟨⟨v, rfl⟩, xs, hfin, hi, hl, hd⟩
      have he := run_endLoop (P := P) hl (by rw [hr]; simp)
      rw [hr] at he
      exact ⟨none, _, he, hdone _ _ xs hfin (Nat.le_refl _) (hI _ _ _ hi (Keeps.put ⟨by omega, _, hl, rfl⟩)) ((World.putObj_heap_other (by omega)).trans hd)⟩
end Go.Proofs.Ytjenfhkikbndmaa
/- A range over a function whose iterator only makes blocks of its own; the rounds change no block of the kinds `ok` (so the iterator's own rows stay); no round leaves early. -/
namespace Go.Proofs.Ytjenfhkikbndmaa
open Go.RowKit

/-- The blocks of the kinds ok stay. -/
structure KeepsB (ok : Obj → Bool) (W W' : World) : Prop where
  size : W.heap.size ≤ W'.heap.size
  same : ∀ (k : Nat) (o : Obj), W.heap[k]? = some o → ok o = true → W'.heap[k]? = some o
theorem KeepsB.refl (ok : Obj → Bool) (W : World) : KeepsB ok W W := ⟨Nat.le_refl _, fun _ _ h _ => h⟩
theorem KeepsB.trans {ok : Obj → Bool} {A B C : World} (h : KeepsB ok A B) (k : KeepsB ok B C) : KeepsB ok A C := ⟨Nat.le_trans h.size k.size, fun j o e g => k.same j o (h.same j o e g) g⟩
theorem Keeps.kinds {ok : Obj → Bool} {F : Nat → Prop} {W W' : World} (h : Keeps F W W') (hF : ∀ (k : Nat) (o : Obj), F k → W.heap[k]? = some o → ok o = false) : KeepsB ok W W' :=
  ⟨h.size, fun k o e g => (h.block k (Array.getElem?_eq_some_iff.1 e).1 (fun hk => by rw [hF k o hk e] at g; cases g)).trans e⟩
theorem KeepsB.putObj {ok : Obj → Bool} {W : World} {l : Nat} {o : Obj} (o' : Obj) (h : W.heap[l]? = some o) (hn : ok o = false) : KeepsB ok W (W.putObj l o') :=
  Keeps.kinds (F := fun k => k = l) (Keeps.put rfl) (fun k u e hu => by subst e; rw [h] at hu; cases hu; exact hn)
/-- The iterator hands elements in turn, each as the values Enc, so that Stp holds of those before and this one, and Fin of all at last. -/
def GivesB (ok : Obj → Bool) {α : Type} (P : Program) (gf : Nat) (lb : Array Value) (Enc : α → Array Value) (Stp : List α → α → Prop) (Fin : List α → Prop) (w : World) : Prop :=
  ∀ (l : Nat) (J : List α → World → Prop) (W : World), Below w.heap.size w W → (∀ s A B, J s A → Below A.heap.size A B → J s B) →
    (∀ pre x W1, Stp pre x → J pre W1 → YieldAt Fence.wide 0 P l (Enc x) W1 fun e W' => e = .returned (.bool true) ∧ J (pre ++ [x]) W' ∧ KeepsB ok W1 W') →
    J [] W → CallsIn Fence.wide 0 P gf (#[.func (.yield l) #[] #[]] ++ lb) W fun e W' => (∃ v, e = .returned v) ∧ ∃ xs, Fin xs ∧ J xs W'
/-- How a round ends. -/
def roundEndB (ok : Obj → Bool) {α : Type} (I : List α → World → Prop) (s : List α) (W : World) : Exit → Act → World → Prop
  | .normal, _, W' => KeepsOthers W W' ∧ KeepsB ok W W' ∧ I s W'
  | _, _, _ => False

theorem wp_rangeB (ok : Obj → Bool) (hok : ∀ r, ok (.loop r) = false) {α : Type} {P : Program} {g : Operand} {ps : Array Tmp} {assign body : Code} {Q : Exit → Act → World → Prop} {a : Act} {w : World} {gf : Nat} {lb : Array Value}
    (hg : a.eval g = .func (.func gf) #[] lb) (eg : ∀ args w, (callFunc gf args).run P w = .ok (.enter gf args) w)
    {Enc : α → Array Value} {Stp : List α → α → Prop} {Fin : List α → Prop} {w0 : World} (hseq : GivesB ok P gf lb Enc Stp Fin w0) (hb0 : Below w0.heap.size w0 w)
    (hps : ∀ x, (Enc x).size = ps.size)
    (I : List α → World → Prop) (hI : ∀ s A B, I s A → Keeps (fun k => w.heap.size ≤ k ∧ NotCells A k) A B → I s B) (h0 : I [] w)
    (hround : ∀ (l : Nat) (pre : List α) (x : α) (W1 : World), Stp pre x → I pre W1 → w.heap.size ≤ W1.heap.size →
      assign.wpIn (Fence.wide.inRound l) 0 P (Exit.then (fun a₂ W2 => Keeps (fun _ => False) W1 W2 ∧ ∀ W3, Keeps (fun k => w.heap.size ≤ k ∧ NotCells W2 k) W2 W3 → body.wpIn (Fence.wide.inRound l) 0 P (roundEndB ok I (pre ++ [x]) W3) a₂ W3) (fun _ _ _ => False))
        { tmps := (ps.zip (Enc x)).foldl (fun t (p, v) => t.setIfInBounds p v) a.tmps, defers := [] } W1)
    (hdone : ∀ (D : Nat) (W : World) (xs : List α), Fin xs → w.heap.size ≤ D → I xs W → W.heap[D]? = some (.deferred (some [])) → Q .normal { a with defers := { target := .collected D, args := #[] } :: a.defers } W) :
    (Code.rangeFunc g ps assign body).wp P Q a w := by
  refine (wpIn_wide (n := 0)).1 (wpIn_rangeFunc (F := Fence.wide) ?_)
  intro fn hfn
  generalize hrec : (fun (st : LoopState) (pe : Option Code) => ({ state := st, pending := pe, fn := fn, tmps := a.tmps, params := ps, assign := assign, body := body, defers := w.heap.size } : Loop)) = rec
  have hr : ∀ st pe, rec st pe = { state := st, pending := pe, fn := fn, tmps := a.tmps, params := ps, assign := assign, body := body, defers := w.heap.size } := fun st pe => by rw [← hrec]
  have hst : ∀ st pe st' pe', ({ rec st pe with state := st', pending := pe' } : Loop) = rec st' pe' := fun st pe st' pe' => by rw [hr, hr]
  have hbusy : ∀ st pe st', ({ rec st pe with state := st' } : Loop) = rec st' pe := fun st pe st' => by rw [hr, hr]
  generalize hW1 : (w.alloc (.deferred (some []))).alloc (.loop (rec .ready none)) = W1
  have hD1 : W1.heap[w.heap.size]? = some (.deferred (some [])) := by
    rw [← hW1]; exact (Below.heap_alloc _ _ _ (by simp)).trans (World.alloc_heap_new w _)
  have hL1 : W1.heap[w.heap.size + 1]? = some (.loop (rec .ready none)) := by
    rw [← hW1]; have := World.alloc_heap_new (w.alloc (.deferred (some []))) (.loop (rec .ready none)); rwa [World.size_alloc] at this
  have hk1 : Keeps (fun _ => False) w W1 := by rw [← hW1]; exact ((Keeps.refl _ w).alloc _).alloc _
  have hb1 : Below w0.heap.size w0 W1 := hb0.trans (hk1.below hb0.size (fun _ h => h.elim))
  refine ⟨w.heap.size + 1, [{ target := .collected w.heap.size, args := #[] }], W1, { target := .fn (.func gf) lb, args := #[.func (.yield (w.heap.size + 1)) #[] #[]] }, W1, gf,
    #[.func (.yield (w.heap.size + 1)) #[] #[]] ++ lb, W1, ?_, ?_, fun _ _ => trivial, ?_, fun h => (by cases h), ?_⟩
  · rw [← hW1, hr]; exact run_enterLoop_outer _ _ _ _ _
  · simp only [resolve, hg]
    simp [go_sem]
  · simp [invoke, go_sem, eg]
  · refine (hseq (w.heap.size + 1) (fun pre W => I pre W ∧ W.heap[w.heap.size + 1]? = some (.loop (rec .ready none)) ∧ W.heap[w.heap.size]? = some (.deferred (some []))) W1 hb1 ?_ ?_
      ⟨hI _ _ _ h0 (hk1.wide (fun _ _ h => h.elim)), hL1, hD1⟩).mono ?_
    · rintro s A B ⟨hi, hl, hd⟩ hb
      exact ⟨hI _ _ _ hi ((below_keeps hb).wide (fun k h1 h2 => by omega)), (hb.block _ (Array.getElem?_eq_some_iff.1 hl).1).trans hl, (hb.block _ (Array.getElem?_eq_some_iff.1 hd).1).trans hd⟩
    · rintro pre x W hx ⟨hi, hl, hd⟩
      have hlt := (Array.getElem?_eq_some_iff.1 hl).1
      have hy := run_yield (P := P) (args := Enc x) hl (by rw [hr]; exact hps x)
      rw [hr] at hy
      refine ⟨fn, _, assign, body, hy, roundIn_of_wpIn hfn (wpIn_mono (hround _ pre x W hx hi (by omega)) ?_)⟩
      rintro e a1 Wa hp
      cases e with
      | ret => exact hp.elim
      | exit id => exact hp.elim
      | goto t => exact hp.elim
      | panic ch => exact hp.elim
      | outgrown => exact hp.elim
      | normal =>
      obtain ⟨hka, hpb⟩ := hp
      have hla : Wa.heap[w.heap.size + 1]? = some (.loop (rec .ready none)) := (hka.block _ hlt (fun h => h)).trans hl
      have hda : Wa.heap[w.heap.size]? = some (.deferred (some [])) := (hka.block _ (by omega) (fun h => h)).trans hd
      have hlta := (Array.getElem?_eq_some_iff.1 hla).1
      refine ⟨_, run_beginRound hla (by rw [hr]), ?_⟩
      rw [hbusy]
      generalize hW2 : Wa.putObj (w.heap.size + 1) (.loop (rec .busy none)) = W2
      have hp2 : KeepsB ok W W2 := by rw [← hW2]; exact (Keeps.kinds hka (fun _ _ h => h.elim)).trans (KeepsB.putObj _ hla (hok _))
      have hl2 : W2.heap[w.heap.size + 1]? = some (.loop (rec .busy none)) := by rw [← hW2]; exact World.putObj_heap_same hlta
      have hd2 : W2.heap[w.heap.size]? = some (.deferred (some [])) := by rw [← hW2]; exact (World.putObj_heap_other (by omega)).trans hda
      refine wpIn_mono (hpb W2 (by rw [← hW2]; exact Keeps.put ⟨by omega, _, hla, rfl⟩)) ?_
      rintro e a3 W3 hp
      cases e with
      | normal =>
        obtain ⟨hk3, hw3, hi3⟩ := hp
        have hl3 := hk3.same _ _ hl2 rfl
        have hd3 := hk3.same _ _ hd2 rfl
        have hlt3 := (Array.getElem?_eq_some_iff.1 hl3).1
        refine ⟨_, _, run_endRound none hl3, ⟨rfl, ⟨hI _ _ _ hi3 (Keeps.put ⟨by omega, _, hl3, rfl⟩), ?_, ?_⟩, (hp2.trans hw3).trans (KeepsB.putObj _ hl3 (hok _))⟩⟩
        · rw [hst]; exact World.putObj_heap_same hlt3
        · exact (World.putObj_heap_other (by omega)).trans hd3
      | ret => exact hp.elim
      | exit id => exact hp.elim
      | goto t => exact hp.elim
      | panic ch => exact hp.elim
      | outgrown => exact hp.elim
    · rintro e W2 ⟨⟨v, rfl⟩, xs, hfin, hi, hl, hd⟩
      have he := run_endLoop (P := P) hl (by rw [hr]; simp)
      rw [hr] at he
      exact ⟨none, _, he, hdone _ _ xs hfin (Nat.le_refl _) (hI _ _ _ hi (Keeps.put ⟨by omega, _, hl, rfl⟩)) ((World.putObj_heap_other (by omega)).trans hd)⟩
end Go.Proofs.Ytjenfhkikbndmaa
/- A range over a function whose iterator makes blocks of its own and changes such of them as are of the kinds `ok`, which the rounds keep; the rounds change the blocks H alone; no round leaves early. -/
namespace Go.Proofs.Ytjenfhkikbndmaa
open Go.RowKit

/-- The block is of the kinds ok. -/
def KindIs (ok : Obj → Bool) (A : World) (k : Nat) : Prop := ∃ o : Obj, A.heap[k]? = some o ∧ ok o = true
/-- The iterator hands the elements xs in turn, each as the values Enc; it makes blocks, and changes of those made since its beginning such as are of the kinds ok. -/
def GivesK (ok : Obj → Bool) (H : Nat → Prop) {α : Type} (P : Program) (gf : Nat) (lb : Array Value) (Enc : α → Array Value) (xs : List α) (w : World) : Prop :=
  ∀ (l : Nat) (J : List α → World → Prop) (W : World), Below w.heap.size w W → (∀ s A B, J s A → Keeps (fun k => W.heap.size ≤ k ∧ (A.heap.size ≤ k ∨ KindIs ok A k)) A B → J s B) →
    (∀ pre x post W1, xs = pre ++ x :: post → J pre W1 → YieldAt Fence.wide 0 P l (Enc x) W1 fun e W' => e = .returned (.bool true) ∧ J (pre ++ [x]) W' ∧ KeepsB ok W1 W' ∧ Keeps H W1 W') →
    J [] W → CallsIn Fence.wide 0 P gf (#[.func (.yield l) #[] #[]] ++ lb) W fun e W' => (∃ v, e = .returned v) ∧ J xs W'
/-- How a round ends. -/
def roundEndK (ok : Obj → Bool) (H : Nat → Prop) {α : Type} (I : List α → World → Prop) (s : List α) (W : World) : Exit → Act → World → Prop
  | .normal, _, W' => KeepsOthers W W' ∧ KeepsB ok W W' ∧ Keeps H W W' ∧ I s W'
  | _, _, _ => False

theorem wp_rangeK (ok : Obj → Bool) (hok : ∀ r, ok (.loop r) = false) {H : Nat → Prop} {α : Type} {P : Program} {g : Operand} {ps : Array Tmp} {assign body : Code} {Q : Exit → Act → World → Prop} {a : Act} {w : World} {gf : Nat} {lb : Array Value}
    (hg : a.eval g = .func (.func gf) #[] lb) (eg : ∀ args w, (callFunc gf args).run P w = .ok (.enter gf args) w)
    {Enc : α → Array Value} {xs : List α} {w0 : World} (hseq : GivesK ok H P gf lb Enc xs w0) (hb0 : Below w0.heap.size w0 w)
    (hH : ∀ k, w.heap.size ≤ k → H k) (hps : ∀ x, (Enc x).size = ps.size)
    (I : List α → World → Prop) (hI : ∀ s A B, I s A → Keeps (fun k => w.heap.size ≤ k ∧ (A.heap.size ≤ k ∨ NotCells A k ∨ KindIs ok A k)) A B → I s B) (h0 : I [] w)
    (hround : ∀ (l : Nat) (pre : List α) (x : α) (post : List α) (W1 : World), xs = pre ++ x :: post → I pre W1 → w.heap.size ≤ W1.heap.size →
      assign.wpIn (Fence.wide.inRound l) 0 P (Exit.then (fun a₂ W2 => Keeps (fun _ => False) W1 W2 ∧ ∀ W3, Keeps (fun k => w.heap.size ≤ k ∧ NotCells W2 k) W2 W3 → body.wpIn (Fence.wide.inRound l) 0 P (roundEndK ok H I (pre ++ [x]) W3) a₂ W3) (fun _ _ _ => False))
        { tmps := (ps.zip (Enc x)).foldl (fun t (p, v) => t.setIfInBounds p v) a.tmps, defers := [] } W1)
    (hdone : ∀ (D : Nat) (W : World), w.heap.size ≤ D → I xs W → W.heap[D]? = some (.deferred (some [])) → Q .normal { a with defers := { target := .collected D, args := #[] } :: a.defers } W) :
    (Code.rangeFunc g ps assign body).wp P Q a w := by
  refine (wpIn_wide (n := 0)).1 (wpIn_rangeFunc (F := Fence.wide) ?_)
  intro fn hfn
  generalize hrec : (fun (st : LoopState) (pe : Option Code) => ({ state := st, pending := pe, fn := fn, tmps := a.tmps, params := ps, assign := assign, body := body, defers := w.heap.size } : Loop)) = rec
  have hr : ∀ st pe, rec st pe = { state := st, pending := pe, fn := fn, tmps := a.tmps, params := ps, assign := assign, body := body, defers := w.heap.size } := fun st pe => by rw [← hrec]
  have hst : ∀ st pe st' pe', ({ rec st pe with state := st', pending := pe' } : Loop) = rec st' pe' := fun st pe st' pe' => by rw [hr, hr]
  have hbusy : ∀ st pe st', ({ rec st pe with state := st' } : Loop) = rec st' pe := fun st pe st' => by rw [hr, hr]
  generalize hW1 : (w.alloc (.deferred (some []))).alloc (.loop (rec .ready none)) = W1
  have hD1 : W1.heap[w.heap.size]? = some (.deferred (some [])) := by
    rw [← hW1]; exact (Below.heap_alloc _ _ _ (by simp)).trans (World.alloc_heap_new w _)
  have hL1 : W1.heap[w.heap.size + 1]? = some (.loop (rec .ready none)) := by
    rw [← hW1]; have := World.alloc_heap_new (w.alloc (.deferred (some []))) (.loop (rec .ready none)); rwa [World.size_alloc] at this
  have hk1 : Keeps (fun _ => False) w W1 := by rw [← hW1]; exact ((Keeps.refl _ w).alloc _).alloc _
  have hb1 : Below w0.heap.size w0 W1 := hb0.trans (hk1.below hb0.size (fun _ h => h.elim))
  refine ⟨w.heap.size + 1, [{ target := .collected w.heap.size, args := #[] }], W1, { target := .fn (.func gf) lb, args := #[.func (.yield (w.heap.size + 1)) #[] #[]] }, W1, gf,
    #[.func (.yield (w.heap.size + 1)) #[] #[]] ++ lb, W1, ?_, ?_, fun _ _ => trivial, ?_, fun h => (by cases h), ?_⟩
  · rw [← hW1, hr]; exact run_enterLoop_outer _ _ _ _ _
  · simp only [resolve, hg]
    simp [go_sem]
  · simp [invoke, go_sem, eg]
  · refine (hseq (w.heap.size + 1) (fun pre W => I pre W ∧ W.heap[w.heap.size + 1]? = some (.loop (rec .ready none)) ∧ W.heap[w.heap.size]? = some (.deferred (some []))) W1 hb1 ?_ ?_
      ⟨hI _ _ _ h0 (hk1.wide (fun _ _ h => h.elim)), hL1, hD1⟩).mono ?_
    · rintro s A B ⟨hi, hl, hd⟩ hb
      have hz : w.heap.size ≤ W1.heap.size := hk1.size
      have hn : ∀ k, k < W1.heap.size → ¬ (W1.heap.size ≤ k ∧ (A.heap.size ≤ k ∨ KindIs ok A k)) := fun k hk h => by have := h.1; omega
      have hs1 := (Array.getElem?_eq_some_iff.1 hL1).1
      refine ⟨hI _ _ _ hi (hb.wide (fun k h1 h2 => ?_)), (hb.block _ (Array.getElem?_eq_some_iff.1 hl).1 (hn _ hs1)).trans hl, (hb.block _ (Array.getElem?_eq_some_iff.1 hd).1 (hn _ (by omega))).trans hd⟩
      exact ⟨by omega, h2.2.elim .inl (fun h => .inr (.inr h))⟩
    · rintro pre x post W hx ⟨hi, hl, hd⟩
      have hlt := (Array.getElem?_eq_some_iff.1 hl).1
      have hy := run_yield (P := P) (args := Enc x) hl (by rw [hr]; exact hps x)
      rw [hr] at hy
      refine ⟨fn, _, assign, body, hy, roundIn_of_wpIn hfn (wpIn_mono (hround _ pre x post W hx hi (by omega)) ?_)⟩
      rintro e a1 Wa hp
      cases e with
      | ret => exact hp.elim
      | exit id => exact hp.elim
      | goto t => exact hp.elim
      | panic ch => exact hp.elim
      | outgrown => exact hp.elim
      | normal =>
      obtain ⟨hka, hpb⟩ := hp
      have hla : Wa.heap[w.heap.size + 1]? = some (.loop (rec .ready none)) := (hka.block _ hlt (fun h => h)).trans hl
      have hda : Wa.heap[w.heap.size]? = some (.deferred (some [])) := (hka.block _ (by omega) (fun h => h)).trans hd
      have hlta := (Array.getElem?_eq_some_iff.1 hla).1
      refine ⟨_, run_beginRound hla (by rw [hr]), ?_⟩
      rw [hbusy]
      generalize hW2 : Wa.putObj (w.heap.size + 1) (.loop (rec .busy none)) = W2
      have hp3 : Keeps H W W2 := by rw [← hW2]; exact (hka.wide (fun _ _ h => h.elim)).trans (Keeps.put (hH _ (by omega)))
      have hp2 : KeepsB ok W W2 := by rw [← hW2]; exact (Keeps.kinds hka (fun _ _ h => h.elim)).trans (KeepsB.putObj _ hla (hok _))
      have hl2 : W2.heap[w.heap.size + 1]? = some (.loop (rec .busy none)) := by rw [← hW2]; exact World.putObj_heap_same hlta
      have hd2 : W2.heap[w.heap.size]? = some (.deferred (some [])) := by rw [← hW2]; exact (World.putObj_heap_other (by omega)).trans hda
      refine wpIn_mono (hpb W2 (by rw [← hW2]; exact Keeps.put ⟨by omega, _, hla, rfl⟩)) ?_
      rintro e a3 W3 hp
      cases e with
      | normal =>
        obtain ⟨hk3, hw3, hh3, hi3⟩ := hp
        have hl3 := hk3.same _ _ hl2 rfl
        have hd3 := hk3.same _ _ hd2 rfl
        have hlt3 := (Array.getElem?_eq_some_iff.1 hl3).1
        refine ⟨_, _, run_endRound none hl3, ⟨rfl, ⟨hI _ _ _ hi3 (Keeps.put ⟨by omega, .inr (.inl ⟨_, hl3, rfl⟩)⟩), ?_, ?_⟩, (hp2.trans hw3).trans (KeepsB.putObj _ hl3 (hok _)), (hp3.trans hh3).trans (Keeps.put (hH _ (by omega)))⟩⟩
        · rw [hst]; exact World.putObj_heap_same hlt3
        · exact (World.putObj_heap_other (by omega)).trans hd3
      | ret => exact hp.elim
      | exit id => exact hp.elim
      | goto t => exact hp.elim
      | panic ch => exact hp.elim
      | outgrown => exact hp.elim
    · rintro e W2 ⟨⟨v, rfl⟩, hi, hl, hd⟩
      have he := run_endLoop (P := P) hl (by rw [hr]; simp)
      rw [hr] at he
      exact ⟨none, _, he, hdone _ _ (Nat.le_refl _) (hI _ _ _ hi (Keeps.put ⟨by omega, .inr (.inl ⟨_, hl, rfl⟩)⟩)) ((World.putObj_heap_other (by omega)).trans hd)⟩
end Go.Proofs.Ytjenfhkikbndmaa
/- What walks through a range over a function need besides. -/
namespace Go.Proofs.Ytjenfhkikbndmaa
open Go.RowKit Go.Shelf
attribute [local go_sem] Oper.semAt_some

theorem wpListIn_append_one {F : Fence} {m : Nat} {P : Program} {α : Type} {ops : Array Oper} {rest : List Oper} {o : Oper} {a : Act} {Q : Exit → Act → World → Prop} {w : World} (hgd : o.guard = none) (s x : Operand) (T : TypeId)
    (ho : o.op = .call { callee := .builtin .append, args := #[s, x], argTypes := #[T, T] }) (t : Ty α) {e : TypeId} {z : Value} {bytes : Nat} (hT : P.underlying T = some (.slice e))
    (hinf : (P.info? e).map (fun i => (i.zero, i.size, i.bytes)) = some (some z, t.sz, bytes)) (hzs : z.cells.size = t.sz) (hsz : 0 < t.sz) (B : Nat) (v : Value) (xs : List α) (hs : a.eval s = v) (hown : Owns t w B e v xs)
    (nb c : Nat) (y : α) (hx : a.eval x = .slice (some ⟨nb, 0, none⟩) 1 c) (cs : List Value) (hat : At (mem w) nb 0 cs) (hrv : t.rv ((mem w).on (fun b => some b ≠ v.ownBlock)) cs y) (h1 : ∀ u ∈ cs, u.oneCell' = true)
    (h63 : xs.length + 1 ≤ maxLen) (hbytes : (xs.length + 1) * bytes ≤ 140737488355328) (hbase : B ≤ w.heap.size)
    (h : ∀ v' w', Owns t w' B e v' (xs ++ [y]) → w.grownBy w' v.ownBlock → (v'.ownBlock = v.ownBlock ∨ ∀ k, v'.ownBlock = some k → w.heap.size ≤ k) → wpListIn F m P ops Q rest (a.put o.dst v') w') : wpListIn F m P ops Q (o :: rest) a w := by
  obtain ⟨i, hi, hz, hsize, hby⟩ := info_parts hinf
  have hown' := hown
  obtain ⟨css, g1, g2, g4, g5⟩ := hown
  have hl : cs.length = 1 * t.sz := by rw [t.len _ _ _ hrv, Nat.one_mul]
  have hnews : ∀ j u, cs[j]? = some u → w.cell? ((⟨nb, 0, none⟩ : Addr).add j) = some u := fun j u hj => by rw [Addr.add_lit]; exact hat j u hj
  refine wpListIn_plain hgd fun K hK => ?_
  obtain ⟨v', w', hr, h2, h3, _⟩ := run_append_own (P := P) w B T o.type e i z t.sz bytes hT hi hz hsize hby hzs hsz v xs.length css.flatten g2 ⟨nb, 0, none⟩ 1 c cs hl hnews h1 h63 hbytes hbase
  have hblk := append_block w B T o.type e i z t.sz bytes hT hi hz hsize hby v xs.length css.flatten g2 ⟨nb, 0, none⟩ 1 c cs hl hnews h1 (by omega) h63 hbytes hr
  have key : Owns t w' B e v' (xs ++ [y]) := by
    refine hown'.snoc (fun css' hc' => ?_) h3 hblk hrv
    obtain ⟨v2, w2, hr2, h22, _, _⟩ := run_append_own (P := P) w B T o.type e i z t.sz bytes hT hi hz hsize hby hzs hsz v xs.length css'.flatten hc' ⟨nb, 0, none⟩ 1 c cs hl hnews h1 h63 hbytes hbase
    rw [hr] at hr2
    injection hr2 with ev ew
    subst ev; subst ew
    exact h22
  unfold Oper.wpIn
  refine ⟨?_, ?_⟩
  · simp [Oper.about, ho, resolve, Target.leads, Sem.run_pure]
  · rw [Oper.semAt_plain F _ _ (by rw [ho]; intro c hc'; cases hc')]
    simp [execOp, ho, resolve, invoke, builtin, hs, hx, hr, Result.andThen]
    exact hK _ _ (h v' w' key h3 hblk)

theorem Owns.keepsC {α : Type} {t : Ty α} {w w' : World} {B : Nat} {e : TypeId} {v : Value} {xs : List α} (h : Owns t w B e v xs) (hf : t.flat) {F : Nat → Prop} (hk : Keeps F w w') (hF : ∀ k o, B ≤ k → w.heap[k]? = some o → o.isCells = true → ¬ F k) : Owns t w' B e v xs := by
  obtain ⟨css, h1, ⟨h2, h3⟩, h4, h5⟩ := h
  refine ⟨css, h1, ⟨h2, ?_⟩, h4, fun k h h' => hf _ _ _ _ (h5 k h h')⟩
  rcases h3 with h3 | ⟨g, cap, cur, rfl, hg, hh, r⟩
  · exact .inl h3
  · exact .inr ⟨g, cap, cur, rfl, hg, by rw [hk.block g (Array.getElem?_eq_some_iff.1 hh).1 (hF g _ hg hh rfl)]; exact hh, r⟩
theorem own_cells {α : Type} {t : Ty α} {w : World} {B : Nat} {e : TypeId} {v : Value} {xs : List α} (h : Owns t w B e v xs) : ∀ j o, v.ownBlock = some j → w.heap[j]? = some o → o.isCells = true := by
  obtain ⟨css, _, ⟨_, h3⟩, _, _⟩ := h
  intro j o hj ho
  rcases h3 with h3 | ⟨g, cap, cur, rfl, _, hh, _⟩
  · obtain ⟨rfl, _⟩ := h3; cases hj
  · cases hj; rw [hh] at ho; cases ho; rfl
theorem others_of_keeps {F : Nat → Prop} {W W' : World} (hk : Keeps F W W') (hF : ∀ k o, F k → W.heap[k]? = some o → o.isCells = true) : KeepsOthers W W' :=
  ⟨hk.size, fun k o h hc => (hk.block k (Array.getElem?_eq_some_iff.1 h).1 (fun hf => by rw [hF k o hf h] at hc; cases hc)).trans h⟩
theorem setC_block {w : World} {g : Nat} {v u : Value} {t : TypeId} {f : Nat × Nat} (h : w.heap[g]? = some (.cells #[u] t f)) : (w.setCell ⟨g, 0, none⟩ v).heap[g]? = some (.cells #[v] t f) := by
  simp [World.setCell, Array.getElem?_modify, h]
/-- The end of a function with one result behind a range over a function. -/
theorem coll_end {P : Program} {fn : Func} {tm : Array Value} {W : World} {D s : Nat} {u : Value} {R : Ending → World → Prop} (hr : fn.results = #[.tmp s]) (h2 : tm.getD s undef = u) (hD : W.heap[D]? = some (.deferred (some [])))
    (hp : ∀ WF, Keeps (fun k => k = D) W WF → R (.returned u) WF) :
    bodyPostM Fence.wide 0 P fn R .ret { tmps := tm, defers := [{ target := .collected D, args := #[] }] } W := by
  refine ⟨by simp, .inl ⟨_, _, rfl, run_takeDeferred hD, ?_⟩⟩
  refine ⟨u, ?_, hp _ ((Keeps.refl _ _).trans (Keeps.put rfl))⟩
  unfold results
  rw [hr]
  simp only [Array.getD_eq_getD_getElem?] at h2
  simp [h2, go_sem, Result.andThen]
end Go.Proofs.Ytjenfhkikbndmaa
/- package slab: merged's iterator (for chapter 14). -/
namespace Go.Proofs.Ytjenfhkikbndmaa
open Go.RowKit Go.Shelf
attribute [local go_sem] Oper.semAt_some

/-- Blocks of numbers: those that the iterator changes. -/
def okI (o : Obj) : Bool := match o with | .cells _ t _ => t == 3 | _ => false
def nxV (n : Nat) : Value := .int .i64 n
def nxCells (nx : List Nat) : Array Value := (nx.map nxV).toArray
theorem infoIntS : (Try.prog.info? 3).map (fun i => (i.zero, i.size, i.bytes)) = some (some (.int .i64 0), 1, 8) := by kernel_rfl
theorem mkInts (W : World) (n : Nat) (hn : n ≤ 1000000000) : (Instr.makeSlice 34 (.int .i64 n) (.int .i64 n)).run Try.prog W = .ok (.slice (some ⟨W.heap.size, 0, none⟩) n n) (W.alloc (.cells (nxCells (List.replicate n 0)) 3)) := by
  obtain ⟨i, hi, hz, hsize, hby⟩ := info_parts infoIntS
  have h := run_make (P := Try.prog) W 34 3 i _ Try.underlying34 hi hz .i64 .i64 n n (by omega) (Int.le_refl _) (by rw [hby]; omega) (by omega)
  rw [h, hsize]
  have e : madeCells (Value.cells (.int .i64 0)) (n * 1) = nxCells (List.replicate n 0) := by
    apply Array.toList_inj.1
    have := toList_madeCells_one (.int .i64 0) (n * 1)
    refine this.trans ?_
    unfold nxCells
    rw [Nat.mul_one, List.map_replicate]
    rfl
  simp only [Int.toNat_natCast]
  rw [e]
theorem nx_at {W : World} {g : Nat} {nx : List Nat} (h : W.heap[g]? = some (.cells (nxCells nx) 3 (0, 0))) {i : Nat} (hi : i < nx.length) : W.cell? ⟨g, i, none⟩ = some (.int .i64 nx[i]) := by
  refine (mem_cells h i).trans ?_
  unfold nxCells
  rw [List.getElem?_toArray, List.getElem?_map, List.getElem?_eq_getElem hi]; rfl
theorem nx_set {W : World} {g : Nat} {nx : List Nat} (h : W.heap[g]? = some (.cells (nxCells nx) 3 (0, 0))) (i n : Nat) : (W.setCell ⟨g, i, none⟩ (.int .i64 n)).heap[g]? = some (.cells (nxCells (nx.set i n)) 3 (0, 0)) := by
  rw [setS h]
  congr 2
  unfold nxCells
  rw [List.setIfInBounds_toArray, List.map_set]; rfl
/-- What the iterator needs in memory. -/
structure MgAt (W : World) (S : Nat → Prop) (cb : Nat) (lv : Value) (ls : List (List RecS)) : Prop where
  box : W.heap[cb]? = some (.cells #[lv] 77 (0, 0))
  rd : (tSlice tRecSs).rv ((mem W).on S) [lv] ls
theorem MgAt.keeps {W W' : World} {S : Nat → Prop} {cb : Nat} {lv : Value} {ls : List (List RecS)} {F : Nat → Prop} (h : MgAt W S cb lv ls) (hk : Keeps F W W') (h1 : ¬ F cb) (h2 : ∀ k, S k → ¬ F k) : MgAt W' S cb lv ls :=
  ⟨(hk.block _ (Array.getElem?_eq_some_iff.1 h.box).1 h1).trans h.box, (tSlice tRecSs).mono _ _ _ _ (keeps_mem hk h2) h.rd⟩
def nxOf (W : World) (g : Nat) : List Nat := match W.heap[g]? with | some (.cells c _ _) => c.toList.map (fun v => match v with | .int _ n => n.toNat | _ => 0) | _ => []
theorem nxOf_at {W : World} {g : Nat} {nx : List Nat} (h : W.heap[g]? = some (.cells (nxCells nx) 3 (0, 0))) : nxOf W g = nx := by
  unfold nxOf
  rw [h]
  unfold nxCells
  simp only [List.map_map]
  conv => rhs; rw [← List.map_id nx]
  refine List.map_congr_left (fun n _ => ?_)
  simp [nxV]
/-- An element of a list that is left over. -/
theorem rest_cons {ls : List (List RecS)} {nx : List Nat} (h : nx.length = ls.length) {i : Nat} (hi : i < ls.length) (hn : nx[i]'(by omega) < ls[i].length) : (restL ls nx)[i]'(by rw [restL_len h]; exact hi) = ls[i][nx[i]'(by omega)] :: ls[i].drop (nx[i]'(by omega) + 1) := by
  rw [restL_at h, List.drop_eq_getElem_cons hn]
theorem rest_nil {ls : List (List RecS)} {nx : List Nat} (h : nx.length = ls.length) {i : Nat} (hi : i < ls.length) (hn : ls[i].length ≤ nx[i]'(by omega)) : (restL ls nx)[i]'(by rw [restL_len h]; exact hi) = [] := by
  rw [restL_at h, List.drop_of_length_le hn]
/-- The iterator's own changes since a world. -/
abbrev MK (W0 : World) (g : Nat) (W : World) : Prop := Keeps (fun k => k = g ∨ W0.heap.size ≤ k) W0 W
set_option maxRecDepth 100000 in
set_option maxHeartbeats 4000000 in
theorem merged1_gives (ls : List (List RecS)) (cb : Nat) (S : Nat → Prop) (la : Option Addr) (lc : Nat) (w : World) (hM : MgAt w S cb (.slice la ls.length lc) ls) (hS : ∀ k, S k → k < w.heap.size) (ha : ∀ l ∈ ls, AscC recC l) (h0 : 0 < ls.length) (hn : ls.length ≤ 1000000000) (hn2 : ∀ l ∈ ls, l.length ≤ 1000000000)
    (H : Nat → Prop) (hH1 : ∀ k, S k → ¬ H k) (hH2 : ¬ H cb) : GivesK okI H Try.prog 60 #[.pointer (some ⟨cb, 0, none⟩)] (fun x : RecS => #[x.v]) (mergeC recC ls) w := by
  intro l J W hW hJ hY hJ0
  have hcb : cb < w.heap.size := (Array.getElem?_eq_some_iff.1 hM.box).1
  have hM0 : MgAt W S cb (.slice la ls.length lc) ls := hM.keeps (below_keeps hW) (by omega) (fun k hk h => by have := hS k hk; omega)
  have HS := Lib.hid (fun (k : Nat) (h : S k) => (show k < W.heap.size from Nat.lt_of_lt_of_le (hS k h) hW.size))
  have HY := Lib.hid hY
  have HJ := Lib.hid hJ
  have HM := Lib.hid hM0
  have HJ0 := Lib.hid hJ0
  have HA := Lib.hid ha
  have HN2 := Lib.hid hn2
  have HH := Lib.hid (show (∀ k, S k → ¬ H k) ∧ ¬ H cb from ⟨hH1, hH2⟩)
  have hcW : cb < W.heap.size := Nat.lt_of_lt_of_le hcb hW.size
  obtain ⟨-, hlc0, hlm⟩ := slice_len hM0.rd
  have hlc1 : lc ≤ 9223372036854775807 := by unfold maxLen at hlm; exact hlm
  have c0 : W.cell? ⟨cb, 0, none⟩ = some (.slice la ls.length lc) := mem_cells hM0.box 0
  have hmk := mkInts W ls.length hn
  clear hY hJ hM hM0 hJ0 ha hn2 hH1 hH2 hW hlm hS
  refine callsIn_of_wp Try.func60 rfl trivial ?_ rfl
  simp only [Try.ntmps60, List.size_toArray, List.length_cons, List.length_nil, Nat.reduceAdd, Nat.reduceSub, Array.replicate_succ, Array.replicate_zero, List.push_toArray, List.append_toArray, List.nil_append, List.cons_append]
  gi_wp2
  have HG0 := Lib.hid (heap_alloc_new W (.cells (nxCells (List.replicate ls.length 0)) 3))
  have HK0 := Lib.hid (show Keeps (fun k => H k ∨ W.heap.size ≤ k) W (W.alloc (.cells (nxCells (List.replicate ls.length 0)) 3)) from (Keeps.refl _ W).alloc _)
  have HJ1 := Lib.hid (HJ.out _ _ _ HJ0.out ((Keeps.refl (fun k => W.heap.size ≤ k ∧ (W.heap.size ≤ k ∨ KindIs okI W k)) W).alloc (.cells (nxCells (List.replicate ls.length 0)) 3)))
  clear hmk c0 HJ0
  generalize W.alloc (.cells (nxCells (List.replicate ls.length 0)) 3) = X at *
  gi_loopw [4] (fun _ wr => ∃ (nx : List Nat) (pre : List RecS), nx.length = ls.length ∧ Hid (mergeC recC ls = pre ++ mergeC recC (restL ls nx)) ∧ Hid (J pre wr) ∧ Hid (wr.heap[W.heap.size]? = some (.cells (nxCells nx) 3 (0, 0))) ∧ Hid (Keeps (fun k => H k ∨ W.heap.size ≤ k) W wr)) (fun _ wr => (mergeC recC (restL ls (nxOf wr W.heap.size))).length)
  case atStart =>
    exact ⟨List.replicate ls.length 0, [], by simp, Lib.hid (by rw [restL_zero]; rfl), HJ1, HG0, HK0⟩
  case round =>
    obtain ⟨nx, pre, hnl, HP, HJP, HG, HK⟩ := hrel
    have HNR := Lib.hid (nxOf_at HG.out)
    have HMr := Lib.hid (HM.out.keeps HK.out (fun h => h.elim HH.out.2 (fun h => by omega)) (fun k hk h => h.elim (HH.out.1 k hk) (fun h => by have := HS.out k hk; omega)))
    have c0 : wr.cell? ⟨cb, 0, none⟩ = some (.slice la ls.length lc) := mem_cells HMr.out.box 0
    gi_wp2
    gi_loopw [4, 15] (fun bv iv w2 => ∃ (b : Int) (i : Nat), i ≤ ls.length ∧ bv = .int .i64 b ∧ iv = .int .i64 i ∧ Hid (Best recC ls nx i b) ∧ Hid (Below wr.heap.size wr w2)) (fun _ iv _ => ls.length - (intOf iv).toNat)
    case atStart => exact ⟨-1, 0, Nat.zero_le _, rfl, rfl, Lib.hid (Best.start _ _), Lib.hid (Below.refl _ _)⟩
    case round =>
      obtain ⟨b, i, hi, rfl, rfl, HBS, HB2⟩ := hrel
      by_cases hlt : i < ls.length
      · have HM2 := Lib.hid (HMr.out.keeps (below_keeps HB2.out) (fun h => by have := (Array.getElem?_eq_some_iff.1 HMr.out.box).1; omega) (fun k hk h => by have h1 := HS.out k hk; have h2 := HK.out.size; omega))
        have HG2 := Lib.hid ((HB2.out.block _ (Array.getElem?_eq_some_iff.1 HG.out).1).trans HG.out)
        obtain ⟨lb, lo, e, hat⟩ := slice_at HM2.out.rd hlt
        subst e
        obtain ⟨rv, hc, hrow⟩ := slice_cell hat
        obtain ⟨ra, rc, rfl, hrc, hrm, hrow⟩ := slice_form hrow
        have hcr : rc ≤ 9223372036854775807 := by unfold maxLen at hrm; exact hrm
        have l0 : wr.cell? ⟨lb, lo + i, none⟩ = some (.slice ra ls[i].length rc) := by have := Mem.on_le _ _ _ _ _ hc; simpa [tRecS, tSlice, mem] using this
        have n0 : wr.cell? ⟨W.heap.size, i, none⟩ = some (.int .i64 (nx[i]'(by omega))) := nx_at HG2.out (by omega)
        have b0 : wr.cell? ⟨cb, 0, none⟩ = some (.slice (some ⟨lb, lo, none⟩) ls.length lc) := mem_cells HM2.out.box 0
        have hxl := HN2.out _ (List.getElem_mem hlt)
        have HRC := Lib.hid (fun h => rest_cons hnl hlt h)
        have HRN := Lib.hid (fun h => rest_nil hnl hlt h)
        have hrl := restL_len (ls := ls) hnl
        have hnx : i < nx.length := by omega
        by_cases hne : nx[i] < ls[i].length
        · have hne2 : ((nx[i] : Nat) : Int) < (ls[i].length : Int) := by omega
          by_cases hb : b < 0
          · obtain rfl : b = -1 := by
              rcases HBS.out with ⟨e, _⟩ | ⟨j, _, _, _, e, _⟩
              · exact e
              · omega
            have HBS2 := Lib.hid (HBS.out.first recC_good (by omega) (restL_asc hnl HA.out _ (List.getElem_mem _)) (HRC.out hne))
            clear HRC HRN hat hc hrow hrm
            generalize ls[i] = row at *
            generalize nx[i] = ni at *
            have hd1 : decide ((ni : Int) < (row.length : Int)) = true := decide_eq_true hne2
            gi_wp2
            refine (wpIn_wide (n := 0)).2 ?_
            go_quiet (fail)
            all_goals
              gi_wp2
              go_roundw
              case rel => exact ⟨i, i + 1, by omega, by go_num, by go_num, HBS2, Lib.hid (below_drewN HB2.out _)⟩
              case measure => simp [intOf]; omega
          · obtain ⟨j, r, tl, hj, rfl, hji, hjr⟩ : ∃ (j : Nat) (r : RecS) (tl : List RecS) (hj : j < (restL ls nx).length), b = j ∧ j < i ∧ (restL ls nx)[j] = r :: tl := by
              rcases HBS.out with ⟨e, _⟩ | ⟨j, r, tl, hj, e, h1, h2, _⟩
              · omega
              · exact ⟨j, r, tl, hj, e, h1, h2⟩
            have hjl : j < ls.length := by omega
            have hjx : j < nx.length := by omega
            have hnj : nx[j] < ls[j].length := by
              rcases Nat.lt_or_ge nx[j] ls[j].length with h | h
              · exact h
              · have := rest_nil hnl hjl h; rw [hjr] at this; cases this
            have hrj : ls[j][nx[j]] = r := by
              have := rest_cons hnl hjl hnj
              rw [hjr] at this
              injection this with h _
              exact h.symm
            have HBS2 := Lib.hid (HBS.out.turn recC_good (by omega) hj (restL_asc hnl HA.out _ (List.getElem_mem _)) (HRC.out hne) hjr)
            obtain ⟨lb2, lo2, e2, hat2⟩ := slice_at HM2.out.rd hjl
            simp only [Option.some.injEq, Addr.mk.injEq, and_true] at e2
            obtain ⟨rfl, rfl⟩ := e2
            obtain ⟨rv2, hc2, hrow2⟩ := slice_cell hat2
            obtain ⟨ra2, rc2, rfl, hrc2, hrm2, hrow2⟩ := slice_form hrow2
            have hcr2 : rc2 ≤ 9223372036854775807 := by unfold maxLen at hrm2; exact hrm2
            have l1 : wr.cell? ⟨lb, lo + j, none⟩ = some (.slice ra2 ls[j].length rc2) := by have := Mem.on_le _ _ _ _ _ hc2; simpa [tRecS, tSlice, mem] using this
            have n1 : wr.cell? ⟨W.heap.size, j, none⟩ = some (.int .i64 nx[j]) := nx_at HG2.out hjx
            have hxl2 := HN2.out _ (List.getElem_mem hjl)
            obtain ⟨xb, xo, rfl, ⟨p0, p1, p2, p3, -⟩, -⟩ := recs_at (tRecSs.mono _ _ _ _ (Mem.on_le _ _) hrow) hne
            obtain ⟨yb, yo, rfl, ⟨q0, q1, q2, q3, -⟩, -⟩ := recs_at (tRecSs.mono _ _ _ _ (Mem.on_le _ _) hrow2) hnj
            have HPL := Lib.hid (fun w => slabPlace_any ls[i][nx[i]].e ls[j][nx[j]].e w)
            have HCC := Lib.hid (show recC ls[i][nx[i]] r = placeC ls[i][nx[i]].e ls[j][nx[j]].e by rw [hrj]; rfl)
            clear HRC HRN hat hc hrow hrm hat2 hc2 hrow2 hrm2 hjr hrj hj
            rw [HCC.out] at HBS2
            clear HCC
            generalize ls[i][nx[i]] = qi at *
            generalize ls[j][nx[j]] = qj at *
            generalize ls[i] = row at *
            generalize ls[j] = row2 at *
            generalize nx[i] = ni at *
            generalize nx[j] = nj at *
            obtain ⟨⟨g1, e1, k1, v1⟩, gr1⟩ := qi
            obtain ⟨⟨g2, e2, k2, v2⟩, gr2⟩ := qj
            simp only at p0 p1 p2 p3 q0 q1 q2 q3 HPL HBS2
            generalize placeC ⟨g1, e1, k1, v1⟩ ⟨g2, e2, k2, v2⟩ = c at *
            have x0 : wr.cell? ⟨xb, xo + ni * 5, none⟩ = some (.int .i64 g1) := p0
            have x1 : wr.cell? ⟨xb, xo + ni * 5 + 1, none⟩ = some (.string e1) := p1
            have x2 : wr.cell? ⟨xb, xo + ni * 5 + 2, none⟩ = some (.string k1) := p2
            have x3 : wr.cell? ⟨xb, xo + ni * 5 + 3, none⟩ = some (.string v1) := p3
            have y0 : wr.cell? ⟨yb, yo + nj * 5, none⟩ = some (.int .i64 g2) := q0
            have y1 : wr.cell? ⟨yb, yo + nj * 5 + 1, none⟩ = some (.string e2) := q1
            have y2 : wr.cell? ⟨yb, yo + nj * 5 + 2, none⟩ = some (.string k2) := q2
            have y3 : wr.cell? ⟨yb, yo + nj * 5 + 3, none⟩ = some (.string v2) := q3
            clear p0 p1 p2 p3 q0 q1 q2 q3
            have hd1 : decide ((ni : Int) < (row.length : Int)) = true := decide_eq_true hne2
            have hd2 : decide ((j : Int) < 0) = false := decide_eq_false hb
            have hnj2 : (nj : Int) < (row2.length : Int) := by omega
            have hjl2 : (j : Int) < (ls.length : Int) := by omega
            gi_wp2
            have hb0 : Below wr.heap.size wr wr.drew := (Below.refl _ _).drew
            have HKP := Lib.hid (fun (w' : World) (hb : Below wr.heap.size wr w') => (show (w'.cell? ⟨cb, 0, none⟩ = some (.slice (some ⟨lb, lo, none⟩) ls.length lc) ∧ w'.cell? ⟨W.heap.size, i, none⟩ = some (.int .i64 ni) ∧ w'.cell? ⟨W.heap.size, j, none⟩ = some (.int .i64 nj) ∧ w'.cell? ⟨lb, lo + j, none⟩ = some (.slice (some ⟨yb, yo, none⟩) row2.length rc2)) ∧ (w'.cell? ⟨xb, xo + ni * 5, none⟩ = some (.int .i64 g1) ∧ w'.cell? ⟨xb, xo + ni * 5 + 1, none⟩ = some (.string e1) ∧ w'.cell? ⟨xb, xo + ni * 5 + 2, none⟩ = some (.string k1) ∧ w'.cell? ⟨xb, xo + ni * 5 + 3, none⟩ = some (.string v1)) ∧ (w'.cell? ⟨yb, yo + nj * 5, none⟩ = some (.int .i64 g2) ∧ w'.cell? ⟨yb, yo + nj * 5 + 1, none⟩ = some (.string e2) ∧ w'.cell? ⟨yb, yo + nj * 5 + 2, none⟩ = some (.string k2) ∧ w'.cell? ⟨yb, yo + nj * 5 + 3, none⟩ = some (.string v2)) from
              ⟨⟨below_mem hb _ _ _ b0, below_mem hb _ _ _ n0, below_mem hb _ _ _ n1, below_mem hb _ _ _ l1⟩, ⟨below_mem hb _ _ _ x0, below_mem hb _ _ _ x1, below_mem hb _ _ _ x2, below_mem hb _ _ _ x3⟩, below_mem hb _ _ _ y0, below_mem hb _ _ _ y1, below_mem hb _ _ _ y2, below_mem hb _ _ _ y3⟩))
            refine (wpIn_wide (n := 0)).2 ?_
            go_region_held3 (fun w' => (w'.cell? ⟨cb, 0, none⟩ = some (.slice (some ⟨lb, lo, none⟩) ls.length lc) ∧ w'.cell? ⟨W.heap.size, i, none⟩ = some (.int .i64 ni) ∧ w'.cell? ⟨W.heap.size, j, none⟩ = some (.int .i64 nj) ∧ w'.cell? ⟨lb, lo + j, none⟩ = some (.slice (some ⟨yb, yo, none⟩) row2.length rc2)) ∧ (w'.cell? ⟨xb, xo + ni * 5, none⟩ = some (.int .i64 g1) ∧ w'.cell? ⟨xb, xo + ni * 5 + 1, none⟩ = some (.string e1) ∧ w'.cell? ⟨xb, xo + ni * 5 + 2, none⟩ = some (.string k1) ∧ w'.cell? ⟨xb, xo + ni * 5 + 3, none⟩ = some (.string v1)) ∧ (w'.cell? ⟨yb, yo + nj * 5, none⟩ = some (.int .i64 g2) ∧ w'.cell? ⟨yb, yo + nj * 5 + 1, none⟩ = some (.string e2) ∧ w'.cell? ⟨yb, yo + nj * 5 + 2, none⟩ = some (.string k2) ∧ w'.cell? ⟨yb, yo + nj * 5 + 3, none⟩ = some (.string v2)))
              (first | with_reducible exact HKP.out _ hb0 | with_reducible exact HKP.out _ hb4)
              ((go_at_call 59; refine (HPL.out _).mono ?_; rintro e w4 ⟨rfl, hb⟩; have hb4 := pure_trans hb0 hb; clear hb))
            have HB4 := Lib.hid (HB2.out.trans (hb4.mono HB2.out.size))
            rename_i hHeld
            clear hHeld hb4 hb0 HKP HB2 HPL
            by_cases hcz : c < 0
            · have hcd : decide (c < 0) = true := decide_eq_true hcz
              rw [if_pos hcz] at HBS2
              gi_wp2
              go_roundw
              case rel => exact ⟨i, i + 1, by omega, by go_num, by go_num, HBS2, HB4⟩
              case measure => simp [intOf]; omega
            · have hcd : decide (c < 0) = false := decide_eq_false hcz
              rw [if_neg hcz] at HBS2
              gi_wp2
              go_roundw
              case rel => exact ⟨j, i + 1, by omega, by go_num, by go_num, HBS2, HB4⟩
              case measure => simp [intOf]; omega
        · have hd1 : decide ((nx[i] : Int) < (ls[i].length : Int)) = false := decide_eq_false (by omega)
          have HBS2 := Lib.hid (HBS.out.skip (by omega) (HRN.out (by omega)))
          clear HRC HRN hat hc hrow hrm
          generalize ls[i] = row at *
          generalize nx[i] = ni at *
          gi_wp2
          refine (wpIn_wide (n := 0)).2 ?_
          go_quiet (fail)
          all_goals
            gi_wp2
            go_roundw
            case rel => exact ⟨b, i + 1, by omega, by go_num, by go_num, HBS2, Lib.hid (below_drewN HB2.out _)⟩
            case measure => simp [intOf]; omega
      · obtain rfl : i = ls.length := by omega
        have HM2 := Lib.hid (HMr.out.keeps (below_keeps HB2.out) (fun h => by have := (Array.getElem?_eq_some_iff.1 HMr.out.box).1; omega) (fun k hk h => by have h1 := HS.out k hk; have h2 := HK.out.size; omega))
        have HG2 := Lib.hid ((HB2.out.block _ (Array.getElem?_eq_some_iff.1 HG.out).1).trans HG.out)
        have hgl := (Array.getElem?_eq_some_iff.1 HG.out).1
        clear c0
        by_cases hb : b < 0
        · obtain rfl : b = -1 := by
            rcases HBS.out with ⟨e, _⟩ | ⟨j, _, _, _, e, _⟩
            · exact e
            · omega
          have HE := Lib.hid (show J (mergeC recC ls) wr from by
            rw [HP.out, HBS.out.none hnl, List.append_nil]
            exact HJ.out _ _ _ HJP.out ((below_keeps HB2.out).wide (fun k h1 h2 => by omega)))
          gi_wp2
          (try simp only [Exit.inBlock, Exit.then])
          refine bodyPost_ret (results_none rfl _ _ _) rfl ?_
          exact ⟨⟨_, rfl⟩, HE.out⟩
        · obtain ⟨j, r, tl, hj, rfl, hjr⟩ : ∃ (j : Nat) (r : RecS) (tl : List RecS) (hj : j < (restL ls nx).length), b = j ∧ (restL ls nx)[j] = r :: tl := by
            rcases HBS.out with ⟨e, _⟩ | ⟨j, r, tl, hj, e, h1, h2, _⟩
            · omega
            · exact ⟨j, r, tl, hj, e, h2⟩
          have hrl := restL_len (ls := ls) hnl
          have hjl : j < ls.length := by omega
          have hjx : j < nx.length := by omega
          have hnj : nx[j] < ls[j].length := by
            rcases Nat.lt_or_ge nx[j] ls[j].length with h | h
            · exact h
            · have := rest_nil hnl hjl h; rw [hjr] at this; cases this
          have hrj : ls[j][nx[j]] = r := by
            have := rest_cons hnl hjl hnj
            rw [hjr] at this
            injection this with h _
            exact h.symm
          have HYD := Lib.hid (HBS.out.yield recC_good hnl HA.out hj hjr)
          obtain ⟨lb, lo, e, hat⟩ := slice_at HM2.out.rd hjl
          subst e
          obtain ⟨rv, hc, hrow⟩ := slice_cell hat
          obtain ⟨ra, rc, rfl, hrc, hrm, hrow⟩ := slice_form hrow
          have hcr : rc ≤ 9223372036854775807 := by unfold maxLen at hrm; exact hrm
          have l1 : wr.cell? ⟨lb, lo + j, none⟩ = some (.slice ra ls[j].length rc) := by have := Mem.on_le _ _ _ _ _ hc; simpa [tRecS, tSlice, mem] using this
          have n1 : wr.cell? ⟨W.heap.size, j, none⟩ = some (.int .i64 nx[j]) := nx_at HG2.out hjx
          have b0 : wr.cell? ⟨cb, 0, none⟩ = some (.slice (some ⟨lb, lo, none⟩) ls.length lc) := mem_cells HM2.out.box 0
          have hxl2 := HN2.out _ (List.getElem_mem hjl)
          obtain ⟨yb, yo, rfl, ⟨q0, q1, q2, q3, q4⟩, -⟩ := recs_at (tRecSs.mono _ _ _ _ (Mem.on_le _ _) hrow) hnj
          rw [hrj] at q0 q1 q2 q3 q4
          clear hat hc hrow hrm hjr hrj hj
          generalize ls[j] = row2 at *
          generalize nx[j] = nj at *
          obtain ⟨⟨g2, e2, k2, v2⟩, gr2⟩ := r
          simp only at q0 q1 q2 q3 q4
          have y0 : wr.cell? ⟨yb, yo + nj * 5, none⟩ = some (.int .i64 g2) := q0
          have y1 : wr.cell? ⟨yb, yo + nj * 5 + 1, none⟩ = some (.string e2) := q1
          have y2 : wr.cell? ⟨yb, yo + nj * 5 + 2, none⟩ = some (.string k2) := q2
          have y3 : wr.cell? ⟨yb, yo + nj * 5 + 3, none⟩ = some (.string v2) := q3
          have y4 : wr.cell? ⟨yb, yo + nj * 5 + 4, none⟩ = some (.bool gr2) := q4
          clear q0 q1 q2 q3 q4
          have hnj2 : (nj : Int) < (row2.length : Int) := by omega
          have hjl2 : (j : Int) < (ls.length : Int) := by omega
          have hgl2 : W.heap.size < wr.heap.size := Nat.lt_of_lt_of_le hgl HB2.out.size
          have hlb : lb < wr.heap.size := World.block_lt_of_cell? _ _ l1
          have hyb : yb < wr.heap.size := World.block_lt_of_cell? _ _ y0
          have hcb2 : cb < wr.heap.size := World.block_lt_of_cell? _ _ b0
          gi_wp2
          have HYB := Lib.hid (show Below wr.heap.size wr (wr.alloc (.cells #[.int .i64 g2, .string e2, .string k2, .string v2, .bool gr2] 54)).drew from ((Below.refl _ wr).alloc (Nat.le_refl _) _).drew)
          have HYX := Lib.hid (show (wr.alloc (.cells #[.int .i64 g2, .string e2, .string k2, .string v2, .bool gr2] 54)).drew.heap[wr.heap.size]? = some (.cells #[.int .i64 g2, .string e2, .string k2, .string v2, .bool gr2] 54 (0, 0)) from heap_alloc_new wr _)
          refine (wpIn_wide (n := 0)).2 ?_
          go_region
          generalize (wr.alloc (.cells #[.int .i64 g2, .string e2, .string k2, .string v2, .bool gr2] 54)).drew = Y at *
          have HBY := Lib.hid (HB2.out.trans (HYB.out.mono HB2.out.size))
          have HKY := Lib.hid (show Keeps (fun k => H k ∨ W.heap.size ≤ k) W Y from HK.out.trans ((below_keeps HBY.out).wide (fun k h1 h2 => by omega)))
          have HJY := Lib.hid (HJ.out _ _ _ HJP.out ((below_keeps HBY.out).wide (fun k h1 h2 => by omega)))
          have HGY := Lib.hid ((HBY.out.block _ hgl).trans HG.out)
          have HMY := Lib.hid (HM.out.keeps HKY.out (fun h => h.elim HH.out.2 (fun h => by omega)) (fun k hk h => h.elim (HH.out.1 k hk) (fun h => by have := HS.out k hk; omega)))
          have hrb : W.heap.size ≠ wr.heap.size := by omega
          have hrY : wr.heap.size < Y.heap.size := (Array.getElem?_eq_some_iff.1 HYX.out).1
          have hgY : W.heap.size < Y.heap.size := (Array.getElem?_eq_some_iff.1 HGY.out).1
          have e0 : Y.cell? ⟨cb, 0, none⟩ = some (.slice (some ⟨lb, lo, none⟩) ls.length lc) := mem_cells HMY.out.box 0
          clear l1 n1 b0 y0 y1 y2 y3 y4 hnj2 hjl2 hlb hyb hcb2 HYB HBY hgl2 hrow hrc hxl2 HBS HG2 HM2 HB2 HMr HG HJP HK
          generalize wr.heap.size = rb at *
          generalize hrr : (⟨⟨g2, e2, k2, v2⟩, gr2⟩ : RecS) = r at *
          have HST := Lib.hid (fun (i : Nat) (hi : i < ls.length) (hs : i < (stepN recC r ls nx).length) => stepN_at (c := recC) (r := r) hnl hi hs)
          have hsl := stepN_len (c := recC) (r := r) (ls := ls) hnl
          generalize stepN recC r ls nx = sn at *
          have hsn : sn.length = nx.length := by omega
          gi_wp2
          gi_loopw [70] (fun iv w3 => ∃ i : Nat, i ≤ ls.length ∧ iv = .int .i64 i ∧ Hid (w3.heap[W.heap.size]? = some (.cells (nxCells (mixN sn nx i)) 3 (0, 0))) ∧ Hid (Keeps (fun k => k = W.heap.size ∨ Y.heap.size ≤ k) Y w3)) (fun iv _ => ls.length - (intOf iv).toNat)
          case atStart => exact ⟨0, Nat.zero_le _, rfl, HGY, Lib.hid (Keeps.refl _ _)⟩
          case round =>
            obtain ⟨i, hi, rfl, HG3, HK3⟩ := hrel
            by_cases hlt : i < ls.length
            · have HM3 := Lib.hid (HMY.out.keeps HK3.out (by omega) (fun k hk h => by have h1 := HS.out k hk; omega))
              have HX3 := Lib.hid ((HK3.out.block _ hrY (by omega)).trans HYX.out)
              obtain ⟨lb3, lo3, e3, hat⟩ := slice_at HM3.out.rd hlt
              simp only [Option.some.injEq, Addr.mk.injEq, and_true] at e3
              obtain ⟨rfl, rfl⟩ := e3
              obtain ⟨rv, hc, hrow⟩ := slice_cell hat
              obtain ⟨ra, rc3, rfl, hrc3, hrm, hrow⟩ := slice_form hrow
              have hcr3 : rc3 ≤ 9223372036854775807 := by unfold maxLen at hrm; exact hrm
              have hnx : i < nx.length := by omega
              have l0 : wr.cell? ⟨lb, lo + i, none⟩ = some (.slice ra ls[i].length rc3) := by have := Mem.on_le _ _ _ _ _ hc; simpa [tRecS, tSlice, mem] using this
              have hml := mixN_len hsn i (by omega)
              have n0 : wr.cell? ⟨W.heap.size, i, none⟩ = some (.int .i64 nx[i]) := by
                rw [← mixN_get hsn hnx (by omega)]; exact nx_at HG3.out (by omega)
              have zz := frozen_cells HG3.out i
              have hxl := HN2.out _ (List.getElem_mem hlt)
              have HSI := Lib.hid (HST.out i hlt (by omega))
              have his : i < sn.length := by omega
              have HSM := Lib.hid (fun (h : sn[i] = nx[i]) => mixN_same hsn hnx his h)
              have HSS := Lib.hid (mixN_set hsn hnx his)
              by_cases hne : nx[i] < ls[i].length
              · have hne2 : ((nx[i] : Nat) : Int) < (ls[i].length : Int) := by omega
                have hd1 : decide ((nx[i] : Int) < (ls[i].length : Int)) = true := decide_eq_true hne2
                obtain ⟨xb, xo, rfl, ⟨p0, p1, p2, p3, -⟩, -⟩ := recs_at (tRecSs.mono _ _ _ _ (Mem.on_le _ _) hrow) hne
                have HPL := Lib.hid (fun w => slabPlace_any ls[i][nx[i]].e ⟨g2, e2, k2, v2⟩ w)
                rw [List.getElem?_eq_getElem hne] at HSI
                simp only at HSI
                have HCC := Lib.hid (show recC ls[i][nx[i]] r = placeC ls[i][nx[i]].e ⟨g2, e2, k2, v2⟩ by rw [← hrr]; rfl)
                rw [HCC.out] at HSI
                clear HCC hat hc hrow hrm
                have hw : IntKind.i64.wrap ((nx[i] : Int) + 1) = ((nx[i] + 1 : Nat) : Int) := by rw [IntWalk.i64_in _ (by omega)]; rfl
                generalize ls[i][nx[i]] = qi at *
                generalize ls[i] = row at *
                generalize sn[i] = si at *
                generalize nx[i] = ni at *
                obtain ⟨⟨g1, e1, k1, v1⟩, gr1⟩ := qi
                simp only at p0 p1 p2 p3 HPL HSI
                generalize placeC ⟨g1, e1, k1, v1⟩ ⟨g2, e2, k2, v2⟩ = c at *
                have x0 : wr.cell? ⟨xb, xo + ni * 5, none⟩ = some (.int .i64 g1) := p0
                have x1 : wr.cell? ⟨xb, xo + ni * 5 + 1, none⟩ = some (.string e1) := p1
                have x2 : wr.cell? ⟨xb, xo + ni * 5 + 2, none⟩ = some (.string k1) := p2
                have x3 : wr.cell? ⟨xb, xo + ni * 5 + 3, none⟩ = some (.string v1) := p3
                have y0 : wr.cell? ⟨rb, 0, none⟩ = some (.int .i64 g2) := mem_cells HX3.out 0
                have y1 : wr.cell? ⟨rb, 1, none⟩ = some (.string e2) := mem_cells HX3.out 1
                have y2 : wr.cell? ⟨rb, 2, none⟩ = some (.string k2) := mem_cells HX3.out 2
                have y3 : wr.cell? ⟨rb, 3, none⟩ = some (.string v2) := mem_cells HX3.out 3
                clear p0 p1 p2 p3
                gi_wp2
                have hb0 : Below wr.heap.size wr wr.drew := (Below.refl _ _).drew
                have HKP := Lib.hid (fun (w' : World) (hb : Below wr.heap.size wr w') => (show (w'.cell? ⟨W.heap.size, i, none⟩ = some (.int .i64 ni) ∧ (w'.cell? ⟨xb, xo + ni * 5, none⟩ = some (.int .i64 g1) ∧ w'.cell? ⟨xb, xo + ni * 5 + 1, none⟩ = some (.string e1) ∧ w'.cell? ⟨xb, xo + ni * 5 + 2, none⟩ = some (.string k1) ∧ w'.cell? ⟨xb, xo + ni * 5 + 3, none⟩ = some (.string v1)) ∧ (w'.cell? ⟨rb, 0, none⟩ = some (.int .i64 g2) ∧ w'.cell? ⟨rb, 1, none⟩ = some (.string e2) ∧ w'.cell? ⟨rb, 2, none⟩ = some (.string k2) ∧ w'.cell? ⟨rb, 3, none⟩ = some (.string v2))) from
                  ⟨below_mem hb _ _ _ n0, ⟨below_mem hb _ _ _ x0, below_mem hb _ _ _ x1, below_mem hb _ _ _ x2, below_mem hb _ _ _ x3⟩, below_mem hb _ _ _ y0, below_mem hb _ _ _ y1, below_mem hb _ _ _ y2, below_mem hb _ _ _ y3⟩))
                refine (wpIn_wide (n := 0)).2 ?_
                go_region_held3 (fun w' => (w'.cell? ⟨W.heap.size, i, none⟩ = some (.int .i64 ni) ∧ (w'.cell? ⟨xb, xo + ni * 5, none⟩ = some (.int .i64 g1) ∧ w'.cell? ⟨xb, xo + ni * 5 + 1, none⟩ = some (.string e1) ∧ w'.cell? ⟨xb, xo + ni * 5 + 2, none⟩ = some (.string k1) ∧ w'.cell? ⟨xb, xo + ni * 5 + 3, none⟩ = some (.string v1)) ∧ (w'.cell? ⟨rb, 0, none⟩ = some (.int .i64 g2) ∧ w'.cell? ⟨rb, 1, none⟩ = some (.string e2) ∧ w'.cell? ⟨rb, 2, none⟩ = some (.string k2) ∧ w'.cell? ⟨rb, 3, none⟩ = some (.string v2))))
                  (first | with_reducible exact HKP.out _ hb0 | with_reducible exact HKP.out _ hb4)
                  ((go_at_call 59; refine (HPL.out _).mono ?_; rintro e w4 ⟨rfl, hb⟩; have hb4 := pure_trans hb0 hb; clear hb))
                have HG4 := Lib.hid ((hb4.block _ (Array.getElem?_eq_some_iff.1 HG3.out).1).trans HG3.out)
                have HK4 := Lib.hid (HK3.out.trans ((below_keeps hb4).wide (fun k h1 h2 => by omega)) |>.wide (fun k _ h => h))
                have n4 : w4.cell? ⟨W.heap.size, i, none⟩ = some (.int .i64 ni) := below_mem hb4 _ _ _ n0
                have z4 := frozen_cells HG4.out i
                rename_i hHeld
                clear hHeld hb4 hb0 HKP HPL HG3 HK3 n0 zz x0 x1 x2 x3 y0 y1 y2 y3
                by_cases hcz : c = 0
                · rw [if_pos hcz] at HSI
                  have hcd : (c == 0) = true := by simp [hcz]
                  have hie : (i : Int) < (ls.length : Int) := by omega
                  have HG5 := Lib.hid (show (w4.setCell ⟨W.heap.size, i, none⟩ (.int .i64 ((ni + 1 : Nat) : Int))).heap[W.heap.size]? = some (.cells (nxCells (mixN sn nx (i + 1))) 3 (0, 0)) by
                    rw [← HSS.out, HSI.out]; exact nx_set HG4.out i (ni + 1))
                  have HK5 := Lib.hid (HK4.out.setCell (p := ⟨W.heap.size, i, none⟩) (fun _ => .inl rfl) (.int .i64 ((ni + 1 : Nat) : Int)))
                  clear HSS HSI HSM
                  gi_wp2
                  go_roundw
                  case rel => exact ⟨i + 1, by omega, by go_num, HG5, HK5⟩
                  case measure => simp [intOf]; omega
                · rw [if_neg hcz] at HSI
                  have hcd : (c == 0) = false := by simp [hcz]
                  have HG5 := Lib.hid (show w4.heap[W.heap.size]? = some (.cells (nxCells (mixN sn nx (i + 1))) 3 (0, 0)) by rw [← HSM.out HSI.out]; exact HG4.out)
                  clear HSS HSI HSM
                  gi_wp2
                  go_roundw
                  case rel => exact ⟨i + 1, by omega, by go_num, HG5, HK4⟩
                  case measure => simp [intOf]; omega
              · have hd1 : decide ((nx[i] : Int) < (ls[i].length : Int)) = false := decide_eq_false (by omega)
                rw [List.getElem?_eq_none (by omega)] at HSI
                simp only at HSI
                have HG4 := Lib.hid (show wr.heap[W.heap.size]? = some (.cells (nxCells (mixN sn nx (i + 1))) 3 (0, 0)) by rw [← HSM.out HSI.out]; exact HG3.out)
                clear hat hc hrow hrm HSI HSM HSS
                generalize ls[i] = row at *
                generalize nx[i] = ni at *
                gi_wp2
                refine (wpIn_wide (n := 0)).2 ?_
                go_quiet (fail)
                all_goals
                  gi_wp2
                  go_roundw
                  case rel => exact ⟨i + 1, by omega, by go_num, HG4, Lib.hid (HK3.out.drewN _)⟩
                  case measure => simp [intOf]; omega
            · obtain rfl : i = ls.length := by omega
              have HG4 := Lib.hid (show wr.heap[W.heap.size]? = some (.cells (nxCells sn) 3 (0, 0)) by rw [← mixN_all hsn, hnl]; exact HG3.out)
              have HX3 := Lib.hid ((HK3.out.block _ hrY (by omega)).trans HYX.out)
              have HJ3 := Lib.hid (HJ.out _ _ _ HJY.out (HK3.out.wide (fun k h1 h2 => by
                rcases h2 with h2 | h2
                · subst h2; exact ⟨Nat.le_refl _, .inr ⟨_, HGY.out, by unfold okI; simp⟩⟩
                · exact ⟨by omega, .inl h2⟩)))
              have HK4 := Lib.hid (show Keeps (fun k => H k ∨ W.heap.size ≤ k) W wr from HKY.out.trans (HK3.out.wide (fun k h1 h2 => .inr (by omega))))
              have y0 : wr.cell? ⟨rb, 0, none⟩ = some (.int .i64 g2) := mem_cells HX3.out 0
              have y1 : wr.cell? ⟨rb, 1, none⟩ = some (.string e2) := mem_cells HX3.out 1
              have y2 : wr.cell? ⟨rb, 2, none⟩ = some (.string k2) := mem_cells HX3.out 2
              have y3 : wr.cell? ⟨rb, 3, none⟩ = some (.string v2) := mem_cells HX3.out 3
              have y4 : wr.cell? ⟨rb, 4, none⟩ = some (.bool gr2) := mem_cells HX3.out 4
              have HYI := Lib.hid (HY.out pre r (mergeC recC (restL ls sn)) wr (by rw [HP.out, HYD.out]) HJ3.out)
              have HP2 := Lib.hid (show mergeC recC ls = (pre ++ [r]) ++ mergeC recC (restL ls sn) by rw [HP.out, HYD.out]; simp)
              have HLT := Lib.hid (show (mergeC recC (restL ls sn)).length < (mergeC recC (restL ls nx)).length by rw [HYD.out]; simp)
              have HNX := Lib.hid (nxOf_at HG4.out)
              clear HG3 HK3 HST HJY HKY HYX HGY HMY HYD
              rw [← hrr] at HYI
              obtain ⟨fn, tmps, assign, body, hy, hR⟩ := HYI.out
              gi_wp2
              refine ⟨rfl, hR.mono ?_⟩
              rintro e w6 ⟨rfl, hJ6, hkB, hkH⟩
              rw [hrr] at hJ6
              have HG6 := Lib.hid (hkB.same _ _ HG4.out (by unfold okI; simp))
              have HK6 := Lib.hid (show Keeps (fun k => H k ∨ W.heap.size ≤ k) W w6 from HK4.out.trans (hkH.wide (fun k _ h => .inl h)))
              have HJ6 := Lib.hid hJ6
              have HN6 := Lib.hid (nxOf_at HG6.out)
              clear hJ6 hkB hkH hR hy HYI
              gi_wp2
              go_roundw
              case rel => exact ⟨sn, pre ++ [r], hsl, HP2, HJ6, HG6, HK6⟩
              case measure =>
                rw [HN6.out, HNR.out]; exact HLT.out
end Go.Proofs.Ytjenfhkikbndmaa
/- package slab: newest (for chapter 14). -/
namespace Go.Proofs.Ytjenfhkikbndmaa
open Go.RowKit

theorem store5S {w : World} {g : Nat} {a b c d e : Value} {t : TypeId} {f : Nat × Nat} (h : w.heap[g]? = some (.cells #[a, b, c, d, e] t f)) (v0 v1 v2 v3 v4 : Value) :
    (((((w.setCell ⟨g, 0, none⟩ v0).setCell ⟨g, 1, none⟩ v1).setCell ⟨g, 2, none⟩ v2).setCell ⟨g, 3, none⟩ v3).setCell ⟨g, 4, none⟩ v4).heap[g]? = some (.cells #[v0, v1, v2, v3, v4] t f) :=
  setS (setS (setS (setS (setS h))))
/-- All lists of a slab, the newest first. -/
def LS.lists (s : LS) : List (List RecS) := s.table :: s.lv.flatten.map s.rc
theorem listsD_eq (s : LS) : listsD s.table (s.lv.map fun x => x.map (runD s)) = s.lists := by
  unfold listsD LS.lists
  congr 1
  rw [← List.map_flatten, List.map_map]
  rfl
/-- What a slab's lists must be, so that they can be gone through. -/
structure LS.Fit (s : LS) : Prop where
  asc : ∀ l ∈ s.lists, AscC recC l
  len : ∀ l ∈ s.lists, l.length ≤ 1000000000
  kept : ∀ x ∈ s.lv, ∀ n ∈ x, n ∈ s.kept
  n1 : s.lv.length ≤ 1000000000
  n2 : s.lv.flatten.length ≤ 1000000000
  n3 : ∀ x ∈ s.lv, x.length ≤ 1000000000
theorem LS.Fit.ns {s : LS} (h : s.Fit) : (s.lv.map fun x => x.map (runD s)).length ≤ 1000000000 ∧ (s.lv.map fun x => x.map (runD s)).flatten.length ≤ 1000000000 ∧ ∀ x ∈ s.lv.map (fun x => x.map (runD s)), x.length ≤ 1000000000 :=
  ⟨by rw [List.length_map]; exact h.n1, by rw [← List.map_flatten, List.length_map]; exact h.n2, fun x hx => by obtain ⟨y, hy, rfl⟩ := List.mem_map.1 hx; rw [List.length_map]; exact h.n3 y hy⟩
theorem find_none {l : List RecS} {x : Ent} {i : Nat} (h : Srch recC l ⟨x, false⟩ i i) : l.find? (fun y => decide (recC y ⟨x, false⟩ = 0)) = none := by
  rw [List.find?_eq_none]
  intro y hy
  obtain ⟨j, hj, rfl⟩ := List.getElem_of_mem hy
  have h1 := h.lo j hj
  have h2 := h.hi j hj
  simp only [decide_eq_true_eq]
  intro e
  by_cases c : j < i
  · have := h1 c; omega
  · have := h2 (by omega); omega
def recZ : RecS := ⟨⟨0, ⟨#[]⟩, ⟨#[]⟩, ⟨#[]⟩⟩, false⟩
theorem lk_stop {ls : List (List RecS)} {x : Ent} {i j : Nat} (hi : i < ls.length) (h0 : ∀ k, (h : k < ls.length) → k < i → ls[k].find? (fun y => decide (recC y ⟨x, false⟩ = 0)) = none) (ha : AscC recC ls[i]) (hj : j < ls[i].length) (he : placeC ls[i][j].e x = 0) :
    lkC recC ls ⟨x, false⟩ = some ls[i][j] := by
  unfold lkC
  have h2 : ls[i].find? (fun y => decide (recC y ⟨x, false⟩ = 0)) = some ls[i][j] := (find_asc recC_good ha).2 ⟨List.getElem_mem hj, he⟩
  conv => lhs; rw [← List.take_append_drop i ls]
  rw [List.findSome?_append, List.findSome?_eq_none_iff.2, Option.none_or, List.drop_eq_getElem_cons hi, List.findSome?_cons, h2]
  intro l hl
  obtain ⟨k, hk, rfl⟩ := List.getElem_of_mem hl
  rw [List.length_take] at hk
  rw [List.getElem_take]
  exact h0 k (by omega) (by omega)
theorem lk_none {ls : List (List RecS)} {x : Ent} (h0 : ∀ k, (h : k < ls.length) → ls[k].find? (fun y => decide (recC y ⟨x, false⟩ = 0)) = none) : lkC recC ls ⟨x, false⟩ = none := by
  unfold lkC
  rw [List.findSome?_eq_none_iff]
  intro l hl
  obtain ⟨k, hk, rfl⟩ := List.getElem_of_mem hl
  exact h0 k hk
set_option maxRecDepth 100000 in
set_option maxHeartbeats 4000000 in
theorem newest_any {base p : Nat} {r : HL} (x : Ent) (W : World) (hI : LInv W base p r) (ht : r.tc = r.tv) (hf : r.s.Fit) :
    Calls Try.prog 22 #[ptrS p, x.v] W fun e w' => e = .returned (.tuple #[((lkC recC r.s.lists ⟨x, false⟩).getD recZ).v, .bool (lkC recC r.s.lists ⟨x, false⟩).isSome]) ∧ Below W.heap.size W w' := by
  have hlc := hI.curD hf.kept
  have HLS := Lib.hid (fun w (hb : Below W.heap.size W w) => lists_any (ptrS p) r.s.table (r.s.lv.map fun x => x.map (runD r.s)) r.tv r.lvv w (tRecSs.mono _ _ _ _ (below_mem hb) hI.tb.rv') (tLevD.mono _ _ _ _ (below_mem hb) hlc) hf.ns)
  rw [listsD_eq] at HLS
  have HA := Lib.hid hf.asc
  have HN := Lib.hid hf.len
  have HC := Lib.hid (fun w (hb : Below W.heap.size W w) => (show w.cell? ⟨p, 4, none⟩ = some r.tv ∧ w.cell? ⟨p, 5, none⟩ = some r.lvv from ⟨by rw [← ht]; exact mem_cells (hI.pure hb).hb 4, mem_cells (hI.pure hb).hb 5⟩))
  have hL1 : r.s.lists.length ≤ 1000000001 := by unfold LS.lists; rw [List.length_cons, List.length_map]; have := hf.n2; omega
  clear hlc hI hf ht
  generalize r.s.lists = ls at *
  generalize r.tv = tv at *
  generalize r.lvv = lvv at *
  have HLK := Lib.hid (fun (i j : Nat) (hi : i < ls.length) h0 ha hj he => lk_stop (x := x) (i := i) (j := j) hi h0 ha hj he)
  have HLN := Lib.hid (fun h0 => lk_none (ls := ls) (x := x) h0)
  generalize lkC recC ls ⟨x, false⟩ = A at *
  obtain ⟨g2, n2, k2, v2⟩ := x
  go_enter Try.func22, Try.ntmps22
  go_wp2_with fail
  have hb00 : Below W.heap.size W ((W.alloc (.cells #[.int .i64 g2, .string n2, .string k2, .string v2] 52)).alloc (.cells #[.int .i64 0, .string ⟨#[]⟩, .string ⟨#[]⟩, .string ⟨#[]⟩, .bool false] 54)) := ((Below.refl _ W).alloc (Nat.le_refl _) _).alloc (by simp) _
  have hx0 : ((W.alloc (.cells #[.int .i64 g2, .string n2, .string k2, .string v2] 52)).alloc (.cells #[.int .i64 0, .string ⟨#[]⟩, .string ⟨#[]⟩, .string ⟨#[]⟩, .bool false] 54)).heap[W.heap.size]? = some (.cells #[.int .i64 g2, .string n2, .string k2, .string v2] 52 (0, 0)) := (Below.heap_alloc _ _ _ (by simp)).trans (heap_alloc_new W _)
  have hx1 : ((W.alloc (.cells #[.int .i64 g2, .string n2, .string k2, .string v2] 52)).alloc (.cells #[.int .i64 0, .string ⟨#[]⟩, .string ⟨#[]⟩, .string ⟨#[]⟩, .bool false] 54)).heap[W.heap.size + 1]? = some (.cells #[.int .i64 0, .string ⟨#[]⟩, .string ⟨#[]⟩, .string ⟨#[]⟩, .bool false] 54 (0, 0)) := by
    have := heap_alloc_new (W.alloc (.cells #[.int .i64 g2, .string n2, .string k2, .string v2] 52)) (.cells #[.int .i64 0, .string ⟨#[]⟩, .string ⟨#[]⟩, .string ⟨#[]⟩, .bool false] 54)
    rwa [World.size_alloc] at this
  generalize (W.alloc (.cells #[.int .i64 g2, .string n2, .string k2, .string v2] 52)).alloc (.cells #[.int .i64 0, .string ⟨#[]⟩, .string ⟨#[]⟩, .string ⟨#[]⟩, .bool false] 54) = X at *
  have HX0 := Lib.hid hx0
  have HX1 := Lib.hid hx1
  have HBX := Lib.hid hb00
  have HCX := Lib.hid (fun (w : World) (hb : Below X.heap.size X w) => HC.out w (pure_trans hb00 hb))
  have HLX := Lib.hid (fun (w : World) (hb : Below X.heap.size X w) => HLS.out w (pure_trans hb00 hb))
  have hb0 : Below X.heap.size X X.drew := (Below.refl _ X).drew
  obtain ⟨c4, c5⟩ := HCX.out X (Below.refl _ _)
  clear HC HLS hx0 hx1 hb00
  go_region_held3 (fun w' => w'.cell? ⟨p, 4, none⟩ = some tv ∧ w'.cell? ⟨p, 5, none⟩ = some lvv)
    (first | with_reducible exact HCX.out _ hb0 | with_reducible exact HCX.out _ hb4)
    ((go_at_call 34; refine (HLX.out _ hb0).mono ?_; rintro e w4 ⟨la, lc, rfl, hl, hb⟩; have hb4 := pure_trans hb0 hb; clear hb))
  rename_i hHeld
  clear hHeld c4 c5 hb0 HCX HLX
  obtain ⟨-, hlc0, hlm⟩ := slice_len hl
  have hlc1 : lc ≤ 9223372036854775807 := by unfold maxLen at hlm; exact hlm
  have HL := Lib.hid hl
  have HB4 := Lib.hid (pure_trans HBX.out hb4)
  have HX4 := Lib.hid ((hb4.block _ (Array.getElem?_eq_some_iff.1 HX0.out).1).trans HX0.out)
  have HZ4 := Lib.hid ((hb4.block _ (Array.getElem?_eq_some_iff.1 HX1.out).1).trans HX1.out)
  clear hl hb4 hlm HX0 HX1 HBX
  go_wp2_with fail
  go_loopw [21] (fun iv wr => ∃ i : Nat, i ≤ ls.length ∧ iv = .int .i64 i ∧ Hid (∀ k, (h : k < ls.length) → k < i → ls[k].find? (fun y => decide (recC y ⟨⟨g2, n2, k2, v2⟩, false⟩ = 0)) = none) ∧ Hid (Below w4.heap.size w4 wr)) (fun iv _ => ls.length - (intOf iv).toNat)
  case atStart => exact ⟨0, Nat.zero_le _, rfl, Lib.hid (fun k _ h => absurd h (by omega)), Lib.hid (Below.refl _ _)⟩
  case round =>
    obtain ⟨i, hi, rfl, HF, HB⟩ := hrel
    by_cases hlt : i < ls.length
    · obtain ⟨lb, lo, e, hat⟩ := slice_at HL.out hlt
      subst e
      obtain ⟨rv, hc, hrow⟩ := slice_cell hat
      obtain ⟨ra, rc, rfl, hrc, hrm, hrow⟩ := slice_form hrow
      have c0 : wr.cell? ⟨lb, lo + i, none⟩ = some (.slice ra ls[i].length rc) := below_mem HB.out _ _ _ (by simpa [tRecS, tSlice, mem] using hc)
      have hxl := HN.out _ (List.getElem_mem hlt)
      have hax := HA.out _ (List.getElem_mem hlt)
      have HXW := Lib.hid ((HB.out.block _ (Array.getElem?_eq_some_iff.1 HX4.out).1).trans HX4.out)
      have HZW := Lib.hid ((HB.out.block _ (Array.getElem?_eq_some_iff.1 HZ4.out).1).trans HZ4.out)
      have x0 : wr.cell? ⟨W.heap.size, 0, none⟩ = some (.int .i64 g2) := mem_cells HXW.out 0
      have x1 : wr.cell? ⟨W.heap.size, 1, none⟩ = some (.string n2) := mem_cells HXW.out 1
      have x2 : wr.cell? ⟨W.heap.size, 2, none⟩ = some (.string k2) := mem_cells HXW.out 2
      have x3 : wr.cell? ⟨W.heap.size, 3, none⟩ = some (.string v2) := mem_cells HXW.out 3
      have hcr : rc ≤ 9223372036854775807 := by unfold maxLen at hrm; exact hrm
      have HR := Lib.hid hrow
      have HFD := Lib.hid (slabFind_any ls[i] ⟨g2, n2, k2, v2⟩ (.slice ra ls[i].length rc) wr (tRecSs.mono _ _ _ _ (below_mem HB.out) hrow) hax hxl)
      have HHIT := Lib.hid (fun j (hj : j < ls[i].length) he => HLK.out i j hlt HF.out hax hj he)
      have HMISS := Lib.hid (fun (h : ls[i].find? (fun y => decide (recC y ⟨⟨g2, n2, k2, v2⟩, false⟩ = 0)) = none) => (show ∀ k, (h : k < ls.length) → k < i + 1 → ls[k].find? (fun y => decide (recC y ⟨⟨g2, n2, k2, v2⟩, false⟩ = 0)) = none from
        fun k hk hki => by by_cases e : k = i; (subst e; exact h); exact HF.out k hk (by omega)))
      clear hat hc hrow hrm hax
      generalize ls[i] = row at *
      go_wp2_with fail
      refine HFD.out.mono ?_
      rintro e w5 ⟨j, is, rfl, hb5, hfa⟩
      have HB5 := Lib.hid (HB.out.trans (hb5.mono HB.out.size))
      have HZ5 := Lib.hid ((hb5.block _ (Array.getElem?_eq_some_iff.1 HZW.out).1).trans HZW.out)
      have HFA := Lib.hid hfa
      clear hfa HFD x0 x1 x2 x3 c0
      cases is with
      | false =>
        have HF2 := Lib.hid (HMISS.out (by
          rcases HFA.out with ⟨h, _⟩ | ⟨_, h⟩
          · cases h
          · exact find_none h))
        clear hb5 HFA HHIT HMISS
        go_wp2
        go_roundw
        case rel => exact ⟨i + 1, by omega, by go_num, HF2, HB5⟩
        case measure => simp [intOf]; omega
      | true =>
        obtain ⟨hj, he⟩ : ∃ h : j < row.length, placeC row[j].e ⟨g2, n2, k2, v2⟩ = 0 := by
          rcases HFA.out with ⟨_, h, e⟩ | ⟨h, _⟩
          · exact ⟨h, e⟩
          · cases h
        have HAE := Lib.hid (HHIT.out j hj he)
        have hrow5 := tRecSs.mono _ _ _ _ (below_mem (HB5.out)) HR.out
        obtain ⟨rb, ro, rfl, ⟨q0, q1, q2, q3, q4⟩, -⟩ := recs_at hrow5 hj
        have y0 : w5.cell? ⟨rb, ro + j * 5, none⟩ = some (.int .i64 row[j].e.g) := q0
        have y1 : w5.cell? ⟨rb, ro + j * 5 + 1, none⟩ = some (.string row[j].e.nm) := q1
        have y2 : w5.cell? ⟨rb, ro + j * 5 + 2, none⟩ = some (.string row[j].e.key) := q2
        have y3 : w5.cell? ⟨rb, ro + j * 5 + 3, none⟩ = some (.string row[j].e.val) := q3
        have y4 : w5.cell? ⟨rb, ro + j * 5 + 4, none⟩ = some (.bool row[j].grave) := q4
        clear hrow5 q0 q1 q2 q3 q4 HFA HHIT HMISS hb5
        generalize row[j] = rr at *
        obtain ⟨⟨g1, n1, k1, v1⟩, gr⟩ := rr
        simp only at y0 y1 y2 y3 y4
        have z0 := frozen_cells HZ5.out 0
        have z1 := frozen_cells HZ5.out 1
        have z2 := frozen_cells HZ5.out 2
        have z3 := frozen_cells HZ5.out 3
        have z4 := frozen_cells HZ5.out 4
        have s0 : w5.cell? ⟨W.heap.size + 1, 0, none⟩ = some (.int .i64 0) := mem_cells HZ5.out 0
        have s1 : w5.cell? ⟨W.heap.size + 1, 1, none⟩ = some (.string ⟨#[]⟩) := mem_cells HZ5.out 1
        have s2 : w5.cell? ⟨W.heap.size + 1, 2, none⟩ = some (.string ⟨#[]⟩) := mem_cells HZ5.out 2
        have s3 : w5.cell? ⟨W.heap.size + 1, 3, none⟩ = some (.string ⟨#[]⟩) := mem_cells HZ5.out 3
        have s4 : w5.cell? ⟨W.heap.size + 1, 4, none⟩ = some (.bool false) := mem_cells HZ5.out 4
        have HBE := Lib.hid (show Below W.heap.size W (((((w5.setCell ⟨W.heap.size + 1, 0, none⟩ (.int .i64 g1)).setCell ⟨W.heap.size + 1, 1, none⟩ (.string n1)).setCell ⟨W.heap.size + 1, 2, none⟩ (.string k1)).setCell ⟨W.heap.size + 1, 3, none⟩ (.string v1)).setCell ⟨W.heap.size + 1, 4, none⟩ (.bool gr)) from
          (((((pure_trans HB4.out HB5.out).setCell (by simp) _).setCell (by simp) _).setCell (by simp) _).setCell (by simp) _).setCell (by simp) _)
        have hz := store5S HZ5.out (.int .i64 g1) (.string n1) (.string k1) (.string v1) (.bool gr)
        go_wp2_with fail
        generalize ((((w5.setCell ⟨W.heap.size + 1, 0, none⟩ (.int .i64 g1)).setCell ⟨W.heap.size + 1, 1, none⟩ (.string n1)).setCell ⟨W.heap.size + 1, 2, none⟩ (.string k1)).setCell ⟨W.heap.size + 1, 3, none⟩ (.string v1)).setCell ⟨W.heap.size + 1, 4, none⟩ (.bool gr) = Z at *
        have g0 : Z.cell? ⟨W.heap.size + 1, 0, none⟩ = some (.int .i64 g1) := mem_cells hz 0
        have g1' : Z.cell? ⟨W.heap.size + 1, 1, none⟩ = some (.string n1) := mem_cells hz 1
        have g2' : Z.cell? ⟨W.heap.size + 1, 2, none⟩ = some (.string k1) := mem_cells hz 2
        have g3 : Z.cell? ⟨W.heap.size + 1, 3, none⟩ = some (.string v1) := mem_cells hz 3
        have g4 : Z.cell? ⟨W.heap.size + 1, 4, none⟩ = some (.bool gr) := mem_cells hz 4
        (try simp only [Exit.inBlock, Exit.then])
        refine bodyPost_ret (v := .tuple #[RecS.v ⟨⟨g1, n1, k1, v1⟩, gr⟩, .bool true]) (by simp [results, Try.results22, go_sem, g0, g1', g2', g3, g4, recZ]; try rfl) rfl ?_
        exact ⟨by rw [HAE.out]; rfl, HBE.out⟩
    · obtain rfl : i = ls.length := by omega
      obtain rfl := HLN.out (fun k h => HF.out k h h)
      have HZ5 := Lib.hid ((HB.out.block _ (Array.getElem?_eq_some_iff.1 HZ4.out).1).trans HZ4.out)
      have z0 := frozen_cells HZ5.out 0
      have z1 := frozen_cells HZ5.out 1
      have z2 := frozen_cells HZ5.out 2
      have z3 := frozen_cells HZ5.out 3
      have z4 := frozen_cells HZ5.out 4
      have s0 : wr.cell? ⟨W.heap.size + 1, 0, none⟩ = some (.int .i64 0) := mem_cells HZ5.out 0
      have s1 : wr.cell? ⟨W.heap.size + 1, 1, none⟩ = some (.string ⟨#[]⟩) := mem_cells HZ5.out 1
      have s2 : wr.cell? ⟨W.heap.size + 1, 2, none⟩ = some (.string ⟨#[]⟩) := mem_cells HZ5.out 2
      have s3 : wr.cell? ⟨W.heap.size + 1, 3, none⟩ = some (.string ⟨#[]⟩) := mem_cells HZ5.out 3
      have s4 : wr.cell? ⟨W.heap.size + 1, 4, none⟩ = some (.bool false) := mem_cells HZ5.out 4
      have HBE := Lib.hid (show Below W.heap.size W (((((wr.setCell ⟨W.heap.size + 1, 0, none⟩ (.int .i64 0)).setCell ⟨W.heap.size + 1, 1, none⟩ (.string ⟨#[]⟩)).setCell ⟨W.heap.size + 1, 2, none⟩ (.string ⟨#[]⟩)).setCell ⟨W.heap.size + 1, 3, none⟩ (.string ⟨#[]⟩)).setCell ⟨W.heap.size + 1, 4, none⟩ (.bool false)) from
          (((((pure_trans HB4.out HB.out).setCell (by simp) _).setCell (by simp) _).setCell (by simp) _).setCell (by simp) _).setCell (by simp) _)
      have hz := store5S HZ5.out (.int .i64 0) (.string ⟨#[]⟩) (.string ⟨#[]⟩) (.string ⟨#[]⟩) (.bool false)
      go_wp2_with fail
      generalize ((((wr.setCell ⟨W.heap.size + 1, 0, none⟩ (.int .i64 0)).setCell ⟨W.heap.size + 1, 1, none⟩ (.string ⟨#[]⟩)).setCell ⟨W.heap.size + 1, 2, none⟩ (.string ⟨#[]⟩)).setCell ⟨W.heap.size + 1, 3, none⟩ (.string ⟨#[]⟩)).setCell ⟨W.heap.size + 1, 4, none⟩ (.bool false) = Z at *
      have g0 : Z.cell? ⟨W.heap.size + 1, 0, none⟩ = some (.int .i64 0) := mem_cells hz 0
      have g1' : Z.cell? ⟨W.heap.size + 1, 1, none⟩ = some (.string ⟨#[]⟩) := mem_cells hz 1
      have g2' : Z.cell? ⟨W.heap.size + 1, 2, none⟩ = some (.string ⟨#[]⟩) := mem_cells hz 2
      have g3 : Z.cell? ⟨W.heap.size + 1, 3, none⟩ = some (.string ⟨#[]⟩) := mem_cells hz 3
      have g4 : Z.cell? ⟨W.heap.size + 1, 4, none⟩ = some (.bool false) := mem_cells hz 4
      (try simp only [Exit.inBlock, Exit.then])
      refine bodyPost_ret (v := .tuple #[RecS.v recZ, .bool false]) (by simp [results, Try.results22, go_sem, g0, g1', g2', g3, g4, recZ]; try rfl) rfl ?_
      exact ⟨rfl, HBE.out⟩
end Go.Proofs.Ytjenfhkikbndmaa
/- package slab: merged, entries (for chapter 14). -/
namespace Go.Proofs.Ytjenfhkikbndmaa
open Go.RowKit Go.Shelf
attribute [local go_sem] Oper.semAt_some

theorem okI_loop (r : Loop) : okI (.loop r) = false := rfl
theorem merged_any (a : Option Addr) (n c : Nat) (w : World) :
    Calls Try.prog 47 #[.slice a n c] w fun e w' => e = .returned (.func (.func 60) #[] #[.pointer (some ⟨w.heap.size, 0, none⟩)]) ∧ w' = w.alloc (.cells #[.slice a n c] 77) := by
  go_enter Try.func47, Try.ntmps47
  go_wp2
  go_ret
  exact ⟨rfl, rfl⟩
theorem Owns.lowS {α : Type} {t : Ty α} {w : World} {B B' : Nat} {e : TypeId} {v : Value} {xs : List α} (h : Owns t w B e v xs) (hB : B' ≤ B) : Owns t w B' e v xs := by
  obtain ⟨css, h1, ⟨h2, h3⟩, h4, h5⟩ := h
  refine ⟨css, h1, ⟨h2, ?_⟩, h4, h5⟩
  rcases h3 with h3 | ⟨g, cap, cur, e1, hg, r⟩
  · exact .inl h3
  · exact .inr ⟨g, cap, cur, e1, Nat.le_trans hB hg, r⟩
/-- A variable with a row that grows. -/
structure AccAt {α : Type} (t : Ty α) (e T : TypeId) (vb B : Nat) (xs : List α) (W : World) : Prop where
  ex : ∃ u, W.heap[vb]? = some (.cells #[u] T (0, 0)) ∧ Owns t W B e u xs
theorem AccAt.keeps {α : Type} {t : Ty α} {e T : TypeId} {vb B : Nat} {xs : List α} {A C : World} {F : Nat → Prop} (h : AccAt t e T vb B xs A) (hf : t.flat) (hk : Keeps F A C) (h1 : ¬ F vb) (h2 : ∀ k, B ≤ k → kd A k = some e → ¬ F k) : AccAt t e T vb B xs C := by
  obtain ⟨u, c, o⟩ := h
  exact ⟨u, (hk.block _ (Array.getElem?_eq_some_iff.1 c).1 h1).trans c, o.keepsFlat hf hk (fun k hk' => h2 k (o.lt k hk').1 (kd_owns o hk'))⟩
theorem AccAt.same {α : Type} {t : Ty α} {e T : TypeId} {vb B : Nat} {xs : List α} {W3 W6 : World} {ob : Obj} {v : Value} (c : W3.heap[vb]? = some (.cells #[v] T (0, 0))) (o : Owns t W3 B e v xs) (hvb : vb < B) (hg : (W3.alloc ob).grownBy W6 v.ownBlock) : W6.heap[vb]? = some (.cells #[v] T (0, 0)) :=
  (hg.block vb (by have := (Array.getElem?_eq_some_iff.1 c).1; simp; omega) (fun h => by have := (o.lt vb h.symm).1; omega)).trans ((Below.heap_alloc _ _ _ (Array.getElem?_eq_some_iff.1 c).1).trans c)
/-- What a round that appends has changed. -/
theorem AccAt.round {α : Type} {t : Ty α} {e T : TypeId} {vb B : Nat} {xs ys : List α} {W3 W6 : World} {ob : Obj} {v v' : Value} (c : W3.heap[vb]? = some (.cells #[v] T (0, 0))) (o : Owns t W3 B e v xs) (hvb : vb < B) (hf : t.flat) (hT : (T == 3) = false) (he : (e == 3) = false) (hB : B ≤ W3.heap.size)
    (hg : (W3.alloc ob).grownBy W6 v.ownBlock) (o6 : Owns t W6 B e v' ys) :
    KeepsOthers W3 (W6.setCell ⟨vb, 0, none⟩ v') ∧ KeepsB okI W3 (W6.setCell ⟨vb, 0, none⟩ v') ∧ Keeps (fun k => k = vb ∨ B ≤ k) W3 (W6.setCell ⟨vb, 0, none⟩ v') ∧ AccAt t e T vb B ys (W6.setCell ⟨vb, 0, none⟩ v') := by
  have hset : Keeps (fun k => k = vb) W6 (W6.setCell ⟨vb, 0, none⟩ v') := (Keeps.refl (fun k => k = vb) W6).setCell (p := ⟨vb, 0, none⟩) (fun _ => rfl) _
  have K : Keeps (fun k => k = vb ∨ some k = v.ownBlock ∨ W3.heap.size ≤ k) W3 (W6.setCell ⟨vb, 0, none⟩ v') :=
    (((Keeps.refl _ W3).alloc ob).trans ((grown_keeps hg).wide (fun k _ h => .inr (.inl h)))).trans (hset.wide (fun k _ h => .inl h))
  have hk : ∀ k o', (k = vb ∨ some k = v.ownBlock ∨ W3.heap.size ≤ k) → W3.heap[k]? = some o' → ∃ cc tt, o' = .cells cc tt (0, 0) ∧ (tt == 3) = false := fun k o' h1 h2 => by
    rcases h1 with h1 | h1 | h1
    · subst h1; rw [c] at h2; cases h2; exact ⟨_, _, rfl, hT⟩
    · obtain ⟨css, g1, ⟨g2, g3⟩, -⟩ := o
      rcases g3 with ⟨rfl, _⟩ | ⟨g, cap, cur, rfl, hbg, hgg, -⟩
      · cases h1
      · cases h1; rw [hgg] at h2; cases h2; exact ⟨_, _, rfl, he⟩
    · have := (Array.getElem?_eq_some_iff.1 h2).1; omega
  refine ⟨others_of_keeps K (fun k o' h1 h2 => ?_), Keeps.kinds K (fun k o' h1 h2 => ?_), K.wide (fun k _ h => ?_), ⟨v', setC_block (AccAt.same c o hvb hg), o6.keepsFlat hf hset (fun k h e => by subst e; have := (o6.lt k h).1; omega)⟩⟩
  · obtain ⟨cc, tt, rfl, -⟩ := hk k o' h1 h2; rfl
  · obtain ⟨cc, tt, rfl, h⟩ := hk k o' h1 h2; exact h
  · rcases h with h | h | h
    · exact .inl h
    · exact .inr (o.lt k h.symm).1
    · exact .inr (by omega)
theorem infoEntS : (Try.prog.info? 52).map (fun i => (i.zero, i.size, i.bytes)) = some (some (.agg #[.int .i64 0, .string .empty, .string .empty, .string .empty]), tEnt.sz, 56) := by kernel_rfl
theorem kd_not_cells {A : World} {k : Nat} {e : TypeId} (h : kd A k = some e) : ¬ NotCells A k := fun ⟨o, h1, h2⟩ => by
  unfold kd at h
  rw [h1] at h
  cases o <;> simp_all [Obj.isCells]
theorem kd_not_ok {A : World} {k : Nat} {e : TypeId} (h : kd A k = some e) (he : (e == 3) = false) : ¬ KindIs okI A k := fun ⟨o, h1, h2⟩ => by
  unfold kd at h
  rw [h1] at h
  unfold okI at h2
  cases o <;> simp_all
/-- The entries that records tell, one more. -/
theorem told_snoc (pre : List RecS) (x : RecS) : toldE (pre ++ [x]) = toldE pre ++ (if x.grave then [] else [x.e]) := by
  unfold toldE
  rw [List.filter_append, List.map_append]
  congr 1
  cases h : x.grave <;> simp [liveR, h]
theorem told_len (l : List RecS) : (toldE l).length ≤ l.length := by unfold toldE; rw [List.length_map]; exact List.length_filter_le _ _
theorem merge_ok {ls : List (List RecS)} (h : ∀ l ∈ ls, ∀ x ∈ l, x.e.okE) (ha : ∀ l ∈ ls, AscC recC l) : ∀ x ∈ mergeC recC ls, x.e.okE := fun x hx => by
  obtain ⟨l, hl, hx⟩ := mergeC_sub recC_good ha hx
  exact h l hl x hx
theorem recs_ok {m : Mem} {v : Value} {l : List RecS} (h : tRecSs.rv m [v] l) : ∀ x ∈ l, x.e.okE := fun x hx => by
  obtain ⟨a, c, rfl, -, -, h⟩ := slice_form h
  obtain ⟨k, hk, rfl⟩ := List.getElem_of_mem hx
  obtain ⟨b, o, -, -, hok⟩ := recs_at h hk
  exact hok
theorem lists_ok {m : Mem} {v : Value} {ls : List (List RecS)} (h : (tSlice tRecSs).rv m [v] ls) : ∀ l ∈ ls, ∀ x ∈ l, x.e.okE := fun l hl => by
  obtain ⟨a, c, rfl, -, -, h⟩ := slice_form h
  obtain ⟨k, hk, rfl⟩ := List.getElem_of_mem hl
  obtain ⟨b, o, -, hat⟩ := slice_at h hk
  obtain ⟨u, -, hr⟩ := slice_cell hat
  exact recs_ok hr
set_option maxRecDepth 100000 in
set_option maxHeartbeats 8000000 in
theorem entriesS_any (ls : List (List RecS)) (lv : Value) (W : World) (hl : (tSlice tRecSs).rv (mem W) [lv] ls) (ha : ∀ l ∈ ls, AscC recC l) (h0 : 0 < ls.length) (hn : ls.length ≤ 1000000000) (hn2 : ∀ l ∈ ls, l.length ≤ 1000000000) (hm : (mergeC recC ls).length ≤ 1000000000) :
    Calls Try.prog 33 #[lv] W fun e w' => ∃ u, e = .returned u ∧ Owns tEnt w' W.heap.size 52 u (toldE (mergeC recC ls)) ∧ Below W.heap.size W w' := by
  obtain ⟨la, lc, rfl, -, -, hl⟩ := slice_form hl
  refine (callsIn_wide (n := 0)).1 (callsIn_of_wp_marks Try.func33 rfl trivial ?_ rfl)
  simp only [Try.ntmps33, List.size_toArray, List.length_cons, List.length_nil, Nat.reduceAdd, Nat.reduceSub, Array.replicate_succ, Array.replicate_zero, List.push_toArray, List.append_toArray, List.nil_append, List.cons_append]
  have B0 := Lib.hid (show (W.alloc (.cells #[.slice none 0 0] 38)).heap[W.heap.size]? = some (.cells #[.slice none 0 0] 38 (0, 0)) from heap_alloc_new W _)
  have hs1 : (W.alloc (.cells #[.slice none 0 0] 38)).heap.size = W.heap.size + 1 := by simp
  have HB1 := Lib.hid (show Below W.heap.size W (W.alloc (.cells #[.slice none 0 0] 38)) from (Below.refl _ _).alloc (Nat.le_refl _) _)
  have hl1 : (tSlice tRecSs).rv ((mem (W.alloc (.cells #[.slice none 0 0] 38))).on (· < W.heap.size)) [.slice la ls.length lc] ls := (tSlice tRecSs).mono _ _ _ _ (Mem.le_trans (mem_on_lt W) (below_memOn HB1.out)) hl
  have HOK := Lib.hid (merge_ok (lists_ok hl) ha)
  have HMG := Lib.hid (merged_any la ls.length lc (W.alloc (.cells #[.slice none 0 0] 38)))
  have HX0 := Lib.hid (show ∀ o, ((W.alloc (.cells #[.slice none 0 0] 38)).alloc o).heap[W.heap.size]? = some (.cells #[.slice none 0 0] 38 (0, 0)) from fun o => (Below.heap_alloc _ _ _ (by simp)).trans B0.out)
  have HX1 := Lib.hid (show ∀ o, ((W.alloc (.cells #[.slice none 0 0] 38)).alloc o).heap[W.heap.size + 1]? = some o from fun o => by have := heap_alloc_new (W.alloc (.cells #[.slice none 0 0] 38)) o; rwa [World.size_alloc] at this)
  have HBX := Lib.hid (show ∀ o, Below W.heap.size W ((W.alloc (.cells #[.slice none 0 0] 38)).alloc o) from fun o => HB1.out.alloc (by simp) o)
  have hlX : ∀ o, (tSlice tRecSs).rv ((mem ((W.alloc (.cells #[.slice none 0 0] 38)).alloc o)).on (· < W.heap.size)) [.slice la ls.length lc] ls := fun o => (tSlice tRecSs).mono _ _ _ _ (Mem.le_trans (mem_on_lt W) (below_memOn (HBX.out o))) hl
  have HXS := Lib.hid (show ∀ o, ((W.alloc (.cells #[.slice none 0 0] 38)).alloc o).heap.size = W.heap.size + 2 from fun o => by simp)
  have HLX := Lib.hid hlX
  clear hl hl1 hlX B0 HB1 hs1
  gi_wp2
  refine ⟨trivial, rfl, ((callsIn_wide (n := 0)).2 HMG.out).mono ?_⟩
  rintro e w1 ⟨rfl, rfl⟩
  have X0 := HX0.out (.cells #[.slice la ls.length lc] 77)
  have X1 := HX1.out (.cells #[.slice la ls.length lc] 77)
  have XB := HBX.out (.cells #[.slice la ls.length lc] 77)
  have XL := HLX.out (.cells #[.slice la ls.length lc] 77)
  have XS := HXS.out (.cells #[.slice la ls.length lc] 77)
  rw [show (W.alloc (.cells #[.slice none 0 0] 38)).heap.size = W.heap.size + 1 by simp]
  clear HX0 HX1 HBX HLX HXS HMG
  generalize (W.alloc (.cells #[.slice none 0 0] 38)).alloc (.cells #[.slice la ls.length lc] 77) = X at *
  have hgv := merged1_gives ls (W.heap.size + 1) (· < W.heap.size) la lc X ⟨X1, XL⟩ (fun k hk => by have hk : k < W.heap.size := hk; omega) ha h0 hn hn2 (fun k => k = W.heap.size ∨ W.heap.size + 1 < k) (fun k hk h => by have hk : k < W.heap.size := hk; omega) (by omega)
  have H0 := Lib.hid X0
  have HXB := Lib.hid XB
  have HGV := Lib.hid hgv
  clear X1 XL ha hn2 hgv
  gi_wp2
  have hXs : W.heap.size + 2 ≤ X.heap.size := by omega
  refine (wpIn_wide (n := 0)).2 (wp_rangeK okI okI_loop (gf := 60) (lb := #[.pointer (some ⟨W.heap.size + 1, 0, none⟩)]) (by first | rfl | simp) (fun _ _ => rfl) HGV.out (Below.refl _ _) (fun k hk => by omega) (fun x => rfl)
    (fun pre W1 => AccAt tEnt 52 38 W.heap.size (W.heap.size + 2) (toldE pre) W1 ∧ Below W.heap.size W W1) ?closed ?start ?round ?done)
  case closed =>
    rintro pre A C ⟨hI, hB⟩ hk
    refine ⟨hI.keeps tEnt_flat hk (fun h => by omega) (fun k h2 h3 h => ?_), hB.trans (hk.below hB.size (fun k h => by omega))⟩
    rcases h.2 with h4 | h4 | h4
    · have := kd_lt h3; omega
    · exact kd_not_cells h3 h4
    · exact kd_not_ok h3 (by decide) h4
  case start => exact ⟨⟨_, H0.out, Owns.nil _ _ _ _⟩, HXB.out⟩
  case round =>
    rintro l pre x post W1 hx ⟨hI, hB⟩ hsz1
    have HPL := Lib.hid (show (toldE pre).length < 1000000000 from by
      have h1 := told_len pre
      have h2 : pre.length < (mergeC recC ls).length := by rw [hx]; simp
      omega)
    have HXO := Lib.hid (HOK.out x (by rw [hx]; simp))
    have HTS := Lib.hid (told_snoc pre x)
    clear hx HGV H0 HXB X0
    obtain ⟨⟨xg, x1, x2, x3⟩, gr⟩ := x
    simp only at HXO HTS
    gi_wp2
    refine ⟨(Keeps.refl _ _).alloc _, fun W3 hk => ?_⟩
    have hV1 : (W1.alloc (.cells #[.int .i64 xg, .string x1, .string x2, .string x3, .bool gr] 54)).heap[W1.heap.size]? = some (.cells #[.int .i64 xg, .string x1, .string x2, .string x3, .bool gr] 54 (0, 0)) := heap_alloc_new W1 _
    have hI2 : AccAt tEnt 52 38 W.heap.size (W.heap.size + 2) (toldE pre) (W1.alloc (.cells #[.int .i64 xg, .string x1, .string x2, .string x3, .bool gr] 54)) := hI.keeps tEnt_flat (F := fun _ => False) ((Keeps.refl _ _).alloc _) (fun h => h) (fun k _ _ h => h)
    have hI3 := hI2.keeps tEnt_flat hk (fun h => by omega) (fun k h2 h3 h => kd_not_cells h3 h.2)
    have hB3 : Below W.heap.size W W3 := (hB.alloc hB.size _).trans (hk.below (by have := hB.size; simp; omega) (fun k h => by omega))
    have hV3 : W3.heap[W1.heap.size]? = some (.cells #[.int .i64 xg, .string x1, .string x2, .string x3, .bool gr] 54 (0, 0)) := (hk.block _ (by simp) (fun h => kd_not_cells (kd_cells hV1) h.2)).trans hV1
    have v0 : W3.cell? ⟨W1.heap.size, 0, none⟩ = some (.int .i64 xg) := mem_cells hV3 0
    have v1 : W3.cell? ⟨W1.heap.size, 1, none⟩ = some (.string x1) := mem_cells hV3 1
    have v2 : W3.cell? ⟨W1.heap.size, 2, none⟩ = some (.string x2) := mem_cells hV3 2
    have v3 : W3.cell? ⟨W1.heap.size, 3, none⟩ = some (.string x3) := mem_cells hV3 3
    have v4 : W3.cell? ⟨W1.heap.size, 4, none⟩ = some (.bool gr) := mem_cells hV3 4
    have HI3 := Lib.hid hI3
    have HB3 := Lib.hid hB3
    clear hk hI2 hI hV1 hI3 hB3 hB
    cases gr with
    | true =>
      have HI4 := Lib.hid (show AccAt tEnt 52 38 W.heap.size (W.heap.size + 2) (toldE (pre ++ [⟨⟨xg, x1, x2, x3⟩, true⟩])) W3 by
        rw [HTS.out, if_pos rfl, List.append_nil]; exact HI3.out)
      gi_wp2
      exact ⟨KeepsOthers.refl _, KeepsB.refl _ _, Keeps.refl _ _, HI4.out, HB3.out⟩
    | false =>
      obtain ⟨u, c3, o3⟩ := HI3.out
      obtain ⟨au, cu, rfl, hml⟩ := o3.len
      have c5 : W3.cell? ⟨W.heap.size, 0, none⟩ = some (.slice au (toldE pre).length cu) := mem_cells c3 0
      have f5 : W3.frozen? ⟨W.heap.size, 0, none⟩ = false := frozen_cells c3 0
      have hB3s : W.heap.size + 2 ≤ W3.heap.size := by
        have h1 := (Array.getElem?_eq_some_iff.1 hV3).1
        omega
      have hlt5 : W.heap.size < W3.heap.size := by omega
      have hpl := HPL.out
      have HC3 := Lib.hid c3
      have O4 := Lib.hid o3
      rw [if_neg (by simp)] at HTS
      generalize toldE pre = qs at *
      clear c3 o3 hml HI3
      gi_wp2_with (gi_at_builtin; refine wpListIn_append_one rfl _ _ 38 rfl tEnt Try.underlying38 infoEntS rfl (by decide) (W.heap.size + 2) _ qs rfl (O4.out.alloc _) _ _ (⟨xg, x1, x2, x3⟩ : Ent) rfl [.int .i64 xg, .string x1, .string x2, .string x3] ?a2 ⟨rfl, HXO.out⟩ ?b2 ?c2 ?d2 ?e2 ?_)
      case a2 => exact fun j u hj => by match j, hj with | 0, hj => simp at hj; subst hj; simp [mem] | 1, hj => simp at hj; subst hj; simp [mem] | 2, hj => simp at hj; subst hj; simp [mem] | 3, hj => simp at hj; subst hj; simp [mem]
      case b2 => intro x hx; simp at hx; rcases hx with rfl | rfl | rfl | rfl <;> rfl
      case c2 => unfold maxLen; omega
      case d2 => omega
      case e2 => simp; omega
      intro v' W6 own6 hgrow hblk
      obtain ⟨a6, cap6, rfl, _⟩ := own6.len
      have i6 := AccAt.same HC3.out O4.out (by omega) hgrow
      have k6 : W6.cell? ⟨W.heap.size, 0, none⟩ = some (.slice au qs.length cu) := mem_cells i6 0
      have l6 : W6.frozen? ⟨W.heap.size, 0, none⟩ = false := frozen_cells i6 0
      rw [← HTS.out] at own6
      have HR6 := Lib.hid (AccAt.round HC3.out O4.out (by omega) tEnt_flat (by decide) (by decide) hB3s hgrow own6)
      clear i6 own6 hgrow hblk
      gi_wp2
      have h := HR6.out
      rw [HTS.out] at h
      simp only [List.length_append, List.length_cons, List.length_nil, Nat.zero_add] at h
      exact ⟨h.1, h.2.1, h.2.2.1.wide (fun k _ h => by omega), by rw [HTS.out]; exact h.2.2.2, HB3.out.trans (h.2.2.1.below HB3.out.size (fun k h => by omega))⟩
  case done =>
    rintro D Wd hDl ⟨⟨u, c, o4⟩, hB⟩ hD
    obtain ⟨au, cu, rfl, hml⟩ := o4.len
    have c4 : Wd.cell? ⟨W.heap.size, 0, none⟩ = some (.slice au (toldE (mergeC recC ls)).length cu) := mem_cells c 0
    have O4 := Lib.hid o4
    have HB4 := Lib.hid hB
    have HD := Lib.hid hD
    have hwD : W.heap.size + 2 ≤ D := by omega
    generalize (Value.slice au (toldE (mergeC recC ls)).length cu) = u at *
    clear o4 hB hD c HGV
    gi_wp2
    refine coll_end rfl rfl HD.out (fun WF hk => ⟨_, rfl, ?_, HB4.out.trans (hk.below HB4.out.size (fun k h => by omega))⟩)
    have o5 := O4.out.keepsC tEnt_flat hk (fun k o h1 h2 h3 h => by subst h; rw [HD.out] at h2; cases h2; cases h3)
    exact Owns.lowS o5 (by omega)
end Go.Proofs.Ytjenfhkikbndmaa
/- package slab: use, leave, made (for chapter 14). -/
namespace Go.Proofs.Ytjenfhkikbndmaa
open Go.RowKit Go.Maps

def LS.used (s : LS) (n : Nat) : LS := { s with use := updN s.use n (s.use n + 1) }
def LS.left (s : LS) (n : Nat) : LS := if s.use n = 1 then { s with use := updN s.use n 0, kept := s.kept.filter (fun m => m != n) } else { s with use := updN s.use n (s.use n - 1) }
section
variable {base p : Nat} {r : HL}
set_option maxRecDepth 100000 in
set_option maxHeartbeats 4000000 in
theorem use_any (pv : Value) (W : World) (hI : LInv W base p r) {n a : Nat} (hn : n ∈ r.s.kept) (ha : r.ad n = some a) (hu : 0 ≤ r.s.use n ∧ r.s.use n ≤ 1000000000000) :
    Calls Try.prog 27 #[pv, ptrS a] W fun e w' => e = .returned (.tuple #[]) ∧ LStep W base p r w' { r with s := r.s.used n } := by
  obtain ⟨v, hc, -⟩ := hI.run hn ha
  have c2 : W.cell? ⟨a, 2, none⟩ = some (.int .i64 (r.s.use n)) := mem_cells hc 2
  have z2 := frozen_cells hc 2
  have hw : IntKind.i64.wrap (r.s.use n + 1) = r.s.use n + 1 := IntWalk.i64_in _ (by omega)
  have HS := Lib.hid (LStep.setUse hI hn ha (r.s.use n + 1))
  have HU := Lib.hid (show r.s.used n = { r.s with use := updN r.s.use n (r.s.use n + 1) } from rfl)
  rw [HU.out]
  generalize r.s.use n = u at *
  clear hI hc HU
  go_enter Try.func27, Try.ntmps27
  go_wp2
  go_end0
  exact ⟨rfl, HS.out⟩
set_option maxRecDepth 100000 in
set_option maxHeartbeats 4000000 in
theorem leave_any (W : World) (hI : LInv W base p r) {n a : Nat} (hn : n ∈ r.s.kept) (ha : r.ad n = some a) (hu : 1 ≤ r.s.use n ∧ r.s.use n ≤ 1000000000000) (hin : inI64 (n : Int)) :
    Calls Try.prog 39 #[ptrS p, ptrS a] W fun e w' => e = .returned (.tuple #[]) ∧ LStep W base p r w' { r with s := r.s.left n } := by
  obtain ⟨v, hc, -⟩ := hI.run hn ha
  have c2 : W.cell? ⟨a, 2, none⟩ = some (.int .i64 (r.s.use n)) := mem_cells hc 2
  have z2 := frozen_cells hc 2
  have hw : IntKind.i64.wrap (r.s.use n - 1) = r.s.use n - 1 := IntWalk.i64_in _ (by omega)
  have HS := Lib.hid (LStep.setUse hI hn ha (r.s.use n - 1))
  have HU := Lib.hid (show r.s.left n = if r.s.use n = 1 then { r.s with use := updN r.s.use n 0, kept := r.s.kept.filter (fun m => m != n) } else { r.s with use := updN r.s.use n (r.s.use n - 1) } from rfl)
  generalize hX : W.setCell ⟨a, 2, none⟩ (.int .i64 (r.s.use n - 1)) = X at *
  have HX := Lib.hid hX
  have hX2 := hc
  by_cases h1 : r.s.use n = 1
  · obtain ⟨Z, hrun, hst⟩ := LStep.unkeep (LStep.pure HS.out.inv (Below.refl _ _).drew).inv hin 0
    have HZ := Lib.hid ((HS.out.trans (LStep.pure HS.out.inv (Below.refl _ _).drew)).trans hst)
    have x7 : X.cell? ⟨p, 7, none⟩ = some (.map (some r.kb)) := mem_cells HS.out.inv.hb 7
    have x0 : X.cell? ⟨a, 0, none⟩ = some (.int .i64 n) := by
      rw [← hX]; have := mem_cells (setS (o := 2) (v := .int .i64 (r.s.use n - 1)) hc) 0; simpa [mem] using this
    have x2 : X.cell? ⟨a, 2, none⟩ = some (.int .i64 (r.s.use n - 1)) := by
      rw [← hX]; have := mem_cells (setS (o := 2) (v := .int .i64 (r.s.use n - 1)) hc) 2; simpa [mem] using this
    have HE := Lib.hid (show ({ { r.s with use := updN r.s.use n (r.s.use n - 1) } with kept := r.s.kept.filter (fun m => m != n) } : LS) = r.s.left n by rw [HU.out, if_pos h1, h1]; rfl)
    rw [h1] at c2 hw hX x2
    clear hI hc hst HS HU HX hX2 h1
    simp only [Int.reduceSub] at hw hX x2
    go_enter Try.func39, Try.ntmps39
    go_wp2_with fail
    go_region
    go_wp2
    go_end0
    rw [← HE.out]
    exact ⟨rfl, HZ.out⟩
  · have x2 : X.cell? ⟨a, 2, none⟩ = some (.int .i64 (r.s.use n - 1)) := by
      rw [← hX]; have := mem_cells (setS (o := 2) (v := .int .i64 (r.s.use n - 1)) hc) 2; simpa [mem] using this
    have hd : (r.s.use n - 1 == 0) = false := by rw [beq_eq_false_iff_ne]; omega
    rw [HU.out, if_neg h1]
    generalize r.s.use n = u at *
    clear hI hc HU HX hX2 h1
    go_enter Try.func39, Try.ntmps39
    go_wp2_with fail
    go_end0
    exact ⟨rfl, HS.out⟩
/-- A run is made and kept. -/
theorem made_any (W : World) (hI : LInv W base p r) (l : List RecS) (a0 : Option Addr) (c0 : Nat) (hv : tRecSs.rv r.M [.slice a0 l.length c0] l) (hr : r.s.runs ≤ 1000000000000000) (hnn : r.nn < maxLen) :
    Calls Try.prog 46 #[ptrS p, .slice a0 l.length c0] W fun e w' => ∃ a r', e = .returned (ptrS a) ∧ LStep W base p r w' r' ∧ r'.s = r.s.made l ∧ r'.ad (r.s.runs + 1) = some a ∧ r'.M = r.M ∧ r'.tc = r.tc ∧ r'.tv = r.tv ∧ r'.lvv = r.lvv ∧ r'.nn = r.nn + 1 := by
  have c9 : W.cell? ⟨p, 9, none⟩ = some (.int .i64 r.s.runs) := mem_cells hI.hb 9
  have z9 := frozen_cells hI.hb 9
  have hw : IntKind.i64.wrap ((r.s.runs : Int) + 1) = ((r.s.runs + 1 : Nat) : Int) := by rw [IntWalk.i64_in _ (by omega)]; rfl
  have HS := Lib.hid (show LStep W base p r (W.setCell ⟨p, 9, none⟩ (.int .i64 ((r.s.runs + 1 : Nat) : Int))) { r with s := { r.s with runs := r.s.runs + 1 }, tc := r.tc } from
    LStep.own hI ((Keeps.refl (fun k => k = p) W).setCell (p := ⟨p, 9, none⟩) (fun _ => rfl) _) { r.s with runs := r.s.runs + 1 } rfl rfl rfl rfl rfl rfl (by show r.s.runs ≤ r.s.runs + 1; omega) r.tc (setS hI.hb))
  generalize hX : W.setCell ⟨p, 9, none⟩ (.int .i64 ((r.s.runs + 1 : Nat) : Int)) = X at *
  have x9 : X.cell? ⟨p, 9, none⟩ = some (.int .i64 ((r.s.runs + 1 : Nat) : Int)) := mem_cells HS.out.inv.hb 9
  have HY := Lib.hid (show Below X.heap.size X (X.alloc (.cells #[.int .i64 ((r.s.runs + 1 : Nat) : Int), .slice a0 l.length c0, .int .i64 1] 97)).drew from ((Below.refl _ X).alloc (Nat.le_refl _) _).drew)
  have hya : (X.alloc (.cells #[.int .i64 ((r.s.runs + 1 : Nat) : Int), .slice a0 l.length c0, .int .i64 1] 97)).drew.heap[X.heap.size]? = some (.cells #[.int .i64 ((r.s.runs + 1 : Nat) : Int), .slice a0 l.length c0, .int .i64 1] 97 (0, 0)) := heap_alloc_new X _
  have hs1 := HS.out.trans (LStep.pure HS.out.inv HY.out)
  obtain ⟨Z, hrun, hst⟩ := LStep.keepNew hs1 hI (a := X.heap.size) (n := r.s.runs + 1) rfl hnn (by unfold inI64; omega) (fun b e => by have := (hI.adl _ b e).1; omega) hya HS.out.kp.size (fun o v e => by have := mem_lt (HS.out.inv.ms _ o v e).1; omega) (fun m e => by have := (HS.out.inv.adl m _ e).2; omega) hv
  have HZ := Lib.hid hst
  have hpX : p < X.heap.size := (Array.getElem?_eq_some_iff.1 HS.out.inv.hb).1
  have x7 : X.cell? ⟨p, 7, none⟩ = some (.map (some r.kb)) := mem_cells HS.out.inv.hb 7
  have HE := Lib.hid (show ({ { r.s with runs := r.s.runs + 1 } with kept := r.s.kept ++ [r.s.runs + 1], rc := updN r.s.rc (r.s.runs + 1) l, use := updN r.s.use (r.s.runs + 1) 1 } : LS) = r.s.made l from rfl)
  clear hI hst hs1 hv hya
  generalize hn1 : r.s.runs + 1 = n1 at *
  go_enter Try.func46, Try.ntmps46
  go_wp2_with fail
  go_region
  go_wp2
  go_ret
  exact ⟨X.heap.size, _, rfl, HZ.out, HE.out, updN_same _ _ _, rfl, rfl, rfl, rfl, rfl⟩
end
end Go.Proofs.Ytjenfhkikbndmaa
