/- The state of package heap in memory: the invariant, its steps. -/
import Derived.Test.YtbmpoecmjmmngaaSpotKey
import Derived.Test.YtbmpoecmjmmngaaDeep
import Derived.Maps.Views
namespace Go.Proofs.Ytbmpoecmjmmngaa
open Go.RowKit Go.Maps

@[reducible] def ptrTo (a : Nat) : Value := .pointer (some ⟨a, 0, none⟩)
def tPtr : Ty Nat := ⟨1, fun _ cs a => cs = [ptrTo a], fun _ _ _ h => by rw [h]; rfl, fun _ _ _ _ _ h => h⟩
abbrev tPtrs : Ty (List Nat) := tSlice tPtr
theorem tPtr_flat : tPtr.flat := fun _ _ _ _ h => h
def intKey (n : Int) : Lit := .int .i64 n
theorem intKey_inj (x y : Int) (h : intKey x = intKey y) : x = y := by simpa [intKey] using h
theorem keyOf_i64 {n : Int} (h : inI64 n) : keyOf Try.prog 3 (.int .i64 n) = some (intKey n) := keyOf_int_mk Try.underlying3 (by have := h.1; have := h.2; unfold inI64 at h; simp [Lit.wf, IntKind.min, IntKind.max, IntKind.signed, IntKind.bits]; omega)
theorem keyK : Keyed Try.prog 3 := int_keyed Try.underlying3
def vStr : VR ByteArray := ⟨fun _ v x => v = .string x ∧ x.size ≤ maxLen, fun _ _ _ _ _ h => h⟩
def vRow : VR (Value × List Nat) := ⟨fun _ v x => v = x.1, fun _ _ _ _ _ h => h⟩
abbrev FMap := Spot → Option ByteArray
@[reducible] def GMap (W : World) (b n : Nat) (f : FMap) : Prop := MapOf Try.prog 71 lkSpot vStr W b n f
@[reducible] def SMap (W : World) (b n : Nat) (f : Int → Option (Value × List Nat)) : Prop := MapOf Try.prog 3 intKey vRow W b n f
theorem GMap.at {W W' : World} {b n : Nat} {f : FMap} (h : GMap W b n f) (hb : W'.heap[b]? = W.heap[b]?) : GMap W' b n f := by
  obtain ⟨D, ⟨es, clock, hh, r⟩, g⟩ := h
  exact ⟨D, ⟨es, clock, by rw [hb]; exact hh, r⟩, g⟩
theorem SMap.at {W W' : World} {b n : Nat} {f : Int → Option (Value × List Nat)} (h : SMap W b n f) (hb : W'.heap[b]? = W.heap[b]?) : SMap W' b n f := by
  obtain ⟨D, ⟨es, clock, hh, r⟩, g⟩ := h
  exact ⟨D, ⟨es, clock, by rw [hb]; exact hh, r⟩, g⟩
theorem GMap.obj {W : World} {b n : Nat} {f : FMap} (h : GMap W b n f) : ∃ es c, W.heap[b]? = some (.map es c) := by
  obtain ⟨D, ⟨es, clock, hh, r⟩, g⟩ := h
  exact ⟨es, clock, hh⟩
theorem SMap.obj {W : World} {b n : Nat} {f : Int → Option (Value × List Nat)} (h : SMap W b n f) : ∃ es c, W.heap[b]? = some (.map es c) := by
  obtain ⟨D, ⟨es, clock, hh, r⟩, g⟩ := h
  exact ⟨es, clock, hh⟩

/-- A group: its map's block, whether it is shared, its entries. -/
structure G where
  mb : Nat
  sh : Bool
  f : FMap
/-- What a state holds, and where. -/
structure HS where
  cv : Value
  cur : List Nat
  cnt : Int
  last : Int
  sm : Nat
  nn : Nat
  snaps : Int → Option (Value × List Nat)
  g : Nat → G
def used (r : HS) (a : Nat) : Prop := a ∈ r.cur ∨ ∃ k x, r.snaps k = some x ∧ a ∈ x.2
def mutB (p : Nat) (r : HS) (k : Nat) : Prop := k = p ∨ k = r.sm ∨ r.cv.ownBlock = some k ∨ ∃ a, used r a ∧ (k = a ∨ k = (r.g a).mb)
noncomputable def safe (W : World) (p : Nat) (r : HS) : Mem := (mem W).on (fun k => ¬ mutB p r k)
def hCells (r : HS) : Array Value := #[r.cv, .int .i64 r.cnt, .map (some r.sm), .int .i64 r.last]
def gCells (x : G) : Array Value := #[.map (some x.mb), .bool x.sh]
/-- A row of pointers that may be written. -/
def PRow (W : World) (v : Value) (l : List Nat) : Prop :=
  ∃ b off cap arr, v = .slice (some ⟨b, off, none⟩) l.length cap ∧ l.length ≤ cap ∧ cap ≤ maxLen ∧ W.heap[b]? = some (.cells arr 76 (0, 0)) ∧ off + cap ≤ arr.size ∧ ∀ i, (h : i < l.length) → arr[off + i]? = some (ptrTo l[i])
structure HeapInv (W : World) (base p : Nat) (r : HS) : Prop where
  hb : W.heap[p]? = some (.cells (hCells r) 80 (0, 0))
  cu : PRow W r.cv r.cur
  sn : SMap W r.sm r.nn r.snaps
  sr : ∀ k x, r.snaps k = some x → tPtrs.rv (safe W p r) [x.1] x.2 ∧ x.2.Nodup ∧ x.2.length = r.cur.length
  gb : ∀ a, used r a → W.heap[a]? = some (.cells (gCells (r.g a)) 75 (0, 0)) ∧ GMap W (r.g a).mb r.nn (r.g a).f
  inj : ∀ a b, used r a → used r b → (r.g a).mb = (r.g b).mb → a = b
  smb : ∀ a, used r a → (r.g a).mb ≠ r.sm
  sh : ∀ k x a, r.snaps k = some x → a ∈ x.2 → (r.g a).sh = true
  nd : r.cur.Nodup
  ge : ∀ k, mutB p r k → base ≤ k
  bw : base ≤ W.heap.size
/-- What a step leaves. -/
structure HStep (W : World) (base p : Nat) (r : HS) (W' : World) (r' : HS) : Prop where
  inv : HeapInv W' base p r'
  kp : Keeps (mutB p r) W W'
  mb : ∀ k, mutB p r' k → mutB p r k ∨ W.heap.size ≤ k
theorem PRow.block {W : World} {v : Value} {l : List Nat} (h : PRow W v l) : ∃ b arr, v.ownBlock = some b ∧ W.heap[b]? = some (.cells arr 76 (0, 0)) := by
  obtain ⟨b, off, cap, arr, rfl, _, _, h4, _⟩ := h
  exact ⟨b, arr, rfl, h4⟩
theorem PRow.lt {W : World} {v : Value} {l : List Nat} (h : PRow W v l) {k : Nat} (hk : v.ownBlock = some k) : k < W.heap.size := by
  obtain ⟨b, arr, e, h4⟩ := h.block
  rw [e] at hk; cases hk
  exact (Array.getElem?_eq_some_iff.1 h4).1
theorem PRow.at {W W' : World} {v : Value} {l : List Nat} (h : PRow W v l) (hk : ∀ k, v.ownBlock = some k → W'.heap[k]? = W.heap[k]?) : PRow W' v l := by
  obtain ⟨b, off, cap, arr, rfl, h2, h3, h4, h5⟩ := h
  exact ⟨b, off, cap, arr, rfl, h2, h3, (hk b rfl).trans h4, h5⟩
theorem PRow.rv {W : World} {v : Value} {l : List Nat} (h : PRow W v l) : tPtrs.rv (mem W) [v] l := by
  obtain ⟨b, off, cap, arr, rfl, h2, h3, h4, h5, h6⟩ := h
  refine ⟨some ⟨b, off, none⟩, cap, rfl, h2, h3, fun _ => ⟨b, off, rfl, fun k hk => ⟨[ptrTo l[k]], fun j u hj => ?_, rfl⟩⟩⟩
  match j, hj with
  | 0, hj =>
    have e : ptrTo l[k] = u := by simpa using hj
    rw [mem_cells h4]
    show arr[off + k * 1 + 0]? = some u
    rw [show off + k * 1 + 0 = off + k by omega, h6 k hk, e]
  | j + 1, hj => simp at hj
theorem PRow.of {W : World} {v : Value} {l : List Nat} (h : OwnsO tPtr W 76 v l) (h0 : l ≠ []) : PRow W v l := by
  obtain ⟨css, g1, g2, h | ⟨g, off, cap, cur, rfl, hg, h3, h4, h5, h6⟩⟩ := h
  · exact absurd h.2 h0
  · refine ⟨g, off, cap, cur, rfl, h3, h4, hg, by simpa [tPtr] using h5, fun i hi => ?_⟩
    have hc : css[i]'(by omega) = [ptrTo l[i]] := g2 i (by omega) hi
    have := take_cell (j := 0) (v := ptrTo l[i]) h6 g1 (OwnsO.lens g1 g2) (k := i) (by omega) (by rw [hc]; rfl)
    rw [show off + (i * tPtr.sz + 0) = off + i by show off + (i * 1 + 0) = _; omega] at this
    simpa using this
theorem set_block {w : World} {g o : Nat} {v : Value} {cur : Array Value} {t : TypeId} {f : Nat × Nat} (h : w.heap[g]? = some (.cells cur t f)) : (w.setCell ⟨g, o, none⟩ v).heap[g]? = some (.cells (cur.setIfInBounds o v) t f) := by
  simp [World.setCell, Array.getElem?_modify, h]
theorem set_block_other {w : World} {g g' o : Nat} {v : Value} (hne : g' ≠ g) : (w.setCell ⟨g, o, none⟩ v).heap[g']? = w.heap[g']? := Below.heap_setCell _ _ _ _ hne

section
variable {W W' : World} {base p : Nat} {r r' : HS}
theorem HeapInv.cells_kind (h : HeapInv W base p r) : ∀ k, mutB p r k → k < W.heap.size := fun k hk => by
  rcases hk with rfl | rfl | hk | ⟨a, ha, rfl | rfl⟩
  · exact (Array.getElem?_eq_some_iff.1 h.hb).1
  · exact h.sn.lt
  · exact h.cu.lt hk
  · exact (Array.getElem?_eq_some_iff.1 (h.gb _ ha).1).1
  · exact (h.gb _ ha).2.lt
theorem safe_le (hk : Keeps (mutB p r) W W') (hm : ∀ k, mutB p r' k → mutB p r k ∨ W.heap.size ≤ k) : (safe W p r).le (safe W' p r') := fun i o v e => by
  obtain ⟨hs, e⟩ := Mem.of_on e
  have hl := mem_lt e
  exact Mem.on_some ((mem_of_block (hk.block i hl hs) o).trans e) fun hx => by
    rcases hm i hx with h | h
    · exact hs h
    · omega
/-- Blocks of different kinds are different. -/
theorem HeapInv.apart (h : HeapInv W base p r) : p ≠ r.sm ∧ r.cv.ownBlock ≠ some p ∧ r.cv.ownBlock ≠ some r.sm ∧
    ∀ a, used r a → a ≠ p ∧ a ≠ r.sm ∧ r.cv.ownBlock ≠ some a ∧ (r.g a).mb ≠ p ∧ r.cv.ownBlock ≠ some (r.g a).mb ∧ ∀ b, used r b → (r.g b).mb ≠ a := by
  have hb := h.hb
  obtain ⟨cb, arr, ec, hc⟩ := h.cu.block
  obtain ⟨es, c, hs⟩ := h.sn.obj
  refine ⟨fun e => by (rw [e, hs] at hb; cases hb), fun e => ?_, fun e => ?_, fun a ha => ?_⟩
  · rw [ec] at e; cases e
    rw [hb] at hc
    exact absurd (by injection hc with hc; injection hc) (show ¬ ((80 : TypeId) = 76) by decide)
  · rw [ec] at e; cases e
    rw [hs] at hc; cases hc
  · obtain ⟨hg, hm⟩ := h.gb a ha
    obtain ⟨es', c', hm⟩ := hm.obj
    refine ⟨fun e => ?_, fun e => ?_, fun e => ?_, fun e => ?_, fun e => ?_, fun b hb' e => ?_⟩
    · subst e
      rw [hb] at hg
      exact absurd (by injection hg with hg; injection hg) (show ¬ ((80 : TypeId) = 75) by decide)
    · rw [e, hs] at hg; cases hg
    · rw [ec] at e; cases e
      rw [hc] at hg
      exact absurd (by injection hg with hg; injection hg) (show ¬ ((76 : TypeId) = 75) by decide)
    · rw [e, hb] at hm; cases hm
    · rw [ec] at e; cases e
      rw [hc] at hm; cases hm
    · obtain ⟨es2, c2, h2⟩ := (h.gb b hb').2.obj
      rw [e, hg] at h2; cases h2
theorem HeapInv.pure (h : HeapInv W base p r) (hk : Below W.heap.size W W') : HeapInv W' base p r := by
  have hlt := h.cells_kind
  have hs : (safe W p r).le (safe W' p r) := safe_le ((below_keeps hk).wide (fun k h1 h2 => by omega)) (fun k hm => .inl hm)
  have hat : ∀ k, mutB p r k → W'.heap[k]? = W.heap[k]? := fun k hm => hk.block k (hlt k hm)
  exact ⟨(hat p (.inl rfl)).trans h.hb, h.cu.at (fun k e => hat k (.inr (.inr (.inl e)))), h.sn.at (hat _ (.inr (.inl rfl))),
    fun k x e => let ⟨h1, h2⟩ := h.sr k x e; ⟨tPtrs.mono _ _ _ _ hs h1, h2⟩,
    fun a ha => let ⟨h1, h2⟩ := h.gb a ha; ⟨(hat a (.inr (.inr (.inr ⟨a, ha, .inl rfl⟩)))).trans h1, h2.at (hat _ (.inr (.inr (.inr ⟨a, ha, .inr rfl⟩))))⟩,
    h.inj, h.smb, h.sh, h.nd, h.ge, Nat.le_trans h.bw hk.size⟩
theorem HStep.pure (h : HeapInv W base p r) (hk : Below W.heap.size W W') : HStep W base p r W' r :=
  ⟨h.pure hk, (below_keeps hk).wide (fun k h1 h2 => by omega), fun _ h => .inl h⟩
theorem HStep.trans {W1 W2 : World} {r1 r2 : HS} (h : HStep W base p r W1 r1) (g : HStep W1 base p r1 W2 r2) : HStep W base p r W2 r2 := by
  have hsz := h.kp.size
  refine ⟨g.inv, ⟨g.kp.os.trans h.kp.os, g.kp.tape.trans h.kp.tape, g.kp.output.trans h.kp.output, Nat.le_trans hsz g.kp.size, fun k hk hn => ?_⟩, fun k hk => ?_⟩
  · refine (g.kp.block k (by omega) fun hm => ?_).trans (h.kp.block k hk hn)
    rcases h.mb k hm with e | e
    · exact hn e
    · omega
  · rcases g.mb k hk with e | e
    · exact h.mb k e
    · exact .inr (by omega)
theorem HStep.below (h : HStep W base p r W' r') (i : HeapInv W base p r) : Below base W W' := h.kp.below i.bw i.ge
/-- A step from its parts: what is new is told, what is old stays. -/
theorem HStep.mk' (h : HeapInv W base p r) (hk : Keeps (mutB p r) W W') (hm : ∀ k, mutB p r' k → mutB p r k ∨ W.heap.size ≤ k)
    (hb : W'.heap[p]? = some (.cells (hCells r') 80 (0, 0))) (cu : PRow W' r'.cv r'.cur) (sn : SMap W' r'.sm r'.nn r'.snaps)
    (sr : ∀ k x, r'.snaps k = some x → r.snaps k = some x ∨ (tPtrs.rv (safe W' p r') [x.1] x.2 ∧ x.2.Nodup ∧ x.2.length = r.cur.length)) (hlen : r'.cur.length = r.cur.length)
    (gb : ∀ a, used r' a → W'.heap[a]? = some (.cells (gCells (r'.g a)) 75 (0, 0)) ∧ GMap W' (r'.g a).mb r'.nn (r'.g a).f)
    (inj : ∀ a b, used r' a → used r' b → (r'.g a).mb = (r'.g b).mb → a = b) (smb : ∀ a, used r' a → (r'.g a).mb ≠ r'.sm)
    (sh : ∀ k x a, r'.snaps k = some x → a ∈ x.2 → (r'.g a).sh = true) (nd : r'.cur.Nodup) : HStep W base p r W' r' := by
  refine ⟨⟨hb, cu, sn, fun k x e => ?_, gb, inj, smb, sh, nd, fun k hk' => ?_, Nat.le_trans h.bw hk.size⟩, hk, hm⟩
  · rcases sr k x e with e | e
    · obtain ⟨h1, h2, h3⟩ := h.sr k x e
      exact ⟨tPtrs.mono _ _ _ _ (safe_le hk hm) h1, h2, h3.trans hlen.symm⟩
    · exact ⟨e.1, e.2.1, e.2.2.trans hlen.symm⟩
  · rcases hm k hk' with e | e
    · exact h.ge k e
    · have := h.bw; omega
/-- The state's own cells change: numbers, or the row's value. -/
theorem HStep.own (h : HeapInv W base p r) (hk : Keeps (fun k => k = p) W W') (cnt last : Int) (hb : W'.heap[p]? = some (.cells (hCells { r with cnt := cnt, last := last }) 80 (0, 0))) :
    HStep W base p r W' { r with cnt := cnt, last := last } := by
  have hap := h.apart
  have hlt := h.cells_kind
  have hat : ∀ k, mutB p r k → k ≠ p → W'.heap[k]? = W.heap[k]? := fun k hm hne => hk.block k (hlt k hm) hne
  exact HStep.mk' h (hk.wide (fun k _ e => .inl e)) (fun k e => .inl e) hb
    (h.cu.at (fun k e => hat k (.inr (.inr (.inl e))) (fun e2 => hap.2.1 (e2 ▸ e)))) (h.sn.at (hat _ (.inr (.inl rfl)) (Ne.symm hap.1))) (fun k x e => .inl e) rfl
    (fun a ha => let ⟨h1, h2⟩ := h.gb a ha; ⟨(hat a (.inr (.inr (.inr ⟨a, ha, .inl rfl⟩))) (hap.2.2.2 a ha).1).trans h1, h2.at (hat _ (.inr (.inr (.inr ⟨a, ha, .inr rfl⟩))) (hap.2.2.2 a ha).2.2.2.1)⟩)
    h.inj h.smb h.sh h.nd
end
end Go.Proofs.Ytbmpoecmjmmngaa
