/- Wires: Deliver. -/
import Derived.Test.YtfkphdmnelchmaaWireF
namespace Go.Proofs.Ytfkphdmnelchmaa
open Go.RowKit Go.Maps

section
variable {W W' : World} {base b : Nat} {L L' : WL} {r r' : Raw}
def WS (i base b : Nat) (W : World) (L : WL) (r : Raw) (W' : World) (r' : Raw) : Prop :=
  ∃ L', WireInv W' base b L' r' ∧ Below base W W' ∧ (safe W b L r).le (safe W' b L' r') ∧ L'.nw ≤ L.nw + i ∧ L'.ne ≤ L.ne + i ∧ FrK L L' W W'
theorem WS.trans {i : Nat} {W2 : World} {L1 : WL} {r2 : Raw} (hB : Below base W W') (hs : (safe W b L r).le (safe W' b L1 r')) (h1 : L1.nw ≤ L.nw + i) (h2 : L1.ne ≤ L.ne + i) (hf : FrK L L1 W W') (h : WS 0 base b W' L1 r' W2 r2) : WS i base b W L r W2 r2 :=
  let ⟨L2, i2, b2, s2, n2, e2, f2⟩ := h
  ⟨L2, i2, hB.trans b2, Mem.le_trans hs s2, by omega, by omega, hf.trans f2⟩
theorem WireInv.pureS (h : WireInv W base b L r) (hk : Below W.heap.size W W') : WS 0 base b W L r W' r :=
  ⟨L, h.pure hk, hk.mono h.bw, h.safePure hk, Nat.le_refl _, Nat.le_refl _, rfl, fun k hx => hk.block k (h.fl k hx)⟩
theorem WireInv.updI (i : Nat) (hI : WireInv W base b L r) (hk : Keeps (mutB b L r) W W') (hm : ∀ k, mutB b L' r' k → mutB b L r k ∨ W.heap.size ≤ k)
    (hb : W'.heap[b]? = some (.cells (wCells L' r') 87 (0, 0)))
    (q : OwnsO (tIn (safe W b L r) tEl) W' 42 L'.qv r'.queue) (bf : (safe W b L r).le (safe W' b L' r') → OwnsO (tIn (safe W' b L' r') tItem) W' 94 L'.bv r'.buffer)
    (wm : PMap W' L'.wm L'.nw r'.way) (em : PMap W' L'.em L'.ne r'.early) (we : L'.wm ≠ L'.em)
    (pk : ∀ p ∈ r'.pt, ∃ lv, W'.heap[p.ad]? = some (.cells #[lv, .int .i64 p.left] 91 (0, 0)) ∧ tEls.rv (safe W b L r) [lv] p.els)
    (nd : (r'.pt.map (·.ad)).Nodup) (hnw : L'.nw ≤ L.nw + i) (hne : L'.ne ≤ L.ne + i) (hqo : ∀ k, L'.qv.ownBlock = some k → L.qv.ownBlock = some k ∨ W.heap.size ≤ k) (hf : L'.fr = L.fr) : WS i base b W L r W' r' := by
  have hs := safe_le (L' := L') (r' := r') hk hm hf
  refine ⟨L', ⟨hb, q.re hs, bf hs, wm, em, we, fun p hp => ?_, nd, fun k h => ?_, Nat.le_trans hI.bw hk.size, hI.frL hk hf, hI.frD hm hqo hf⟩, hI.keepsB hk, hs, hnw, hne, hI.frK hk hf⟩
  · obtain ⟨lv, h1, h2⟩ := pk p hp
    exact ⟨lv, h1, tEls.mono _ _ _ _ hs h2⟩
  · rcases hm k h with h | h
    · exact hI.ge k h
    · exact Nat.le_trans hI.bw h
/-- One of the two maps has changed. -/
theorem WireInv.mapped {way early : Int → Option Nat} {nw ne : Nat} {m : Nat} {i : Nat} (hI : WireInv W base b L r) (hmm : m = L.wm ∨ m = L.em) (hg : W.grownBy W' (some m)) (hw : PMap W' L.wm nw way) (he : PMap W' L.em ne early) (hnw : nw ≤ L.nw + i) (hne : ne ≤ L.ne + i) :
    WS i base b W L r W' { r with way := way, early := early } := by
  have hap := hI.apart
  have hk : Keeps (mutB b L r) W W' := (grown_keeps hg).wide (fun k _ h => by
    injection h with h
    rcases hmm with e | e
    · exact .inr (.inl (h.trans e))
    · exact .inr (.inr (.inl (h.trans e))))
  have ho : ∀ k, k < W.heap.size → k ≠ L.wm → k ≠ L.em → W'.heap[k]? = W.heap[k]? := fun k h h1 h2 => hg.block k h (fun e => by
    injection e with e
    rcases hmm with e2 | e2
    · exact h1 (e.trans e2)
    · exact h2 (e.trans e2))
  refine hI.updI i (L' := { L with nw := nw, ne := ne }) hk (fun k h => .inl h) ((ho b (hI.mut_lt b (.inl rfl)) hap.1 hap.2.1).trans hI.hb) (hI.q.keeps (fun k e => ho k (hI.q.lt k e) (hap.2.2.2.2 k e).2.1 (hap.2.2.2.2 k e).2.2.1))
    (fun hs => (hI.bf.keeps (fun k e => ho k (hI.bf.lt k e) (hap.2.2.2.1 k e).2.1 (hap.2.2.2.1 k e).2.2.1)).re hs) hw he hI.we (fun p hp => ?_) hI.nd hnw hne (fun _ h => .inl h) rfl
  obtain ⟨lv, h1, h2⟩ := hI.pk p hp
  exact ⟨lv, (ho _ (Array.getElem?_eq_some_iff.1 h1).1 (hap.2.2.1 p hp).2.1 (hap.2.2.1 p hp).2.2).trans h1, h2⟩
theorem WireInv.mapOther (hI : WireInv W base b L r) {m : Nat} (hg : W.grownBy W' (some m)) {k n : Nat} {f : Int → Option Nat} (h : PMap W k n f) (hne : k ≠ m) : PMap W' k n f :=
  h.at (hg.block k h.lt (fun e => hne (by injection e)))
/-- Numbers alone. -/
theorem WireInv.numsS (hI : WireInv W base b L r) (hk : Keeps (fun k => k = b) W W') (n : Raw) (hq : n.queue = r.queue) (hbf : n.buffer = r.buffer) (he : n.early = r.early) (hw : n.way = r.way) (hp : n.pt = r.pt)
    (hb' : W'.heap[b]? = some (.cells (wCells L n) 87 (0, 0))) : WS 0 base b W L r W' n :=
  let h := hI.nums hk n hq hbf he hw hp hb'
  ⟨L, h.1, hI.keepsB (hk.wide (fun _ _ h => .inl h)), h.2, Nat.le_refl _, Nat.le_refl _, hI.frK (hk.wide (fun _ _ h => .inl h)) rfl⟩
end

/-- The buffer has grown by an item. -/
theorem WireInv.buffered {A C : World} {base b : Nat} {L : WL} {r : Raw} {it : Item} {o : Obj} {v' : Value} (hI : WireInv A base b L r) (own : OwnsO (tIn (safe (A.alloc o) b L r) tItem) C 94 v' (r.buffer ++ [it]))
    (happ : AppAt (A.alloc o) C L.bv r.buffer.length 1 v') : WS 0 base b A L r (C.setCell ⟨b, 7, none⟩ v') { r with buffer := r.buffer ++ [it] } := by
  have hA : WireInv (A.alloc o) base b L r := hI.pure ((Below.refl _ _).alloc (Nat.le_refl _) o)
  refine WS.trans (L1 := L) (r' := r) (W' := A.alloc o) (((Below.refl _ _).alloc (Nat.le_refl _) o).mono hI.bw) (hI.safePure ((Below.refl _ _).alloc (Nat.le_refl _) o)) (Nat.le_refl _) (Nat.le_refl _) ⟨rfl, fun k hx => ((Below.refl _ _).alloc (Nat.le_refl _) o).block k (hI.fl k hx)⟩ ?_
  generalize A.alloc o = X at hA own happ
  have hap := hA.apart
  have hlt := hA.mut_lt
  have hk : Keeps (mutB b L r) X C := (grown_keeps happ.grown).wide (fun k _ hk => .inr (.inr (.inr (.inr (.inl hk.symm)))))
  have hk2 : Keeps (mutB b L r) X (C.setCell ⟨b, 7, none⟩ v') := hk.setCell (p := ⟨b, 7, none⟩) (fun _ => .inl rfl) _
  have hm : ∀ k, mutB b { L with bv := v' } { r with buffer := r.buffer ++ [it] } k → mutB b L r k ∨ X.heap.size ≤ k := fun k h => by
    rcases h with h | h | h | h | h | h
    · exact .inl (.inl h)
    · exact .inl (.inr (.inl h))
    · exact .inl (.inr (.inr (.inl h)))
    · exact .inl (.inr (.inr (.inr (.inl h))))
    · rcases happ.block with e | e
      · exact .inl (.inr (.inr (.inr (.inr (.inl (e ▸ h))))))
      · exact .inr (e k h)
    · exact .inl (.inr (.inr (.inr (.inr (.inr h)))))
  have hold : ∀ k, k < X.heap.size → (L.bv.ownBlock ≠ some k) → C.heap[k]? = X.heap[k]? := fun k h1 h2 => happ.grown.block k h1 (fun e => h2 e.symm)
  have hbb : L.bv.ownBlock ≠ some b := fun e => (hap.2.2.2.1 b e).1 rfl
  have hvb : v'.ownBlock ≠ some b := fun e => by
    rcases happ.block with h | h
    · exact hbb (h ▸ e)
    · have := h b e; have := hlt b (.inl rfl); omega
  have hset : ∀ k, k ≠ b → (C.setCell ⟨b, 7, none⟩ v').heap[k]? = C.heap[k]? := fun k h => set_block_other h
  refine hA.updI 0 (L' := { L with bv := v' }) hk2 hm (set_block ((hold b (hlt b (.inl rfl)) hbb).trans hA.hb)) (hA.q.keeps (fun k e => ?_)) (fun hs => (own.keeps (fun k e => hset k (fun e2 => hvb (e2 ▸ e)))).re hs)
    (hA.wm.at ((hset _ (fun e => hap.1 e.symm)).trans (hold _ hA.wm.lt (fun e => (hap.2.2.2.1 _ e).2.1 rfl)))) (hA.em.at ((hset _ (fun e => hap.2.1 e.symm)).trans (hold _ hA.em.lt (fun e => (hap.2.2.2.1 _ e).2.2.1 rfl)))) hA.we (fun p hp => ?_) hA.nd (Nat.le_refl _) (Nat.le_refl _) (fun _ h => .inl h) rfl
  · exact (hset k (hap.2.2.2.2 k e).1).trans (hold k (hA.q.lt k e) (hap.2.2.2.2 k e).2.2.2.2)
  · obtain ⟨lv, h1, h2⟩ := hA.pk p hp
    exact ⟨lv, ((hset _ (hap.2.2.1 p hp).1).trans (hold _ (Array.getElem?_eq_some_iff.1 h1).1 (fun e => (hap.2.2.2.1 _ e).2.2.2 p hp rfl))).trans h1, h2⟩

noncomputable def movedR (r : Raw) : Raw := { r with early := delAt r.early r.turn, turn := r.turn + 1 }
noncomputable def moveR (r : Raw) (p : PT) : Raw := { movedR r with buffer := r.buffer ++ p.els.map (fun x => ⟨x, some p.ad⟩) }
inductive Moves : Raw → Raw → Prop
  | done {r : Raw} (h : r.early r.turn = none) : Moves r r
  | step {r r' : Raw} {p : PT} (hp : p ∈ r.pt) (h : r.early r.turn = some p.ad) (hm : Moves (moveR r p) r') : Moves r r'
noncomputable def takenR (r : Raw) (n : Int) (a : Nat) : Raw := { r with way := delAt r.way n, early := putAt r.early n a }
def DelivOut (base b : Nat) (n : Int) (W : World) (L : WL) (r : Raw) (e : Ending) (W' : World) : Prop :=
  ((n < 0 ∨ r.next ≤ n) ∧ e = .returned (.int .i64 8) ∧ WS 1 base b W L r W' r) ∨ ((0 ≤ n ∧ n < r.next) ∧ r.way n = none ∧ e = .returned (.int .i64 0) ∧ WS 1 base b W L r W' r) ∨
  ((0 ≤ n ∧ n < r.next) ∧ ∃ a, r.way n = some a ∧ e = .returned (.int .i64 0) ∧ ∃ r', Moves (takenR r n a) r' ∧ WS 1 base b W L r W' r')
/-- What the loop of Deliver keeps. -/
structure DRel (r0 r1 rc : Raw) : Prop where
  mv : ∀ r', Moves rc r' → Moves r1 r'
  ek : ∀ k a, rc.early k = some a → k < rc.next ∧ ∃ p ∈ rc.pt, p.ad = a
  bl : (rc.buffer.length : Int) ≤ 4000 + 4000 * (rc.turn - r0.turn)
  t0 : 0 ≤ r0.turn
  t1 : r0.turn ≤ rc.turn
  t2 : rc.turn ≤ rc.next
  n1 : rc.next ≤ 1000000
  el : ∀ p ∈ rc.pt, p.els.length ≤ 4000
theorem DRel.move {r0 r1 rc : Raw} (h : DRel r0 r1 rc) {p : PT} (hp : p ∈ rc.pt) (he : rc.early rc.turn = some p.ad) : DRel r0 r1 (moveR rc p) := by
  have hk := h.ek _ _ he
  have hel := h.el p hp
  refine ⟨fun r' hm => h.mv r' (.step hp he hm), fun k a e => ?_, ?_, h.t0, ?_, ?_, h.n1, h.el⟩
  · have e' : delAt rc.early rc.turn k = some a := e
    by_cases hkk : k = rc.turn
    · subst hkk; rw [delAt_same] at e'; cases e'
    · rw [delAt_other _ hkk] at e'; exact h.ek k a e'
  · have hb := h.bl
    show ((rc.buffer ++ _).length : Int) ≤ 4000 + 4000 * (rc.turn + 1 - r0.turn)
    rw [List.length_append, List.length_map]; push_cast; omega
  · have := h.t1; show r0.turn ≤ rc.turn + 1; omega
  · have := hk.1; show rc.turn + 1 ≤ rc.next; omega
end Go.Proofs.Ytfkphdmnelchmaa
