/- Wires: Receive. -/
import Derived.Test.YtfkphdmnelchmaaWireD
import Derived.Deep.Cut
namespace Go.Proofs.Ytfkphdmnelchmaa
open Go.RowKit Go.Maps

def tailA (g off cap sz : Nat) : Addr := if cap = 1 then ⟨g, off, none⟩ else ⟨g, off + sz, none⟩
theorem tailA_block (g off cap sz : Nat) : (tailA g off cap sz).block = g := by unfold tailA; split <;> rfl
theorem tail_run {P : Program} {T e : TypeId} {sz : Nat} (hT : P.underlying T = some (.slice e)) (hs : (P.info? e).map (·.size) = some sz) (g off n cap : Nat) (w2 : World) :
    (Instr.slice T (.slice (some ⟨g, off, none⟩) (n + 1) cap) (some (.int .i64 1)) none none).run P w2 = .ok (.slice (some (tailA g off cap sz)) n (cap - 1)) w2 := by
  have he : P.elem T = e := by simp [Program.elem, hT]
  have hsz : (sizeOf e).run P w2 = .ok sz w2 := by
    cases hq : P.info? e with
    | none => simp [hq] at hs
    | some i => simp only [hq, Option.map_some, Option.some.injEq] at hs; simp [sizeOf, typeInfo, hq, hs]
  rw [run_slice_l w2 T _ _ cap (by rw [he]; exact hT) .i64 1 (by omega) (by simp; omega)]
  rw [he, hsz]
  simp only [Result.andThen, sliced, tailA]
  by_cases h1 : cap = 1
  · simp [h1]
  · simp [h1, Addr.add]
theorem OwnsO.tail2 {α : Type} {P : Program} {t : Ty α} {w : World} {e T : TypeId} {g off cap : Nat} {x : α} {xs : List α} (h : OwnsO t w e (.slice (some ⟨g, off, none⟩) (xs.length + 1) cap) (x :: xs)) (hT : P.underlying T = some (.slice e)) (hs : (P.info? e).map (·.size) = some t.sz) :
    OwnsO t w e (.slice (some (tailA g off cap t.sz)) xs.length (cap - 1)) xs := by
  obtain ⟨v', h1, h2, _⟩ := h.tail hT hs
  have e1 := h1 w
  rw [tail_run hT hs] at e1
  injection e1 with e1
  rw [e1]; exact h2

def decPt (a : Nat) (pt : List PT) : List PT := pt.map fun p => if p.ad = a then { p with left := p.left - 1 } else p
theorem map_nodup_inj {α β : Type} {f : α → β} : ∀ {l : List α}, (l.map f).Nodup → ∀ {a b : α}, a ∈ l → b ∈ l → f a = f b → a = b
  | x :: l, h, a, b, ha, hb, e => by
    rw [List.map_cons, List.nodup_cons] at h
    rcases List.mem_cons.1 ha with h1 | h1
    · rcases List.mem_cons.1 hb with h2 | h2
      · rw [h1, h2]
      · subst h1; exact absurd (e ▸ List.mem_map_of_mem (f := f) h2) h.1
    · rcases List.mem_cons.1 hb with h2 | h2
      · subst h2; exact absurd (e ▸ List.mem_map_of_mem (f := f) h1) h.1
      · exact map_nodup_inj h.2 h1 h2 e
theorem decPt_ad (a : Nat) (pt : List PT) : (decPt a pt).map (·.ad) = pt.map (·.ad) := by
  unfold decPt; rw [List.map_map]; apply List.map_congr_left; intro p _; by_cases h : p.ad = a <;> simp [h]
section
variable {W W' : World} {base b : Nat} {L L' : WL} {r r' : Raw}
/-- A step that makes no new mutable block. -/
def WStepO (base b : Nat) (W : World) (L : WL) (r : Raw) (W' : World) (r' : Raw) : Prop :=
  ∃ L', WireInv W' base b L' r' ∧ Below base W W' ∧ (safe W b L r).le (safe W' b L' r') ∧ L'.nw ≤ L.nw + 1 ∧ L'.ne ≤ L.ne + 1 ∧ FrK L L' W W' ∧ ∀ k, mutB b L' r' k ∨ L'.fr k → k < W.heap.size
theorem WireInv.pureStepO (h : WireInv W base b L r) (hk : Below W.heap.size W W') : WStepO base b W L r W' r :=
  ⟨L, h.pure hk, hk.mono h.bw, h.safePure hk, Nat.le_succ _, Nat.le_succ _, h.pureFr hk, fun k hx => by
    rcases hx with hx | hx
    · exact h.mut_lt k hx
    · exact h.fl k hx⟩
/-- What a method has done: the new parts read in what was safe before. -/
theorem WireInv.upd (hI : WireInv W base b L r) (hk : Keeps (mutB b L r) W W') (hm : ∀ k, mutB b L' r' k → mutB b L r k)
    (hb : W'.heap[b]? = some (.cells (wCells L' r') 87 (0, 0)))
    (q : OwnsO (tIn (safe W b L r) tEl) W' 42 L'.qv r'.queue) (bf : OwnsO (tIn (safe W b L r) tItem) W' 94 L'.bv r'.buffer)
    (wm : PMap W' L'.wm L'.nw r'.way) (em : PMap W' L'.em L'.ne r'.early) (we : L'.wm ≠ L'.em)
    (pk : ∀ p ∈ r'.pt, ∃ lv, W'.heap[p.ad]? = some (.cells #[lv, .int .i64 p.left] 91 (0, 0)) ∧ tEls.rv (safe W b L r) [lv] p.els)
    (nd : (r'.pt.map (·.ad)).Nodup) (hnw : L'.nw ≤ L.nw + 1) (hne : L'.ne ≤ L.ne + 1) (hqo : ∀ k, L'.qv.ownBlock = some k → L.qv.ownBlock = some k ∨ W.heap.size ≤ k) (hf : L'.fr = L.fr) : WStepO base b W L r W' r' := by
  have hs := safe_le (L' := L') (r' := r') hk (fun k h => .inl (hm k h)) hf
  refine ⟨L', ⟨hb, q.re hs, bf.re hs, wm, em, we, fun p hp => ?_, nd, fun k h => hI.ge k (hm k h), Nat.le_trans hI.bw hk.size, hI.frL hk hf, hI.frD (fun k h => .inl (hm k h)) hqo hf⟩, hI.keepsB hk, hs, hnw, hne, hI.frK hk hf, fun k h => ?_⟩
  · obtain ⟨lv, h1, h2⟩ := pk p hp
    exact ⟨lv, h1, tEls.mono _ _ _ _ hs h2⟩
  · rcases h with h | h
    · exact hI.mut_lt k (hm k h)
    · exact hI.fl k (hf ▸ h)
theorem alloc_block {w : World} {p : Nat} {x : Obj} (h : w.heap[p]? = some x) (o : Obj) : (w.alloc o).heap[p]? = some x := (Below.heap_alloc _ _ _ (Array.getElem?_eq_some_iff.1 h).1).trans h
theorem store5_from {F : Nat → Prop} {a w : World} (h : Keeps F a w) {p : Nat} (hp : a.heap.size ≤ p) (v0 v1 v2 v3 v4 : Value) : Keeps F a (store5 w p v0 v1 v2 v3 v4) :=
  (((((h.setCell (p := ⟨p, 0, none⟩) (fun e => absurd e (by simp; omega)) _).setCell (p := ⟨p, 1, none⟩) (fun e => absurd e (by simp; omega)) _).setCell (p := ⟨p, 2, none⟩) (fun e => absurd e (by simp; omega)) _).setCell (p := ⟨p, 3, none⟩) (fun e => absurd e (by simp; omega)) _).setCell (p := ⟨p, 4, none⟩) (fun e => absurd e (by simp; omega)) _)
theorem store5_other {w : World} {p k : Nat} (h : k ≠ p) (v0 v1 v2 v3 v4 : Value) : (store5 w p v0 v1 v2 v3 v4).heap[k]? = w.heap[k]? :=
  (set_block_other h).trans ((set_block_other h).trans ((set_block_other h).trans ((set_block_other h).trans (set_block_other h))))
end
def leftAt (a : Nat) (pt : List PT) : Int := ((pt.find? fun p => p.ad == a).map (·.left)).getD 0
theorem leftAt_mem {p : PT} {pt : List PT} (hn : (pt.map (·.ad)).Nodup) (hp : p ∈ pt) : leftAt p.ad pt = p.left := by
  unfold leftAt
  cases h : pt.find? fun q => q.ad == p.ad with
  | none => have := List.find?_eq_none.1 h p hp; simp at this
  | some q =>
    have h1 := List.mem_of_find?_eq_some h
    have h2 := List.find?_some h
    rw [map_nodup_inj hn h1 hp (by simpa using h2)]; rfl
def recvR (r : Raw) : Raw :=
  match r.buffer with
  | [] => r
  | i :: is => match i.of with
    | none => { r with buffer := is, count := r.count - 1 }
    | some a => { r with buffer := is, count := r.count - 1, pt := decPt a r.pt, credits := if leftAt a r.pt = 1 then r.credits + 1 else r.credits }
def RecvOut (base b : Nat) (W : World) (L : WL) (r : Raw) (e : Ending) (W' : World) : Prop :=
  WStepO base b W L r W' (recvR r) ∧ ((r.buffer = [] ∧ e = .returned (.tuple #[elV noEl (.slice none 0 0), .int .i64 8])) ∨ ∃ i is a c, r.buffer = i :: is ∧ e = .returned (.tuple #[elV i.el (.slice a i.el.row.length c), .int .i64 0]) ∧ tRow.rv ((mem W').on (W.heap.size ≤ ·)) [.slice a i.el.row.length c] i.el.row)

theorem recv_mut {b : Nat} {L : WL} {r r' : Raw} {g off cq n : Nat} {is : List Item} (hbv : L.bv = .slice (some ⟨g, off, none⟩) n cq) (hp : r'.pt.map (·.ad) = r.pt.map (·.ad)) :
    ∀ k, mutB b { L with bv := .slice (some (tailA g off cq 6)) is.length (cq - 1) } r' k → mutB b L r k := fun k h => by
  rcases h with h | h | h | ⟨q, hq, rfl⟩ | h | h
  · exact (.inl h)
  · exact (.inr (.inl h))
  · exact (.inr (.inr (.inl h)))
  · have : q.ad ∈ r.pt.map (·.ad) := hp ▸ List.mem_map_of_mem hq
    obtain ⟨q0, h0, e⟩ := List.mem_map.1 this
    exact (.inr (.inr (.inr (.inl ⟨q0, h0, e.symm⟩))))
  · exact (.inr (.inr (.inr (.inr (.inl (by rw [hbv]; simp [Value.ownBlock, tailA_block] at h ⊢; exact h))))))
  · exact (.inr (.inr (.inr (.inr (.inr h)))))
/-- A packet's number of elements that were not received goes down (or not); the buffer's first element goes. -/
theorem recv_step {W C : World} {base b : Nat} {L : WL} {r r' : Raw} {i : Item} {is : List Item} {g off cq : Nat} (hI : WireInv W base b L r) (hbu : r.buffer = i :: is) (hbv : L.bv = .slice (some ⟨g, off, none⟩) (is.length + 1) cq)
    (h1 : r'.queue = r.queue) (h2 : r'.buffer = is) (h3 : r'.early = r.early) (h4 : r'.way = r.way) (h5 : r'.pt.map (·.ad) = r.pt.map (·.ad))
    (hk : Keeps (mutB b L r) W C) (hb : C.heap[b]? = some (.cells (wCells { L with bv := .slice (some (tailA g off cq 6)) is.length (cq - 1) } r') 87 (0, 0)))
    (ho : ∀ k, k < W.heap.size → k ≠ b → (∀ p ∈ r.pt, k ≠ p.ad) → C.heap[k]? = W.heap[k]?)
    (pk : ∀ p ∈ r'.pt, ∃ lv, C.heap[p.ad]? = some (.cells #[lv, .int .i64 p.left] 91 (0, 0)) ∧ tEls.rv (safe W b L r) [lv] p.els) : WStepO base b W L r C r' := by
  have hbf := hI.bf
  rw [hbu, hbv] at hbf
  have ht : OwnsO (tIn (safe W b L r) tItem) W 94 (.slice (some (tailA g off cq 6)) is.length (cq - 1)) is := hbf.tail2 (P := Try.prog) (T := 83) Try.underlying83 (by kernel_rfl)
  have hap := hI.apart
  refine hI.upd (L' := { L with bv := .slice (some (tailA g off cq 6)) is.length (cq - 1) }) hk (fun k h => recv_mut hbv h5 k h) hb ?_ ?_ ?_ ?_ hI.we pk (by rw [h5]; exact hI.nd) (Nat.le_succ _) (Nat.le_succ _) (fun _ h => .inl h) rfl
  · rw [h1]; exact hI.q.keeps (fun k e => ho k (hI.q.lt k e) (hap.2.2.2.2 k e).1 (fun p hp => (hap.2.2.2.2 k e).2.2.2.1 p hp))
  · rw [h2]
    refine OwnsO.keeps (w := W) ht (fun k e => ?_)
    have e2 : L.bv.ownBlock = some k := by rw [hbv]; simpa [Value.ownBlock, tailA_block] using e
    exact ho k (hI.bf.lt k e2) (hap.2.2.2.1 k e2).1 (fun p hp => (hap.2.2.2.1 k e2).2.2.2 p hp)
  · rw [h4]; exact hI.wm.at (ho _ hI.wm.lt (fun e => hap.1 e.symm) (fun p hp e => (hap.2.2.1 p hp).2.1 e.symm))
  · rw [h3]; exact hI.em.at (ho _ hI.em.lt (fun e => hap.2.1 e.symm) (fun p hp e => (hap.2.2.1 p hp).2.2 e.symm))

/-- Receive's last steps, whatever has become of the packet. -/
theorem recv_fin {W w1 X1 : World} {base b : Nat} {L : WL} {r r1 r' : Raw} {i : Item} {is : List Item} {g off cq : Nat} {v0 v1 v2 v3 v4 : Value} {a0 a1 a2 a3 a4 : Value} {T : TypeId} (hI : WireInv W base b L r) (hbu : r.buffer = i :: is) (hbv : L.bv = .slice (some ⟨g, off, none⟩) (is.length + 1) cq)
    (hb1 : X1.heap[b]? = some (.cells (wCells L r1) 87 (0, 0))) (q1 : X1.heap[W.heap.size]? = some (.cells #[a0, a1, a2, a3, a4] T (0, 0))) (hk1 : Keeps (mutB b L r) W X1) (hw : Keeps (fun k => k ≤ W.heap.size) w1 X1)
    (ho1 : ∀ k, k < W.heap.size → k ≠ b → (∀ p ∈ r.pt, k ≠ p.ad) → X1.heap[k]? = W.heap[k]?)
    (hn : wCells { L with bv := .slice (some (tailA g off cq 6)) is.length (cq - 1) } r' = ((wCells L r1).setIfInBounds 7 (.slice (some (tailA g off cq 6)) is.length (cq - 1))).setIfInBounds 9 (.int .i64 (r.count - 1)))
    (h1 : r'.queue = r.queue) (h2 : r'.buffer = is) (h3 : r'.early = r.early) (h4 : r'.way = r.way) (_h6 : r'.count = r.count - 1) (h5 : r'.pt.map (·.ad) = r.pt.map (·.ad))
    (hpk : ∀ p ∈ r'.pt, ∃ lv, X1.heap[p.ad]? = some (.cells #[lv, .int .i64 p.left] 91 (0, 0)) ∧ tEls.rv (safe W b L r) [lv] p.els) :
    let F := store5 ((X1.setCell ⟨b, 7, none⟩ (.slice (some (tailA g off cq 6)) is.length (cq - 1))).setCell ⟨b, 9, none⟩ (.int .i64 (r.count - 1))) W.heap.size v0 v1 v2 v3 v4
    F.heap[W.heap.size]? = some (.cells #[v0, v1, v2, v3, v4] T (0, 0)) ∧ WStepO base b W L r F r' ∧ Keeps (fun k => k ≤ W.heap.size) w1 F := by
  intro F
  have hbl := hI.mut_lt b (.inl rfl)
  have hbW : b ≠ W.heap.size := by omega
  have hoC : ∀ k, k ≠ b → ((X1.setCell ⟨b, 7, none⟩ (.slice (some (tailA g off cq 6)) is.length (cq - 1))).setCell ⟨b, 9, none⟩ (.int .i64 (r.count - 1))).heap[k]? = X1.heap[k]? := fun k h => (set_block_other h).trans (set_block_other h)
  have hbC : ((X1.setCell ⟨b, 7, none⟩ (.slice (some (tailA g off cq 6)) is.length (cq - 1))).setCell ⟨b, 9, none⟩ (.int .i64 (r.count - 1))).heap[b]? = _ := set_block (set_block hb1)
  have hkC : Keeps (mutB b L r) W ((X1.setCell ⟨b, 7, none⟩ (.slice (some (tailA g off cq 6)) is.length (cq - 1))).setCell ⟨b, 9, none⟩ (.int .i64 (r.count - 1))) := (hk1.setCell (p := ⟨b, 7, none⟩) (fun _ => .inl rfl) _).setCell (p := ⟨b, 9, none⟩) (fun _ => .inl rfl) _
  have hwC : Keeps (fun k => k ≤ W.heap.size) w1 ((X1.setCell ⟨b, 7, none⟩ (.slice (some (tailA g off cq 6)) is.length (cq - 1))).setCell ⟨b, 9, none⟩ (.int .i64 (r.count - 1))) := (hw.setCell (p := ⟨b, 7, none⟩) (fun _ => Nat.le_of_lt hbl) _).setCell (p := ⟨b, 9, none⟩) (fun _ => Nat.le_of_lt hbl) _
  refine ⟨store5_block ((hoC _ (Ne.symm hbW)).trans q1) _ _ _ _ _, ?_, hwC.trans ((store5_keeps _ W.heap.size _ _ _ _ _).wide (fun k _ h => by omega))⟩
  refine recv_step hI hbu hbv h1 h2 h3 h4 h5 (store5_from hkC (Nat.le_refl _) _ _ _ _ _) ?_ (fun k hk1 hk2 hk3 => (store5_other (by omega) _ _ _ _ _).trans ((hoC k hk2).trans (ho1 k hk1 hk2 hk3))) (fun p hp => ?_)
  · rw [hn]; exact (store5_other hbW _ _ _ _ _).trans hbC
  · obtain ⟨lv, g1, g2⟩ := hpk p hp
    have hm : p.ad ∈ r.pt.map (·.ad) := h5 ▸ List.mem_map_of_mem hp
    obtain ⟨q, hq, e⟩ := List.mem_map.1 hm
    have hlt := hI.mut_lt p.ad (.inr (.inr (.inr (.inl ⟨q, hq, e.symm⟩))))
    have hne : p.ad ≠ b := e ▸ (hI.apart.2.2.1 q hq).1
    exact ⟨lv, (store5_other (by omega) _ _ _ _ _).trans ((hoC _ hne).trans g1), g2⟩

set_option maxRecDepth 100000 in
set_option maxHeartbeats 4000000 in
theorem receive_any (base b : Nat) (L : WL) (r : Raw) (W : World) (hI : WireInv W base b L r) (h8 : ∀ i ∈ r.buffer, i.el.row.length ≤ 1000000) (hof : ∀ i ∈ r.buffer, ∀ a, i.of = some a → ∃ p ∈ r.pt, p.ad = a ∧ 1 ≤ p.left ∧ p.left ≤ 4000)
    (hc0 : 1 ≤ r.count ∨ r.buffer = []) (hc1 : r.count ≤ 4000) (hcr : 0 ≤ r.credits ∧ r.credits ≤ 1000) :
    Calls Try.prog 20 #[.pointer (some ⟨b, 0, none⟩)] W (RecvOut base b W L r) := by
  obtain ⟨qv, bv, wm, em, nw, ne, fr⟩ := L
  have hb1 : ∀ o, Below W.heap.size W (W.alloc o) := fun o => (Below.refl _ _).alloc (Nat.le_refl _) o
  have HB1 := Lib.hid hb1
  have HP := Lib.hid (fun o => peek_any base b _ r (W.alloc o) (hI.pure (hb1 o)) h8)
  have HI := Lib.hid hI
  go_enter Try.func20, Try.ntmps20
  go_wp2_with fail
  refine (HP.out _).mono ?_
  rintro e w1 ⟨hb, h | ⟨i, is, a1, c1, hbu, rfl, hu⟩⟩
  · obtain ⟨hbu, rfl⟩ := h
    have HR := Lib.hid (show recvR r = r by simp [recvR, hbu])
    have HBU := Lib.hid hbu
    have q := fun o => alloc_block ((hb.block W.heap.size (by simp)).trans (heap_alloc_new W _)) o
    have e0 : ∀ o, (w1.alloc o).cell? ⟨W.heap.size, 0, none⟩ = some (.int .i64 0) := fun o => mem_cells (q o) 0
    have e1 : ∀ o, (w1.alloc o).cell? ⟨W.heap.size, 1, none⟩ = some (.int .i64 0) := fun o => mem_cells (q o) 1
    have e2 : ∀ o, (w1.alloc o).cell? ⟨W.heap.size, 2, none⟩ = some (.int .i64 0) := fun o => mem_cells (q o) 2
    have e3 : ∀ o, (w1.alloc o).cell? ⟨W.heap.size, 3, none⟩ = some (.slice none 0 0) := fun o => mem_cells (q o) 3
    have e4 : ∀ o, (w1.alloc o).cell? ⟨W.heap.size, 4, none⟩ = some (.int .i64 0) := fun o => mem_cells (q o) 4
    have f : ∀ o i, (w1.alloc o).frozen? ⟨W.heap.size, i, none⟩ = false := fun o => frozen_cells (q o)
    have HB := Lib.hid ((HB1.out _).trans (hb.mono (by simp)))
    have HQ := Lib.hid q
    clear hI h8 hof hbu hb q
    go_wp2
    have hk : Keeps (mutB b ⟨qv, bv, wm, em, nw, ne, fr⟩ r) W (store5 (w1.alloc (.cells #[.int .i64 noEl.kind, .int .i64 noEl.n, .int .i64 noEl.time, .slice none 0 0, .int .i64 noEl.cn] 42)) W.heap.size (.int .i64 0) (.int .i64 0) (.int .i64 0) (.slice none 0 0) (.int .i64 0)) :=
      store5_from (((below_keeps HB.out).wide (fun k h1 h2 => by omega)).alloc _) (Nat.le_refl _) _ _ _ _ _
    have r1 := store5_block (HQ.out (.cells #[.int .i64 noEl.kind, .int .i64 noEl.n, .int .i64 noEl.time, .slice none 0 0, .int .i64 noEl.cn] 42)) (.int .i64 0) (.int .i64 0) (.int .i64 0) (.slice none 0 0) (.int .i64 0)
    show bodyPost _ _ _ _ _ (store5 (w1.alloc (.cells #[.int .i64 noEl.kind, .int .i64 noEl.n, .int .i64 noEl.time, .slice none 0 0, .int .i64 noEl.cn] 42)) W.heap.size (.int .i64 0) (.int .i64 0) (.int .i64 0) (.slice none 0 0) (.int .i64 0))
    have hB2 : Below W.heap.size W (store5 (w1.alloc (.cells #[.int .i64 noEl.kind, .int .i64 noEl.n, .int .i64 noEl.time, .slice none 0 0, .int .i64 noEl.cn] 42)) W.heap.size (.int .i64 0) (.int .i64 0) (.int .i64 0) (.slice none 0 0) (.int .i64 0)) :=
      Keeps.belowStep (HB.out.alloc HB.out.size _) (store5_keeps _ _ _ _ _ _ _) (fun k hk => by omega) (by have := HB.out.size; simp; omega)
    generalize store5 (w1.alloc (.cells #[.int .i64 noEl.kind, .int .i64 noEl.n, .int .i64 noEl.time, .slice none 0 0, .int .i64 noEl.cn] 42)) W.heap.size (.int .i64 0) (.int .i64 0) (.int .i64 0) (.slice none 0 0) (.int .i64 0) = w2 at hk r1 hB2 ⊢
    have g0 : w2.cell? ⟨W.heap.size, 0, none⟩ = some (.int .i64 0) := mem_cells r1 0
    have g1 : w2.cell? ⟨W.heap.size, 1, none⟩ = some (.int .i64 0) := mem_cells r1 1
    have g2 : w2.cell? ⟨W.heap.size, 2, none⟩ = some (.int .i64 0) := mem_cells r1 2
    have g3 : w2.cell? ⟨W.heap.size, 3, none⟩ = some (.slice none 0 0) := mem_cells r1 3
    have g4 : w2.cell? ⟨W.heap.size, 4, none⟩ = some (.int .i64 0) := mem_cells r1 4
    exact bodyPost_ret (v := .tuple #[elV noEl (.slice none 0 0), .int .i64 8]) (by simp [results, Try.results20, go_sem, noEl, g0, g1, g2, g3, g4]) rfl ⟨by rw [HR.out]; exact HI.out.pureStepO hB2, .inl ⟨HBU.out, rfl⟩⟩
  · obtain ⟨g, off, cq, a, c, hqv, hq1, hq2, _, _, _, _, _, c5, _, _⟩ := hI.head hbu
    simp only at hqv
    subst hqv
    have hbW := (HB1.out (.cells #[.int .i64 0, .int .i64 0, .int .i64 0, .slice none 0 0, .int .i64 0] 42)).trans (hb.mono (by simp))
    have hw1 : W.heap.size + 1 ≤ w1.heap.size := by have := hb.size; simpa using this
    have q := alloc_block ((hb.block W.heap.size (by simp)).trans (heap_alloc_new W _)) (.cells #[.int .i64 i.el.kind, .int .i64 i.el.n, .int .i64 i.el.time, .slice a1 i.el.row.length c1, .int .i64 i.el.cn] 42)
    have y := heap_alloc_new w1 (.cells #[.int .i64 i.el.kind, .int .i64 i.el.n, .int .i64 i.el.time, .slice a1 i.el.row.length c1, .int .i64 i.el.cn] 42)
    have hX := hbW.alloc hbW.size (.cells #[.int .i64 i.el.kind, .int .i64 i.el.n, .int .i64 i.el.time, .slice a1 i.el.row.length c1, .int .i64 i.el.cn] 42)
    have hwX := (Keeps.refl (fun k => k ≤ W.heap.size) w1).alloc (.cells #[.int .i64 i.el.kind, .int .i64 i.el.n, .int .i64 i.el.time, .slice a1 i.el.row.length c1, .int .i64 i.el.cn] 42)
    have hcnt : 1 ≤ r.count := hc0.resolve_right (by rw [hbu]; simp)
    have hpos : (0 : Int) < ((is.length + 1 : Nat) : Int) := by omega
    have HBU := Lib.hid hbu
    have HU := Lib.hid (tRow.mono _ _ _ _ (Mem.on_mono (mem w1) (fun b (hb : (W.alloc (.cells #[.int .i64 0, .int .i64 0, .int .i64 0, .slice none 0 0, .int .i64 0] 42)).heap.size ≤ b) => (by simpa using hb : W.heap.size + 1 ≤ b))) hu)
    have HOF := Lib.hid (hof i (by rw [hbu]; simp))
    clear HB1 hb1 HP h8 hof hbu hb hu hc0
    go_upto_region 2 with fail
    generalize hXe : (w1.alloc (.cells #[.int .i64 i.el.kind, .int .i64 i.el.n, .int .i64 i.el.time, .slice a1 i.el.row.length c1, .int .i64 i.el.cn] 42)) = X at q y hX hwX ⊢
    clear hXe
    generalize w1.heap.size = yb at *
    have hbl := hI.mut_lt b (.inl rfl)
    have hXb := (hX.block b hbl).trans hI.hb
    have hkX : Keeps (mutB b ⟨qv, .slice (some ⟨g, off, none⟩) (is.length + 1) cq, wm, em, nw, ne, fr⟩ r) W X := (below_keeps hX).wide (fun k h1 h2 => by omega)
    have c7 : X.cell? ⟨b, 7, none⟩ = some (.slice (some ⟨g, off, none⟩) (is.length + 1) cq) := mem_cells hXb 7
    have c5 := (mem_of_block (hX.block g (mem_lt c5)) _).trans c5
    have c5 : X.cell? ⟨g, off + 5, none⟩ = some (ofV i.of) := c5
    clear hI hbW
    cases ho : i.of with
    | none =>
      rw [ho] at c5
      have HR := Lib.hid (show recvR r = { r with buffer := is, count := r.count - 1, credits := r.credits, pt := r.pt } by simp [recvR, HBU.out, ho])
      simp only [ofV] at c5
      have HX := Lib.hid (And.intro hXb (And.intro q (And.intro y (And.intro hkX (And.intro hX hwX)))))
      clear ho hXb q y hkX hX hwX
      go_upto_region 9 with fail
      obtain ⟨hb1, q1, y1, hk1, hX, hwX1⟩ := HX.out
      clear HX c5 c7
      have ho1 : ∀ k, k < W.heap.size → k ≠ b → (∀ p ∈ r.pt, k ≠ p.ad) → X.heap[k]? = W.heap[k]? := fun k h _ _ => hX.block k h
      have hpk1 : ∀ p ∈ r.pt, ∃ lv, X.heap[p.ad]? = some (.cells #[lv, .int .i64 p.left] 91 (0, 0)) ∧ tEls.rv (safe W b ⟨qv, .slice (some ⟨g, off, none⟩) (is.length + 1) cq, wm, em, nw, ne, fr⟩ r) [lv] p.els := fun p hp => by
        obtain ⟨lv, h1, h2⟩ := HI.out.pk p hp
        exact ⟨lv, (hX.block _ (Array.getElem?_eq_some_iff.1 h1).1).trans h1, h2⟩
      clear hX
      generalize X = X1 at *
      have c7 : X1.cell? ⟨b, 7, none⟩ = some (.slice (some ⟨g, off, none⟩) (is.length + 1) cq) := mem_cells hb1 7
      have c9 : X1.cell? ⟨b, 9, none⟩ = some (.int .i64 r.count) := mem_cells hb1 9
      have f7 : X1.frozen? ⟨b, 7, none⟩ = false := frozen_cells hb1 7
      have f9 : X1.frozen? ⟨b, 9, none⟩ = false := frozen_cells hb1 9
      have y0 : X1.cell? ⟨yb, 0, none⟩ = some (.int .i64 i.el.kind) := mem_cells y1 0
      have y11 : X1.cell? ⟨yb, 1, none⟩ = some (.int .i64 i.el.n) := mem_cells y1 1
      have y2 : X1.cell? ⟨yb, 2, none⟩ = some (.int .i64 i.el.time) := mem_cells y1 2
      have y3 : X1.cell? ⟨yb, 3, none⟩ = some (.slice a1 i.el.row.length c1) := mem_cells y1 3
      have y4 : X1.cell? ⟨yb, 4, none⟩ = some (.int .i64 i.el.cn) := mem_cells y1 4
      have e0 : X1.cell? ⟨W.heap.size, 0, none⟩ = some (.int .i64 0) := mem_cells q1 0
      have e1 : X1.cell? ⟨W.heap.size, 1, none⟩ = some (.int .i64 0) := mem_cells q1 1
      have e2 : X1.cell? ⟨W.heap.size, 2, none⟩ = some (.int .i64 0) := mem_cells q1 2
      have e3 : X1.cell? ⟨W.heap.size, 3, none⟩ = some (.slice none 0 0) := mem_cells q1 3
      have e4 : X1.cell? ⟨W.heap.size, 4, none⟩ = some (.int .i64 0) := mem_cells q1 4
      have f0 : X1.frozen? ⟨W.heap.size, 0, none⟩ = false := frozen_cells q1 0
      have f1 : X1.frozen? ⟨W.heap.size, 1, none⟩ = false := frozen_cells q1 1
      have f2 : X1.frozen? ⟨W.heap.size, 2, none⟩ = false := frozen_cells q1 2
      have f3 : X1.frozen? ⟨W.heap.size, 3, none⟩ = false := frozen_cells q1 3
      have f4 : X1.frozen? ⟨W.heap.size, 4, none⟩ = false := frozen_cells q1 4
      have hts := tail_run (P := Try.prog) (T := 83) (sz := 6) Try.underlying83 (by kernel_rfl) g off is.length cq X1
      have HF := Lib.hid (recv_fin (v0 := .int .i64 i.el.kind) (v1 := .int .i64 i.el.n) (v2 := .int .i64 i.el.time) (v3 := .slice a1 i.el.row.length c1) (v4 := .int .i64 i.el.cn) HI.out HBU.out rfl hb1 q1 hk1 hwX1 ho1 (r' := { r with buffer := is, count := r.count - 1, credits := r.credits, pt := r.pt }) rfl rfl rfl rfl rfl rfl rfl hpk1)
      clear hb1 q1 y1 hk1 hwX1 ho1 hpk1
      go_wp2
      obtain ⟨k1, k2, k3⟩ := HF.out
      show bodyPost _ _ _ _ _ (store5 ((X1.setCell ⟨b, 7, none⟩ (.slice (some (tailA g off cq 6)) is.length (cq - 1))).setCell ⟨b, 9, none⟩ (.int .i64 (r.count - 1))) W.heap.size (.int .i64 i.el.kind) (.int .i64 i.el.n) (.int .i64 i.el.time) (.slice a1 i.el.row.length c1) (.int .i64 i.el.cn))
      generalize store5 ((X1.setCell ⟨b, 7, none⟩ (.slice (some (tailA g off cq 6)) is.length (cq - 1))).setCell ⟨b, 9, none⟩ (.int .i64 (r.count - 1))) W.heap.size (.int .i64 i.el.kind) (.int .i64 i.el.n) (.int .i64 i.el.time) (.slice a1 i.el.row.length c1) (.int .i64 i.el.cn) = F at k1 k2 k3 ⊢
      have g0 : F.cell? ⟨W.heap.size, 0, none⟩ = some (.int .i64 i.el.kind) := mem_cells k1 0
      have g1 : F.cell? ⟨W.heap.size, 1, none⟩ = some (.int .i64 i.el.n) := mem_cells k1 1
      have g2 : F.cell? ⟨W.heap.size, 2, none⟩ = some (.int .i64 i.el.time) := mem_cells k1 2
      have g3 : F.cell? ⟨W.heap.size, 3, none⟩ = some (.slice a1 i.el.row.length c1) := mem_cells k1 3
      have g4 : F.cell? ⟨W.heap.size, 4, none⟩ = some (.int .i64 i.el.cn) := mem_cells k1 4
      refine bodyPost_ret (v := .tuple #[elV i.el (.slice a1 i.el.row.length c1), .int .i64 0]) (by simp [results, Try.results20, go_sem, g0, g1, g2, g3, g4]) rfl ⟨by rw [HR.out]; exact k2, .inr ⟨i, is, a1, c1, HBU.out, rfl, ?_⟩⟩
      exact tRow.mono _ _ _ _ (Mem.le_trans (keeps_mem k3 (S := fun b => W.heap.size + 1 ≤ b) (fun b hb => by omega)) (Mem.on_mono _ (fun b hb => by omega))) HU.out
    | some pa =>
      obtain ⟨p, hpm, rfl, hp1, hp2⟩ := HOF.out pa ho
      obtain ⟨plv, hpB, hpE⟩ := HI.out.pk p hpm
      have hpb : p.ad ≠ b := (HI.out.apart.2.2.1 p hpm).1
      have hpl := HI.out.mut_lt p.ad (.inr (.inr (.inr (.inl ⟨p, hpm, rfl⟩))))
      have hpX := (hX.block _ hpl).trans hpB
      have k1 : X.cell? ⟨p.ad, 1, none⟩ = some (.int .i64 p.left) := mem_cells hpX 1
      have fk : X.frozen? ⟨p.ad, 1, none⟩ = false := frozen_cells hpX 1
      have c2 : X.cell? ⟨b, 2, none⟩ = some (.int .i64 r.credits) := mem_cells hXb 2
      have fb2 : X.frozen? ⟨b, 2, none⟩ = false := frozen_cells hXb 2
      have HLA := leftAt_mem HI.out.nd hpm
      rw [ho] at c5
      simp only [ofV] at c5
      have hpW : p.ad ≠ W.heap.size := by omega
      have hpy : p.ad ≠ yb := by omega
      have hbW2 : b ≠ W.heap.size := by omega
      have hby : b ≠ yb := by omega
      have HX := Lib.hid (And.intro hXb (And.intro q (And.intro y (And.intro hkX (And.intro hX (And.intro hwX (And.intro hpX (And.intro hpE (And.intro hpb (And.intro hpW (And.intro hpy (And.intro hbW2 hby))))))))))))
      by_cases hone : p.left = 1
      · have HR := Lib.hid (show recvR r = { r with buffer := is, count := r.count - 1, credits := r.credits + 1, pt := decPt p.ad r.pt } by simp [recvR, HBU.out, ho, HLA, hone])
        have hz : (p.left - 1 == 0) = true := by simp; omega
        clear ho HLA hone hXb q y hkX hX hwX hpB hpX hpE hpb hpW hpy hbW2 hby
        go_upto_region 9 with fail
        obtain ⟨hXb, q, y, hkX, hX, hwX, hpX, hpE, hpb, hpW, hpy, hbW2, hby⟩ := HX.out
        clear HX c5 c7 k1 fk c2 fb2 hz
        have hX1 : ∀ k, k ≠ p.ad → k ≠ b → ((X.setCell ⟨p.ad, 1, none⟩ (.int .i64 (p.left - 1))).setCell ⟨b, 2, none⟩ (.int .i64 (r.credits + 1))).heap[k]? = X.heap[k]? := fun k h1 h2 => (set_block_other h2).trans (set_block_other h1)
        have hb1 : ((X.setCell ⟨p.ad, 1, none⟩ (.int .i64 (p.left - 1))).setCell ⟨b, 2, none⟩ (.int .i64 (r.credits + 1))).heap[b]? = some (.cells (wCells ⟨qv, .slice (some ⟨g, off, none⟩) (is.length + 1) cq, wm, em, nw, ne, fr⟩ { r with credits := r.credits + 1 }) 87 (0, 0)) := set_block ((set_block_other (Ne.symm hpb)).trans hXb)
        have hp1 : ((X.setCell ⟨p.ad, 1, none⟩ (.int .i64 (p.left - 1))).setCell ⟨b, 2, none⟩ (.int .i64 (r.credits + 1))).heap[p.ad]? = some (.cells #[plv, .int .i64 (p.left - 1)] 91 (0, 0)) := (set_block_other hpb).trans (set_block hpX)
        have q1 := (hX1 _ (Ne.symm hpW) (Ne.symm hbW2)).trans q
        have y1 := (hX1 _ (Ne.symm hpy) (Ne.symm hby)).trans y
        have hk1 : Keeps (mutB b ⟨qv, .slice (some ⟨g, off, none⟩) (is.length + 1) cq, wm, em, nw, ne, fr⟩ r) W ((X.setCell ⟨p.ad, 1, none⟩ (.int .i64 (p.left - 1))).setCell ⟨b, 2, none⟩ (.int .i64 (r.credits + 1))) := (hkX.setCell (p := ⟨p.ad, 1, none⟩) (fun _ => (.inr (.inr (.inr (.inl ⟨p, hpm, rfl⟩))))) _).setCell (p := ⟨b, 2, none⟩) (fun _ => .inl rfl) _
        have hwX1 : Keeps (fun k => k ≤ W.heap.size) w1 ((X.setCell ⟨p.ad, 1, none⟩ (.int .i64 (p.left - 1))).setCell ⟨b, 2, none⟩ (.int .i64 (r.credits + 1))) := (hwX.setCell (p := ⟨p.ad, 1, none⟩) (fun _ => Nat.le_of_lt hpl) _).setCell (p := ⟨b, 2, none⟩) (fun _ => Nat.le_of_lt hbl) _
        have ho1 : ∀ k, k < W.heap.size → k ≠ b → (∀ p ∈ r.pt, k ≠ p.ad) → ((X.setCell ⟨p.ad, 1, none⟩ (.int .i64 (p.left - 1))).setCell ⟨b, 2, none⟩ (.int .i64 (r.credits + 1))).heap[k]? = W.heap[k]? := fun k h h2 h3 => (hX1 k (h3 p hpm) h2).trans (hX.block k h)
        have hpk1 : ∀ q ∈ decPt p.ad r.pt, ∃ lv, ((X.setCell ⟨p.ad, 1, none⟩ (.int .i64 (p.left - 1))).setCell ⟨b, 2, none⟩ (.int .i64 (r.credits + 1))).heap[q.ad]? = some (.cells #[lv, .int .i64 q.left] 91 (0, 0)) ∧ tEls.rv (safe W b ⟨qv, .slice (some ⟨g, off, none⟩) (is.length + 1) cq, wm, em, nw, ne, fr⟩ r) [lv] q.els := fun q hq => by
          obtain ⟨q0, h0, rfl⟩ := List.mem_map.1 hq
          by_cases he : q0.ad = p.ad
          · obtain rfl : q0 = p := map_nodup_inj HI.out.nd h0 hpm he
            rw [if_pos rfl]
            exact ⟨plv, hp1, hpE⟩
          · rw [if_neg he]
            obtain ⟨lv, h1, h2⟩ := HI.out.pk q0 h0
            exact ⟨lv, (hX1 _ he (HI.out.apart.2.2.1 q0 h0).1).trans ((hX.block _ (Array.getElem?_eq_some_iff.1 h1).1).trans h1), h2⟩
        clear hX1 hp1 hXb q y hkX hX hwX hpX hpE
        generalize ((X.setCell ⟨p.ad, 1, none⟩ (.int .i64 (p.left - 1))).setCell ⟨b, 2, none⟩ (.int .i64 (r.credits + 1))) = X1 at *
        have c7 : X1.cell? ⟨b, 7, none⟩ = some (.slice (some ⟨g, off, none⟩) (is.length + 1) cq) := mem_cells hb1 7
        have c9 : X1.cell? ⟨b, 9, none⟩ = some (.int .i64 r.count) := mem_cells hb1 9
        have f7 : X1.frozen? ⟨b, 7, none⟩ = false := frozen_cells hb1 7
        have f9 : X1.frozen? ⟨b, 9, none⟩ = false := frozen_cells hb1 9
        have y0 : X1.cell? ⟨yb, 0, none⟩ = some (.int .i64 i.el.kind) := mem_cells y1 0
        have y11 : X1.cell? ⟨yb, 1, none⟩ = some (.int .i64 i.el.n) := mem_cells y1 1
        have y2 : X1.cell? ⟨yb, 2, none⟩ = some (.int .i64 i.el.time) := mem_cells y1 2
        have y3 : X1.cell? ⟨yb, 3, none⟩ = some (.slice a1 i.el.row.length c1) := mem_cells y1 3
        have y4 : X1.cell? ⟨yb, 4, none⟩ = some (.int .i64 i.el.cn) := mem_cells y1 4
        have e0 : X1.cell? ⟨W.heap.size, 0, none⟩ = some (.int .i64 0) := mem_cells q1 0
        have e1 : X1.cell? ⟨W.heap.size, 1, none⟩ = some (.int .i64 0) := mem_cells q1 1
        have e2 : X1.cell? ⟨W.heap.size, 2, none⟩ = some (.int .i64 0) := mem_cells q1 2
        have e3 : X1.cell? ⟨W.heap.size, 3, none⟩ = some (.slice none 0 0) := mem_cells q1 3
        have e4 : X1.cell? ⟨W.heap.size, 4, none⟩ = some (.int .i64 0) := mem_cells q1 4
        have f0 : X1.frozen? ⟨W.heap.size, 0, none⟩ = false := frozen_cells q1 0
        have f1 : X1.frozen? ⟨W.heap.size, 1, none⟩ = false := frozen_cells q1 1
        have f2 : X1.frozen? ⟨W.heap.size, 2, none⟩ = false := frozen_cells q1 2
        have f3 : X1.frozen? ⟨W.heap.size, 3, none⟩ = false := frozen_cells q1 3
        have f4 : X1.frozen? ⟨W.heap.size, 4, none⟩ = false := frozen_cells q1 4
        have hts := tail_run (P := Try.prog) (T := 83) (sz := 6) Try.underlying83 (by kernel_rfl) g off is.length cq X1
        have HF := Lib.hid (recv_fin (v0 := .int .i64 i.el.kind) (v1 := .int .i64 i.el.n) (v2 := .int .i64 i.el.time) (v3 := .slice a1 i.el.row.length c1) (v4 := .int .i64 i.el.cn) HI.out HBU.out rfl hb1 q1 hk1 hwX1 ho1 (r' := { r with buffer := is, count := r.count - 1, credits := r.credits + 1, pt := decPt p.ad r.pt }) rfl rfl rfl rfl rfl rfl (decPt_ad _ _) hpk1)
        clear hb1 q1 y1 hk1 hwX1 ho1 hpk1
        go_wp2
        obtain ⟨k1, k2, k3⟩ := HF.out
        show bodyPost _ _ _ _ _ (store5 ((X1.setCell ⟨b, 7, none⟩ (.slice (some (tailA g off cq 6)) is.length (cq - 1))).setCell ⟨b, 9, none⟩ (.int .i64 (r.count - 1))) W.heap.size (.int .i64 i.el.kind) (.int .i64 i.el.n) (.int .i64 i.el.time) (.slice a1 i.el.row.length c1) (.int .i64 i.el.cn))
        generalize store5 ((X1.setCell ⟨b, 7, none⟩ (.slice (some (tailA g off cq 6)) is.length (cq - 1))).setCell ⟨b, 9, none⟩ (.int .i64 (r.count - 1))) W.heap.size (.int .i64 i.el.kind) (.int .i64 i.el.n) (.int .i64 i.el.time) (.slice a1 i.el.row.length c1) (.int .i64 i.el.cn) = F at k1 k2 k3 ⊢
        have g0 : F.cell? ⟨W.heap.size, 0, none⟩ = some (.int .i64 i.el.kind) := mem_cells k1 0
        have g1 : F.cell? ⟨W.heap.size, 1, none⟩ = some (.int .i64 i.el.n) := mem_cells k1 1
        have g2 : F.cell? ⟨W.heap.size, 2, none⟩ = some (.int .i64 i.el.time) := mem_cells k1 2
        have g3 : F.cell? ⟨W.heap.size, 3, none⟩ = some (.slice a1 i.el.row.length c1) := mem_cells k1 3
        have g4 : F.cell? ⟨W.heap.size, 4, none⟩ = some (.int .i64 i.el.cn) := mem_cells k1 4
        refine bodyPost_ret (v := .tuple #[elV i.el (.slice a1 i.el.row.length c1), .int .i64 0]) (by simp [results, Try.results20, go_sem, g0, g1, g2, g3, g4]) rfl ⟨by rw [HR.out]; exact k2, .inr ⟨i, is, a1, c1, HBU.out, rfl, ?_⟩⟩
        exact tRow.mono _ _ _ _ (Mem.le_trans (keeps_mem k3 (S := fun b => W.heap.size + 1 ≤ b) (fun b hb => by omega)) (Mem.on_mono _ (fun b hb => by omega))) HU.out
      · have HR := Lib.hid (show recvR r = { r with buffer := is, count := r.count - 1, credits := r.credits, pt := decPt p.ad r.pt } by simp [recvR, HBU.out, ho, HLA, hone])
        have hz : (p.left - 1 == 0) = false := by simp; omega
        clear ho HLA hone hXb q y hkX hX hwX hpB hpX hpE hpb hpW hpy hbW2 hby
        go_upto_region 9 with fail
        obtain ⟨hXb, q, y, hkX, hX, hwX, hpX, hpE, hpb, hpW, hpy, hbW2, hby⟩ := HX.out
        clear HX c5 c7 k1 fk c2 fb2 hz
        have hX1 : ∀ k, k ≠ p.ad → k ≠ b → (X.setCell ⟨p.ad, 1, none⟩ (.int .i64 (p.left - 1))).heap[k]? = X.heap[k]? := fun k h1 h2 => set_block_other h1
        have hb1 : (X.setCell ⟨p.ad, 1, none⟩ (.int .i64 (p.left - 1))).heap[b]? = some (.cells (wCells ⟨qv, .slice (some ⟨g, off, none⟩) (is.length + 1) cq, wm, em, nw, ne, fr⟩ { r with credits := r.credits }) 87 (0, 0)) := (set_block_other (Ne.symm hpb)).trans hXb
        have hp1 : (X.setCell ⟨p.ad, 1, none⟩ (.int .i64 (p.left - 1))).heap[p.ad]? = some (.cells #[plv, .int .i64 (p.left - 1)] 91 (0, 0)) := set_block hpX
        have q1 := (hX1 _ (Ne.symm hpW) (Ne.symm hbW2)).trans q
        have y1 := (hX1 _ (Ne.symm hpy) (Ne.symm hby)).trans y
        have hk1 : Keeps (mutB b ⟨qv, .slice (some ⟨g, off, none⟩) (is.length + 1) cq, wm, em, nw, ne, fr⟩ r) W (X.setCell ⟨p.ad, 1, none⟩ (.int .i64 (p.left - 1))) := hkX.setCell (p := ⟨p.ad, 1, none⟩) (fun _ => (.inr (.inr (.inr (.inl ⟨p, hpm, rfl⟩))))) _
        have hwX1 : Keeps (fun k => k ≤ W.heap.size) w1 (X.setCell ⟨p.ad, 1, none⟩ (.int .i64 (p.left - 1))) := hwX.setCell (p := ⟨p.ad, 1, none⟩) (fun _ => Nat.le_of_lt hpl) _
        have ho1 : ∀ k, k < W.heap.size → k ≠ b → (∀ p ∈ r.pt, k ≠ p.ad) → (X.setCell ⟨p.ad, 1, none⟩ (.int .i64 (p.left - 1))).heap[k]? = W.heap[k]? := fun k h h2 h3 => (hX1 k (h3 p hpm) h2).trans (hX.block k h)
        have hpk1 : ∀ q ∈ decPt p.ad r.pt, ∃ lv, (X.setCell ⟨p.ad, 1, none⟩ (.int .i64 (p.left - 1))).heap[q.ad]? = some (.cells #[lv, .int .i64 q.left] 91 (0, 0)) ∧ tEls.rv (safe W b ⟨qv, .slice (some ⟨g, off, none⟩) (is.length + 1) cq, wm, em, nw, ne, fr⟩ r) [lv] q.els := fun q hq => by
          obtain ⟨q0, h0, rfl⟩ := List.mem_map.1 hq
          by_cases he : q0.ad = p.ad
          · obtain rfl : q0 = p := map_nodup_inj HI.out.nd h0 hpm he
            rw [if_pos rfl]
            exact ⟨plv, hp1, hpE⟩
          · rw [if_neg he]
            obtain ⟨lv, h1, h2⟩ := HI.out.pk q0 h0
            exact ⟨lv, (hX1 _ he (HI.out.apart.2.2.1 q0 h0).1).trans ((hX.block _ (Array.getElem?_eq_some_iff.1 h1).1).trans h1), h2⟩
        clear hX1 hp1 hXb q y hkX hX hwX hpX hpE
        generalize (X.setCell ⟨p.ad, 1, none⟩ (.int .i64 (p.left - 1))) = X1 at *
        have c7 : X1.cell? ⟨b, 7, none⟩ = some (.slice (some ⟨g, off, none⟩) (is.length + 1) cq) := mem_cells hb1 7
        have c9 : X1.cell? ⟨b, 9, none⟩ = some (.int .i64 r.count) := mem_cells hb1 9
        have f7 : X1.frozen? ⟨b, 7, none⟩ = false := frozen_cells hb1 7
        have f9 : X1.frozen? ⟨b, 9, none⟩ = false := frozen_cells hb1 9
        have y0 : X1.cell? ⟨yb, 0, none⟩ = some (.int .i64 i.el.kind) := mem_cells y1 0
        have y11 : X1.cell? ⟨yb, 1, none⟩ = some (.int .i64 i.el.n) := mem_cells y1 1
        have y2 : X1.cell? ⟨yb, 2, none⟩ = some (.int .i64 i.el.time) := mem_cells y1 2
        have y3 : X1.cell? ⟨yb, 3, none⟩ = some (.slice a1 i.el.row.length c1) := mem_cells y1 3
        have y4 : X1.cell? ⟨yb, 4, none⟩ = some (.int .i64 i.el.cn) := mem_cells y1 4
        have e0 : X1.cell? ⟨W.heap.size, 0, none⟩ = some (.int .i64 0) := mem_cells q1 0
        have e1 : X1.cell? ⟨W.heap.size, 1, none⟩ = some (.int .i64 0) := mem_cells q1 1
        have e2 : X1.cell? ⟨W.heap.size, 2, none⟩ = some (.int .i64 0) := mem_cells q1 2
        have e3 : X1.cell? ⟨W.heap.size, 3, none⟩ = some (.slice none 0 0) := mem_cells q1 3
        have e4 : X1.cell? ⟨W.heap.size, 4, none⟩ = some (.int .i64 0) := mem_cells q1 4
        have f0 : X1.frozen? ⟨W.heap.size, 0, none⟩ = false := frozen_cells q1 0
        have f1 : X1.frozen? ⟨W.heap.size, 1, none⟩ = false := frozen_cells q1 1
        have f2 : X1.frozen? ⟨W.heap.size, 2, none⟩ = false := frozen_cells q1 2
        have f3 : X1.frozen? ⟨W.heap.size, 3, none⟩ = false := frozen_cells q1 3
        have f4 : X1.frozen? ⟨W.heap.size, 4, none⟩ = false := frozen_cells q1 4
        have hts := tail_run (P := Try.prog) (T := 83) (sz := 6) Try.underlying83 (by kernel_rfl) g off is.length cq X1
        have HF := Lib.hid (recv_fin (v0 := .int .i64 i.el.kind) (v1 := .int .i64 i.el.n) (v2 := .int .i64 i.el.time) (v3 := .slice a1 i.el.row.length c1) (v4 := .int .i64 i.el.cn) HI.out HBU.out rfl hb1 q1 hk1 hwX1 ho1 (r' := { r with buffer := is, count := r.count - 1, credits := r.credits, pt := decPt p.ad r.pt }) rfl rfl rfl rfl rfl rfl (decPt_ad _ _) hpk1)
        clear hb1 q1 y1 hk1 hwX1 ho1 hpk1
        go_wp2
        obtain ⟨k1, k2, k3⟩ := HF.out
        show bodyPost _ _ _ _ _ (store5 ((X1.setCell ⟨b, 7, none⟩ (.slice (some (tailA g off cq 6)) is.length (cq - 1))).setCell ⟨b, 9, none⟩ (.int .i64 (r.count - 1))) W.heap.size (.int .i64 i.el.kind) (.int .i64 i.el.n) (.int .i64 i.el.time) (.slice a1 i.el.row.length c1) (.int .i64 i.el.cn))
        generalize store5 ((X1.setCell ⟨b, 7, none⟩ (.slice (some (tailA g off cq 6)) is.length (cq - 1))).setCell ⟨b, 9, none⟩ (.int .i64 (r.count - 1))) W.heap.size (.int .i64 i.el.kind) (.int .i64 i.el.n) (.int .i64 i.el.time) (.slice a1 i.el.row.length c1) (.int .i64 i.el.cn) = F at k1 k2 k3 ⊢
        have g0 : F.cell? ⟨W.heap.size, 0, none⟩ = some (.int .i64 i.el.kind) := mem_cells k1 0
        have g1 : F.cell? ⟨W.heap.size, 1, none⟩ = some (.int .i64 i.el.n) := mem_cells k1 1
        have g2 : F.cell? ⟨W.heap.size, 2, none⟩ = some (.int .i64 i.el.time) := mem_cells k1 2
        have g3 : F.cell? ⟨W.heap.size, 3, none⟩ = some (.slice a1 i.el.row.length c1) := mem_cells k1 3
        have g4 : F.cell? ⟨W.heap.size, 4, none⟩ = some (.int .i64 i.el.cn) := mem_cells k1 4
        refine bodyPost_ret (v := .tuple #[elV i.el (.slice a1 i.el.row.length c1), .int .i64 0]) (by simp [results, Try.results20, go_sem, g0, g1, g2, g3, g4]) rfl ⟨by rw [HR.out]; exact k2, .inr ⟨i, is, a1, c1, HBU.out, rfl, ?_⟩⟩
        exact tRow.mono _ _ _ _ (Mem.le_trans (keeps_mem k3 (S := fun b => W.heap.size + 1 ≤ b) (fun b hb => by omega)) (Mem.on_mono _ (fun b hb => by omega))) HU.out
end Go.Proofs.Ytfkphdmnelchmaa
