/- Part 2 of the texts that the law's proof stands on, merged. -/
import Derived.Deep.Cut
import Derived.Maps.Views
import Derived.BigRegion
import Derived.Test.YtfkphdmnelchmaaWc01
set_option linter.unusedVariables false
set_option linter.unusedSimpArgs false
/- Wires: Receive. -/
namespace Go.Proofs.Ytfkphdmnelchmaa
open Go.RowKit Go.Maps

def tailA (g off cap sz : Nat) : Addr := if cap = 1 then ⟨g, off, none⟩ else ⟨g, off + sz, none⟩
theorem tailA_block (g off cap sz : Nat) : (tailA g off cap sz).block = g := by unfold tailA; split <;> rfl
theorem tail_run {P : Program} {T e : TypeId} {sz : Nat} (hT : P.underlying T = some (.slice e)) (hs : (P.info? e).map (·.size) = some sz) (g off n cap : Nat) (w2 : World) :
    (Instr.slice T (.slice (some ⟨g, off, none⟩) (n + 1) cap) (some (.int .i64 1)) none none).run P w2 = .ok (.slice (some (tailA g off cap sz)) n (cap - 1)) w2 := by
  have he : P.elem T = e := by simp [Program.elem, hT]
  have hsz : (sizeOf e).run P w2 = .ok sz w2 := by
    cases hq : P.info? e with
    | none => simp [hq] at hs
    | some i => simp only [hq, Option.map_some, Option.some.injEq] at hs; simp [sizeOf, typeInfo, hq, hs]
  rw [run_slice_l w2 T _ _ cap (by rw [he]; exact hT) .i64 1 (by omega) (by simp; omega)]
  rw [he, hsz]
  simp only [Result.andThen, sliced, tailA]
  by_cases h1 : cap = 1
  · simp [h1]
  · simp [h1, Addr.add]
theorem OwnsO.tail2 {α : Type} {P : Program} {t : Ty α} {w : World} {e T : TypeId} {g off cap : Nat} {x : α} {xs : List α} (h : OwnsO t w e (.slice (some ⟨g, off, none⟩) (xs.length + 1) cap) (x :: xs)) (hT : P.underlying T = some (.slice e)) (hs : (P.info? e).map (·.size) = some t.sz) :
    OwnsO t w e (.slice (some (tailA g off cap t.sz)) xs.length (cap - 1)) xs := by
  obtain ⟨v', h1, h2, _⟩ := h.tail hT hs
  have e1 := h1 w
  rw [tail_run hT hs] at e1
  injection e1 with e1
  rw [e1]; exact h2

def decPt (a : Nat) (pt : List PT) : List PT := pt.map fun p => if p.ad = a then { p with left := p.left - 1 } else p
theorem map_nodup_inj {α β : Type} {f : α → β} : ∀ {l : List α}, (l.map f).Nodup → ∀ {a b : α}, a ∈ l → b ∈ l → f a = f b → a = b
  | x :: l, h, a, b, ha, hb, e => by
    rw [List.map_cons, List.nodup_cons] at h
    rcases List.mem_cons.1 ha with h1 | h1
    · rcases List.mem_cons.1 hb with h2 | h2
      · rw [h1, h2]
      · subst h1; exact absurd (e ▸ List.mem_map_of_mem (f := f) h2) h.1
    · rcases List.mem_cons.1 hb with h2 | h2
      · subst h2; exact absurd (e ▸ List.mem_map_of_mem (f := f) h1) h.1
      · exact map_nodup_inj h.2 h1 h2 e
theorem decPt_ad (a : Nat) (pt : List PT) : (decPt a pt).map (·.ad) = pt.map (·.ad) := by
  unfold decPt; rw [List.map_map]; apply List.map_congr_left; intro p _; by_cases h : p.ad = a <;> simp [h]
section
variable {W W' : World} {base b : Nat} {L L' : WL} {r r' : Raw}
/-- A step that makes no new mutable block. -/
def WStepO (base b : Nat) (W : World) (L : WL) (r : Raw) (W' : World) (r' : Raw) : Prop :=
  ∃ L', WireInv W' base b L' r' ∧ Below base W W' ∧ (safe W b L r).le (safe W' b L' r') ∧ L'.nw ≤ L.nw + 1 ∧ L'.ne ≤ L.ne + 1 ∧ FrK L L' W W' ∧ ∀ k, mutB b L' r' k ∨ L'.fr k → k < W.heap.size
theorem WireInv.pureStepO (h : WireInv W base b L r) (hk : Below W.heap.size W W') : WStepO base b W L r W' r :=
  ⟨L, h.pure hk, hk.mono h.bw, h.safePure hk, Nat.le_succ _, Nat.le_succ _, h.pureFr hk, fun k hx => by
    rcases hx with hx | hx
    · exact h.mut_lt k hx
    · exact h.fl k hx⟩
/-- What a method has done: the new parts read in what was safe before. -/
theorem WireInv.upd (hI : WireInv W base b L r) (hk : Keeps (mutB b L r) W W') (hm : ∀ k, mutB b L' r' k → mutB b L r k)
    (hb : W'.heap[b]? = some (.cells (wCells L' r') 87 (0, 0)))
    (q : OwnsO (tIn (safe W b L r) tEl) W' 42 L'.qv r'.queue) (bf : OwnsO (tIn (safe W b L r) tItem) W' 94 L'.bv r'.buffer)
    (wm : PMap W' L'.wm L'.nw r'.way) (em : PMap W' L'.em L'.ne r'.early) (we : L'.wm ≠ L'.em)
    (pk : ∀ p ∈ r'.pt, ∃ lv, W'.heap[p.ad]? = some (.cells #[lv, .int .i64 p.left] 91 (0, 0)) ∧ tEls.rv (safe W b L r) [lv] p.els)
    (nd : (r'.pt.map (·.ad)).Nodup) (hnw : L'.nw ≤ L.nw + 1) (hne : L'.ne ≤ L.ne + 1) (hqo : ∀ k, L'.qv.ownBlock = some k → L.qv.ownBlock = some k ∨ W.heap.size ≤ k) (hf : L'.fr = L.fr) : WStepO base b W L r W' r' := by
  have hs := safe_le (L' := L') (r' := r') hk (fun k h => .inl (hm k h)) hf
  refine ⟨L', ⟨hb, q.re hs, bf.re hs, wm, em, we, fun p hp => ?_, nd, fun k h => hI.ge k (hm k h), Nat.le_trans hI.bw hk.size, hI.frL hk hf, hI.frD (fun k h => .inl (hm k h)) hqo hf⟩, hI.keepsB hk, hs, hnw, hne, hI.frK hk hf, fun k h => ?_⟩
  · obtain ⟨lv, h1, h2⟩ := pk p hp
    exact ⟨lv, h1, tEls.mono _ _ _ _ hs h2⟩
  · rcases h with h | h
    · exact hI.mut_lt k (hm k h)
    · exact hI.fl k (hf ▸ h)
theorem alloc_block {w : World} {p : Nat} {x : Obj} (h : w.heap[p]? = some x) (o : Obj) : (w.alloc o).heap[p]? = some x := (Below.heap_alloc _ _ _ (Array.getElem?_eq_some_iff.1 h).1).trans h
theorem store5_from {F : Nat → Prop} {a w : World} (h : Keeps F a w) {p : Nat} (hp : a.heap.size ≤ p) (v0 v1 v2 v3 v4 : Value) : Keeps F a (store5 w p v0 v1 v2 v3 v4) :=
  (((((h.setCell (p := ⟨p, 0, none⟩) (fun e => absurd e (by simp; omega)) _).setCell (p := ⟨p, 1, none⟩) (fun e => absurd e (by simp; omega)) _).setCell (p := ⟨p, 2, none⟩) (fun e => absurd e (by simp; omega)) _).setCell (p := ⟨p, 3, none⟩) (fun e => absurd e (by simp; omega)) _).setCell (p := ⟨p, 4, none⟩) (fun e => absurd e (by simp; omega)) _)
theorem store5_other {w : World} {p k : Nat} (h : k ≠ p) (v0 v1 v2 v3 v4 : Value) : (store5 w p v0 v1 v2 v3 v4).heap[k]? = w.heap[k]? :=
  (set_block_other h).trans ((set_block_other h).trans ((set_block_other h).trans ((set_block_other h).trans (set_block_other h))))
end
def leftAt (a : Nat) (pt : List PT) : Int := ((pt.find? fun p => p.ad == a).map (·.left)).getD 0
theorem leftAt_mem {p : PT} {pt : List PT} (hn : (pt.map (·.ad)).Nodup) (hp : p ∈ pt) : leftAt p.ad pt = p.left := by
  unfold leftAt
  cases h : pt.find? fun q => q.ad == p.ad with
  | none => have := List.find?_eq_none.1 h p hp; simp at this
  | some q =>
    have h1 := List.mem_of_find?_eq_some h
    have h2 := List.find?_some h
    rw [map_nodup_inj hn h1 hp (by simpa using h2)]; rfl
def recvR (r : Raw) : Raw :=
  match r.buffer with
  | [] => r
  | i :: is => match i.of with
    | none => { r with buffer := is, count := r.count - 1 }
    | some a => { r with buffer := is, count := r.count - 1, pt := decPt a r.pt, credits := if leftAt a r.pt = 1 then r.credits + 1 else r.credits }
def RecvOut (base b : Nat) (W : World) (L : WL) (r : Raw) (e : Ending) (W' : World) : Prop :=
  WStepO base b W L r W' (recvR r) ∧ ((r.buffer = [] ∧ e = .returned (.tuple #[elV noEl (.slice none 0 0), .int .i64 8])) ∨ ∃ i is a c, r.buffer = i :: is ∧ e = .returned (.tuple #[elV i.el (.slice a i.el.row.length c), .int .i64 0]) ∧ tRow.rv ((mem W').on (W.heap.size ≤ ·)) [.slice a i.el.row.length c] i.el.row)

theorem recv_mut {b : Nat} {L : WL} {r r' : Raw} {g off cq n : Nat} {is : List Item} (hbv : L.bv = .slice (some ⟨g, off, none⟩) n cq) (hp : r'.pt.map (·.ad) = r.pt.map (·.ad)) :
    ∀ k, mutB b { L with bv := .slice (some (tailA g off cq 6)) is.length (cq - 1) } r' k → mutB b L r k := fun k h => by
  rcases h with h | h | h | ⟨q, hq, rfl⟩ | h | h
  · exact (.inl h)
  · exact (.inr (.inl h))
  · exact (.inr (.inr (.inl h)))
  · have : q.ad ∈ r.pt.map (·.ad) := hp ▸ List.mem_map_of_mem hq
    obtain ⟨q0, h0, e⟩ := List.mem_map.1 this
    exact (.inr (.inr (.inr (.inl ⟨q0, h0, e.symm⟩))))
  · exact (.inr (.inr (.inr (.inr (.inl (by rw [hbv]; simp [Value.ownBlock, tailA_block] at h ⊢; exact h))))))
  · exact (.inr (.inr (.inr (.inr (.inr h)))))
/-- A packet's number of elements that were not received goes down (or not); the buffer's first element goes. -/
theorem recv_step {W C : World} {base b : Nat} {L : WL} {r r' : Raw} {i : Item} {is : List Item} {g off cq : Nat} (hI : WireInv W base b L r) (hbu : r.buffer = i :: is) (hbv : L.bv = .slice (some ⟨g, off, none⟩) (is.length + 1) cq)
    (h1 : r'.queue = r.queue) (h2 : r'.buffer = is) (h3 : r'.early = r.early) (h4 : r'.way = r.way) (h5 : r'.pt.map (·.ad) = r.pt.map (·.ad))
    (hk : Keeps (mutB b L r) W C) (hb : C.heap[b]? = some (.cells (wCells { L with bv := .slice (some (tailA g off cq 6)) is.length (cq - 1) } r') 87 (0, 0)))
    (ho : ∀ k, k < W.heap.size → k ≠ b → (∀ p ∈ r.pt, k ≠ p.ad) → C.heap[k]? = W.heap[k]?)
    (pk : ∀ p ∈ r'.pt, ∃ lv, C.heap[p.ad]? = some (.cells #[lv, .int .i64 p.left] 91 (0, 0)) ∧ tEls.rv (safe W b L r) [lv] p.els) : WStepO base b W L r C r' := by
  have hbf := hI.bf
  rw [hbu, hbv] at hbf
  have ht : OwnsO (tIn (safe W b L r) tItem) W 94 (.slice (some (tailA g off cq 6)) is.length (cq - 1)) is := hbf.tail2 (P := Try.prog) (T := 83) Try.underlying83 (by kernel_rfl)
  have hap := hI.apart
  refine hI.upd (L' := { L with bv := .slice (some (tailA g off cq 6)) is.length (cq - 1) }) hk (fun k h => recv_mut hbv h5 k h) hb ?_ ?_ ?_ ?_ hI.we pk (by rw [h5]; exact hI.nd) (Nat.le_succ _) (Nat.le_succ _) (fun _ h => .inl h) rfl
  · rw [h1]; exact hI.q.keeps (fun k e => ho k (hI.q.lt k e) (hap.2.2.2.2 k e).1 (fun p hp => (hap.2.2.2.2 k e).2.2.2.1 p hp))
  · rw [h2]
    refine OwnsO.keeps (w := W) ht (fun k e => ?_)
    have e2 : L.bv.ownBlock = some k := by rw [hbv]; simpa [Value.ownBlock, tailA_block] using e
    exact ho k (hI.bf.lt k e2) (hap.2.2.2.1 k e2).1 (fun p hp => (hap.2.2.2.1 k e2).2.2.2 p hp)
  · rw [h4]; exact hI.wm.at (ho _ hI.wm.lt (fun e => hap.1 e.symm) (fun p hp e => (hap.2.2.1 p hp).2.1 e.symm))
  · rw [h3]; exact hI.em.at (ho _ hI.em.lt (fun e => hap.2.1 e.symm) (fun p hp e => (hap.2.2.1 p hp).2.2 e.symm))

/-- Receive's last steps, whatever has become of the packet. -/
theorem recv_fin {W w1 X1 : World} {base b : Nat} {L : WL} {r r1 r' : Raw} {i : Item} {is : List Item} {g off cq : Nat} {v0 v1 v2 v3 v4 : Value} {a0 a1 a2 a3 a4 : Value} {T : TypeId} (hI : WireInv W base b L r) (hbu : r.buffer = i :: is) (hbv : L.bv = .slice (some ⟨g, off, none⟩) (is.length + 1) cq)
    (hb1 : X1.heap[b]? = some (.cells (wCells L r1) 87 (0, 0))) (q1 : X1.heap[W.heap.size]? = some (.cells #[a0, a1, a2, a3, a4] T (0, 0))) (hk1 : Keeps (mutB b L r) W X1) (hw : Keeps (fun k => k ≤ W.heap.size) w1 X1)
    (ho1 : ∀ k, k < W.heap.size → k ≠ b → (∀ p ∈ r.pt, k ≠ p.ad) → X1.heap[k]? = W.heap[k]?)
    (hn : wCells { L with bv := .slice (some (tailA g off cq 6)) is.length (cq - 1) } r' = ((wCells L r1).setIfInBounds 7 (.slice (some (tailA g off cq 6)) is.length (cq - 1))).setIfInBounds 9 (.int .i64 (r.count - 1)))
    (h1 : r'.queue = r.queue) (h2 : r'.buffer = is) (h3 : r'.early = r.early) (h4 : r'.way = r.way) (_h6 : r'.count = r.count - 1) (h5 : r'.pt.map (·.ad) = r.pt.map (·.ad))
    (hpk : ∀ p ∈ r'.pt, ∃ lv, X1.heap[p.ad]? = some (.cells #[lv, .int .i64 p.left] 91 (0, 0)) ∧ tEls.rv (safe W b L r) [lv] p.els) :
    let F := store5 ((X1.setCell ⟨b, 7, none⟩ (.slice (some (tailA g off cq 6)) is.length (cq - 1))).setCell ⟨b, 9, none⟩ (.int .i64 (r.count - 1))) W.heap.size v0 v1 v2 v3 v4
    F.heap[W.heap.size]? = some (.cells #[v0, v1, v2, v3, v4] T (0, 0)) ∧ WStepO base b W L r F r' ∧ Keeps (fun k => k ≤ W.heap.size) w1 F := by
  intro F
  have hbl := hI.mut_lt b (.inl rfl)
  have hbW : b ≠ W.heap.size := by omega
  have hoC : ∀ k, k ≠ b → ((X1.setCell ⟨b, 7, none⟩ (.slice (some (tailA g off cq 6)) is.length (cq - 1))).setCell ⟨b, 9, none⟩ (.int .i64 (r.count - 1))).heap[k]? = X1.heap[k]? := fun k h => (set_block_other h).trans (set_block_other h)
  have hbC : ((X1.setCell ⟨b, 7, none⟩ (.slice (some (tailA g off cq 6)) is.length (cq - 1))).setCell ⟨b, 9, none⟩ (.int .i64 (r.count - 1))).heap[b]? = _ := set_block (set_block hb1)
  have hkC : Keeps (mutB b L r) W ((X1.setCell ⟨b, 7, none⟩ (.slice (some (tailA g off cq 6)) is.length (cq - 1))).setCell ⟨b, 9, none⟩ (.int .i64 (r.count - 1))) := (hk1.setCell (p := ⟨b, 7, none⟩) (fun _ => .inl rfl) _).setCell (p := ⟨b, 9, none⟩) (fun _ => .inl rfl) _
  have hwC : Keeps (fun k => k ≤ W.heap.size) w1 ((X1.setCell ⟨b, 7, none⟩ (.slice (some (tailA g off cq 6)) is.length (cq - 1))).setCell ⟨b, 9, none⟩ (.int .i64 (r.count - 1))) := (hw.setCell (p := ⟨b, 7, none⟩) (fun _ => Nat.le_of_lt hbl) _).setCell (p := ⟨b, 9, none⟩) (fun _ => Nat.le_of_lt hbl) _
  refine ⟨store5_block ((hoC _ (Ne.symm hbW)).trans q1) _ _ _ _ _, ?_, hwC.trans ((store5_keeps _ W.heap.size _ _ _ _ _).wide (fun k _ h => by omega))⟩
  refine recv_step hI hbu hbv h1 h2 h3 h4 h5 (store5_from hkC (Nat.le_refl _) _ _ _ _ _) ?_ (fun k hk1 hk2 hk3 => (store5_other (by omega) _ _ _ _ _).trans ((hoC k hk2).trans (ho1 k hk1 hk2 hk3))) (fun p hp => ?_)
  · rw [hn]; exact (store5_other hbW _ _ _ _ _).trans hbC
  · obtain ⟨lv, g1, g2⟩ := hpk p hp
    have hm : p.ad ∈ r.pt.map (·.ad) := h5 ▸ List.mem_map_of_mem hp
    obtain ⟨q, hq, e⟩ := List.mem_map.1 hm
    have hlt := hI.mut_lt p.ad (.inr (.inr (.inr (.inl ⟨q, hq, e.symm⟩))))
    have hne : p.ad ≠ b := e ▸ (hI.apart.2.2.1 q hq).1
    exact ⟨lv, (store5_other (by omega) _ _ _ _ _).trans ((hoC _ hne).trans g1), g2⟩

set_option maxRecDepth 100000 in
set_option maxHeartbeats 4000000 in
theorem receive_any (base b : Nat) (L : WL) (r : Raw) (W : World) (hI : WireInv W base b L r) (h8 : ∀ i ∈ r.buffer, i.el.row.length ≤ 1000000) (hof : ∀ i ∈ r.buffer, ∀ a, i.of = some a → ∃ p ∈ r.pt, p.ad = a ∧ 1 ≤ p.left ∧ p.left ≤ 4000)
    (hc0 : 1 ≤ r.count ∨ r.buffer = []) (hc1 : r.count ≤ 4000) (hcr : 0 ≤ r.credits ∧ r.credits ≤ 1000) :
    Calls Try.prog 20 #[.pointer (some ⟨b, 0, none⟩)] W (RecvOut base b W L r) := by
  obtain ⟨qv, bv, wm, em, nw, ne, fr⟩ := L
  have hb1 : ∀ o, Below W.heap.size W (W.alloc o) := fun o => (Below.refl _ _).alloc (Nat.le_refl _) o
  have HB1 := Lib.hid hb1
  have HP := Lib.hid (fun o => peek_any base b _ r (W.alloc o) (hI.pure (hb1 o)) h8)
  have HI := Lib.hid hI
  go_enter Try.func20, Try.ntmps20
  go_wp2_with fail
  refine (HP.out _).mono ?_
  rintro e w1 ⟨hb, h | ⟨i, is, a1, c1, hbu, rfl, hu⟩⟩
  · obtain ⟨hbu, rfl⟩ := h
    have HR := Lib.hid (show recvR r = r by simp [recvR, hbu])
    have HBU := Lib.hid hbu
    have q := fun o => alloc_block ((hb.block W.heap.size (by simp)).trans (heap_alloc_new W _)) o
    have e0 : ∀ o, (w1.alloc o).cell? ⟨W.heap.size, 0, none⟩ = some (.int .i64 0) := fun o => mem_cells (q o) 0
    have e1 : ∀ o, (w1.alloc o).cell? ⟨W.heap.size, 1, none⟩ = some (.int .i64 0) := fun o => mem_cells (q o) 1
    have e2 : ∀ o, (w1.alloc o).cell? ⟨W.heap.size, 2, none⟩ = some (.int .i64 0) := fun o => mem_cells (q o) 2
    have e3 : ∀ o, (w1.alloc o).cell? ⟨W.heap.size, 3, none⟩ = some (.slice none 0 0) := fun o => mem_cells (q o) 3
    have e4 : ∀ o, (w1.alloc o).cell? ⟨W.heap.size, 4, none⟩ = some (.int .i64 0) := fun o => mem_cells (q o) 4
    have f : ∀ o i, (w1.alloc o).frozen? ⟨W.heap.size, i, none⟩ = false := fun o => frozen_cells (q o)
    have HB := Lib.hid ((HB1.out _).trans (hb.mono (by simp)))
    have HQ := Lib.hid q
    clear hI h8 hof hbu hb q
    go_wp2
    have hk : Keeps (mutB b ⟨qv, bv, wm, em, nw, ne, fr⟩ r) W (store5 (w1.alloc (.cells #[.int .i64 noEl.kind, .int .i64 noEl.n, .int .i64 noEl.time, .slice none 0 0, .int .i64 noEl.cn] 42)) W.heap.size (.int .i64 0) (.int .i64 0) (.int .i64 0) (.slice none 0 0) (.int .i64 0)) :=
      store5_from (((below_keeps HB.out).wide (fun k h1 h2 => by omega)).alloc _) (Nat.le_refl _) _ _ _ _ _
    have r1 := store5_block (HQ.out (.cells #[.int .i64 noEl.kind, .int .i64 noEl.n, .int .i64 noEl.time, .slice none 0 0, .int .i64 noEl.cn] 42)) (.int .i64 0) (.int .i64 0) (.int .i64 0) (.slice none 0 0) (.int .i64 0)
    show bodyPost _ _ _ _ _ (store5 (w1.alloc (.cells #[.int .i64 noEl.kind, .int .i64 noEl.n, .int .i64 noEl.time, .slice none 0 0, .int .i64 noEl.cn] 42)) W.heap.size (.int .i64 0) (.int .i64 0) (.int .i64 0) (.slice none 0 0) (.int .i64 0))
    have hB2 : Below W.heap.size W (store5 (w1.alloc (.cells #[.int .i64 noEl.kind, .int .i64 noEl.n, .int .i64 noEl.time, .slice none 0 0, .int .i64 noEl.cn] 42)) W.heap.size (.int .i64 0) (.int .i64 0) (.int .i64 0) (.slice none 0 0) (.int .i64 0)) :=
      Keeps.belowStep (HB.out.alloc HB.out.size _) (store5_keeps _ _ _ _ _ _ _) (fun k hk => by omega) (by have := HB.out.size; simp; omega)
    generalize store5 (w1.alloc (.cells #[.int .i64 noEl.kind, .int .i64 noEl.n, .int .i64 noEl.time, .slice none 0 0, .int .i64 noEl.cn] 42)) W.heap.size (.int .i64 0) (.int .i64 0) (.int .i64 0) (.slice none 0 0) (.int .i64 0) = w2 at hk r1 hB2 ⊢
    have g0 : w2.cell? ⟨W.heap.size, 0, none⟩ = some (.int .i64 0) := mem_cells r1 0
    have g1 : w2.cell? ⟨W.heap.size, 1, none⟩ = some (.int .i64 0) := mem_cells r1 1
    have g2 : w2.cell? ⟨W.heap.size, 2, none⟩ = some (.int .i64 0) := mem_cells r1 2
    have g3 : w2.cell? ⟨W.heap.size, 3, none⟩ = some (.slice none 0 0) := mem_cells r1 3
    have g4 : w2.cell? ⟨W.heap.size, 4, none⟩ = some (.int .i64 0) := mem_cells r1 4
    exact bodyPost_ret (v := .tuple #[elV noEl (.slice none 0 0), .int .i64 8]) (by simp [results, Try.results20, go_sem, noEl, g0, g1, g2, g3, g4]) rfl ⟨by rw [HR.out]; exact HI.out.pureStepO hB2, .inl ⟨HBU.out, rfl⟩⟩
  · obtain ⟨g, off, cq, a, c, hqv, hq1, hq2, _, _, _, _, _, c5, _, _⟩ := hI.head hbu
    simp only at hqv
    subst hqv
    have hbW := (HB1.out (.cells #[.int .i64 0, .int .i64 0, .int .i64 0, .slice none 0 0, .int .i64 0] 42)).trans (hb.mono (by simp))
    have hw1 : W.heap.size + 1 ≤ w1.heap.size := by have := hb.size; simpa using this
    have q := alloc_block ((hb.block W.heap.size (by simp)).trans (heap_alloc_new W _)) (.cells #[.int .i64 i.el.kind, .int .i64 i.el.n, .int .i64 i.el.time, .slice a1 i.el.row.length c1, .int .i64 i.el.cn] 42)
    have y := heap_alloc_new w1 (.cells #[.int .i64 i.el.kind, .int .i64 i.el.n, .int .i64 i.el.time, .slice a1 i.el.row.length c1, .int .i64 i.el.cn] 42)
    have hX := hbW.alloc hbW.size (.cells #[.int .i64 i.el.kind, .int .i64 i.el.n, .int .i64 i.el.time, .slice a1 i.el.row.length c1, .int .i64 i.el.cn] 42)
    have hwX := (Keeps.refl (fun k => k ≤ W.heap.size) w1).alloc (.cells #[.int .i64 i.el.kind, .int .i64 i.el.n, .int .i64 i.el.time, .slice a1 i.el.row.length c1, .int .i64 i.el.cn] 42)
    have hcnt : 1 ≤ r.count := hc0.resolve_right (by rw [hbu]; simp)
    have hpos : (0 : Int) < ((is.length + 1 : Nat) : Int) := by omega
    have HBU := Lib.hid hbu
    have HU := Lib.hid (tRow.mono _ _ _ _ (Mem.on_mono (mem w1) (fun b (hb : (W.alloc (.cells #[.int .i64 0, .int .i64 0, .int .i64 0, .slice none 0 0, .int .i64 0] 42)).heap.size ≤ b) => (by simpa using hb : W.heap.size + 1 ≤ b))) hu)
    have HOF := Lib.hid (hof i (by rw [hbu]; simp))
    clear HB1 hb1 HP h8 hof hbu hb hu hc0
    go_upto_region 2 with fail
    generalize hXe : (w1.alloc (.cells #[.int .i64 i.el.kind, .int .i64 i.el.n, .int .i64 i.el.time, .slice a1 i.el.row.length c1, .int .i64 i.el.cn] 42)) = X at q y hX hwX ⊢
    clear hXe
    generalize w1.heap.size = yb at *
    have hbl := hI.mut_lt b (.inl rfl)
    have hXb := (hX.block b hbl).trans hI.hb
    have hkX : Keeps (mutB b ⟨qv, .slice (some ⟨g, off, none⟩) (is.length + 1) cq, wm, em, nw, ne, fr⟩ r) W X := (below_keeps hX).wide (fun k h1 h2 => by omega)
    have c7 : X.cell? ⟨b, 7, none⟩ = some (.slice (some ⟨g, off, none⟩) (is.length + 1) cq) := mem_cells hXb 7
    have c5 := (mem_of_block (hX.block g (mem_lt c5)) _).trans c5
    have c5 : X.cell? ⟨g, off + 5, none⟩ = some (ofV i.of) := c5
    clear hI hbW
    cases ho : i.of with
    | none =>
      rw [ho] at c5
      have HR := Lib.hid (show recvR r = { r with buffer := is, count := r.count - 1, credits := r.credits, pt := r.pt } by simp [recvR, HBU.out, ho])
      simp only [ofV] at c5
      have HX := Lib.hid (And.intro hXb (And.intro q (And.intro y (And.intro hkX (And.intro hX hwX)))))
      clear ho hXb q y hkX hX hwX
      go_upto_region 9 with fail
      obtain ⟨hb1, q1, y1, hk1, hX, hwX1⟩ := HX.out
      clear HX c5 c7
      have ho1 : ∀ k, k < W.heap.size → k ≠ b → (∀ p ∈ r.pt, k ≠ p.ad) → X.heap[k]? = W.heap[k]? := fun k h _ _ => hX.block k h
      have hpk1 : ∀ p ∈ r.pt, ∃ lv, X.heap[p.ad]? = some (.cells #[lv, .int .i64 p.left] 91 (0, 0)) ∧ tEls.rv (safe W b ⟨qv, .slice (some ⟨g, off, none⟩) (is.length + 1) cq, wm, em, nw, ne, fr⟩ r) [lv] p.els := fun p hp => by
        obtain ⟨lv, h1, h2⟩ := HI.out.pk p hp
        exact ⟨lv, (hX.block _ (Array.getElem?_eq_some_iff.1 h1).1).trans h1, h2⟩
      clear hX
      generalize X = X1 at *
      have c7 : X1.cell? ⟨b, 7, none⟩ = some (.slice (some ⟨g, off, none⟩) (is.length + 1) cq) := mem_cells hb1 7
      have c9 : X1.cell? ⟨b, 9, none⟩ = some (.int .i64 r.count) := mem_cells hb1 9
      have f7 : X1.frozen? ⟨b, 7, none⟩ = false := frozen_cells hb1 7
      have f9 : X1.frozen? ⟨b, 9, none⟩ = false := frozen_cells hb1 9
      have y0 : X1.cell? ⟨yb, 0, none⟩ = some (.int .i64 i.el.kind) := mem_cells y1 0
      have y11 : X1.cell? ⟨yb, 1, none⟩ = some (.int .i64 i.el.n) := mem_cells y1 1
      have y2 : X1.cell? ⟨yb, 2, none⟩ = some (.int .i64 i.el.time) := mem_cells y1 2
      have y3 : X1.cell? ⟨yb, 3, none⟩ = some (.slice a1 i.el.row.length c1) := mem_cells y1 3
      have y4 : X1.cell? ⟨yb, 4, none⟩ = some (.int .i64 i.el.cn) := mem_cells y1 4
      have e0 : X1.cell? ⟨W.heap.size, 0, none⟩ = some (.int .i64 0) := mem_cells q1 0
      have e1 : X1.cell? ⟨W.heap.size, 1, none⟩ = some (.int .i64 0) := mem_cells q1 1
      have e2 : X1.cell? ⟨W.heap.size, 2, none⟩ = some (.int .i64 0) := mem_cells q1 2
      have e3 : X1.cell? ⟨W.heap.size, 3, none⟩ = some (.slice none 0 0) := mem_cells q1 3
      have e4 : X1.cell? ⟨W.heap.size, 4, none⟩ = some (.int .i64 0) := mem_cells q1 4
      have f0 : X1.frozen? ⟨W.heap.size, 0, none⟩ = false := frozen_cells q1 0
      have f1 : X1.frozen? ⟨W.heap.size, 1, none⟩ = false := frozen_cells q1 1
      have f2 : X1.frozen? ⟨W.heap.size, 2, none⟩ = false := frozen_cells q1 2
      have f3 : X1.frozen? ⟨W.heap.size, 3, none⟩ = false := frozen_cells q1 3
      have f4 : X1.frozen? ⟨W.heap.size, 4, none⟩ = false := frozen_cells q1 4
      have hts := tail_run (P := Try.prog) (T := 83) (sz := 6) Try.underlying83 (by kernel_rfl) g off is.length cq X1
      have HF := Lib.hid (recv_fin (v0 := .int .i64 i.el.kind) (v1 := .int .i64 i.el.n) (v2 := .int .i64 i.el.time) (v3 := .slice a1 i.el.row.length c1) (v4 := .int .i64 i.el.cn) HI.out HBU.out rfl hb1 q1 hk1 hwX1 ho1 (r' := { r with buffer := is, count := r.count - 1, credits := r.credits, pt := r.pt }) rfl rfl rfl rfl rfl rfl rfl hpk1)
      clear hb1 q1 y1 hk1 hwX1 ho1 hpk1
      go_wp2
      obtain ⟨k1, k2, k3⟩ := HF.out
      show bodyPost _ _ _ _ _ (store5 ((X1.setCell ⟨b, 7, none⟩ (.slice (some (tailA g off cq 6)) is.length (cq - 1))).setCell ⟨b, 9, none⟩ (.int .i64 (r.count - 1))) W.heap.size (.int .i64 i.el.kind) (.int .i64 i.el.n) (.int .i64 i.el.time) (.slice a1 i.el.row.length c1) (.int .i64 i.el.cn))
      generalize store5 ((X1.setCell ⟨b, 7, none⟩ (.slice (some (tailA g off cq 6)) is.length (cq - 1))).setCell ⟨b, 9, none⟩ (.int .i64 (r.count - 1))) W.heap.size (.int .i64 i.el.kind) (.int .i64 i.el.n) (.int .i64 i.el.time) (.slice a1 i.el.row.length c1) (.int .i64 i.el.cn) = F at k1 k2 k3 ⊢
      have g0 : F.cell? ⟨W.heap.size, 0, none⟩ = some (.int .i64 i.el.kind) := mem_cells k1 0
      have g1 : F.cell? ⟨W.heap.size, 1, none⟩ = some (.int .i64 i.el.n) := mem_cells k1 1
      have g2 : F.cell? ⟨W.heap.size, 2, none⟩ = some (.int .i64 i.el.time) := mem_cells k1 2
      have g3 : F.cell? ⟨W.heap.size, 3, none⟩ = some (.slice a1 i.el.row.length c1) := mem_cells k1 3
      have g4 : F.cell? ⟨W.heap.size, 4, none⟩ = some (.int .i64 i.el.cn) := mem_cells k1 4
      refine bodyPost_ret (v := .tuple #[elV i.el (.slice a1 i.el.row.length c1), .int .i64 0]) (by simp [results, Try.results20, go_sem, g0, g1, g2, g3, g4]) rfl ⟨by rw [HR.out]; exact k2, .inr ⟨i, is, a1, c1, HBU.out, rfl, ?_⟩⟩
      exact tRow.mono _ _ _ _ (Mem.le_trans (keeps_mem k3 (S := fun b => W.heap.size + 1 ≤ b) (fun b hb => by omega)) (Mem.on_mono _ (fun b hb => by omega))) HU.out
    | some pa =>
      obtain ⟨p, hpm, rfl, hp1, hp2⟩ := HOF.out pa ho
      obtain ⟨plv, hpB, hpE⟩ := HI.out.pk p hpm
      have hpb : p.ad ≠ b := (HI.out.apart.2.2.1 p hpm).1
      have hpl := HI.out.mut_lt p.ad (.inr (.inr (.inr (.inl ⟨p, hpm, rfl⟩))))
      have hpX := (hX.block _ hpl).trans hpB
      have k1 : X.cell? ⟨p.ad, 1, none⟩ = some (.int .i64 p.left) := mem_cells hpX 1
      have fk : X.frozen? ⟨p.ad, 1, none⟩ = false := frozen_cells hpX 1
      have c2 : X.cell? ⟨b, 2, none⟩ = some (.int .i64 r.credits) := mem_cells hXb 2
      have fb2 : X.frozen? ⟨b, 2, none⟩ = false := frozen_cells hXb 2
      have HLA := leftAt_mem HI.out.nd hpm
      rw [ho] at c5
      simp only [ofV] at c5
      have hpW : p.ad ≠ W.heap.size := by omega
      have hpy : p.ad ≠ yb := by omega
      have hbW2 : b ≠ W.heap.size := by omega
      have hby : b ≠ yb := by omega
      have HX := Lib.hid (And.intro hXb (And.intro q (And.intro y (And.intro hkX (And.intro hX (And.intro hwX (And.intro hpX (And.intro hpE (And.intro hpb (And.intro hpW (And.intro hpy (And.intro hbW2 hby))))))))))))
      by_cases hone : p.left = 1
      · have HR := Lib.hid (show recvR r = { r with buffer := is, count := r.count - 1, credits := r.credits + 1, pt := decPt p.ad r.pt } by simp [recvR, HBU.out, ho, HLA, hone])
        have hz : (p.left - 1 == 0) = true := by simp; omega
        clear ho HLA hone hXb q y hkX hX hwX hpB hpX hpE hpb hpW hpy hbW2 hby
        go_upto_region 9 with fail
        obtain ⟨hXb, q, y, hkX, hX, hwX, hpX, hpE, hpb, hpW, hpy, hbW2, hby⟩ := HX.out
        clear HX c5 c7 k1 fk c2 fb2 hz
        have hX1 : ∀ k, k ≠ p.ad → k ≠ b → ((X.setCell ⟨p.ad, 1, none⟩ (.int .i64 (p.left - 1))).setCell ⟨b, 2, none⟩ (.int .i64 (r.credits + 1))).heap[k]? = X.heap[k]? := fun k h1 h2 => (set_block_other h2).trans (set_block_other h1)
        have hb1 : ((X.setCell ⟨p.ad, 1, none⟩ (.int .i64 (p.left - 1))).setCell ⟨b, 2, none⟩ (.int .i64 (r.credits + 1))).heap[b]? = some (.cells (wCells ⟨qv, .slice (some ⟨g, off, none⟩) (is.length + 1) cq, wm, em, nw, ne, fr⟩ { r with credits := r.credits + 1 }) 87 (0, 0)) := set_block ((set_block_other (Ne.symm hpb)).trans hXb)
        have hp1 : ((X.setCell ⟨p.ad, 1, none⟩ (.int .i64 (p.left - 1))).setCell ⟨b, 2, none⟩ (.int .i64 (r.credits + 1))).heap[p.ad]? = some (.cells #[plv, .int .i64 (p.left - 1)] 91 (0, 0)) := (set_block_other hpb).trans (set_block hpX)
        have q1 := (hX1 _ (Ne.symm hpW) (Ne.symm hbW2)).trans q
        have y1 := (hX1 _ (Ne.symm hpy) (Ne.symm hby)).trans y
        have hk1 : Keeps (mutB b ⟨qv, .slice (some ⟨g, off, none⟩) (is.length + 1) cq, wm, em, nw, ne, fr⟩ r) W ((X.setCell ⟨p.ad, 1, none⟩ (.int .i64 (p.left - 1))).setCell ⟨b, 2, none⟩ (.int .i64 (r.credits + 1))) := (hkX.setCell (p := ⟨p.ad, 1, none⟩) (fun _ => (.inr (.inr (.inr (.inl ⟨p, hpm, rfl⟩))))) _).setCell (p := ⟨b, 2, none⟩) (fun _ => .inl rfl) _
        have hwX1 : Keeps (fun k => k ≤ W.heap.size) w1 ((X.setCell ⟨p.ad, 1, none⟩ (.int .i64 (p.left - 1))).setCell ⟨b, 2, none⟩ (.int .i64 (r.credits + 1))) := (hwX.setCell (p := ⟨p.ad, 1, none⟩) (fun _ => Nat.le_of_lt hpl) _).setCell (p := ⟨b, 2, none⟩) (fun _ => Nat.le_of_lt hbl) _
        have ho1 : ∀ k, k < W.heap.size → k ≠ b → (∀ p ∈ r.pt, k ≠ p.ad) → ((X.setCell ⟨p.ad, 1, none⟩ (.int .i64 (p.left - 1))).setCell ⟨b, 2, none⟩ (.int .i64 (r.credits + 1))).heap[k]? = W.heap[k]? := fun k h h2 h3 => (hX1 k (h3 p hpm) h2).trans (hX.block k h)
        have hpk1 : ∀ q ∈ decPt p.ad r.pt, ∃ lv, ((X.setCell ⟨p.ad, 1, none⟩ (.int .i64 (p.left - 1))).setCell ⟨b, 2, none⟩ (.int .i64 (r.credits + 1))).heap[q.ad]? = some (.cells #[lv, .int .i64 q.left] 91 (0, 0)) ∧ tEls.rv (safe W b ⟨qv, .slice (some ⟨g, off, none⟩) (is.length + 1) cq, wm, em, nw, ne, fr⟩ r) [lv] q.els := fun q hq => by
          obtain ⟨q0, h0, rfl⟩ := List.mem_map.1 hq
          by_cases he : q0.ad = p.ad
          · obtain rfl : q0 = p := map_nodup_inj HI.out.nd h0 hpm he
            rw [if_pos rfl]
            exact ⟨plv, hp1, hpE⟩
          · rw [if_neg he]
            obtain ⟨lv, h1, h2⟩ := HI.out.pk q0 h0
            exact ⟨lv, (hX1 _ he (HI.out.apart.2.2.1 q0 h0).1).trans ((hX.block _ (Array.getElem?_eq_some_iff.1 h1).1).trans h1), h2⟩
        clear hX1 hp1 hXb q y hkX hX hwX hpX hpE
        generalize ((X.setCell ⟨p.ad, 1, none⟩ (.int .i64 (p.left - 1))).setCell ⟨b, 2, none⟩ (.int .i64 (r.credits + 1))) = X1 at *
        have c7 : X1.cell? ⟨b, 7, none⟩ = some (.slice (some ⟨g, off, none⟩) (is.length + 1) cq) := mem_cells hb1 7
        have c9 : X1.cell? ⟨b, 9, none⟩ = some (.int .i64 r.count) := mem_cells hb1 9
        have f7 : X1.frozen? ⟨b, 7, none⟩ = false := frozen_cells hb1 7
        have f9 : X1.frozen? ⟨b, 9, none⟩ = false := frozen_cells hb1 9
        have y0 : X1.cell? ⟨yb, 0, none⟩ = some (.int .i64 i.el.kind) := mem_cells y1 0
        have y11 : X1.cell? ⟨yb, 1, none⟩ = some (.int .i64 i.el.n) := mem_cells y1 1
        have y2 : X1.cell? ⟨yb, 2, none⟩ = some (.int .i64 i.el.time) := mem_cells y1 2
        have y3 : X1.cell? ⟨yb, 3, none⟩ = some (.slice a1 i.el.row.length c1) := mem_cells y1 3
        have y4 : X1.cell? ⟨yb, 4, none⟩ = some (.int .i64 i.el.cn) := mem_cells y1 4
        have e0 : X1.cell? ⟨W.heap.size, 0, none⟩ = some (.int .i64 0) := mem_cells q1 0
        have e1 : X1.cell? ⟨W.heap.size, 1, none⟩ = some (.int .i64 0) := mem_cells q1 1
        have e2 : X1.cell? ⟨W.heap.size, 2, none⟩ = some (.int .i64 0) := mem_cells q1 2
        have e3 : X1.cell? ⟨W.heap.size, 3, none⟩ = some (.slice none 0 0) := mem_cells q1 3
        have e4 : X1.cell? ⟨W.heap.size, 4, none⟩ = some (.int .i64 0) := mem_cells q1 4
        have f0 : X1.frozen? ⟨W.heap.size, 0, none⟩ = false := frozen_cells q1 0
        have f1 : X1.frozen? ⟨W.heap.size, 1, none⟩ = false := frozen_cells q1 1
        have f2 : X1.frozen? ⟨W.heap.size, 2, none⟩ = false := frozen_cells q1 2
        have f3 : X1.frozen? ⟨W.heap.size, 3, none⟩ = false := frozen_cells q1 3
        have f4 : X1.frozen? ⟨W.heap.size, 4, none⟩ = false := frozen_cells q1 4
        have hts := tail_run (P := Try.prog) (T := 83) (sz := 6) Try.underlying83 (by kernel_rfl) g off is.length cq X1
        have HF := Lib.hid (recv_fin (v0 := .int .i64 i.el.kind) (v1 := .int .i64 i.el.n) (v2 := .int .i64 i.el.time) (v3 := .slice a1 i.el.row.length c1) (v4 := .int .i64 i.el.cn) HI.out HBU.out rfl hb1 q1 hk1 hwX1 ho1 (r' := { r with buffer := is, count := r.count - 1, credits := r.credits + 1, pt := decPt p.ad r.pt }) rfl rfl rfl rfl rfl rfl (decPt_ad _ _) hpk1)
        clear hb1 q1 y1 hk1 hwX1 ho1 hpk1
        go_wp2
        obtain ⟨k1, k2, k3⟩ := HF.out
        show bodyPost _ _ _ _ _ (store5 ((X1.setCell ⟨b, 7, none⟩ (.slice (some (tailA g off cq 6)) is.length (cq - 1))).setCell ⟨b, 9, none⟩ (.int .i64 (r.count - 1))) W.heap.size (.int .i64 i.el.kind) (.int .i64 i.el.n) (.int .i64 i.el.time) (.slice a1 i.el.row.length c1) (.int .i64 i.el.cn))
        generalize store5 ((X1.setCell ⟨b, 7, none⟩ (.slice (some (tailA g off cq 6)) is.length (cq - 1))).setCell ⟨b, 9, none⟩ (.int .i64 (r.count - 1))) W.heap.size (.int .i64 i.el.kind) (.int .i64 i.el.n) (.int .i64 i.el.time) (.slice a1 i.el.row.length c1) (.int .i64 i.el.cn) = F at k1 k2 k3 ⊢
        have g0 : F.cell? ⟨W.heap.size, 0, none⟩ = some (.int .i64 i.el.kind) := mem_cells k1 0
        have g1 : F.cell? ⟨W.heap.size, 1, none⟩ = some (.int .i64 i.el.n) := mem_cells k1 1
        have g2 : F.cell? ⟨W.heap.size, 2, none⟩ = some (.int .i64 i.el.time) := mem_cells k1 2
        have g3 : F.cell? ⟨W.heap.size, 3, none⟩ = some (.slice a1 i.el.row.length c1) := mem_cells k1 3
        have g4 : F.cell? ⟨W.heap.size, 4, none⟩ = some (.int .i64 i.el.cn) := mem_cells k1 4
        refine bodyPost_ret (v := .tuple #[elV i.el (.slice a1 i.el.row.length c1), .int .i64 0]) (by simp [results, Try.results20, go_sem, g0, g1, g2, g3, g4]) rfl ⟨by rw [HR.out]; exact k2, .inr ⟨i, is, a1, c1, HBU.out, rfl, ?_⟩⟩
        exact tRow.mono _ _ _ _ (Mem.le_trans (keeps_mem k3 (S := fun b => W.heap.size + 1 ≤ b) (fun b hb => by omega)) (Mem.on_mono _ (fun b hb => by omega))) HU.out
      · have HR := Lib.hid (show recvR r = { r with buffer := is, count := r.count - 1, credits := r.credits, pt := decPt p.ad r.pt } by simp [recvR, HBU.out, ho, HLA, hone])
        have hz : (p.left - 1 == 0) = false := by simp; omega
        clear ho HLA hone hXb q y hkX hX hwX hpB hpX hpE hpb hpW hpy hbW2 hby
        go_upto_region 9 with fail
        obtain ⟨hXb, q, y, hkX, hX, hwX, hpX, hpE, hpb, hpW, hpy, hbW2, hby⟩ := HX.out
        clear HX c5 c7 k1 fk c2 fb2 hz
        have hX1 : ∀ k, k ≠ p.ad → k ≠ b → (X.setCell ⟨p.ad, 1, none⟩ (.int .i64 (p.left - 1))).heap[k]? = X.heap[k]? := fun k h1 h2 => set_block_other h1
        have hb1 : (X.setCell ⟨p.ad, 1, none⟩ (.int .i64 (p.left - 1))).heap[b]? = some (.cells (wCells ⟨qv, .slice (some ⟨g, off, none⟩) (is.length + 1) cq, wm, em, nw, ne, fr⟩ { r with credits := r.credits }) 87 (0, 0)) := (set_block_other (Ne.symm hpb)).trans hXb
        have hp1 : (X.setCell ⟨p.ad, 1, none⟩ (.int .i64 (p.left - 1))).heap[p.ad]? = some (.cells #[plv, .int .i64 (p.left - 1)] 91 (0, 0)) := set_block hpX
        have q1 := (hX1 _ (Ne.symm hpW) (Ne.symm hbW2)).trans q
        have y1 := (hX1 _ (Ne.symm hpy) (Ne.symm hby)).trans y
        have hk1 : Keeps (mutB b ⟨qv, .slice (some ⟨g, off, none⟩) (is.length + 1) cq, wm, em, nw, ne, fr⟩ r) W (X.setCell ⟨p.ad, 1, none⟩ (.int .i64 (p.left - 1))) := hkX.setCell (p := ⟨p.ad, 1, none⟩) (fun _ => (.inr (.inr (.inr (.inl ⟨p, hpm, rfl⟩))))) _
        have hwX1 : Keeps (fun k => k ≤ W.heap.size) w1 (X.setCell ⟨p.ad, 1, none⟩ (.int .i64 (p.left - 1))) := hwX.setCell (p := ⟨p.ad, 1, none⟩) (fun _ => Nat.le_of_lt hpl) _
        have ho1 : ∀ k, k < W.heap.size → k ≠ b → (∀ p ∈ r.pt, k ≠ p.ad) → (X.setCell ⟨p.ad, 1, none⟩ (.int .i64 (p.left - 1))).heap[k]? = W.heap[k]? := fun k h h2 h3 => (hX1 k (h3 p hpm) h2).trans (hX.block k h)
        have hpk1 : ∀ q ∈ decPt p.ad r.pt, ∃ lv, (X.setCell ⟨p.ad, 1, none⟩ (.int .i64 (p.left - 1))).heap[q.ad]? = some (.cells #[lv, .int .i64 q.left] 91 (0, 0)) ∧ tEls.rv (safe W b ⟨qv, .slice (some ⟨g, off, none⟩) (is.length + 1) cq, wm, em, nw, ne, fr⟩ r) [lv] q.els := fun q hq => by
          obtain ⟨q0, h0, rfl⟩ := List.mem_map.1 hq
          by_cases he : q0.ad = p.ad
          · obtain rfl : q0 = p := map_nodup_inj HI.out.nd h0 hpm he
            rw [if_pos rfl]
            exact ⟨plv, hp1, hpE⟩
          · rw [if_neg he]
            obtain ⟨lv, h1, h2⟩ := HI.out.pk q0 h0
            exact ⟨lv, (hX1 _ he (HI.out.apart.2.2.1 q0 h0).1).trans ((hX.block _ (Array.getElem?_eq_some_iff.1 h1).1).trans h1), h2⟩
        clear hX1 hp1 hXb q y hkX hX hwX hpX hpE
        generalize (X.setCell ⟨p.ad, 1, none⟩ (.int .i64 (p.left - 1))) = X1 at *
        have c7 : X1.cell? ⟨b, 7, none⟩ = some (.slice (some ⟨g, off, none⟩) (is.length + 1) cq) := mem_cells hb1 7
        have c9 : X1.cell? ⟨b, 9, none⟩ = some (.int .i64 r.count) := mem_cells hb1 9
        have f7 : X1.frozen? ⟨b, 7, none⟩ = false := frozen_cells hb1 7
        have f9 : X1.frozen? ⟨b, 9, none⟩ = false := frozen_cells hb1 9
        have y0 : X1.cell? ⟨yb, 0, none⟩ = some (.int .i64 i.el.kind) := mem_cells y1 0
        have y11 : X1.cell? ⟨yb, 1, none⟩ = some (.int .i64 i.el.n) := mem_cells y1 1
        have y2 : X1.cell? ⟨yb, 2, none⟩ = some (.int .i64 i.el.time) := mem_cells y1 2
        have y3 : X1.cell? ⟨yb, 3, none⟩ = some (.slice a1 i.el.row.length c1) := mem_cells y1 3
        have y4 : X1.cell? ⟨yb, 4, none⟩ = some (.int .i64 i.el.cn) := mem_cells y1 4
        have e0 : X1.cell? ⟨W.heap.size, 0, none⟩ = some (.int .i64 0) := mem_cells q1 0
        have e1 : X1.cell? ⟨W.heap.size, 1, none⟩ = some (.int .i64 0) := mem_cells q1 1
        have e2 : X1.cell? ⟨W.heap.size, 2, none⟩ = some (.int .i64 0) := mem_cells q1 2
        have e3 : X1.cell? ⟨W.heap.size, 3, none⟩ = some (.slice none 0 0) := mem_cells q1 3
        have e4 : X1.cell? ⟨W.heap.size, 4, none⟩ = some (.int .i64 0) := mem_cells q1 4
        have f0 : X1.frozen? ⟨W.heap.size, 0, none⟩ = false := frozen_cells q1 0
        have f1 : X1.frozen? ⟨W.heap.size, 1, none⟩ = false := frozen_cells q1 1
        have f2 : X1.frozen? ⟨W.heap.size, 2, none⟩ = false := frozen_cells q1 2
        have f3 : X1.frozen? ⟨W.heap.size, 3, none⟩ = false := frozen_cells q1 3
        have f4 : X1.frozen? ⟨W.heap.size, 4, none⟩ = false := frozen_cells q1 4
        have hts := tail_run (P := Try.prog) (T := 83) (sz := 6) Try.underlying83 (by kernel_rfl) g off is.length cq X1
        have HF := Lib.hid (recv_fin (v0 := .int .i64 i.el.kind) (v1 := .int .i64 i.el.n) (v2 := .int .i64 i.el.time) (v3 := .slice a1 i.el.row.length c1) (v4 := .int .i64 i.el.cn) HI.out HBU.out rfl hb1 q1 hk1 hwX1 ho1 (r' := { r with buffer := is, count := r.count - 1, credits := r.credits, pt := decPt p.ad r.pt }) rfl rfl rfl rfl rfl rfl (decPt_ad _ _) hpk1)
        clear hb1 q1 y1 hk1 hwX1 ho1 hpk1
        go_wp2
        obtain ⟨k1, k2, k3⟩ := HF.out
        show bodyPost _ _ _ _ _ (store5 ((X1.setCell ⟨b, 7, none⟩ (.slice (some (tailA g off cq 6)) is.length (cq - 1))).setCell ⟨b, 9, none⟩ (.int .i64 (r.count - 1))) W.heap.size (.int .i64 i.el.kind) (.int .i64 i.el.n) (.int .i64 i.el.time) (.slice a1 i.el.row.length c1) (.int .i64 i.el.cn))
        generalize store5 ((X1.setCell ⟨b, 7, none⟩ (.slice (some (tailA g off cq 6)) is.length (cq - 1))).setCell ⟨b, 9, none⟩ (.int .i64 (r.count - 1))) W.heap.size (.int .i64 i.el.kind) (.int .i64 i.el.n) (.int .i64 i.el.time) (.slice a1 i.el.row.length c1) (.int .i64 i.el.cn) = F at k1 k2 k3 ⊢
        have g0 : F.cell? ⟨W.heap.size, 0, none⟩ = some (.int .i64 i.el.kind) := mem_cells k1 0
        have g1 : F.cell? ⟨W.heap.size, 1, none⟩ = some (.int .i64 i.el.n) := mem_cells k1 1
        have g2 : F.cell? ⟨W.heap.size, 2, none⟩ = some (.int .i64 i.el.time) := mem_cells k1 2
        have g3 : F.cell? ⟨W.heap.size, 3, none⟩ = some (.slice a1 i.el.row.length c1) := mem_cells k1 3
        have g4 : F.cell? ⟨W.heap.size, 4, none⟩ = some (.int .i64 i.el.cn) := mem_cells k1 4
        refine bodyPost_ret (v := .tuple #[elV i.el (.slice a1 i.el.row.length c1), .int .i64 0]) (by simp [results, Try.results20, go_sem, g0, g1, g2, g3, g4]) rfl ⟨by rw [HR.out]; exact k2, .inr ⟨i, is, a1, c1, HBU.out, rfl, ?_⟩⟩
        exact tRow.mono _ _ _ _ (Mem.le_trans (keeps_mem k3 (S := fun b => W.heap.size + 1 ≤ b) (fun b hb => by omega)) (Mem.on_mono _ (fun b hb => by omega))) HU.out
end Go.Proofs.Ytfkphdmnelchmaa
/- Maps from numbers to packets: what look-ups, stores and deletes do, as runs. -/
namespace Go.Proofs.Ytfkphdmnelchmaa
open Go.RowKit Go.Maps

open Classical in
noncomputable def delAt {κ α : Type} (f : κ → Option α) (x : κ) : κ → Option α := fun y => if y = x then none else f y
theorem delAt_same {κ α : Type} (f : κ → Option α) (x : κ) : delAt f x x = none := by simp [delAt]
theorem delAt_other {κ α : Type} (f : κ → Option α) {x y : κ} (h : y ≠ x) : delAt f x y = f y := by simp [delAt, h]
theorem keyK : Keyed Try.prog 3 := int_keyed Try.underlying3

section
variable {κ α : Type} {P : Program} {k : TypeId} {lk : κ → Lit} {vr : VR α} {w : World} {b n : Nat} {f : κ → Option α}
theorem MapOf.look {t e : TypeId} (h : MapOf P k lk vr w b n f) (K : Keyed P k) (ht : P.underlying t = some (.map k e)) {z : Value} (hz : (zeroValue e).run P w = .ok z w) {key : Value} {y : κ} (hkey : keyOf P k key = some (lk y)) :
    ∃ v, (Instr.lookup t (.map (some b)) key false).run P w = .ok v w ∧ (f y = none → v = z) ∧ (∀ c, f y = some c → vr.rel (mem w) v c) := by
  obtain ⟨D, hown, h1, h2, _⟩ := h
  obtain ⟨v, ps, hrun, hv⟩ := hown.lookup K ht hz (zd := .held z) (zp := []) rfl hkey
  simp only [rawE, Option.some.injEq, Prod.mk.injEq] at hv
  refine ⟨v, hrun, fun e => ?_, fun c e => ?_⟩
  · have := hv.1
    rw [atKey_of_not_has (h1 y e)] at this
    injection this
  · obtain ⟨_, u, g1, g2⟩ := h2 y c e
    have := hv.1
    rw [g1] at this
    injection this with this
    rw [this]; exact g2
theorem MapOf.lookOk {t e : TypeId} (h : MapOf P k lk vr w b n f) (K : Keyed P k) (ht : P.underlying t = some (.map k e)) {z : Value} (hz : (zeroValue e).run P w = .ok z w) {key : Value} {y : κ} (hkey : keyOf P k key = some (lk y)) :
    ∃ v, (Instr.lookup t (.map (some b)) key true).run P w = .ok (.tuple #[v, .bool (f y).isSome]) w ∧ (f y = none → v = z) ∧ (∀ c, f y = some c → vr.rel (mem w) v c) := by
  obtain ⟨D, hown, h1, h2, _⟩ := h
  obtain ⟨v, ps, hrun, hv⟩ := hown.look_ok K ht hz (zd := .held z) (zp := []) rfl hkey
  have hs : Maps.has D (lk y) = (f y).isSome := by
    cases hf : f y with
    | none => exact h1 y hf
    | some c => exact (h2 y c hf).1
  rw [hs] at hrun
  simp only [rawE, Option.some.injEq, Prod.mk.injEq] at hv
  refine ⟨v, hrun, fun e => ?_, fun c e => ?_⟩
  · have := hv.1
    rw [atKey_of_not_has (h1 y e)] at this
    injection this
  · obtain ⟨_, u, g1, g2⟩ := h2 y c e
    have := hv.1
    rw [g1] at this
    injection this with this
    rw [this]; exact g2
end
section
variable {W : World} {b n : Nat} {f : Int → Option Nat}
theorem PMap.put (h : PMap W b n f) (hn : n < maxLen) {k : Int} (hk : inI64 k) (a : Nat) :
    ∃ W', (Instr.mapUpdate 82 (.map (some b)) (.int .i64 k) (.pointer (some ⟨a, 0, none⟩))).run Try.prog W = .ok () W' ∧ PMap W' b (n + 1) (putAt f k a) ∧ W.grownBy W' (some b) := by
  obtain ⟨D, hown, hs⟩ := h
  obtain ⟨W', hrun, ho, hgr⟩ := hown.update keyK Try.underlying82 hn (keyOf_i64 hk) (R := rawE) (val := ptrTo a) (d := .held (ptrTo a)) (ps := []) rfl
  have hle := grown_mem hown hgr
  exact ⟨W', hrun, ⟨_, ho, hs.put hle hown.isMap intKey_inj (keyK.key (keyOf_i64 hk)) rfl⟩, hgr⟩
def ptrOr : Option Nat → Value
  | none => .pointer none
  | some a => ptrTo a
theorem PMap.look (h : PMap W b n f) {k : Int} (hk : inI64 k) : (Instr.lookup 82 (.map (some b)) (.int .i64 k) false).run Try.prog W = .ok (ptrOr (f k)) W := by
  obtain ⟨v, h1, h2, h3⟩ := MapOf.look h keyK Try.underlying82 (zeroPk W) (keyOf_i64 hk)
  rw [h1]
  cases hf : f k with
  | none => rw [h2 hf]; rfl
  | some a => rw [show v = ptrTo a from h3 a hf]; rfl
theorem PMap.lookOk (h : PMap W b n f) {k : Int} (hk : inI64 k) : (Instr.lookup 82 (.map (some b)) (.int .i64 k) true).run Try.prog W = .ok (.tuple #[ptrOr (f k), .bool (f k).isSome]) W := by
  obtain ⟨v, h1, h2, h3⟩ := MapOf.lookOk h keyK Try.underlying82 (zeroPk W) (keyOf_i64 hk)
  rw [h1]
  cases hf : f k with
  | none => rw [h2 hf]; rfl
  | some a => rw [show v = ptrTo a from h3 a hf]; rfl
theorem turned_grown {w w' : World} {b : Nat} (h : w.mapTurned w' b) : w.grownBy w' (some b) := by
  obtain ⟨es, c, es', c', hb, rfl⟩ := h
  exact ⟨rfl, rfl, rfl, by simp [ChangeMaps.setBlock], fun i _ hi => ChangeMaps.heap_setBlock_other hb _ (fun e => hi (by rw [e]))⟩
theorem PMap.drop (h : PMap W b n f) {k : Int} (hk : inI64 k) (ty : TypeId) :
    ∃ W', (Builtin.delete_ #[82, 3] ty #[.map (some b), .int .i64 k]).run Try.prog W = .ok (.tuple #[]) W' ∧ PMap W' b n (delAt f k) ∧ W.grownBy W' (some b) := by
  obtain ⟨D, hown, h1, h2, h3⟩ := h
  obtain ⟨W', hrun, ho, ht⟩ := hown.drop keyK Try.underlying82 (keyOf_i64 hk) ty
  refine ⟨W', hrun, ⟨_, ho, fun y hy => ?_, fun y c hy => ?_, fun l hl => ?_⟩, turned_grown ht⟩
  · by_cases e : y = k
    · subst e; exact has_del_same
    · rw [delAt_other _ e] at hy
      rw [has_del_other (fun e' => e (intKey_inj _ _ e'))]; exact h1 y hy
  · by_cases e : y = k
    · subst e; rw [delAt_same] at hy; cases hy
    · rw [delAt_other _ e] at hy
      obtain ⟨g, u, g1, g2⟩ := h2 y c hy
      have hne : intKey y ≠ intKey k := fun e' => e (intKey_inj _ _ e')
      exact ⟨by rw [has_del_other hne]; exact g, u, fun z => by rw [atKey_del_other hne]; exact g1 z, g2⟩
  · by_cases e : l = intKey k
    · exact ⟨k, e⟩
    · rw [has_del_other e] at hl; exact h3 l hl
end
end Go.Proofs.Ytfkphdmnelchmaa
/- Wires: Send. -/
namespace Go.Proofs.Ytfkphdmnelchmaa
open Go.RowKit Go.Maps

def dropA (g off len n sz : Nat) : Addr := if len = n then ⟨g, off, none⟩ else ⟨g, off + n * sz, none⟩
theorem dropA_block (g off len n sz : Nat) : (dropA g off len n sz).block = g := by unfold dropA; split <;> rfl
section
variable {P : Program}
theorem size_run {e : TypeId} {sz : Nat} (hs : (P.info? e).map (·.size) = some sz) (w : World) : (sizeOf e).run P w = .ok sz w := by
  cases hq : P.info? e with
  | none => simp [hq] at hs
  | some i => simp only [hq, Option.map_some, Option.some.injEq] at hs; simp [sizeOf, typeInfo, hq, hs]
theorem take_run {T e : TypeId} {sz : Nat} (hT : P.underlying T = some (.slice e)) (hs : (P.info? e).map (·.size) = some sz) (g off len cap n : Nat) (h0 : 0 < n) (hn : n ≤ cap) (w2 : World) :
    (Instr.slice T (.slice (some ⟨g, off, none⟩) len cap) none (some (.int .i64 n)) (some (.int .i64 n))).run P w2 = .ok (.slice (some ⟨g, off, none⟩) n n) w2 := by
  have he : P.elem T = e := by simp [Program.elem, hT]
  rw [run_slice_hm w2 T _ len cap (by rw [he]; exact hT) .i64 .i64 n n (by omega) (by omega) (by omega), he, size_run hs]
  have h1 : ¬ n = 0 := by omega
  simp [Result.andThen, sliced, h1, Addr.add]
theorem drop_run {T e : TypeId} {sz : Nat} (hT : P.underlying T = some (.slice e)) (hs : (P.info? e).map (·.size) = some sz) (g off len cap n : Nat) (hn : n ≤ len) (hl : len ≤ cap) (w2 : World) :
    (Instr.slice T (.slice (some ⟨g, off, none⟩) len cap) (some (.int .i64 n)) (some (.int .i64 len)) (some (.int .i64 len))).run P w2 = .ok (.slice (some (dropA g off len n sz)) (len - n) (len - n)) w2 := by
  have he : P.elem T = e := by simp [Program.elem, hT]
  rw [run_slice_lhm w2 T _ len cap (by rw [he]; exact hT) .i64 .i64 .i64 n len len (by omega) (by omega) (by omega) (by omega), he, size_run hs]
  by_cases h1 : len = n
  · simp [Result.andThen, sliced, dropA, h1]
  · simp [Result.andThen, sliced, dropA, h1, Addr.add]
end
theorem OwnsO.drop {α : Type} {t : Ty α} {w : World} {e : TypeId} {g off cap n : Nat} {xs : List α} (h : OwnsO t w e (.slice (some ⟨g, off, none⟩) xs.length cap) xs) (hn : n ≤ xs.length) :
    OwnsO t w e (.slice (some (dropA g off xs.length n t.sz)) (xs.length - n) (xs.length - n)) (xs.drop n) := by
  obtain ⟨css, g1, g2, h | ⟨g', off', cap', cur, hv, h2, h3, h4, h5, h6⟩⟩ := h
  · obtain ⟨h, _⟩ := h; cases h
  · simp only [Value.slice.injEq, Option.some.injEq, Addr.mk.injEq, and_true, true_and] at hv
    obtain ⟨⟨rfl, rfl⟩, rfl⟩ := hv
    have hl := OwnsO.lens g1 g2
    refine ⟨css.drop n, by simp [g1], fun k h h' => ?_, .inr ?_⟩
    · simp only [List.getElem_drop]
      exact g2 _ _ _
    · by_cases he : xs.length = n
      · refine ⟨g, off, xs.length - n, cur, by simp [dropA, he], h2, by simp, by omega, ?_, ?_⟩
        · rw [show xs.length - n = 0 by omega, Nat.zero_mul]; have := Nat.zero_le (cap * t.sz); omega
        · have e1 : (xs.drop n).length = 0 := by simp; omega
          have e2 : css.drop n = [] := List.drop_eq_nil_iff.2 (by omega)
          rw [e1, e2, Nat.zero_mul]; rfl
      · refine ⟨g, off + n * t.sz, xs.length - n, cur, by simp [dropA, he], h2, by simp, by omega, ?_, ?_⟩
        · have e1 : xs.length * t.sz = n * t.sz + (xs.length - n) * t.sz := by rw [← Nat.add_mul]; congr 1; omega
          have e2 := Nat.mul_le_mul_right t.sz h3
          omega
        · have e1 : css.flatten = (css.take n).flatten ++ (css.drop n).flatten := by rw [← List.flatten_append, List.take_append_drop]
          have e2 : (css.take n).flatten.length = n * t.sz := by rw [flatten_length _ (fun c hc => hl c (List.mem_of_mem_take hc)), List.length_take]; congr 1; omega
          have e3 : (css.drop n).flatten = css.flatten.drop (n * t.sz) := by rw [e1, ← e2, List.drop_left]
          rw [e3, ← h6, List.drop_take, List.drop_drop, List.length_drop, ← Nat.sub_mul]
theorem OwnsO.addr {α : Type} {t : Ty α} {w : World} {e : TypeId} {v : Value} {xs : List α} (h : OwnsO t w e v xs) (hp : 0 < xs.length) : ∃ g off cap, v = .slice (some ⟨g, off, none⟩) xs.length cap ∧ xs.length ≤ cap ∧ cap ≤ maxLen :=
  let ⟨g, off, cap, _, h1, h2, h3, _, _⟩ := h.at hp
  ⟨g, off, cap, h1, h2, h3⟩
theorem slice_take {α : Type} {t : Ty α} {m : Mem} {a : Option Addr} {len cap n : Nat} {xs : List α} (h : (tSlice t).rv m [.slice a len cap] xs) (hn : n ≤ xs.length) : (tSlice t).rv m [.slice a n n] (xs.take n) := by
  obtain ⟨rfl, h1, h2⟩ := slice_len h
  obtain ⟨a', cap', e, _, _, h4⟩ := h
  simp only [List.cons.injEq, Value.slice.injEq, and_true] at e
  obtain ⟨rfl, _, rfl⟩ := e
  have hl : (xs.take n).length = n := by simp; omega
  refine ⟨a, n, by rw [hl], by rw [hl]; exact Nat.le_refl _, by omega, fun h0 => ?_⟩
  rw [hl] at h0
  obtain ⟨b, o, ha, hat⟩ := h4 (by omega)
  exact ⟨b, o, ha, fun k hk => by rw [List.getElem_take]; exact hat k (by omega)⟩

def sendN (r : Raw) : Nat := min r.size.toNat r.queue.length
noncomputable def sendR (r : Raw) (a : Nat) : Raw := { r with queue := r.queue.drop (sendN r), next := r.next + 1, credits := r.credits - 1, way := putAt r.way r.next a, pt := r.pt ++ [⟨a, r.queue.take (sendN r), sendN r⟩] }
def SendOut (base b : Nat) (W : World) (L : WL) (r : Raw) (e : Ending) (W' : World) : Prop :=
  (r.queue = [] ∧ e = .returned (.tuple #[.int .i64 0, .int .i64 8]) ∧ WStep base b W L r W' r) ∨ (r.queue ≠ [] ∧ r.credits = 0 ∧ e = .returned (.tuple #[.int .i64 0, .int .i64 10]) ∧ WStep base b W L r W' r) ∨
  (r.queue ≠ [] ∧ r.credits ≠ 0 ∧ e = .returned (.tuple #[.int .i64 r.next, .int .i64 0]) ∧ ∃ a, W.heap.size ≤ a ∧ WStep base b W L r W' (sendR r a))

section
variable {W W' : World} {base b : Nat} {L L' : WL} {r r' : Raw}
theorem WireInv.upd2 (hI : WireInv W base b L r) (hk : Keeps (mutB b L r) W W') (hm : ∀ k, mutB b L' r' k → mutB b L r k ∨ W.heap.size ≤ k)
    (hb : W'.heap[b]? = some (.cells (wCells L' r') 87 (0, 0)))
    (q : OwnsO (tIn (safe W b L r) tEl) W' 42 L'.qv r'.queue) (bf : OwnsO (tIn (safe W b L r) tItem) W' 94 L'.bv r'.buffer)
    (wm : PMap W' L'.wm L'.nw r'.way) (em : PMap W' L'.em L'.ne r'.early) (we : L'.wm ≠ L'.em)
    (pk : (safe W b L r).le (safe W' b L' r') → ∀ p ∈ r'.pt, ∃ lv, W'.heap[p.ad]? = some (.cells #[lv, .int .i64 p.left] 91 (0, 0)) ∧ tEls.rv (safe W' b L' r') [lv] p.els)
    (nd : (r'.pt.map (·.ad)).Nodup) (hnw : L'.nw ≤ L.nw + 1) (hne : L'.ne ≤ L.ne + 1) (hqo : ∀ k, L'.qv.ownBlock = some k → L.qv.ownBlock = some k ∨ W.heap.size ≤ k) (hf : L'.fr = L.fr) : WStep base b W L r W' r' := by
  have hs := safe_le (L' := L') (r' := r') hk hm hf
  refine ⟨L', ⟨hb, q.re hs, bf.re hs, wm, em, we, pk hs, nd, fun k h => ?_, Nat.le_trans hI.bw hk.size, hI.frL hk hf, hI.frD hm hqo hf⟩, hI.keepsB hk, hs, hnw, hne, hI.frK hk hf⟩
  rcases hm k h with h | h
  · exact hI.ge k h
  · exact Nat.le_trans hI.bw h
end

/-- Behind the packet's box and its place in the map. -/
theorem send_box {W x w4 : World} {base b : Nat} {L : WL} {r : Raw} {v : Value} {n : Nat} {y : World} (hI : WireInv W base b L r) (hD : Below W.heap.size W x) (hsz : x.heap.size = W.heap.size) (hg : y.grownBy w4 (some L.wm))
    (hy : y = (x.alloc (.cells #[v, .int .i64 n] 91)).drew) :
    w4.heap[b]? = some (.cells (wCells L r) 87 (0, 0)) ∧ w4.heap[x.heap.size]? = some (.cells #[v, .int .i64 n] 91 (0, 0)) ∧ (∀ k, k < W.heap.size → k ≠ L.wm → w4.heap[k]? = W.heap[k]?) ∧ Keeps (fun k => k = L.wm) W w4 ∧ W.heap.size < w4.heap.size := by
  subst hy
  have hlt := hI.mut_lt
  have hwm := hlt _ (.inr (.inl rfl))
  have hY : ∀ k, k < W.heap.size → (x.alloc (.cells #[v, .int .i64 n] 91)).drew.heap[k]? = W.heap[k]? := fun k hk => (Below.heap_alloc _ _ _ (by omega)).trans (hD.block k hk)
  have ho : ∀ k, k < W.heap.size → k ≠ L.wm → w4.heap[k]? = W.heap[k]? := fun k hk h => (hg.block k (by show k < (x.alloc _).heap.size; simp; omega) (fun e => h (by injection e))).trans (hY k hk)
  have hs : W.heap.size < w4.heap.size := by have := hg.size; have h2 : (x.alloc (.cells #[v, .int .i64 n] 91)).drew.heap.size = x.heap.size + 1 := by show (x.alloc _).heap.size = _; simp
                                             omega
  refine ⟨(ho b (hlt b (.inl rfl)) hI.apart.1).trans hI.hb, (hg.block _ (by show _ < (x.alloc _).heap.size; simp) (fun e => by injection e with e; omega)).trans (heap_alloc_new x _), ho, ⟨hg.os.trans hD.os, hg.tape.trans hD.tape, hg.output.trans hD.output, Nat.le_of_lt hs, fun k hk h => ho k hk h⟩, hs⟩

/-- Send's end. -/
theorem send_fin {W w4 F : World} {base b a : Nat} {L : WL} {r : Raw} {g off cq n : Nat} (hI : WireInv W base b L r) (hqv : L.qv = .slice (some ⟨g, off, none⟩) r.queue.length cq) (hn : n = sendN r) (hnl : n ≤ r.queue.length)
    (ha : a = W.heap.size) (hbox : w4.heap[a]? = some (.cells #[.slice (some ⟨g, off, none⟩) n n, .int .i64 n] 91 (0, 0))) (ho : ∀ k, k < W.heap.size → k ≠ L.wm → w4.heap[k]? = W.heap[k]?) (hk : Keeps (fun k => k = L.wm) W w4)
    (hM : PMap w4 L.wm (L.nw + 1) (putAt r.way r.next a))
    (hF : F = (((w4.setCell ⟨b, 0, none⟩ (.slice (some (dropA g off r.queue.length n 5)) (r.queue.length - n) (r.queue.length - n))).setCell ⟨b, 4, none⟩ (.int .i64 (r.next + 1))).setCell ⟨b, 2, none⟩ (.int .i64 (r.credits - 1))).drew) : WStep base b W L r F (sendR r a) := by
  have hap := hI.apart
  have hlt := hI.mut_lt
  have hq := hI.q
  rw [hqv] at hq
  have hqo : ∀ k, L.qv.ownBlock = some k → k = g := fun k e => by rw [hqv] at e; cases e; rfl
  have hqo' : L.qv.ownBlock = some g := by rw [hqv]; rfl
  have hoF : ∀ k, k ≠ b → F.heap[k]? = w4.heap[k]? := fun k h => by
    subst hF
    exact (set_block_other (w := (w4.setCell ⟨b, 0, none⟩ _).setCell ⟨b, 4, none⟩ _) h).trans ((set_block_other h).trans (set_block_other h))
  have hbF : F.heap[b]? = some (.cells (wCells { L with qv := .slice (some (dropA g off r.queue.length n 5)) (r.queue.length - n) (r.queue.length - n), nw := L.nw + 1 } (sendR r a)) 87 (0, 0)) := by
    subst hF
    exact set_block (w := (w4.setCell ⟨b, 0, none⟩ _).setCell ⟨b, 4, none⟩ _) (set_block (set_block ((ho b (hlt b (.inl rfl)) hap.1).trans hI.hb)))
  have hkF : Keeps (mutB b L r) W F := by
    subst hF
    exact ((((hk.wide (fun k _ h => .inr (.inl h)) : Keeps (mutB b L r) W w4).setCell (p := ⟨b, 0, none⟩) (fun _ => .inl rfl) _).setCell (p := ⟨b, 4, none⟩) (fun _ => .inl rfl) _).setCell (p := ⟨b, 2, none⟩) (fun _ => .inl rfl) _).drew
  have hfull : full (Value.slice (some (dropA g off r.queue.length n 5)) (r.queue.length - n) (r.queue.length - n)) := ⟨_, _, rfl⟩
  have hm : ∀ k, mutB b { L with qv := .slice (some (dropA g off r.queue.length n 5)) (r.queue.length - n) (r.queue.length - n), nw := L.nw + 1 } (sendR r a) k → mutB b L r k ∨ W.heap.size ≤ k := fun k h => by
    rcases h with h | h | h | ⟨p, hp, rfl⟩ | h | ⟨_, h⟩
    · exact .inl (.inl h)
    · exact .inl (.inr (.inl h))
    · exact .inl (.inr (.inr (.inl h)))
    · rcases List.mem_append.1 hp with hp | hp
      · exact .inl (.inr (.inr (.inr (.inl ⟨p, hp, rfl⟩))))
      · right; simp at hp; subst hp; exact Nat.le_of_eq ha.symm
    · exact .inl (.inr (.inr (.inr (.inr (.inl h)))))
    · exact absurd hfull h
  have hgb : g ≠ b ∧ g ≠ L.wm := ⟨(hap.2.2.2.2 g hqo').1, (hap.2.2.2.2 g hqo').2.1⟩
  have hgl := hI.q.lt g hqo'
  have hgF : F.heap[g]? = W.heap[g]? := (hoF g hgb.1).trans (ho g hgl hgb.2)
  have hqF : OwnsO (tIn (safe W b L r) tEl) F 42 (.slice (some ⟨g, off, none⟩) r.queue.length cq) r.queue := hq.keeps (fun k e => by cases e; exact hgF)
  refine hI.upd2 (L' := { L with qv := .slice (some (dropA g off r.queue.length n 5)) (r.queue.length - n) (r.queue.length - n), nw := L.nw + 1 }) hkF hm hbF ?_ (hI.bf.keeps (fun k e => ?_)) (hM.at (hoF _ (fun e => hap.1 e.symm))) (hI.em.at ?_) hI.we (fun hs p hp => ?_) ?_ (Nat.le_refl _) (Nat.le_succ _) (fun k e => by rw [hqv]; left; simpa [Value.ownBlock, dropA_block] using e) rfl
  · show OwnsO _ _ _ _ (r.queue.drop (sendN r))
    rw [← hn]; exact hqF.drop hnl
  · have h1 := hap.2.2.2.1 k e
    exact (hoF k h1.1).trans (ho k (hI.bf.lt k e) h1.2.1)
  · exact (hoF _ (fun e => hap.2.1 e.symm)).trans (ho _ hI.em.lt (fun e => hI.we e.symm))
  · rcases List.mem_append.1 hp with hp | hp
    · obtain ⟨lv, h1, h2⟩ := hI.pk p hp
      have h3 := hap.2.2.1 p hp
      exact ⟨lv, ((hoF _ h3.1).trans (ho _ (Array.getElem?_eq_some_iff.1 h1).1 h3.2.1)).trans h1, tEls.mono _ _ _ _ hs h2⟩
    · simp only [List.mem_singleton] at hp
      subst hp
      have hab : a ≠ b := by have := hlt b (.inl rfl); omega
      refine ⟨_, by rw [← hn]; exact (hoF a hab).trans hbox, ?_⟩
      have hown := (hqF.re hs).rv (tIn_flat _ _) (S := fun k => ¬ mutB b { L with qv := .slice (some (dropA g off r.queue.length n 5)) (r.queue.length - n) (r.queue.length - n), nw := L.nw + 1 } (sendR r a) k ∧ ¬ L.fr k) (fun k e => by
        cases e
        refine ⟨?_, fun h => (hI.fd g h).2 hqo'⟩
        intro h
        rcases h with h | h | h | ⟨p, hp, h⟩ | h | ⟨_, h⟩
        · exact hgb.1 h
        · exact hgb.2 h
        · exact (hap.2.2.2.2 g hqo').2.2.1 h
        · rcases List.mem_append.1 hp with hp | hp
          · exact (hap.2.2.2.2 g hqo').2.2.2.1 p hp h
          · simp only [List.mem_singleton] at hp; subst hp; simp only at h; omega
        · exact (hap.2.2.2.2 g hqo').2.2.2.2 h
        · exact h hfull)
      rw [← hn]
      exact slice_take (slice_in hown (Mem.le_refl _)) hnl
  · show ((r.pt ++ [_]).map PT.ad).Nodup
    rw [List.map_append, List.nodup_append]
    refine ⟨hI.nd, by simp, fun x hx y hy => ?_⟩
    simp only [List.map_cons, List.map_nil, List.mem_singleton] at hy
    obtain ⟨p, hp, rfl⟩ := List.mem_map.1 hx
    have := hlt p.ad (.inr (.inr (.inr (.inl ⟨p, hp, rfl⟩))))
    rw [hy]; show p.ad ≠ a; omega

set_option maxRecDepth 100000 in
set_option maxHeartbeats 4000000 in
theorem send_any (base b : Nat) (L : WL) (r : Raw) (W : World) (hI : WireInv W base b L r) (hs1 : 1 ≤ r.size) (hs2 : r.size ≤ 100) (hq : r.queue.length ≤ 4000) (hc0 : 0 ≤ r.credits) (hc1 : r.credits ≤ 1000) (hn0 : 0 ≤ r.next) (hn1 : r.next ≤ 1000000000) (hnw : L.nw ≤ 1000000000) :
    Calls Try.prog 17 #[.pointer (some ⟨b, 0, none⟩)] W (SendOut base b W L r) := by
  obtain ⟨qv, bv, wm, em, nw, ne, fr⟩ := L
  simp only at hnw
  have c2 : W.cell? ⟨b, 2, none⟩ = some (.int .i64 r.credits) := hI.cell 2
  by_cases hqe : r.queue = []
  · obtain ⟨aq, cq, hqv, hq1, hq2⟩ := hI.q.form
    simp only [hqe, List.length_nil] at hqv
    subst hqv
    have c0 : W.cell? ⟨b, 0, none⟩ = some (.slice aq 0 cq) := hI.cell 0
    have HI := Lib.hid hI
    have HQ := Lib.hid hqe
    clear hI hqe hq1
    go_enter Try.func17, Try.ntmps17
    go_wp2
    go_ret2
    exact .inl ⟨HQ.out, rfl, HI.out.same⟩
  · have hpos : 0 < r.queue.length := by cases h : r.queue with
      | nil => exact absurd h hqe
      | cons x l => simp
    obtain ⟨g, off, cq, hqv, hq1, hq2⟩ := hI.q.addr hpos
    simp only at hqv
    subst hqv
    have c0 : W.cell? ⟨b, 0, none⟩ = some (.slice (some ⟨g, off, none⟩) r.queue.length cq) := hI.cell 0
    have hz : ((r.queue.length : Int) == 0) = false := by simp; omega
    have HI := Lib.hid hI
    have HQ := Lib.hid hqe
    have c1 : W.cell? ⟨b, 1, none⟩ = some (.int .i64 r.size) := hI.cell 1
    have c4 : W.cell? ⟨b, 4, none⟩ = some (.int .i64 r.next) := hI.cell 4
    have c8 : W.cell? ⟨b, 8, none⟩ = some (.map (some wm)) := hI.cell 8
    have hcq : cq ≤ 9223372036854775807 := by unfold maxLen at hq2; exact hq2
    clear hI hqe
    by_cases hcz : r.credits = 0
    · have HC := Lib.hid hcz
      have hcz1 : (r.credits == 0) = true := by simpa using hcz
      clear hcz
      go_enter Try.func17, Try.ntmps17
      go_wp2
      go_ret2
      exact .inr (.inl ⟨HQ.out, HC.out, rfl, HI.out.same⟩)
    · have HC := Lib.hid hcz
      have hcz1 : (r.credits == 0) = false := by simpa using hcz
      clear hcz
      obtain ⟨n, hn, hn0', hnl, hmin⟩ : ∃ n, n = sendN r ∧ 0 < n ∧ n ≤ r.queue.length ∧ min r.size (r.queue.length : Int) = n := ⟨sendN r, rfl, by unfold sendN; omega, by unfold sendN; omega, by unfold sendN; omega⟩
      have HN := Lib.hid hn
      have hn100 : n ≤ 100 := by omega
      have hs1' := take_run (P := Try.prog) (T := 36) (sz := 5) Try.underlying36 (by kernel_rfl) g off r.queue.length cq n hn0' (by omega)
      have hs2' := drop_run (P := Try.prog) (T := 36) (sz := 5) Try.underlying36 (by kernel_rfl) g off r.queue.length cq n hnl hq1
      have HMIN := Lib.hid hmin
      clear hn hmin
      by_cases hle : r.size ≤ (r.queue.length : Int)
      · go_enter Try.func17, Try.ntmps17
        go_wp2_with fail
        go_region
        have hsn : r.size = (n : Int) := by have := HMIN.out; omega
        rw [hsn]
        have HD := Lib.hid (show Below W.heap.size W W.drew from (Below.refl _ _).drew)
        have hXb := HI.out.hb
        have hXb : W.drew.heap[b]? = some (.cells (wCells ⟨.slice (some ⟨g, off, none⟩) r.queue.length cq, bv, wm, em, nw, ne, fr⟩ r) 87 (0, 0)) := hXb
        have d0 : W.drew.cell? ⟨b, 0, none⟩ = some (.slice (some ⟨g, off, none⟩) r.queue.length cq) := c0
        have d4 : W.drew.cell? ⟨b, 4, none⟩ = some (.int .i64 r.next) := c4
        have d8 : W.drew.cell? ⟨b, 8, none⟩ = some (.map (some wm)) := c8
        have hPM : PMap (W.drew.alloc (.cells #[.slice (some ⟨g, off, none⟩) n n, .int .i64 n] 91)).drew wm nw r.way := ((HI.out.wm.drew).alloc _).drew
        have HPM := Lib.hid hPM
        have hsz : W.drew.heap.size = W.heap.size := rfl
        have HSZ := Lib.hid hsz
        clear c0 c1 c2 c4 c8 hPM hsz
        go_upto_region 9 with fail
        generalize W.drew = X at *
        have d8' : (X.alloc (.cells #[.slice (some ⟨g, off, none⟩) n n, .int .i64 n] 91)).cell? ⟨b, 8, none⟩ = some (.map (some wm)) := below_mem ((Below.refl _ _).alloc (Nat.le_refl _) _) _ _ _ d8
        obtain ⟨w4, hrun, HM4, hg4⟩ := HPM.out.put (by unfold maxLen; omega) (k := r.next) (by unfold inI64; omega) X.heap.size
        have HM := Lib.hid HM4
        have HP := Lib.hid (send_box (x := X) (n := n) HI.out HD.out HSZ.out hg4 rfl)
        have hb4 := (HP.out).1
        clear hg4 HPM hXb HM4
        go_region
        clear d0 d4 d8 d8' hrun
        have e0 : w4.cell? ⟨b, 0, none⟩ = some (.slice (some ⟨g, off, none⟩) r.queue.length cq) := mem_cells hb4 0
        have e2 : w4.cell? ⟨b, 2, none⟩ = some (.int .i64 r.credits) := mem_cells hb4 2
        have e4 : w4.cell? ⟨b, 4, none⟩ = some (.int .i64 r.next) := mem_cells hb4 4
        have f0 : w4.frozen? ⟨b, 0, none⟩ = false := frozen_cells hb4 0
        have f2 : w4.frozen? ⟨b, 2, none⟩ = false := frozen_cells hb4 2
        have f4 : w4.frozen? ⟨b, 4, none⟩ = false := frozen_cells hb4 4
        clear hb4
        go_wp2
        go_region
        go_wp2
        go_ret2
        exact .inr (.inr ⟨HQ.out, HC.out, rfl, X.heap.size, Nat.le_of_eq HSZ.out.symm, send_fin HI.out rfl HN.out hnl HSZ.out HP.out.2.1 HP.out.2.2.1 HP.out.2.2.2.1 HM.out rfl⟩)
      · obtain rfl : n = r.queue.length := by have := HMIN.out; omega
        go_enter Try.func17, Try.ntmps17
        go_wp2_with fail
        go_region
        have HD := Lib.hid (show Below W.heap.size W W.drew from (Below.refl _ _).drew)
        have hXb := HI.out.hb
        have hXb : W.drew.heap[b]? = some (.cells (wCells ⟨.slice (some ⟨g, off, none⟩) r.queue.length cq, bv, wm, em, nw, ne, fr⟩ r) 87 (0, 0)) := hXb
        have d0 : W.drew.cell? ⟨b, 0, none⟩ = some (.slice (some ⟨g, off, none⟩) r.queue.length cq) := c0
        have d4 : W.drew.cell? ⟨b, 4, none⟩ = some (.int .i64 r.next) := c4
        have d8 : W.drew.cell? ⟨b, 8, none⟩ = some (.map (some wm)) := c8
        have hPM : PMap (W.drew.alloc (.cells #[.slice (some ⟨g, off, none⟩) r.queue.length r.queue.length, .int .i64 r.queue.length] 91)).drew wm nw r.way := ((HI.out.wm.drew).alloc _).drew
        have HPM := Lib.hid hPM
        have hsz : W.drew.heap.size = W.heap.size := rfl
        have HSZ := Lib.hid hsz
        clear c0 c1 c2 c4 c8 hPM hsz
        go_upto_region 9 with fail
        generalize W.drew = X at *
        have d8' : (X.alloc (.cells #[.slice (some ⟨g, off, none⟩) r.queue.length r.queue.length, .int .i64 r.queue.length] 91)).cell? ⟨b, 8, none⟩ = some (.map (some wm)) := below_mem ((Below.refl _ _).alloc (Nat.le_refl _) _) _ _ _ d8
        obtain ⟨w4, hrun, HM4, hg4⟩ := HPM.out.put (by unfold maxLen; omega) (k := r.next) (by unfold inI64; omega) X.heap.size
        have HM := Lib.hid HM4
        have HP := Lib.hid (send_box (x := X) (n := r.queue.length) HI.out HD.out HSZ.out hg4 rfl)
        have hb4 := (HP.out).1
        clear hg4 HPM hXb HM4
        go_region
        clear d0 d4 d8 d8' hrun
        have e0 : w4.cell? ⟨b, 0, none⟩ = some (.slice (some ⟨g, off, none⟩) r.queue.length cq) := mem_cells hb4 0
        have e2 : w4.cell? ⟨b, 2, none⟩ = some (.int .i64 r.credits) := mem_cells hb4 2
        have e4 : w4.cell? ⟨b, 4, none⟩ = some (.int .i64 r.next) := mem_cells hb4 4
        have f0 : w4.frozen? ⟨b, 0, none⟩ = false := frozen_cells hb4 0
        have f2 : w4.frozen? ⟨b, 2, none⟩ = false := frozen_cells hb4 2
        have f4 : w4.frozen? ⟨b, 4, none⟩ = false := frozen_cells hb4 4
        clear hb4
        go_wp2
        go_region
        go_wp2
        go_ret2
        exact .inr (.inr ⟨HQ.out, HC.out, rfl, X.heap.size, Nat.le_of_eq HSZ.out.symm, send_fin HI.out rfl HN.out (Nat.le_refl _) HSZ.out HP.out.2.1 HP.out.2.2.1 HP.out.2.2.2.1 HM.out (by rw [Nat.sub_self])⟩)
end Go.Proofs.Ytfkphdmnelchmaa
/- Wires: Deliver. -/
namespace Go.Proofs.Ytfkphdmnelchmaa
open Go.RowKit Go.Maps

section
variable {W W' : World} {base b : Nat} {L L' : WL} {r r' : Raw}
def WS (i base b : Nat) (W : World) (L : WL) (r : Raw) (W' : World) (r' : Raw) : Prop :=
  ∃ L', WireInv W' base b L' r' ∧ Below base W W' ∧ (safe W b L r).le (safe W' b L' r') ∧ L'.nw ≤ L.nw + i ∧ L'.ne ≤ L.ne + i ∧ FrK L L' W W'
theorem WS.trans {i : Nat} {W2 : World} {L1 : WL} {r2 : Raw} (hB : Below base W W') (hs : (safe W b L r).le (safe W' b L1 r')) (h1 : L1.nw ≤ L.nw + i) (h2 : L1.ne ≤ L.ne + i) (hf : FrK L L1 W W') (h : WS 0 base b W' L1 r' W2 r2) : WS i base b W L r W2 r2 :=
  let ⟨L2, i2, b2, s2, n2, e2, f2⟩ := h
  ⟨L2, i2, hB.trans b2, Mem.le_trans hs s2, by omega, by omega, hf.trans f2⟩
theorem WireInv.pureS (h : WireInv W base b L r) (hk : Below W.heap.size W W') : WS 0 base b W L r W' r :=
  ⟨L, h.pure hk, hk.mono h.bw, h.safePure hk, Nat.le_refl _, Nat.le_refl _, rfl, fun k hx => hk.block k (h.fl k hx)⟩
theorem WireInv.updI (i : Nat) (hI : WireInv W base b L r) (hk : Keeps (mutB b L r) W W') (hm : ∀ k, mutB b L' r' k → mutB b L r k ∨ W.heap.size ≤ k)
    (hb : W'.heap[b]? = some (.cells (wCells L' r') 87 (0, 0)))
    (q : OwnsO (tIn (safe W b L r) tEl) W' 42 L'.qv r'.queue) (bf : (safe W b L r).le (safe W' b L' r') → OwnsO (tIn (safe W' b L' r') tItem) W' 94 L'.bv r'.buffer)
    (wm : PMap W' L'.wm L'.nw r'.way) (em : PMap W' L'.em L'.ne r'.early) (we : L'.wm ≠ L'.em)
    (pk : ∀ p ∈ r'.pt, ∃ lv, W'.heap[p.ad]? = some (.cells #[lv, .int .i64 p.left] 91 (0, 0)) ∧ tEls.rv (safe W b L r) [lv] p.els)
    (nd : (r'.pt.map (·.ad)).Nodup) (hnw : L'.nw ≤ L.nw + i) (hne : L'.ne ≤ L.ne + i) (hqo : ∀ k, L'.qv.ownBlock = some k → L.qv.ownBlock = some k ∨ W.heap.size ≤ k) (hf : L'.fr = L.fr) : WS i base b W L r W' r' := by
  have hs := safe_le (L' := L') (r' := r') hk hm hf
  refine ⟨L', ⟨hb, q.re hs, bf hs, wm, em, we, fun p hp => ?_, nd, fun k h => ?_, Nat.le_trans hI.bw hk.size, hI.frL hk hf, hI.frD hm hqo hf⟩, hI.keepsB hk, hs, hnw, hne, hI.frK hk hf⟩
  · obtain ⟨lv, h1, h2⟩ := pk p hp
    exact ⟨lv, h1, tEls.mono _ _ _ _ hs h2⟩
  · rcases hm k h with h | h
    · exact hI.ge k h
    · exact Nat.le_trans hI.bw h
/-- One of the two maps has changed. -/
theorem WireInv.mapped {way early : Int → Option Nat} {nw ne : Nat} {m : Nat} {i : Nat} (hI : WireInv W base b L r) (hmm : m = L.wm ∨ m = L.em) (hg : W.grownBy W' (some m)) (hw : PMap W' L.wm nw way) (he : PMap W' L.em ne early) (hnw : nw ≤ L.nw + i) (hne : ne ≤ L.ne + i) :
    WS i base b W L r W' { r with way := way, early := early } := by
  have hap := hI.apart
  have hk : Keeps (mutB b L r) W W' := (grown_keeps hg).wide (fun k _ h => by
    injection h with h
    rcases hmm with e | e
    · exact .inr (.inl (h.trans e))
    · exact .inr (.inr (.inl (h.trans e))))
  have ho : ∀ k, k < W.heap.size → k ≠ L.wm → k ≠ L.em → W'.heap[k]? = W.heap[k]? := fun k h h1 h2 => hg.block k h (fun e => by
    injection e with e
    rcases hmm with e2 | e2
    · exact h1 (e.trans e2)
    · exact h2 (e.trans e2))
  refine hI.updI i (L' := { L with nw := nw, ne := ne }) hk (fun k h => .inl h) ((ho b (hI.mut_lt b (.inl rfl)) hap.1 hap.2.1).trans hI.hb) (hI.q.keeps (fun k e => ho k (hI.q.lt k e) (hap.2.2.2.2 k e).2.1 (hap.2.2.2.2 k e).2.2.1))
    (fun hs => (hI.bf.keeps (fun k e => ho k (hI.bf.lt k e) (hap.2.2.2.1 k e).2.1 (hap.2.2.2.1 k e).2.2.1)).re hs) hw he hI.we (fun p hp => ?_) hI.nd hnw hne (fun _ h => .inl h) rfl
  obtain ⟨lv, h1, h2⟩ := hI.pk p hp
  exact ⟨lv, (ho _ (Array.getElem?_eq_some_iff.1 h1).1 (hap.2.2.1 p hp).2.1 (hap.2.2.1 p hp).2.2).trans h1, h2⟩
theorem WireInv.mapOther (hI : WireInv W base b L r) {m : Nat} (hg : W.grownBy W' (some m)) {k n : Nat} {f : Int → Option Nat} (h : PMap W k n f) (hne : k ≠ m) : PMap W' k n f :=
  h.at (hg.block k h.lt (fun e => hne (by injection e)))
/-- Numbers alone. -/
theorem WireInv.numsS (hI : WireInv W base b L r) (hk : Keeps (fun k => k = b) W W') (n : Raw) (hq : n.queue = r.queue) (hbf : n.buffer = r.buffer) (he : n.early = r.early) (hw : n.way = r.way) (hp : n.pt = r.pt)
    (hb' : W'.heap[b]? = some (.cells (wCells L n) 87 (0, 0))) : WS 0 base b W L r W' n :=
  let h := hI.nums hk n hq hbf he hw hp hb'
  ⟨L, h.1, hI.keepsB (hk.wide (fun _ _ h => .inl h)), h.2, Nat.le_refl _, Nat.le_refl _, hI.frK (hk.wide (fun _ _ h => .inl h)) rfl⟩
end

/-- The buffer has grown by an item. -/
theorem WireInv.buffered {A C : World} {base b : Nat} {L : WL} {r : Raw} {it : Item} {o : Obj} {v' : Value} (hI : WireInv A base b L r) (own : OwnsO (tIn (safe (A.alloc o) b L r) tItem) C 94 v' (r.buffer ++ [it]))
    (happ : AppAt (A.alloc o) C L.bv r.buffer.length 1 v') : WS 0 base b A L r (C.setCell ⟨b, 7, none⟩ v') { r with buffer := r.buffer ++ [it] } := by
  have hA : WireInv (A.alloc o) base b L r := hI.pure ((Below.refl _ _).alloc (Nat.le_refl _) o)
  refine WS.trans (L1 := L) (r' := r) (W' := A.alloc o) (((Below.refl _ _).alloc (Nat.le_refl _) o).mono hI.bw) (hI.safePure ((Below.refl _ _).alloc (Nat.le_refl _) o)) (Nat.le_refl _) (Nat.le_refl _) ⟨rfl, fun k hx => ((Below.refl _ _).alloc (Nat.le_refl _) o).block k (hI.fl k hx)⟩ ?_
  generalize A.alloc o = X at hA own happ
  have hap := hA.apart
  have hlt := hA.mut_lt
  have hk : Keeps (mutB b L r) X C := (grown_keeps happ.grown).wide (fun k _ hk => .inr (.inr (.inr (.inr (.inl hk.symm)))))
  have hk2 : Keeps (mutB b L r) X (C.setCell ⟨b, 7, none⟩ v') := hk.setCell (p := ⟨b, 7, none⟩) (fun _ => .inl rfl) _
  have hm : ∀ k, mutB b { L with bv := v' } { r with buffer := r.buffer ++ [it] } k → mutB b L r k ∨ X.heap.size ≤ k := fun k h => by
    rcases h with h | h | h | h | h | h
    · exact .inl (.inl h)
    · exact .inl (.inr (.inl h))
    · exact .inl (.inr (.inr (.inl h)))
    · exact .inl (.inr (.inr (.inr (.inl h))))
    · rcases happ.block with e | e
      · exact .inl (.inr (.inr (.inr (.inr (.inl (e ▸ h))))))
      · exact .inr (e k h)
    · exact .inl (.inr (.inr (.inr (.inr (.inr h)))))
  have hold : ∀ k, k < X.heap.size → (L.bv.ownBlock ≠ some k) → C.heap[k]? = X.heap[k]? := fun k h1 h2 => happ.grown.block k h1 (fun e => h2 e.symm)
  have hbb : L.bv.ownBlock ≠ some b := fun e => (hap.2.2.2.1 b e).1 rfl
  have hvb : v'.ownBlock ≠ some b := fun e => by
    rcases happ.block with h | h
    · exact hbb (h ▸ e)
    · have := h b e; have := hlt b (.inl rfl); omega
  have hset : ∀ k, k ≠ b → (C.setCell ⟨b, 7, none⟩ v').heap[k]? = C.heap[k]? := fun k h => set_block_other h
  refine hA.updI 0 (L' := { L with bv := v' }) hk2 hm (set_block ((hold b (hlt b (.inl rfl)) hbb).trans hA.hb)) (hA.q.keeps (fun k e => ?_)) (fun hs => (own.keeps (fun k e => hset k (fun e2 => hvb (e2 ▸ e)))).re hs)
    (hA.wm.at ((hset _ (fun e => hap.1 e.symm)).trans (hold _ hA.wm.lt (fun e => (hap.2.2.2.1 _ e).2.1 rfl)))) (hA.em.at ((hset _ (fun e => hap.2.1 e.symm)).trans (hold _ hA.em.lt (fun e => (hap.2.2.2.1 _ e).2.2.1 rfl)))) hA.we (fun p hp => ?_) hA.nd (Nat.le_refl _) (Nat.le_refl _) (fun _ h => .inl h) rfl
  · exact (hset k (hap.2.2.2.2 k e).1).trans (hold k (hA.q.lt k e) (hap.2.2.2.2 k e).2.2.2.2)
  · obtain ⟨lv, h1, h2⟩ := hA.pk p hp
    exact ⟨lv, ((hset _ (hap.2.2.1 p hp).1).trans (hold _ (Array.getElem?_eq_some_iff.1 h1).1 (fun e => (hap.2.2.2.1 _ e).2.2.2 p hp rfl))).trans h1, h2⟩

noncomputable def movedR (r : Raw) : Raw := { r with early := delAt r.early r.turn, turn := r.turn + 1 }
noncomputable def moveR (r : Raw) (p : PT) : Raw := { movedR r with buffer := r.buffer ++ p.els.map (fun x => ⟨x, some p.ad⟩) }
inductive Moves : Raw → Raw → Prop
  | done {r : Raw} (h : r.early r.turn = none) : Moves r r
  | step {r r' : Raw} {p : PT} (hp : p ∈ r.pt) (h : r.early r.turn = some p.ad) (hm : Moves (moveR r p) r') : Moves r r'
noncomputable def takenR (r : Raw) (n : Int) (a : Nat) : Raw := { r with way := delAt r.way n, early := putAt r.early n a }
def DelivOut (base b : Nat) (n : Int) (W : World) (L : WL) (r : Raw) (e : Ending) (W' : World) : Prop :=
  ((n < 0 ∨ r.next ≤ n) ∧ e = .returned (.int .i64 8) ∧ WS 1 base b W L r W' r) ∨ ((0 ≤ n ∧ n < r.next) ∧ r.way n = none ∧ e = .returned (.int .i64 0) ∧ WS 1 base b W L r W' r) ∨
  ((0 ≤ n ∧ n < r.next) ∧ ∃ a, r.way n = some a ∧ e = .returned (.int .i64 0) ∧ ∃ r', Moves (takenR r n a) r' ∧ WS 1 base b W L r W' r')
/-- What the loop of Deliver keeps. -/
structure DRel (r0 r1 rc : Raw) : Prop where
  mv : ∀ r', Moves rc r' → Moves r1 r'
  ek : ∀ k a, rc.early k = some a → k < rc.next ∧ ∃ p ∈ rc.pt, p.ad = a
  bl : (rc.buffer.length : Int) ≤ 4000 + 4000 * (rc.turn - r0.turn)
  t0 : 0 ≤ r0.turn
  t1 : r0.turn ≤ rc.turn
  t2 : rc.turn ≤ rc.next
  n1 : rc.next ≤ 1000000
  el : ∀ p ∈ rc.pt, p.els.length ≤ 4000
theorem DRel.move {r0 r1 rc : Raw} (h : DRel r0 r1 rc) {p : PT} (hp : p ∈ rc.pt) (he : rc.early rc.turn = some p.ad) : DRel r0 r1 (moveR rc p) := by
  have hk := h.ek _ _ he
  have hel := h.el p hp
  refine ⟨fun r' hm => h.mv r' (.step hp he hm), fun k a e => ?_, ?_, h.t0, ?_, ?_, h.n1, h.el⟩
  · have e' : delAt rc.early rc.turn k = some a := e
    by_cases hkk : k = rc.turn
    · subst hkk; rw [delAt_same] at e'; cases e'
    · rw [delAt_other _ hkk] at e'; exact h.ek k a e'
  · have hb := h.bl
    show ((rc.buffer ++ _).length : Int) ≤ 4000 + 4000 * (rc.turn + 1 - r0.turn)
    rw [List.length_append, List.length_map]; push_cast; omega
  · have := h.t1; show r0.turn ≤ rc.turn + 1; omega
  · have := hk.1; show rc.turn + 1 ≤ rc.next; omega
end Go.Proofs.Ytfkphdmnelchmaa
/- Wires: Deliver, walked. -/
namespace Go.Proofs.Ytfkphdmnelchmaa
open Go.RowKit Go.Maps

def withBuf (r : Raw) (bu : List Item) : Raw := { r with buffer := bu }
theorem PMap.drop_w {W : World} {b n : Nat} {f : Int → Option Nat} (h : PMap W b n f) : PMap W.drew b n f := h.at rfl
theorem infoItem (M : Mem) : (Try.prog.info? 94).map (fun i => (i.zero, i.size, i.bytes)) = some (some (.agg #[.int .i64 0, .int .i64 0, .int .i64 0, .slice none 0 0, .int .i64 0, .pointer none]), (tIn M tItem).sz, 64) := by
  show _ = some (some (Value.agg #[.int .i64 0, .int .i64 0, .int .i64 0, .slice none 0 0, .int .i64 0, .pointer none]), 6, 64)
  kernel_rfl
theorem item_cells {w : World} {x : El} {s : Value} {of : Value} {T : TypeId} : At (mem ((w.alloc (.cells #[.int .i64 x.kind, .int .i64 x.n, .int .i64 x.time, s, .int .i64 x.cn, of] T)).drew)) w.heap.size 0 [.int .i64 x.kind, .int .i64 x.n, .int .i64 x.time, s, .int .i64 x.cn, of] := fun j u hj => by
  rw [Nat.zero_add]
  show World.cell? (w.alloc _) ⟨w.heap.size, j, none⟩ = some u
  rw [cell_new j rfl]; simpa using hj
theorem item_one {x : El} {a : Option Addr} {n c : Nat} {p : Option Addr} : ∀ u ∈ [Value.int .i64 x.kind, .int .i64 x.n, .int .i64 x.time, .slice a n c, .int .i64 x.cn, .pointer p], u.oneCell' = true := fun u hu => by
  simp at hu; rcases hu with rfl | rfl | rfl | rfl | rfl | rfl <;> rfl

theorem WireInv.bufApp {A C : World} {base b : Nat} {L : WL} {r : Raw} {v' : Value} {n m : Nat} {o : Obj} (hI : WireInv A base b L r) (happ : AppAt (A.alloc o) C L.bv n m v') : C.cell? ⟨b, 7, none⟩ = some L.bv ∧ C.frozen? ⟨b, 7, none⟩ = false := by
  have h : C.heap[b]? = some (.cells (wCells L r) 87 (0, 0)) := (happ.grown.block b (by have := hI.mut_lt b (.inl rfl); simp; omega) (fun e => (hI.apart.2.2.2.1 b e.symm).1 rfl)).trans (hI.pure ((Below.refl _ _).alloc (Nat.le_refl _) o)).hb
  exact ⟨mem_cells h 7, frozen_cells h 7⟩
set_option maxRecDepth 100000 in
set_option maxHeartbeats 4000000 in
theorem deliver_any (base b : Nat) (n : Int) (L : WL) (r : Raw) (W : World) (hI : WireInv W base b L r) (hn : inI64 n) (hN0 : 0 ≤ r.next) (hN : r.next ≤ 1000000) (ht0 : 0 ≤ r.turn) (ht1 : r.turn ≤ r.next) (hne : L.ne ≤ 1000000000)
    (hway : ∀ k a, r.way k = some a → k < r.next ∧ ∃ p ∈ r.pt, p.ad = a) (hear : ∀ k a, r.early k = some a → k < r.next ∧ ∃ p ∈ r.pt, p.ad = a) (hbuf : r.buffer.length ≤ 4000) (hel : ∀ p ∈ r.pt, p.els.length ≤ 4000) :
    Calls Try.prog 18 #[.pointer (some ⟨b, 0, none⟩), .int .i64 n] W (DelivOut base b n W L r) := by
  have c4 : W.cell? ⟨b, 4, none⟩ = some (.int .i64 r.next) := hI.cell 4
  by_cases h0 : 0 ≤ n
  · by_cases h1 : n < r.next
    · have c8 : W.cell? ⟨b, 8, none⟩ = some (.map (some L.wm)) := hI.cell 8
      have hlk := hI.wm.lookOk hn
      have HI := Lib.hid hI
      cases hw : r.way n with
      | none =>
        rw [hw] at hlk
        simp only [ptrOr, Option.isSome] at hlk
        have HW := Lib.hid hw
        clear hw hI hway hear hel
        go_enter Try.func18, Try.ntmps18
        go_wp2
        go_ret
        exact .inr (.inl ⟨⟨h0, h1⟩, HW.out, rfl, let ⟨L', a1, a2, a3, a4, a5, a6⟩ := HI.out.pureS (Below.refl _ _); ⟨L', a1, a2, a3, by omega, by omega, a6⟩⟩)
      | some a =>
        rw [hw] at hlk
        simp only [ptrOr, Option.isSome, ptrTo] at hlk
        obtain ⟨w1, hdel, hM1, hg1⟩ := hI.wm.drop hn 0
        obtain ⟨L1, hI1, hB1, hs1, hn1, he1, hf1⟩ := hI.mapped (i := 0) (.inl rfl) hg1 hM1 (hI.mapOther hg1 hI.em hI.we.symm) (Nat.le_refl _) (Nat.le_refl _)
        obtain ⟨w2, hupd, hM2, hg2⟩ := hI1.em.put (by unfold maxLen; omega) hn a
        obtain ⟨L2, hI2, hB2, hs2, hn2, he2, hf2⟩ := hI1.mapped (i := 1) (.inr rfl) hg2 (hI1.mapOther hg2 hI1.wm hI1.we) hM2 (Nat.le_succ _) (Nat.le_refl _)
        have c6 : w1.cell? ⟨b, 6, none⟩ = some (.map (some L1.em)) := hI1.cell 6
        have HW := Lib.hid hw
        obtain ⟨pa, hpa, hpe⟩ := (hway n a hw).2
        have HRel := Lib.hid (show DRel r (takenR r n a) (takenR r n a) from ⟨fun _ h => h, fun k c e => by
          have e' : putAt r.early n a k = some c := e
          by_cases hk : k = n
          · subst hk; rw [putAt_same] at e'; cases e'; exact ⟨h1, pa, hpa, hpe⟩
          · rw [putAt_other _ _ hk] at e'; exact hear k c e', by show (r.buffer.length : Int) ≤ 4000 + 4000 * (r.turn - r.turn); omega, ht0, Int.le_refl _, ht1, hN, hel⟩)
        have HS := Lib.hid (show WS 1 base b W L r w2 (takenR r n a) from ⟨L2, hI2, hB1.trans hB2, Mem.le_trans hs1 hs2, by omega, by omega, hf1.trans hf2⟩)
        clear hw hI hI1 hI2 hway hear hel hM1 hM2 hg1 hg2 hs1 hs2 hB1 hB2
        go_enter Try.func18, Try.ntmps18
        go_wp2
        have HWa := Lib.hid HW.out
        clear hlk hdel hupd c6 c4 c8 hpa hpe
        generalize hr1 : takenR r n a = r1 at HRel HS
        have HR1 := Lib.hid hr1
        clear hr1
        go_loopw [7] (fun _ wr => ∃ rc, Hid (DRel r r1 rc) ∧ WS 1 base b W L r wr rc) (fun _ wr => (1000000 - intOf ((wr.cell? ⟨b, 5, none⟩).getD undef)).toNat)
        case atStart => exact ⟨r1, HRel, HS.out⟩
        case round =>
          clear HRel HS
          obtain ⟨rc, HR, L3, hI3, hB3, hs3, hn3, he3, hf3⟩ := hrel
          have c5 : wr.cell? ⟨b, 5, none⟩ = some (.int .i64 rc.turn) := hI3.cell 5
          have c6 : wr.cell? ⟨b, 6, none⟩ = some (.map (some L3.em)) := hI3.cell 6
          have ht3 : 0 ≤ rc.turn ∧ rc.turn ≤ 1000000 := ⟨by have := HR.out.t0; have := HR.out.t1; omega, by have := HR.out.t2; have := HR.out.n1; omega⟩
          have hk3 : inI64 rc.turn := by unfold inI64; omega
          cases he : rc.early rc.turn with
          | none =>
            have hl1 := (PMap.drop_w hI3.em).look hk3
            rw [he] at hl1
            simp only [ptrOr] at hl1
            have HE := Lib.hid he
            have HF := Lib.hid (show WS 1 base b W L r wr.drew rc from WS.trans hB3 hs3 hn3 he3 hf3 (hI3.pureS (Below.refl _ _).drew))
            clear he hI3 hB3 hs3
            go_wp2
            go_region
            go_wp2
            go_ret
            exact .inr (.inr ⟨⟨h0, h1⟩, a, HWa.out, rfl, rc, by rw [HR1.out]; exact HR.out.mv rc (.done HE.out), HF.out⟩)
          | some a2 =>
            obtain ⟨p, hp, rfl⟩ := (HR.out.ek _ _ he).2
            have hl1 := (PMap.drop_w hI3.em).look hk3
            have hl2 := (PMap.drop_w (PMap.drop_w hI3.em)).look hk3
            rw [he] at hl1 hl2
            simp only [ptrOr, ptrTo] at hl1 hl2
            obtain ⟨w3, hdel, hM3, hg3⟩ := (PMap.drop_w (PMap.drop_w (PMap.drop_w hI3.em))).drop hk3 0
            have hD : Below wr.heap.size wr wr.drew.drew.drew := (((Below.refl _ _).drew).drew).drew
            have hI3' := hI3.pure hD
            have hs3' := hI3.safePure hD
            obtain ⟨L4, hI4, hB4, hs4, hn4, he4, hf4⟩ := hI3'.mapped (i := 0) (.inr rfl) hg3 (hI3'.mapOther hg3 hI3'.wm hI3'.we) hM3 (Nat.le_refl _) (Nat.le_refl _)
            have c54 : w3.cell? ⟨b, 5, none⟩ = some (.int .i64 rc.turn) := hI4.cell 5
            have f54 : w3.frozen? ⟨b, 5, none⟩ = false := hI4.frozen 5
            obtain ⟨L5, hI5, hB5, hs5, hn5, he5, hf5⟩ := hI4.numsS (n := movedR rc) ((Keeps.refl (fun k => k = b) w3).setCell (p := ⟨b, 5, none⟩) (fun _ => rfl) (.int .i64 (rc.turn + 1))) rfl rfl rfl rfl rfl (set_block hI4.hb)
            have HW5 := Lib.hid (And.intro (((hB3.trans (hD.mono hI3.bw)).trans hB4).trans hB5) (And.intro (Mem.le_trans hs3 (Mem.le_trans hs3' (Mem.le_trans hs4 hs5))) (((hf3.trans (hI3.pureFr hD)).trans hf4).trans hf5)))
            have HI5 := Lib.hid hI5
            have HE := Lib.hid he
            have HP := Lib.hid hp
            have c5w := Lib.hid c5
            clear he hp hI3 hI3' hI4 hI5 hs3 hs3' hs4 hs5 hB3 hB4 hB5 hM3 hg3 hD
            go_wp2
            go_region
            go_wp2
            go_region
            go_wp2
            go_region
            go_upto_region 14 with fail
            generalize w3.setCell ⟨b, 5, none⟩ (.int .i64 (rc.turn + 1)) = X at HW5 HI5 ⊢
            clear c54 f54 hl1 hl2 hdel c5 c6
            obtain ⟨lv, hpB, hpE⟩ := HI5.out.pk p HP.out
            obtain ⟨al, capl, rfl, hl1, hl2, hpE⟩ := slice_form hpE
            have k0 : X.cell? ⟨p.ad, 0, none⟩ = some (.slice al p.els.length capl) := mem_cells hpB 0
            have hcl : capl ≤ 9223372036854775807 := by unfold maxLen at hl2; exact hl2
            have hel := HR.out.el p HP.out
            have hbl : (rc.buffer.length : Int) ≤ 4000004000 := by have := HR.out.bl; have := HR.out.t0; omega
            have HPE := Lib.hid hpE
            clear hpB hpE hl2
            go_wp2
            go_loopw [95] (fun i wx => ∃ j : Nat, j ≤ p.els.length ∧ i = .int .i64 j ∧ ∃ bu, Hid (bu = rc.buffer ++ (p.els.take j).map (fun x => ⟨x, some p.ad⟩)) ∧ WS 0 base b X L5 (movedR rc) wx (withBuf (movedR rc) bu)) (fun i _ => p.els.length - (intOf i).toNat)
            case atStart => exact ⟨0, by omega, rfl, rc.buffer, Lib.hid (by simp), HI5.out.pureS (Below.refl _ _)⟩
            case round =>
              obtain ⟨j, hj, rfl, bu, HBU, L6, hI6, hB6, hs6, hn6, he6, hf6⟩ := hrel
              have hbl2 : bu.length ≤ 4000008000 := by rw [HBU.out]; simp; omega
              by_cases hlt : j < p.els.length
              · obtain ⟨bb, o, rfl, hat⟩ := slice_at HPE.out hlt
                obtain ⟨ar, cr, e0, e1, e2, e3, e4, hok, hrow, _⟩ := el_at (tEl.at_mono hs6 hat)
                have e0 : wr.cell? ⟨bb, o + j * 5, none⟩ = some (.int .i64 p.els[j].kind) := (Mem.of_on e0).2
                have e1 : wr.cell? ⟨bb, o + j * 5 + 1, none⟩ = some (.int .i64 p.els[j].n) := (Mem.of_on e1).2
                have e2 : wr.cell? ⟨bb, o + j * 5 + 2, none⟩ = some (.int .i64 p.els[j].time) := (Mem.of_on e2).2
                have e3 : wr.cell? ⟨bb, o + j * 5 + 3, none⟩ = some (.slice ar p.els[j].row.length cr) := (Mem.of_on e3).2
                have e4 : wr.cell? ⟨bb, o + j * 5 + 4, none⟩ = some (.int .i64 p.els[j].cn) := (Mem.of_on e4).2
                have HT := Lib.hid (show bu ++ [⟨p.els[j], some p.ad⟩] = rc.buffer ++ (p.els.take (j + 1)).map (fun x => (⟨x, some p.ad⟩ : Item)) by rw [HBU.out, List.take_succ_eq_append_getElem hlt, List.map_append, List.append_assoc]; rfl)
                clear hat
                generalize p.els[j] = x at *
                obtain ⟨qv6, bv6, wm6, em6, nw6, ne6, fr6⟩ := L6
                obtain ⟨ab, cb, hbv, hb1, hb2⟩ := hI6.bf.form
                have hbv : bv6 = .slice ab bu.length cb := hbv
                subst hbv
                have hY : ∀ o, Below wr.heap.size wr ((wr.alloc o).drew) := fun o => ((Below.refl _ _).alloc (Nat.le_refl _) o).drew
                have HY := Lib.hid (hI6.pure (hY (.cells #[.int .i64 x.kind, .int .i64 x.n, .int .i64 x.time, .slice ar x.row.length cr, .int .i64 x.cn] 42)))
                have HYB := Lib.hid (hB6.trans ((hY (.cells #[.int .i64 x.kind, .int .i64 x.n, .int .i64 x.time, .slice ar x.row.length cr, .int .i64 x.cn] 42)).mono hI6.bw))
                have HYS := Lib.hid (Mem.le_trans hs6 (hI6.safePure (hY (.cells #[.int .i64 x.kind, .int .i64 x.n, .int .i64 x.time, .slice ar x.row.length cr, .int .i64 x.cn] 42))))
                have HYF := Lib.hid (hf6.trans (hI6.pureFr (hY (.cells #[.int .i64 x.kind, .int .i64 x.n, .int .i64 x.time, .slice ar x.row.length cr, .int .i64 x.cn] 42))))
                have y := heap_alloc_new wr (.cells #[.int .i64 x.kind, .int .i64 x.n, .int .i64 x.time, .slice ar x.row.length cr, .int .i64 x.cn] 42)
                have HROW := Lib.hid (tRow.mono _ _ _ _ (hI6.safePure (hY (.cells #[.int .i64 x.kind, .int .i64 x.n, .int .i64 x.time, .slice ar x.row.length cr, .int .i64 x.cn] 42))) hrow)
                have HOK := Lib.hid hok
                have HL1 := Lib.hid (show bu.length + 1 ≤ maxLen by unfold maxLen; omega)
                have HL2 := Lib.hid (show (bu.length + 1) * 64 ≤ 140737488355328 by omega)
                clear hI6 hB6 hs6 hY hrow hok hpE
                go_upto_region 17 with fail
                generalize (wr.alloc (.cells #[.int .i64 x.kind, .int .i64 x.n, .int .i64 x.time, .slice ar x.row.length cr, .int .i64 x.cn] 42)) = Y at HY HYB HYS HYF y HROW ⊢
                generalize wr.heap.size = yb at y ⊢
                clear e0 e1 e2 e3 e4 k0
                have y0 : Y.drew.cell? ⟨yb, 0, none⟩ = some (.int .i64 x.kind) := mem_cells y 0
                have y1 : Y.drew.cell? ⟨yb, 1, none⟩ = some (.int .i64 x.n) := mem_cells y 1
                have y2 : Y.drew.cell? ⟨yb, 2, none⟩ = some (.int .i64 x.time) := mem_cells y 2
                have y3 : Y.drew.cell? ⟨yb, 3, none⟩ = some (.slice ar x.row.length cr) := mem_cells y 3
                have y4 : Y.drew.cell? ⟨yb, 4, none⟩ = some (.int .i64 x.cn) := mem_cells y 4
                have c7 : Y.drew.cell? ⟨b, 7, none⟩ = some (.slice ab bu.length cb) := HY.out.cell 7
                have c7' : ∀ o, (Y.alloc o).cell? ⟨b, 7, none⟩ = some (.slice ab bu.length cb) := fun o => (HY.out.pure ((Below.refl _ _).alloc (Nat.le_refl _) o)).cell 7
                have HR6 := Lib.hid (show (tIn (safe (Y.drew.alloc (.cells #[.int .i64 x.kind, .int .i64 x.n, .int .i64 x.time, .slice ar x.row.length cr, .int .i64 x.cn, .pointer (some ⟨p.ad, 0, none⟩)] 94)) b ⟨qv6, .slice ab bu.length cb, wm6, em6, nw6, ne6, fr6⟩ (withBuf (movedR rc) bu)) tItem).rv noMem [.int .i64 x.kind, .int .i64 x.n, .int .i64 x.time, .slice ar x.row.length cr, .int .i64 x.cn, .pointer (some ⟨p.ad, 0, none⟩)] ⟨x, some p.ad⟩ from
                  ⟨_, rfl, HOK.out, tRow.mono _ _ _ _ (HY.out.safePure ((Below.refl _ _).alloc (Nat.le_refl _) _)) HROW.out⟩)
                have H6 := Lib.hid (HY.out.pure ((Below.refl _ _).alloc (Nat.le_refl _) (.cells #[.int .i64 x.kind, .int .i64 x.n, .int .i64 x.time, .slice ar x.row.length cr, .int .i64 x.cn, .pointer (some ⟨p.ad, 0, none⟩)] 94))).bf
                go_region_law (refine step_append_o1 (w := Y.drew.alloc (.cells #[.int .i64 x.kind, .int .i64 x.n, .int .i64 x.time, .slice ar x.row.length cr, .int .i64 x.cn, .pointer (some ⟨p.ad, 0, none⟩)] 94)) rfl (.tmp 104) (.tmp 108) 83 rfl (tIn (safe (Y.drew.alloc (.cells #[.int .i64 x.kind, .int .i64 x.n, .int .i64 x.time, .slice ar x.row.length cr, .int .i64 x.cn, .pointer (some ⟨p.ad, 0, none⟩)] 94)) b ⟨qv6, .slice ab bu.length cb, wm6, em6, nw6, ne6, fr6⟩ (withBuf (movedR rc) bu)) tItem) Try.underlying83 (infoItem _) rfl _ bu rfl H6.out _ _ ⟨x, some p.ad⟩ rfl _ item_cells HR6.out item_one HL1.out HL2.out ?_; intro v' w5 own5 happ; obtain ⟨a5, c5, rfl, _⟩ := own5.form; have HQ := Lib.hid (HY.out.buffered own5 happ); have c75 := (HY.out.bufApp happ).1; have f75 := (HY.out.bufApp happ).2; clear own5 happ)
                all_goals
                  go_wp2
                  go_roundw
                  case rel => exact ⟨j + 1, by omega, by go_num, bu ++ [⟨x, some p.ad⟩], Lib.hid HT.out, by have h := HQ.out; simp only [List.length_append, List.length_cons, List.length_nil, Nat.zero_add] at h; exact WS.trans HYB.out HYS.out hn6 he6 HYF.out h⟩
                  case measure => simp [intOf]; omega
              · obtain rfl : j = p.els.length := by omega
                have hbu : bu = rc.buffer ++ p.els.map (fun x => (⟨x, some p.ad⟩ : Item)) := by rw [HBU.out, List.take_length]
                have c5n : wr.cell? ⟨b, 5, none⟩ = some (.int .i64 (rc.turn + 1)) := hI6.cell 5
                have HC5 := Lib.hid c5n
                have HFin := Lib.hid (show WS 1 base b W L r wr (moveR rc p) from by
                  have e : withBuf (movedR rc) bu = moveR rc p := by rw [hbu]; rfl
                  rw [← e]
                  exact WS.trans HW5.out.1 HW5.out.2.1 (by omega) (by omega) HW5.out.2.2 ⟨L6, hI6, hB6, hs6, hn6, he6, hf6⟩)
                clear hI6 hB6 hs6 c5n hbu
                go_wp2
                go_roundw
                case rel => exact ⟨moveR rc p, Lib.hid (HR.out.move HP.out HE.out), HFin.out⟩
                case measure => have h8 := (HR.out.ek _ _ HE.out).1; have h9 := HR.out.n1; rw [HC5.out, c5w.out]; simp [intOf]; omega
    · have HI := Lib.hid hI
      clear hI hway hear hel
      go_enter Try.func18, Try.ntmps18
      go_wp2
      go_ret
      exact .inl ⟨.inr (by omega), rfl, let ⟨L', a1, a2, a3, a4, a5, a6⟩ := HI.out.pureS (Below.refl _ _); ⟨L', a1, a2, a3, by omega, by omega, a6⟩⟩
  · have HI := Lib.hid hI
    clear hI hway hear hel
    go_enter Try.func18, Try.ntmps18
    go_wp2
    go_ret
    exact .inl ⟨.inl (by omega), rfl, let ⟨L', a1, a2, a3, a4, a5, a6⟩ := HI.out.pureS (Below.refl _ _); ⟨L', a1, a2, a3, by omega, by omega, a6⟩⟩
end Go.Proofs.Ytfkphdmnelchmaa
/- Wires: the state that a law carries; chapter 20's example. -/
namespace Go.Proofs.Ytfkphdmnelchmaa
open Go.RowKit Go.Maps

/-- A wire in memory, beside things that are read in M and blocks of others. -/
def St (base b : Nat) (W : World) (r : Raw) (N : Nat) (M : Mem) (F : Nat → Prop) : Prop := ∃ L, WireInv W base b L r ∧ L.nw ≤ N ∧ L.ne ≤ N ∧ M.le (safe W b L r) ∧ L.fr = F
/-- A step of the wire. -/
def Stp (base b N : Nat) (M : Mem) (F : Nat → Prop) (W W' : World) (r' : Raw) : Prop := St base b W' r' (N + 1) M F ∧ Below base W W' ∧ ∀ k, F k → W'.heap[k]? = W.heap[k]?
section
variable {W W' : World} {base b N : Nat} {r r' : Raw} {M : Mem} {F : Nat → Prop}
theorem St.of {L : WL} (hN1 : L.nw ≤ N) (hN2 : L.ne ≤ N) (hM : M.le (safe W b L r)) (hF : L.fr = F) (h : WS 1 base b W L r W' r') : Stp base b N M F W W' r' :=
  let ⟨L', i, B, s, n1, n2, f⟩ := h
  ⟨⟨L', i, by omega, by omega, Mem.le_trans hM s, f.1.trans hF⟩, B, fun k hk => f.2 k (by rw [hF]; exact hk)⟩
theorem St.ofO {L : WL} (hN1 : L.nw ≤ N) (hN2 : L.ne ≤ N) (hM : M.le (safe W b L r)) (hF : L.fr = F) (h : WStepO base b W L r W' r') : ∃ M', M.le M' ∧ ((mem W').on (W.heap.size ≤ ·)).le M' ∧ M'.le (mem W') ∧ Stp base b N M' F W W' r' := by
  obtain ⟨L', i, B, s, n1, n2, f, o⟩ := h
  refine ⟨safe W' b L' r', Mem.le_trans hM s, fun j o2 v e => ?_, Mem.on_le _ _, ⟨L', i, by omega, by omega, Mem.le_refl _, f.1.trans hF⟩, B, fun k hk => f.2 k (by rw [hF]; exact hk)⟩
  obtain ⟨hs, e⟩ := Mem.of_on e
  exact Mem.on_some e ⟨fun hm => by have := o j (.inl hm); omega, fun hm => by have := o j (.inr hm); omega⟩
theorem St.grow (h : St base b W r N M F) (hk : Below W.heap.size W W') : ∃ M', St base b W' r N M' F ∧ M.le M' ∧ ((mem W').on (W.heap.size ≤ ·)).le M' ∧ M'.le (mem W') := by
  obtain ⟨L, i, h1, h2, hM, hF⟩ := h
  refine ⟨safe W' b L r, ⟨L, i.pure hk, h1, h2, Mem.le_refl _, hF⟩, Mem.le_trans hM (i.safePure hk), fun j o v e => ?_, Mem.on_le _ _⟩
  obtain ⟨hs, e⟩ := Mem.of_on e
  exact Mem.on_some e ⟨fun hm => by have := i.mut_lt j hm; omega, fun hm => by have := i.fl j hm; omega⟩
theorem St.mem (h : St base b W r N M F) : M.le (mem W) := let ⟨_, _, _, _, hM, _⟩ := h; Mem.le_trans hM (Mem.on_le _ _)
theorem St.pure (h : St base b W r N M F) (hk : Below W.heap.size W W') : St base b W' r N M F := by
  obtain ⟨L, i, h1, h2, hM, hF⟩ := h
  exact ⟨L, i.pure hk, h1, h2, Mem.le_trans hM (i.safePure hk), hF⟩
theorem St.bw (h : St base b W r N M F) : base ≤ W.heap.size := let ⟨_, i, _⟩ := h; i.bw
theorem St.lt (h : St base b W r N M F) : b < W.heap.size := let ⟨_, i, _⟩ := h; i.mut_lt b (.inl rfl)
theorem St.fl (h : St base b W r N M F) : ∀ k, F k → k < W.heap.size := fun k hk => by
  obtain ⟨L, i, h1, h2, hM, hF⟩ := h
  exact i.fl k (by rw [hF]; exact hk)
theorem St.mono {N' : Nat} (h : St base b W r N M F) (hN : N ≤ N') : St base b W r N' M F := by
  obtain ⟨L, i, h1, h2, hM⟩ := h
  exact ⟨L, i, by omega, by omega, hM⟩
/-- Others have done something in their blocks and in new ones. -/
theorem St.foreign {F' : Nat → Prop} (h : St base b W r N M F) (hk : Keeps F W W') (hF : ∀ k, F' k → (F k ∨ W.heap.size ≤ k) ∧ k < W'.heap.size) : St base b W' r N M F' ∧ ((∀ k, F k → base ≤ k) → Below base W W') := by
  obtain ⟨L, i, h1, h2, hM, rfl⟩ := h
  have hlt := i.mut_lt
  have hd : ∀ k, mutB b L r k → W'.heap[k]? = W.heap[k]? := fun k hm => hk.block k (hlt k hm) (fun hf => (i.fd k hf).1 hm)
  have hd2 : ∀ k, L.qv.ownBlock = some k → W'.heap[k]? = W.heap[k]? := fun k hm => hk.block k (i.q.lt k hm) (fun hf => (i.fd k hf).2 hm)
  have hs : (safe W b L r).le (safe W' b { L with fr := F' } r) := fun j o v e => by
    obtain ⟨hs, e⟩ := Mem.of_on e
    have hl := mem_lt e
    exact Mem.on_some ((mem_of_block (hk.block j hl hs.2) o).trans e) ⟨hs.1, fun hx => (hF j hx).1.elim hs.2 (by omega)⟩
  refine ⟨⟨{ L with fr := F' }, ⟨(hd b (.inl rfl)).trans i.hb, (i.q.keeps (fun k e => hd2 k e)).re hs, (i.bf.keeps (fun k e => hd k (.inr (.inr (.inr (.inr (.inl e))))))).re hs, i.wm.at (hd _ (.inr (.inl rfl))), i.em.at (hd _ (.inr (.inr (.inl rfl)))), i.we, fun p hp => ?_, i.nd, i.ge, Nat.le_trans i.bw hk.size, fun k hx => (hF k hx).2, fun k hx => ?_⟩, h1, h2, Mem.le_trans hM hs, rfl⟩, fun hb => ⟨hk.os, hk.tape, hk.output, hk.size, fun k hl => hk.block k (by have := i.bw; omega) (fun hf => by have := hb k hf; omega)⟩⟩
  · obtain ⟨lv, g1, g2⟩ := i.pk p hp
    exact ⟨lv, (hd p.ad (.inr (.inr (.inr (.inl ⟨p, hp, rfl⟩))))).trans g1, tEls.mono _ _ _ _ hs g2⟩
  · rcases (hF k hx).1 with g | g
    · exact i.fd k g
    · exact ⟨fun hm => by have := hlt k hm; omega, fun hq => by have := i.q.lt k hq; omega⟩
end

/-- What the numbers of a wire are. -/
structure Fine (r : Raw) : Prop where
  s1 : 1 ≤ r.size
  s2 : r.size ≤ 100
  c0 : 0 ≤ r.credits
  c1 : r.credits ≤ 1000
  n0 : 0 ≤ r.next
  n1 : r.next ≤ 1000000
  t0 : 0 ≤ r.turn
  t1 : r.turn ≤ r.next
  k0 : 0 ≤ r.count
  k1 : r.count ≤ 4000
  q : r.queue.length ≤ 4000
  bf : r.buffer.length ≤ 4000
  bk : 1 ≤ r.count ∨ r.buffer = []
  br : ∀ i ∈ r.buffer, i.el.row.length ≤ 1000000
  bo : ∀ i ∈ r.buffer, ∀ a, i.of = some a → ∃ p ∈ r.pt, p.ad = a ∧ 1 ≤ p.left ∧ p.left ≤ 4000
  w : ∀ k a, r.way k = some a → k < r.next ∧ ∃ p ∈ r.pt, p.ad = a
  e : ∀ k a, r.early k = some a → k < r.next ∧ ∃ p ∈ r.pt, p.ad = a
  el : ∀ p ∈ r.pt, p.els.length ≤ 4000
  rm : 1 ≤ r.room ∧ r.room ≤ 1000

section
variable {W : World} {base b N : Nat} {r : Raw} {M : Mem} {F : Nat → Prop}
theorem st_put (h : St base b W r N M F) (hf : Fine r) (x : El) (s : Value) (hx : x.ok) (hv : tRow.rv (mem W) [s] x.row) :
    Calls Try.prog 16 #[.pointer (some ⟨b, 0, none⟩), elV x s] W fun e W' => e = .returned (.int .i64 (putE r x)) ∧ Stp base b N M F W W' (putR r x) := by
  obtain ⟨L, i, h1, h2, hM, hF⟩ := h
  exact (put_any base b L r x s W i hx hv hf.k0 hf.k1 hf.q).mono fun e W' ⟨a, c⟩ => ⟨a, St.of h1 h2 hM hF c⟩
def SendSt (base b N : Nat) (M : Mem) (F : Nat → Prop) (W : World) (r : Raw) (e : Ending) (W' : World) : Prop :=
  (r.queue = [] ∧ e = .returned (.tuple #[.int .i64 0, .int .i64 8]) ∧ Stp base b N M F W W' r) ∨ (r.queue ≠ [] ∧ r.credits = 0 ∧ e = .returned (.tuple #[.int .i64 0, .int .i64 10]) ∧ Stp base b N M F W W' r) ∨
  (r.queue ≠ [] ∧ r.credits ≠ 0 ∧ e = .returned (.tuple #[.int .i64 r.next, .int .i64 0]) ∧ ∃ a, (∀ p ∈ r.pt, p.ad ≠ a) ∧ Stp base b N M F W W' (sendR r a))
theorem st_send (h : St base b W r N M F) (hf : Fine r) (hN : N ≤ 1000000000) : Calls Try.prog 17 #[.pointer (some ⟨b, 0, none⟩)] W (SendSt base b N M F W r) := by
  obtain ⟨L, i, h1, h2, hM, hF⟩ := h
  refine (send_any base b L r W i hf.s1 hf.s2 hf.q hf.c0 hf.c1 hf.n0 (by have := hf.n1; omega) (by omega)).mono fun e W' hs => ?_
  rcases hs with ⟨a1, a2, a3⟩ | ⟨a1, a2, a3, a4⟩ | ⟨a1, a2, a3, a, a4, a5⟩
  · exact .inl ⟨a1, a2, St.of h1 h2 hM hF a3⟩
  · exact .inr (.inl ⟨a1, a2, a3, St.of h1 h2 hM hF a4⟩)
  · exact .inr (.inr ⟨a1, a2, a3, a, fun p hp e => by have := i.mut_lt p.ad (.inr (.inr (.inr (.inl ⟨p, hp, rfl⟩)))); omega, St.of h1 h2 hM hF a5⟩)
def RecvSt (base b N : Nat) (M : Mem) (F : Nat → Prop) (W : World) (r : Raw) (e : Ending) (W' : World) : Prop :=
  ∃ M', M.le M' ∧ Stp base b N M' F W W' (recvR r) ∧ ((r.buffer = [] ∧ e = .returned (.tuple #[elV noEl (.slice none 0 0), .int .i64 8])) ∨ ∃ i is a c, r.buffer = i :: is ∧ e = .returned (.tuple #[elV i.el (.slice a i.el.row.length c), .int .i64 0]) ∧ tRow.rv M' [.slice a i.el.row.length c] i.el.row)
theorem st_recv (h : St base b W r N M F) (hf : Fine r) : Calls Try.prog 20 #[.pointer (some ⟨b, 0, none⟩)] W (RecvSt base b N M F W r) := by
  obtain ⟨L, i, h1, h2, hM, hF⟩ := h
  refine (receive_any base b L r W i hf.br hf.bo hf.bk hf.k1 ⟨hf.c0, hf.c1⟩).mono fun e W' hs => ?_
  obtain ⟨M', m1, m2, m3, s⟩ := St.ofO h1 h2 hM hF hs.1
  refine ⟨M', m1, s, ?_⟩
  rcases hs.2 with g | ⟨i, is, a, c, g1, g2, g3⟩
  · exact .inl g
  · exact .inr ⟨i, is, a, c, g1, g2, tRow.mono _ _ _ _ m2 g3⟩
def DelivSt (base b N : Nat) (M : Mem) (F : Nat → Prop) (n : Int) (W : World) (r : Raw) (e : Ending) (W' : World) : Prop :=
  ((n < 0 ∨ r.next ≤ n) ∧ e = .returned (.int .i64 8) ∧ Stp base b N M F W W' r) ∨ ((0 ≤ n ∧ n < r.next) ∧ r.way n = none ∧ e = .returned (.int .i64 0) ∧ Stp base b N M F W W' r) ∨
  ((0 ≤ n ∧ n < r.next) ∧ ∃ a, r.way n = some a ∧ e = .returned (.int .i64 0) ∧ ∃ r', Moves (takenR r n a) r' ∧ Stp base b N M F W W' r')
theorem st_deliv (h : St base b W r N M F) (hf : Fine r) (hN : N ≤ 1000000000) {n : Int} (hn : inI64 n) : Calls Try.prog 18 #[.pointer (some ⟨b, 0, none⟩), .int .i64 n] W (DelivSt base b N M F n W r) := by
  obtain ⟨L, i, h1, h2, hM, hF⟩ := h
  refine (deliver_any base b n L r W i hn hf.n0 hf.n1 hf.t0 hf.t1 (by omega) hf.w hf.e hf.bf hf.el).mono fun e W' hs => ?_
  rcases hs with ⟨a1, a2, a3⟩ | ⟨a1, a2, a3, a4⟩ | ⟨a1, a, a2, a3, r', a4, a5⟩
  · exact .inl ⟨a1, a2, St.of h1 h2 hM hF a3⟩
  · exact .inr (.inl ⟨a1, a2, a3, St.of h1 h2 hM hF a4⟩)
  · exact .inr (.inr ⟨a1, a, a2, a3, r', a4, St.of h1 h2 hM hF a5⟩)
theorem st_lose (h : St base b W r N M F) (n : Int) (hn : inI64 n) : Calls Try.prog 19 #[.pointer (some ⟨b, 0, none⟩), .int .i64 n] W fun e W' => e = .returned (.int .i64 (if (r.way n).isSome then 0 else 8)) ∧ Stp base b N M F W W' r := by
  obtain ⟨L, i, h1, h2, hM, hF⟩ := h
  exact (lose_any base b L r n W i hn).mono fun e W' ⟨a, c⟩ => ⟨a, by subst c; exact St.of h1 h2 hM hF i.same⟩
theorem st_resize (h : St base b W r N M F) (n : Int) : Calls Try.prog 21 #[.pointer (some ⟨b, 0, none⟩), .int .i64 n] W fun e W' => e = .returned (.int .i64 (if 1 ≤ n ∧ n ≤ 100 then 0 else 7)) ∧ Stp base b N M F W W' (if 1 ≤ n ∧ n ≤ 100 then { r with size := n } else r) := by
  obtain ⟨L, i, h1, h2, hM, hF⟩ := h
  exact (resize_any base b L r n W i).mono fun e W' ⟨a, c⟩ => ⟨a, St.of h1 h2 hM hF c⟩
end
theorem st_new (size credits room : Int) (F : Nat → Prop) (W : World) (hF : ∀ k, F k → k < W.heap.size) : Calls Try.prog 15 #[.int .i64 size, .int .i64 credits, .int .i64 room] W fun e W' => Below W.heap.size W W' ∧
    ((okNew size credits room ∧ ∃ b, e = .returned (.tuple #[.pointer (some ⟨b, 0, none⟩), .int .i64 0]) ∧ St W.heap.size b W' (newRaw size credits room) 0 ((mem W).on (fun k => ¬ F k)) F) ∨ (¬ okNew size credits room ∧ e = .returned (.tuple #[.pointer none, .int .i64 7]))) :=
  (new_any size credits room F W hF).mono fun e W' ⟨hB, h⟩ => ⟨hB, by
    rcases h with ⟨h1, b, L, h2, h3, h4, h5, _, h6⟩ | h
    · refine .inl ⟨h1, b, h2, L, h3, by omega, by omega, fun j o v e => ?_, h6⟩
      obtain ⟨hs, e⟩ := Mem.of_on e
      have hl := mem_lt e
      exact Mem.on_some ((mem_of_block (hB.block j hl) o).trans e) ⟨fun hm => by have := h3.ge j hm; omega, fun hm => hs (by rw [← h6]; exact hm)⟩
    · exact .inr h⟩
end Go.Proofs.Ytfkphdmnelchmaa
/- Chapter 20's example. -/
namespace Go.Proofs.Ytfkphdmnelchmaa
open Go.RowKit Go.Maps

@[reducible] def mk (n : Int) : El := ⟨2, n, 0, [], 0⟩
theorem mk_ok {n : Int} (h : inI64 n) : (mk n).ok := ⟨by unfold inI64; simp, h, by unfold inI64; simp, by unfold inI64; simp⟩
def aw (k : Nat) : Raw := ⟨([mk 1, mk 2, mk 3]).take k, 2, 1, 10, 0, 0, fun _ => none, [], fun _ => none, k, []⟩
theorem aw_put (k : Nat) (h : k < 3) : putR (aw k) (mk (k + 1)) = aw (k + 1) ∧ putE (aw k) (mk (k + 1)) = 0 := by
  match k, h with
  | 0, _ => exact ⟨rfl, rfl⟩
  | 1, _ => exact ⟨rfl, rfl⟩
  | 2, _ => exact ⟨rfl, rfl⟩
theorem aw_fine (k : Nat) (h : k ≤ 3) : Fine (aw k) := by
  refine ⟨by simp [aw], by simp [aw], by simp [aw], by simp [aw], by simp [aw], by simp [aw], by simp [aw], by simp [aw], by simp [aw], by simp [aw]; omega, by simp [aw]; omega, by simp [aw], .inr rfl, fun i hi => (by cases hi), fun i hi => (by cases hi), fun k a e => (by cases e), fun k a e => (by cases e), fun p hp => (by cases hp), by simp [aw]⟩
noncomputable def bw (a : Nat) : Raw := sendR (aw 3) a
theorem bw_eq (a : Nat) : bw a = ⟨[mk 3], 2, 0, 10, 1, 0, fun _ => none, [], putAt (fun _ => none) 0 a, 3, [⟨a, [mk 1, mk 2], 2⟩]⟩ := rfl
theorem bw_fine (a : Nat) : Fine (bw a) := by
  rw [bw_eq]
  refine ⟨by simp, by simp, by simp, by simp, by simp, by simp, by simp, by simp, by simp, by simp, by simp, by simp, .inr rfl, fun i hi => (by cases hi), fun i hi => (by cases hi), fun k c e => ?_, fun k a e => (by cases e), fun p hp => ?_, by simp⟩
  · by_cases hk : k = 0
    · subst hk; simp only [putAt_same] at e; cases e; exact ⟨by simp, _, List.mem_singleton.2 rfl, rfl⟩
    · simp only [putAt_other _ _ hk] at e; cases e
  · simp only [List.mem_singleton] at hp; subst hp; simp
noncomputable def cw (a : Nat) : Raw := ⟨[mk 3], 2, 0, 10, 1, 1, delAt (putAt (fun _ => none) 0 a) 0, [⟨mk 1, some a⟩, ⟨mk 2, some a⟩], delAt (putAt (fun _ => none) 0 a) 0, 3, [⟨a, [mk 1, mk 2], 2⟩]⟩
theorem del_put_none (a : Nat) (k : Int) : delAt (putAt (fun _ : Int => (none : Option Nat)) 0 a) 0 k = none := by
  by_cases hk : k = 0
  · subst hk; rw [delAt_same]
  · rw [delAt_other _ hk, putAt_other _ _ hk]
theorem cw_moves {a : Nat} {r' : Raw} (h : Moves (takenR (bw a) 0 a) r') : r' = cw a := by
  rw [bw_eq] at h
  cases h with
  | done h => simp only [takenR, putAt_same] at h; cases h
  | step hp h hm =>
    rename_i p
    simp only [takenR, List.mem_singleton] at hp
    subst hp
    cases hm with
    | done h => rfl
    | step hp h hm =>
      have e : delAt (putAt (fun _ : Int => (none : Option Nat)) 0 a) 0 (0 + 1) = some _ := h
      rw [del_put_none] at e; cases e
theorem cw_fine (a : Nat) : Fine (cw a) := by
  refine ⟨by simp [cw], by simp [cw], by simp [cw], by simp [cw], by simp [cw], by simp [cw], by simp [cw], by simp [cw], by simp [cw], by simp [cw], by simp [cw], by simp [cw], .inl (by simp [cw]), fun i hi => ?_, fun i hi c hc => ?_, fun k c e => ?_, fun k c e => ?_, fun p hp => ?_, by simp [cw]⟩
  · simp only [cw, List.mem_cons, List.not_mem_nil, or_false] at hi; rcases hi with rfl | rfl <;> simp
  · simp only [cw, List.mem_cons, List.not_mem_nil, or_false] at hi
    refine ⟨⟨a, [mk 1, mk 2], 2⟩, by simp [cw], ?_, by simp, by simp⟩
    rcases hi with rfl | rfl <;> simpa using hc
  · simp only [cw, del_put_none] at e; cases e
  · simp only [cw, del_put_none] at e; cases e
  · simp only [cw, List.mem_singleton] at hp; subst hp; simp
noncomputable def dw (a : Nat) : Raw := { cw a with buffer := [⟨mk 2, some a⟩], count := 2, pt := [⟨a, [mk 1, mk 2], 1⟩] }
theorem cw_recv (a : Nat) : recvR (cw a) = dw a := by
  simp [recvR, cw, dw, leftAt, decPt]
theorem dw_fine (a : Nat) : Fine (dw a) := by
  refine ⟨by simp [dw, cw], by simp [dw, cw], by simp [dw, cw], by simp [dw, cw], by simp [dw, cw], by simp [dw, cw], by simp [dw, cw], by simp [dw, cw], by simp [dw, cw], by simp [dw, cw], by simp [dw, cw], by simp [dw, cw], .inl (by simp [dw, cw]), fun i hi => ?_, fun i hi c hc => ?_, fun k c e => ?_, fun k c e => ?_, fun p hp => ?_, by simp [dw, cw]⟩
  · simp only [dw, cw, List.mem_singleton] at hi; subst hi; simp
  · simp only [dw, cw, List.mem_singleton] at hi
    refine ⟨⟨a, [mk 1, mk 2], 1⟩, by simp [dw, cw], ?_, by simp, by simp⟩
    subst hi; simpa using hc
  · simp only [dw, cw, del_put_none] at e; cases e
  · simp only [dw, cw, del_put_none] at e; cases e
  · simp only [dw, cw, List.mem_singleton] at hp; subst hp; simp
noncomputable def ew (a : Nat) : Raw := { cw a with buffer := [], count := 1, credits := 1, pt := [⟨a, [mk 1, mk 2], 0⟩] }
theorem dw_recv (a : Nat) : recvR (dw a) = ew a := by
  simp [recvR, cw, dw, ew, leftAt, decPt]
theorem ew_fine (a : Nat) : Fine (ew a) := by
  refine ⟨by simp [ew, cw], by simp [ew, cw], by simp [ew, cw], by simp [ew, cw], by simp [ew, cw], by simp [ew, cw], by simp [ew, cw], by simp [ew, cw], by simp [ew, cw], by simp [ew, cw], by simp [ew, cw], by simp [ew, cw], .inl (by simp [ew, cw]), fun i hi => ?_, fun i hi c hc => ?_, fun k c e => ?_, fun k c e => ?_, fun p hp => ?_, by simp [ew, cw]⟩
  · simp [ew] at hi
  · simp [ew] at hi
  · simp only [ew, cw, del_put_none] at e; cases e
  · simp only [ew, cw, del_put_none] at e; cases e
  · simp only [ew, cw, List.mem_singleton] at hp; subst hp; simp

set_option maxRecDepth 100000 in
set_option maxHeartbeats 4000000 in
theorem awake20 (W : World) : Calls Try.prog 10 #[] W fun e W' => e = .returned (.bool true) ∧ Below W.heap.size W W' := by
  have i64 : ∀ n : Int, 0 ≤ n → n ≤ 10 → inI64 n := fun n h1 h2 => by unfold inI64; omega
  have HI64 := Lib.hid i64
  clear i64
  go_enter Try.func10, Try.ntmps10
  go_wp2_with fail
  refine (st_new 2 1 10 (fun _ => False) W (fun _ h => h.elim)).mono ?_
  rintro e w1 ⟨hB1, ⟨_, b, rfl, hS1⟩ | ⟨h, _⟩⟩
  rotate_left
  · exact absurd (by unfold okNew; decide) h
  have HB1 := Lib.hid hB1
  clear hB1
  go_wp2_with fail
  refine (mark_any 1 _).mono ?_
  rintro e w2 ⟨rfl, hk⟩
  have hS2 := hS1.pure hk
  have hp := st_put hS2 (aw_fine 0 (by omega)) (mk 1) (.slice none 0 0) (mk_ok (HI64.out 1 (by omega) (by omega))) (slice_nil _ _)
  rw [show putE (newRaw 2 1 10) (mk 1) = 0 from (aw_put 0 (by omega)).2, show putR (newRaw 2 1 10) (mk 1) = aw 1 from (aw_put 0 (by omega)).1] at hp
  have HP := Lib.hid hp
  have HB2 := Lib.hid (HB1.out.trans (hk.mono HB1.out.size))
  clear hp hS1 hS2 hk
  go_wp2_with fail
  refine HP.out.mono ?_
  rintro e w3 ⟨rfl, hS3, hB3, _⟩
  have HB := Lib.hid (HB2.out.trans hB3)
  clear HB2 hB3 HB1 HP
  go_wp2_with fail
  refine (mark_any 2 _).mono ?_
  rintro e w4 ⟨rfl, hk⟩
  have hp := st_put (hS3.pure hk) (aw_fine 1 (by omega)) (mk 2) (.slice none 0 0) (mk_ok (HI64.out 2 (by omega) (by omega))) (slice_nil _ _)
  rw [show putE (aw 1) (mk 2) = 0 from (aw_put 1 (by omega)).2, show putR (aw 1) (mk 2) = aw 2 from (aw_put 1 (by omega)).1] at hp
  have HP1 := Lib.hid hp
  have HC1 := Lib.hid (HB.out.trans (hk.mono HB.out.size))
  clear hp hS3 hk HB
  go_wp2_with fail
  refine HP1.out.mono ?_
  rintro e w4x ⟨rfl, hS3, hB3, _⟩
  have HB := Lib.hid (HC1.out.trans hB3)
  clear hB3 HC1 HP1
  go_wp2_with fail
  refine (mark_any 3 _).mono ?_
  rintro e w6 ⟨rfl, hk⟩
  have hp := st_put (hS3.pure hk) (aw_fine 2 (by omega)) (mk 3) (.slice none 0 0) (mk_ok (HI64.out 3 (by omega) (by omega))) (slice_nil _ _)
  rw [show putE (aw 2) (mk 3) = 0 from (aw_put 2 (by omega)).2, show putR (aw 2) (mk 3) = aw 3 from (aw_put 2 (by omega)).1] at hp
  have HP2 := Lib.hid hp
  have HC2 := Lib.hid (HB.out.trans (hk.mono HB.out.size))
  clear hp hS3 hk HB
  go_wp2_with fail
  refine HP2.out.mono ?_
  rintro e w6x ⟨rfl, hS3, hB3, _⟩
  have HB := Lib.hid (HC2.out.trans hB3)
  clear hB3 HC2 HP2
  have HS := Lib.hid (st_send hS3 (aw_fine 3 (by omega)) (by omega))
  clear hS3
  go_wp2_with fail
  refine HS.out.mono ?_
  rintro e w7 (⟨h, _⟩ | ⟨_, h, _⟩ | ⟨_, _, rfl, a, _, hS4, hB3, _⟩)
  · exact absurd h (by simp [aw])
  · exact absurd h (by simp [aw])
  have HC := Lib.hid (HB.out.trans hB3)
  have HS2 := Lib.hid (st_send (show St W.heap.size b w7 (bw a) _ _ _ from hS4) (bw_fine a) (by omega))
  clear HS HB hB3 hS4
  simp only [aw]
  go_wp2_with fail
  refine HS2.out.mono ?_
  rintro e w8 (⟨h, _⟩ | ⟨_, _, rfl, hS5, hB3, _⟩ | ⟨_, h, _⟩)
  · exact absurd h (by simp [bw_eq])
  rotate_left
  · exact absurd rfl h
  have HD := Lib.hid (HC.out.trans hB3)
  have HV := Lib.hid (st_deliv hS5 (bw_fine a) (by omega) (HI64.out 0 (by omega) (by omega)))
  clear HS2 HC hB3 hS5
  go_wp2_with fail
  refine HV.out.mono ?_
  rintro e w9 (⟨h, _⟩ | ⟨_, h, _⟩ | ⟨_, a', h1, rfl, r', hm, hS6, hB3, _⟩)
  · rw [bw_eq] at h; simp at h
  · rw [bw_eq] at h; simp only [putAt_same] at h; cases h
  have ha : a' = a := by rw [bw_eq] at h1; simp only [putAt_same] at h1; cases h1; rfl
  subst ha
  obtain rfl := cw_moves hm
  have HE := Lib.hid (HD.out.trans hB3)
  have HR := Lib.hid (st_recv hS6 (cw_fine a'))
  clear HV HD hB3 hS6 h1 hm
  go_wp2_with fail
  refine HR.out.mono ?_
  rintro e w10 ⟨N1, hN1, ⟨hS7, hB3, _⟩, ⟨h, _⟩ | ⟨i, is, a1, c1, h, rfl, hu⟩⟩
  · simp [cw] at h
  obtain ⟨rfl, rfl⟩ : i = ⟨mk 1, some a'⟩ ∧ is = [⟨mk 2, some a'⟩] := by simp [cw] at h; exact ⟨h.1.symm, h.2.symm⟩
  rw [cw_recv] at hS7
  have HF := Lib.hid (HE.out.trans hB3)
  have HS7 := Lib.hid hS7
  clear HR HE hB3 hS7 hu h
  simp only
  go_wp2_with fail
  obtain ⟨M1, hS8, _, hM1, _⟩ := HS7.out.grow ((Below.refl _ _).alloc (Nat.le_refl _) (.cells #[.int .i64 2, .int .i64 1, .int .i64 0, .slice a1 0 c1, .int .i64 0] 42))
  have b1 : M1 w10.heap.size 1 = some (.int .i64 1) := hM1 _ _ _ (Mem.on_some (cell_new 1 rfl) (Nat.le_refl _))
  have HR2 := Lib.hid (st_recv hS8 (dw_fine a'))
  have HF2 := Lib.hid (HF.out.alloc HF.out.size (.cells #[.int .i64 2, .int .i64 1, .int .i64 0, .slice a1 0 c1, .int .i64 0] 42))
  have B1 := Lib.hid b1
  clear hS8 hM1 b1 HS7 HF
  refine HR2.out.mono ?_
  rintro e w11 ⟨N2, hN2, ⟨hS9, hB3, _⟩, ⟨h, _⟩ | ⟨i, is, a2, c2, h, rfl, hu⟩⟩
  · simp [dw] at h
  obtain ⟨rfl, rfl⟩ : i = ⟨mk 2, some a'⟩ ∧ is = [] := by simp [dw] at h; exact ⟨h.1.symm, h.2⟩
  rw [dw_recv] at hS9
  have HF3 := Lib.hid (HF2.out.trans hB3)
  have HS9 := Lib.hid hS9
  clear HR2 HF2 hB3 hS9 hu h
  simp only
  go_wp2_with fail
  obtain ⟨M2, hS10, hM12, hM2, _⟩ := HS9.out.grow ((Below.refl _ _).alloc (Nat.le_refl _) (.cells #[.int .i64 2, .int .i64 2, .int .i64 0, .slice a2 0 c2, .int .i64 0] 42))
  have b2 : M2 w11.heap.size 1 = some (.int .i64 2) := hM2 _ _ _ (Mem.on_some (cell_new 1 rfl) (Nat.le_refl _))
  have b1 := hM12 _ _ _ (hN2 _ _ _ B1.out)
  have HS3 := Lib.hid (st_send hS10 (ew_fine a') (by omega))
  have HF4 := Lib.hid (HF3.out.alloc HF3.out.size (.cells #[.int .i64 2, .int .i64 2, .int .i64 0, .slice a2 0 c2, .int .i64 0] 42))
  have B2 := Lib.hid (And.intro b1 b2)
  clear hS10 hM2 hM12 b2 b1 HS9 HF3 B1
  refine HS3.out.mono ?_
  rintro e w12 (⟨h, _⟩ | ⟨_, h, _⟩ | ⟨_, _, rfl, a3, _, hS11, hB3, _⟩)
  · exact absurd h (by simp [ew, cw])
  · exact absurd h (by simp [ew])
  have d1 : w12.cell? ⟨w10.heap.size, 1, none⟩ = some (.int .i64 1) := hS11.mem _ _ _ B2.out.1
  have d2 : w12.cell? ⟨w11.heap.size, 1, none⟩ = some (.int .i64 2) := hS11.mem _ _ _ B2.out.2
  have HZ := Lib.hid (HF4.out.trans hB3)
  clear HS3 HF4 hB3 hS11 B2
  have hnx : (ew a').next = 1 := rfl
  rw [hnx]
  go_wp2
  go_ret
  exact ⟨rfl, HZ.out⟩
end Go.Proofs.Ytfkphdmnelchmaa
