/- Wires in memory: the invariant; New and Put. -/
import Derived.Test.YtfkphdmnelchmaaEl2
import Derived.Test.YtfkphdmnelchmaaMap
namespace Go.Proofs.Ytfkphdmnelchmaa
open Go.RowKit Go.Maps

structure Item where
  el : El
  of : Option Nat
@[reducible] def ptrTo (a : Nat) : Value := .pointer (some ⟨a, 0, none⟩)
def ofV : Option Nat → Value
  | none => .pointer none
  | some a => ptrTo a
def tItem : Ty Item := ⟨6, fun m cs x => ∃ s, cs = [.int .i64 x.el.kind, .int .i64 x.el.n, .int .i64 x.el.time, s, .int .i64 x.el.cn, ofV x.of] ∧ (inI64 x.el.kind ∧ inI64 x.el.n ∧ inI64 x.el.time ∧ inI64 x.el.cn) ∧ tRow.rv m [s] x.el.row,
  fun _ _ _ h => by obtain ⟨s, rfl, _⟩ := h; rfl, fun m m' cs x hm h => by obtain ⟨s, e, i, r⟩ := h; exact ⟨s, e, i, tRow.mono _ _ _ _ hm r⟩⟩
theorem tItem_one {M : Mem} : ∀ m cs x, (tIn M tItem).rv m cs x → ∀ u ∈ cs, u.oneCell' = true := fun m cs x h u hu => by
  obtain ⟨s, rfl, _, hr⟩ := h
  obtain ⟨a, cap, rfl, _⟩ := slice_form hr
  obtain ⟨_, of⟩ := x
  simp at hu; rcases hu with rfl | rfl | rfl | rfl | rfl | rfl <;> first | rfl | (cases of <;> rfl)

def intKey (n : Int) : Lit := .int .i64 n
theorem intKey_inj (x y : Int) (h : intKey x = intKey y) : x = y := by simpa [intKey] using h
theorem keyOf_i64 {n : Int} (h : inI64 n) : keyOf Try.prog 3 (.int .i64 n) = some (intKey n) := keyOf_int_mk Try.underlying3 (by have := h.1; have := h.2; unfold inI64 at h; simp [Lit.wf, IntKind.min, IntKind.max, IntKind.signed, IntKind.bits]; omega)
def vPtr : VR Nat := ⟨fun _ v x => v = ptrTo x, fun _ _ _ _ _ h => h⟩
@[reducible] def PMap (W : World) (b n : Nat) (f : Int → Option Nat) : Prop := MapOf Try.prog 3 intKey vPtr W b n f
theorem PMap.at {W W' : World} {b n : Nat} {f : Int → Option Nat} (h : PMap W b n f) (hb : W'.heap[b]? = W.heap[b]?) : PMap W' b n f := by
  obtain ⟨D, ⟨es, clock, hh, r⟩, g⟩ := h
  exact ⟨D, ⟨es, clock, by rw [hb]; exact hh, r⟩, g⟩
theorem PMap.obj {W : World} {b n : Nat} {f : Int → Option Nat} (h : PMap W b n f) : ∃ es c, W.heap[b]? = some (.map es c) := by
  obtain ⟨D, ⟨es, clock, hh, r⟩, g⟩ := h
  exact ⟨es, clock, hh⟩

/-- A packet in memory. -/
structure PT where
  ad : Nat
  els : List El
  left : Int
/-- What a wire holds. -/
structure Raw where
  queue : List El
  size : Int
  credits : Int
  room : Int
  next : Int
  turn : Int
  early : Int → Option Nat
  buffer : List Item
  way : Int → Option Nat
  count : Int
  pt : List PT
/-- Where it lies. -/
structure WL where
  qv : Value
  bv : Value
  wm : Nat
  em : Nat
  nw : Nat
  ne : Nat
  fr : Nat → Prop
def full (v : Value) : Prop := ∃ a n, v = .slice a n n
def mutB (b : Nat) (L : WL) (r : Raw) (k : Nat) : Prop := k = b ∨ k = L.wm ∨ k = L.em ∨ (∃ p ∈ r.pt, k = p.ad) ∨ L.bv.ownBlock = some k ∨ (L.qv.ownBlock = some k ∧ ¬ full L.qv)
noncomputable def safe (W : World) (b : Nat) (L : WL) (r : Raw) : Mem := (mem W).on (fun k => ¬ mutB b L r k ∧ ¬ L.fr k)
def wCells (L : WL) (r : Raw) : Array Value := #[L.qv, .int .i64 r.size, .int .i64 r.credits, .int .i64 r.room, .int .i64 r.next, .int .i64 r.turn, .map (some L.em), L.bv, .map (some L.wm), .int .i64 r.count]

structure WireInv (W : World) (base b : Nat) (L : WL) (r : Raw) : Prop where
  hb : W.heap[b]? = some (.cells (wCells L r) 87 (0, 0))
  q : OwnsO (tIn (safe W b L r) tEl) W 42 L.qv r.queue
  bf : OwnsO (tIn (safe W b L r) tItem) W 94 L.bv r.buffer
  wm : PMap W L.wm L.nw r.way
  em : PMap W L.em L.ne r.early
  we : L.wm ≠ L.em
  pk : ∀ p ∈ r.pt, ∃ lv, W.heap[p.ad]? = some (.cells #[lv, .int .i64 p.left] 91 (0, 0)) ∧ tEls.rv (safe W b L r) [lv] p.els
  nd : (r.pt.map (·.ad)).Nodup
  ge : ∀ k, mutB b L r k → base ≤ k
  bw : base ≤ W.heap.size
  fl : ∀ k, L.fr k → k < W.heap.size
  fd : ∀ k, L.fr k → ¬ mutB b L r k ∧ L.qv.ownBlock ≠ some k
/-- Blocks of others are left alone. -/
def FrK (L L' : WL) (W W' : World) : Prop := L'.fr = L.fr ∧ ∀ k, L.fr k → W'.heap[k]? = W.heap[k]?
theorem FrK.trans {L L1 L2 : WL} {W W1 W2 : World} (h : FrK L L1 W W1) (g : FrK L1 L2 W1 W2) : FrK L L2 W W2 :=
  ⟨g.1.trans h.1, fun k hk => (g.2 k (by rw [h.1]; exact hk)).trans (h.2 k hk)⟩

def WStep (base b : Nat) (W : World) (L : WL) (r : Raw) (W' : World) (r' : Raw) : Prop :=
  ∃ L', WireInv W' base b L' r' ∧ Below base W W' ∧ (safe W b L r).le (safe W' b L' r') ∧ L'.nw ≤ L.nw + 1 ∧ L'.ne ≤ L.ne + 1 ∧ FrK L L' W W'

section
variable {W W' : World} {base b : Nat} {L L' : WL} {r r' : Raw}
theorem WireInv.mut_lt (h : WireInv W base b L r) : ∀ k, mutB b L r k → k < W.heap.size := fun k hk => by
  rcases hk with rfl | rfl | rfl | ⟨p, hp, rfl⟩ | hk | ⟨hk, _⟩
  · exact (Array.getElem?_eq_some_iff.1 h.hb).1
  · exact h.wm.lt
  · exact h.em.lt
  · obtain ⟨lv, hh, _⟩ := h.pk p hp; exact (Array.getElem?_eq_some_iff.1 hh).1
  · exact h.bf.lt k hk
  · exact h.q.lt k hk
theorem safe_le (hk : Keeps (mutB b L r) W W') (hm : ∀ k, mutB b L' r' k → mutB b L r k ∨ W.heap.size ≤ k) (hf : L'.fr = L.fr) : (safe W b L r).le (safe W' b L' r') := fun i o v e => by
  obtain ⟨hs, e⟩ := Mem.of_on e
  have hl := mem_lt e
  exact Mem.on_some ((mem_of_block (hk.block i hl hs.1) o).trans e) ⟨fun hx => by rcases hm i hx with h | h
                                                                                  · exact hs.1 h
                                                                                  · omega, fun hx => hs.2 (hf ▸ hx)⟩
theorem WireInv.frK (h : WireInv W base b L r) (hk : Keeps (mutB b L r) W W') (hf : L'.fr = L.fr) : FrK L L' W W' := ⟨hf, fun k hx => hk.block k (h.fl k hx) (h.fd k hx).1⟩
theorem WireInv.frL (h : WireInv W base b L r) (hk : Keeps (mutB b L r) W W') (hf : L'.fr = L.fr) : ∀ k, L'.fr k → k < W'.heap.size := fun k hx => Nat.lt_of_lt_of_le (h.fl k (hf ▸ hx)) hk.size
theorem WireInv.frD (h : WireInv W base b L r) (hm : ∀ k, mutB b L' r' k → mutB b L r k ∨ W.heap.size ≤ k) (hq : ∀ k, L'.qv.ownBlock = some k → L.qv.ownBlock = some k ∨ W.heap.size ≤ k) (hf : L'.fr = L.fr) : ∀ k, L'.fr k → ¬ mutB b L' r' k ∧ L'.qv.ownBlock ≠ some k := fun k hx => by
  rw [hf] at hx
  have hl := h.fl k hx
  refine ⟨fun hy => ?_, fun hy => ?_⟩
  · rcases hm k hy with g | g
    · exact (h.fd k hx).1 g
    · omega
  · rcases hq k hy with g | g
    · exact (h.fd k hx).2 g
    · omega
theorem WireInv.keepsB (h : WireInv W base b L r) (hk : Keeps (mutB b L r) W W') : Below base W W' :=
  ⟨hk.os, hk.tape, hk.output, hk.size, fun k hl => hk.block k (by have := h.bw; omega) (fun hm => by have := h.ge k hm; omega)⟩
theorem WireInv.pure (h : WireInv W base b L r) (hk : Below W.heap.size W W') : WireInv W' base b L r := by
  have hlt := h.mut_lt
  have hs : (safe W b L r).le (safe W' b L r) := safe_le ((below_keeps hk).wide (fun k h1 h2 => by omega)) (fun k hm => .inl hm) rfl
  exact ⟨(hk.block _ (hlt b (.inl rfl))).trans h.hb, (h.q.keeps (fun k e => hk.block k (h.q.lt k e))).re hs, (h.bf.keeps (fun k e => hk.block k (h.bf.lt k e))).re hs,
    h.wm.at (hk.block _ h.wm.lt), h.em.at (hk.block _ h.em.lt), h.we, fun p hp => by
      obtain ⟨lv, h1, h2⟩ := h.pk p hp
      exact ⟨lv, (hk.block _ (hlt _ (.inr (.inr (.inr (.inl ⟨p, hp, rfl⟩)))))).trans h1, tEls.mono _ _ _ _ hs h2⟩, h.nd, h.ge, Nat.le_trans h.bw hk.size, fun k hx => Nat.lt_of_lt_of_le (h.fl k hx) hk.size, h.fd⟩
theorem WireInv.pureStep (h : WireInv W base b L r) (hk : Below W.heap.size W W') : WStep base b W L r W' r :=
  ⟨L, h.pure hk, hk.mono h.bw, safe_le ((below_keeps hk).wide (fun k h1 h2 => by omega)) (fun k hm => .inl hm) rfl, Nat.le_succ _, Nat.le_succ _, rfl, fun k hx => hk.block k (h.fl k hx)⟩
theorem WireInv.safePure (h : WireInv W base b L r) (hk : Below W.heap.size W W') : (safe W b L r).le (safe W' b L r) := (fun _ => safe_le ((below_keeps hk).wide (fun k h1 h2 => by omega)) (fun k hm => .inl hm) rfl) h.bw
theorem WireInv.pureFr (h : WireInv W base b L r) (hk : Below W.heap.size W W') : FrK L L W W' := ⟨rfl, fun k hx => hk.block k (h.fl k hx)⟩
theorem WireInv.fresh {α : Type} {t : Ty α} (h : WireInv W base b L r) (hk : Below W.heap.size W W') {cs : List Value} {x : α} (hu : t.rv ((mem W').on (W.heap.size ≤ ·)) cs x) (o : Obj) : t.rv (safe (W'.alloc o) b L r) cs x :=
  t.mono _ _ _ _ (fun i j v e => by
    obtain ⟨hs, e⟩ := Mem.of_on e
    exact Mem.on_some (below_mem ((Below.refl _ _).alloc (Nat.le_refl _) o) _ _ _ e) ⟨fun hm => by have := h.mut_lt i hm; omega, fun hm => by have := h.fl i hm; omega⟩) hu
theorem WireInv.cell (h : WireInv W base b L r) (o : Nat) : W.cell? ⟨b, o, none⟩ = (wCells L r)[o]? := mem_cells h.hb o
theorem WireInv.frozen (h : WireInv W base b L r) (o : Nat) : W.frozen? ⟨b, o, none⟩ = false := frozen_cells h.hb o
/-- Blocks of different kinds are different. -/
theorem WireInv.apart (h : WireInv W base b L r) : b ≠ L.wm ∧ b ≠ L.em ∧ (∀ p ∈ r.pt, p.ad ≠ b ∧ p.ad ≠ L.wm ∧ p.ad ≠ L.em) ∧
    (∀ k, L.bv.ownBlock = some k → k ≠ b ∧ k ≠ L.wm ∧ k ≠ L.em ∧ (∀ p ∈ r.pt, k ≠ p.ad)) ∧ (∀ k, L.qv.ownBlock = some k → k ≠ b ∧ k ≠ L.wm ∧ k ≠ L.em ∧ (∀ p ∈ r.pt, k ≠ p.ad) ∧ L.bv.ownBlock ≠ some k) := by
  obtain ⟨es, c, hw⟩ := h.wm.obj
  obtain ⟨es', c', he⟩ := h.em.obj
  have hb := h.hb
  refine ⟨fun e => (by rw [e, hw] at hb; cases hb), fun e => (by rw [e, he] at hb; cases hb), fun p hp => ?_, fun k hk => ?_, fun k hk => ?_⟩
  · obtain ⟨lv, hp', _⟩ := h.pk p hp
    exact ⟨fun e => (by rw [e, hb] at hp'; simp at hp'), fun e => (by rw [e, hw] at hp'; cases hp'), fun e => (by rw [e, he] at hp'; cases hp')⟩
  · obtain ⟨cur, hc⟩ := h.bf.cells k hk
    exact ⟨fun e => (by rw [e, hb] at hc; cases hc), fun e => (by rw [e, hw] at hc; cases hc), fun e => (by rw [e, he] at hc; cases hc), fun p hp e => (by obtain ⟨lv, hp', _⟩ := h.pk p hp; rw [e, hp'] at hc; cases hc)⟩
  · obtain ⟨cur, hc⟩ := h.q.cells k hk
    exact ⟨fun e => (by rw [e, hb] at hc; cases hc), fun e => (by rw [e, hw] at hc; cases hc), fun e => (by rw [e, he] at hc; cases hc), fun p hp e => (by obtain ⟨lv, hp', _⟩ := h.pk p hp; rw [e, hp'] at hc; cases hc), fun e => (by obtain ⟨cur', hc'⟩ := h.bf.cells k e; rw [hc] at hc'; cases hc')⟩
end

def newRaw (size credits room : Int) : Raw := ⟨[], size, credits, room, 0, 0, fun _ => none, [], fun _ => none, 0, []⟩
def okNew (size credits room : Int) : Prop := (1 ≤ size ∧ size ≤ 100) ∧ (1 ≤ credits ∧ credits ≤ 100) ∧ (1 ≤ room ∧ room ≤ 1000)
def NewOut (F : Nat → Prop) (W : World) (size credits room : Int) (e : Ending) (W' : World) : Prop :=
  Below W.heap.size W W' ∧ ((okNew size credits room ∧ ∃ b L, e = .returned (.tuple #[ptrTo b, .int .i64 0]) ∧ WireInv W' W.heap.size b L (newRaw size credits room) ∧ L.nw = 0 ∧ L.ne = 0 ∧ W.heap.size < W'.heap.size ∧ L.fr = F) ∨ (¬ okNew size credits room ∧ e = .returned (.tuple #[.pointer none, .int .i64 7])))

theorem new_inv (W : World) (size credits room : Int) (F : Nat → Prop) (hF : ∀ k, F k → k < W.heap.size) : WireInv (((W.alloc (.map #[] 0)).alloc (.map #[] 0)).alloc (.cells #[.slice none 0 0, .int .i64 size, .int .i64 credits, .int .i64 room, .int .i64 0, .int .i64 0, .map (some W.heap.size), .slice none 0 0, .map (some (W.heap.size + 1)), .int .i64 0] 87)) W.heap.size (W.heap.size + 2)
    ⟨.slice none 0 0, .slice none 0 0, W.heap.size + 1, W.heap.size, 0, 0, F⟩ (newRaw size credits room) := by
  have hge : ∀ k, mutB (W.heap.size + 2) ⟨.slice none 0 0, .slice none 0 0, W.heap.size + 1, W.heap.size, 0, 0, F⟩ (newRaw size credits room) k → W.heap.size ≤ k := fun k hk => by
    rcases hk with rfl | rfl | rfl | ⟨p, hp, _⟩ | hk | ⟨hk, _⟩
    · omega
    · show W.heap.size ≤ W.heap.size + 1; omega
    · exact Nat.le_refl _
    · cases hp
    · cases hk
    · cases hk
  refine ⟨?_, OwnsO.nil _ _ _, OwnsO.nil _ _ _, ?_, ?_, by simp, fun p hp => absurd hp (by simp [newRaw]), by simp [newRaw], hge, by simp; omega, fun k hk => by have := hF k hk; simp; omega, fun k hk => ⟨fun hm => by have := hge k hm; have := hF k hk; omega, by simp [Value.ownBlock]⟩⟩
  · have h := heap_alloc_new ((W.alloc (.map #[] 0)).alloc (.map #[] 0)) (.cells #[.slice none 0 0, .int .i64 size, .int .i64 credits, .int .i64 room, .int .i64 0, .int .i64 0, .map (some W.heap.size), .slice none 0 0, .map (some (W.heap.size + 1)), .int .i64 0] 87)
    simp only [World.size_alloc] at h
    exact h
  · have h := MapOf.made (P := Try.prog) (k := 3) (lk := intKey) (vr := vPtr) (W.alloc (.map #[] 0))
    rw [World.size_alloc] at h
    exact h.alloc _
  · exact ((MapOf.made (P := Try.prog) (k := 3) (lk := intKey) (vr := vPtr) W).alloc _).alloc _

set_option maxRecDepth 100000 in
set_option maxHeartbeats 1000000 in
theorem new_any (size credits room : Int) (F : Nat → Prop) (W : World) (hF : ∀ k, F k → k < W.heap.size) :
    Calls Try.prog 15 #[.int .i64 size, .int .i64 credits, .int .i64 room] W (NewOut F W size credits room) := by
  have hmm := @run_makeMap Try.prog
  by_cases h : okNew size credits room
  · obtain ⟨⟨a1, a2⟩, ⟨b1, b2⟩, c1, c2⟩ := h
    have HN := Lib.hid (show okNew size credits room from ⟨⟨a1, a2⟩, ⟨b1, b2⟩, c1, c2⟩)
    go_enter Try.func15, Try.ntmps15
    go_wp2
    go_ret2
    exact ⟨(((Below.refl _ _).alloc (Nat.le_refl _) _).alloc (by simp) _).alloc (by simp; omega) _, .inl ⟨HN.out, _, _, rfl, new_inv W size credits room F hF, rfl, rfl, by simp; omega, rfl⟩⟩
  · have HN := Lib.hid h
    clear hmm
    by_cases a1 : 1 ≤ size
    · by_cases a2 : size ≤ 100
      · by_cases b1 : 1 ≤ credits
        · by_cases b2 : credits ≤ 100
          · by_cases c1 : 1 ≤ room
            · by_cases c2 : room ≤ 1000
              · exact absurd ⟨⟨a1, a2⟩, ⟨b1, b2⟩, c1, c2⟩ h
              · clear h
                go_enter Try.func15, Try.ntmps15
                go_wp2
                go_ret2
                exact ⟨Below.refl _ _, .inr ⟨HN.out, rfl⟩⟩
            · clear h
              go_enter Try.func15, Try.ntmps15
              go_wp2
              go_ret2
              exact ⟨Below.refl _ _, .inr ⟨HN.out, rfl⟩⟩
          · clear h
            go_enter Try.func15, Try.ntmps15
            go_wp2
            go_ret2
            exact ⟨Below.refl _ _, .inr ⟨HN.out, rfl⟩⟩
        · clear h
          go_enter Try.func15, Try.ntmps15
          go_wp2
          go_ret2
          exact ⟨Below.refl _ _, .inr ⟨HN.out, rfl⟩⟩
      · clear h
        go_enter Try.func15, Try.ntmps15
        go_wp2
        go_ret2
        exact ⟨Below.refl _ _, .inr ⟨HN.out, rfl⟩⟩
    · clear h
      go_enter Try.func15, Try.ntmps15
      go_wp2
      go_ret2
      exact ⟨Below.refl _ _, .inr ⟨HN.out, rfl⟩⟩
end Go.Proofs.Ytfkphdmnelchmaa
