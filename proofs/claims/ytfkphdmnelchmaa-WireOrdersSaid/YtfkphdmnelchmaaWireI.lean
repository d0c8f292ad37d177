/- Wires: the state that a law carries; chapter 20's example. -/
import Derived.Test.YtfkphdmnelchmaaWireH
namespace Go.Proofs.Ytfkphdmnelchmaa
open Go.RowKit Go.Maps

/-- A wire in memory, beside things that are read in M and blocks of others. -/
def St (base b : Nat) (W : World) (r : Raw) (N : Nat) (M : Mem) (F : Nat → Prop) : Prop := ∃ L, WireInv W base b L r ∧ L.nw ≤ N ∧ L.ne ≤ N ∧ M.le (safe W b L r) ∧ L.fr = F
/-- A step of the wire. -/
def Stp (base b N : Nat) (M : Mem) (F : Nat → Prop) (W W' : World) (r' : Raw) : Prop := St base b W' r' (N + 1) M F ∧ Below base W W' ∧ ∀ k, F k → W'.heap[k]? = W.heap[k]?
section
variable {W W' : World} {base b N : Nat} {r r' : Raw} {M : Mem} {F : Nat → Prop}
theorem St.of {L : WL} (hN1 : L.nw ≤ N) (hN2 : L.ne ≤ N) (hM : M.le (safe W b L r)) (hF : L.fr = F) (h : WS 1 base b W L r W' r') : Stp base b N M F W W' r' :=
  let ⟨L', i, B, s, n1, n2, f⟩ := h
  ⟨⟨L', i, by omega, by omega, Mem.le_trans hM s, f.1.trans hF⟩, B, fun k hk => f.2 k (by rw [hF]; exact hk)⟩
theorem St.ofO {L : WL} (hN1 : L.nw ≤ N) (hN2 : L.ne ≤ N) (hM : M.le (safe W b L r)) (hF : L.fr = F) (h : WStepO base b W L r W' r') : ∃ M', M.le M' ∧ ((mem W').on (W.heap.size ≤ ·)).le M' ∧ M'.le (mem W') ∧ Stp base b N M' F W W' r' := by
  obtain ⟨L', i, B, s, n1, n2, f, o⟩ := h
  refine ⟨safe W' b L' r', Mem.le_trans hM s, fun j o2 v e => ?_, Mem.on_le _ _, ⟨L', i, by omega, by omega, Mem.le_refl _, f.1.trans hF⟩, B, fun k hk => f.2 k (by rw [hF]; exact hk)⟩
  obtain ⟨hs, e⟩ := Mem.of_on e
  exact Mem.on_some e ⟨fun hm => by have := o j (.inl hm); omega, fun hm => by have := o j (.inr hm); omega⟩
theorem St.grow (h : St base b W r N M F) (hk : Below W.heap.size W W') : ∃ M', St base b W' r N M' F ∧ M.le M' ∧ ((mem W').on (W.heap.size ≤ ·)).le M' ∧ M'.le (mem W') := by
  obtain ⟨L, i, h1, h2, hM, hF⟩ := h
  refine ⟨safe W' b L r, ⟨L, i.pure hk, h1, h2, Mem.le_refl _, hF⟩, Mem.le_trans hM (i.safePure hk), fun j o v e => ?_, Mem.on_le _ _⟩
  obtain ⟨hs, e⟩ := Mem.of_on e
  exact Mem.on_some e ⟨fun hm => by have := i.mut_lt j hm; omega, fun hm => by have := i.fl j hm; omega⟩
theorem St.mem (h : St base b W r N M F) : M.le (mem W) := let ⟨_, _, _, _, hM, _⟩ := h; Mem.le_trans hM (Mem.on_le _ _)
theorem St.pure (h : St base b W r N M F) (hk : Below W.heap.size W W') : St base b W' r N M F := by
  obtain ⟨L, i, h1, h2, hM, hF⟩ := h
  exact ⟨L, i.pure hk, h1, h2, Mem.le_trans hM (i.safePure hk), hF⟩
theorem St.bw (h : St base b W r N M F) : base ≤ W.heap.size := let ⟨_, i, _⟩ := h; i.bw
theorem St.lt (h : St base b W r N M F) : b < W.heap.size := let ⟨_, i, _⟩ := h; i.mut_lt b (.inl rfl)
theorem St.fl (h : St base b W r N M F) : ∀ k, F k → k < W.heap.size := fun k hk => by
  obtain ⟨L, i, h1, h2, hM, hF⟩ := h
  exact i.fl k (by rw [hF]; exact hk)
theorem St.mono {N' : Nat} (h : St base b W r N M F) (hN : N ≤ N') : St base b W r N' M F := by
  obtain ⟨L, i, h1, h2, hM⟩ := h
  exact ⟨L, i, by omega, by omega, hM⟩
/-- Others have done something in their blocks and in new ones. -/
theorem St.foreign {F' : Nat → Prop} (h : St base b W r N M F) (hk : Keeps F W W') (hF : ∀ k, F' k → (F k ∨ W.heap.size ≤ k) ∧ k < W'.heap.size) : St base b W' r N M F' ∧ ((∀ k, F k → base ≤ k) → Below base W W') := by
  obtain ⟨L, i, h1, h2, hM, rfl⟩ := h
  have hlt := i.mut_lt
  have hd : ∀ k, mutB b L r k → W'.heap[k]? = W.heap[k]? := fun k hm => hk.block k (hlt k hm) (fun hf => (i.fd k hf).1 hm)
  have hd2 : ∀ k, L.qv.ownBlock = some k → W'.heap[k]? = W.heap[k]? := fun k hm => hk.block k (i.q.lt k hm) (fun hf => (i.fd k hf).2 hm)
  have hs : (safe W b L r).le (safe W' b { L with fr := F' } r) := fun j o v e => by
    obtain ⟨hs, e⟩ := Mem.of_on e
    have hl := mem_lt e
    exact Mem.on_some ((mem_of_block (hk.block j hl hs.2) o).trans e) ⟨hs.1, fun hx => (hF j hx).1.elim hs.2 (by omega)⟩
  refine ⟨⟨{ L with fr := F' }, ⟨(hd b (.inl rfl)).trans i.hb, (i.q.keeps (fun k e => hd2 k e)).re hs, (i.bf.keeps (fun k e => hd k (.inr (.inr (.inr (.inr (.inl e))))))).re hs, i.wm.at (hd _ (.inr (.inl rfl))), i.em.at (hd _ (.inr (.inr (.inl rfl)))), i.we, fun p hp => ?_, i.nd, i.ge, Nat.le_trans i.bw hk.size, fun k hx => (hF k hx).2, fun k hx => ?_⟩, h1, h2, Mem.le_trans hM hs, rfl⟩, fun hb => ⟨hk.os, hk.tape, hk.output, hk.size, fun k hl => hk.block k (by have := i.bw; omega) (fun hf => by have := hb k hf; omega)⟩⟩
  · obtain ⟨lv, g1, g2⟩ := i.pk p hp
    exact ⟨lv, (hd p.ad (.inr (.inr (.inr (.inl ⟨p, hp, rfl⟩))))).trans g1, tEls.mono _ _ _ _ hs g2⟩
  · rcases (hF k hx).1 with g | g
    · exact i.fd k g
    · exact ⟨fun hm => by have := hlt k hm; omega, fun hq => by have := i.q.lt k hq; omega⟩
end

/-- What the numbers of a wire are. -/
structure Fine (r : Raw) : Prop where
  s1 : 1 ≤ r.size
  s2 : r.size ≤ 100
  c0 : 0 ≤ r.credits
  c1 : r.credits ≤ 1000
  n0 : 0 ≤ r.next
  n1 : r.next ≤ 1000000
  t0 : 0 ≤ r.turn
  t1 : r.turn ≤ r.next
  k0 : 0 ≤ r.count
  k1 : r.count ≤ 4000
  q : r.queue.length ≤ 4000
  bf : r.buffer.length ≤ 4000
  bk : 1 ≤ r.count ∨ r.buffer = []
  br : ∀ i ∈ r.buffer, i.el.row.length ≤ 1000000
  bo : ∀ i ∈ r.buffer, ∀ a, i.of = some a → ∃ p ∈ r.pt, p.ad = a ∧ 1 ≤ p.left ∧ p.left ≤ 4000
  w : ∀ k a, r.way k = some a → k < r.next ∧ ∃ p ∈ r.pt, p.ad = a
  e : ∀ k a, r.early k = some a → k < r.next ∧ ∃ p ∈ r.pt, p.ad = a
  el : ∀ p ∈ r.pt, p.els.length ≤ 4000
  rm : 1 ≤ r.room ∧ r.room ≤ 1000

section
variable {W : World} {base b N : Nat} {r : Raw} {M : Mem} {F : Nat → Prop}
theorem st_put (h : St base b W r N M F) (hf : Fine r) (x : El) (s : Value) (hx : x.ok) (hv : tRow.rv (mem W) [s] x.row) :
    Calls Try.prog 16 #[.pointer (some ⟨b, 0, none⟩), elV x s] W fun e W' => e = .returned (.int .i64 (putE r x)) ∧ Stp base b N M F W W' (putR r x) := by
  obtain ⟨L, i, h1, h2, hM, hF⟩ := h
  exact (put_any base b L r x s W i hx hv hf.k0 hf.k1 hf.q).mono fun e W' ⟨a, c⟩ => ⟨a, St.of h1 h2 hM hF c⟩
def SendSt (base b N : Nat) (M : Mem) (F : Nat → Prop) (W : World) (r : Raw) (e : Ending) (W' : World) : Prop :=
  (r.queue = [] ∧ e = .returned (.tuple #[.int .i64 0, .int .i64 8]) ∧ Stp base b N M F W W' r) ∨ (r.queue ≠ [] ∧ r.credits = 0 ∧ e = .returned (.tuple #[.int .i64 0, .int .i64 10]) ∧ Stp base b N M F W W' r) ∨
  (r.queue ≠ [] ∧ r.credits ≠ 0 ∧ e = .returned (.tuple #[.int .i64 r.next, .int .i64 0]) ∧ ∃ a, (∀ p ∈ r.pt, p.ad ≠ a) ∧ Stp base b N M F W W' (sendR r a))
theorem st_send (h : St base b W r N M F) (hf : Fine r) (hN : N ≤ 1000000000) : Calls Try.prog 17 #[.pointer (some ⟨b, 0, none⟩)] W (SendSt base b N M F W r) := by
  obtain ⟨L, i, h1, h2, hM, hF⟩ := h
  refine (send_any base b L r W i hf.s1 hf.s2 hf.q hf.c0 hf.c1 hf.n0 (by have := hf.n1; omega) (by omega)).mono fun e W' hs => ?_
  rcases hs with ⟨a1, a2, a3⟩ | ⟨a1, a2, a3, a4⟩ | ⟨a1, a2, a3, a, a4, a5⟩
  · exact .inl ⟨a1, a2, St.of h1 h2 hM hF a3⟩
  · exact .inr (.inl ⟨a1, a2, a3, St.of h1 h2 hM hF a4⟩)
  · exact .inr (.inr ⟨a1, a2, a3, a, fun p hp e => by have := i.mut_lt p.ad (.inr (.inr (.inr (.inl ⟨p, hp, rfl⟩)))); omega, St.of h1 h2 hM hF a5⟩)
def RecvSt (base b N : Nat) (M : Mem) (F : Nat → Prop) (W : World) (r : Raw) (e : Ending) (W' : World) : Prop :=
  ∃ M', M.le M' ∧ Stp base b N M' F W W' (recvR r) ∧ ((r.buffer = [] ∧ e = .returned (.tuple #[elV noEl (.slice none 0 0), .int .i64 8])) ∨ ∃ i is a c, r.buffer = i :: is ∧ e = .returned (.tuple #[elV i.el (.slice a i.el.row.length c), .int .i64 0]) ∧ tRow.rv M' [.slice a i.el.row.length c] i.el.row)
theorem st_recv (h : St base b W r N M F) (hf : Fine r) : Calls Try.prog 20 #[.pointer (some ⟨b, 0, none⟩)] W (RecvSt base b N M F W r) := by
  obtain ⟨L, i, h1, h2, hM, hF⟩ := h
  refine (receive_any base b L r W i hf.br hf.bo hf.bk hf.k1 ⟨hf.c0, hf.c1⟩).mono fun e W' hs => ?_
  obtain ⟨M', m1, m2, m3, s⟩ := St.ofO h1 h2 hM hF hs.1
  refine ⟨M', m1, s, ?_⟩
  rcases hs.2 with g | ⟨i, is, a, c, g1, g2, g3⟩
  · exact .inl g
  · exact .inr ⟨i, is, a, c, g1, g2, tRow.mono _ _ _ _ m2 g3⟩
def DelivSt (base b N : Nat) (M : Mem) (F : Nat → Prop) (n : Int) (W : World) (r : Raw) (e : Ending) (W' : World) : Prop :=
  ((n < 0 ∨ r.next ≤ n) ∧ e = .returned (.int .i64 8) ∧ Stp base b N M F W W' r) ∨ ((0 ≤ n ∧ n < r.next) ∧ r.way n = none ∧ e = .returned (.int .i64 0) ∧ Stp base b N M F W W' r) ∨
  ((0 ≤ n ∧ n < r.next) ∧ ∃ a, r.way n = some a ∧ e = .returned (.int .i64 0) ∧ ∃ r', Moves (takenR r n a) r' ∧ Stp base b N M F W W' r')
theorem st_deliv (h : St base b W r N M F) (hf : Fine r) (hN : N ≤ 1000000000) {n : Int} (hn : inI64 n) : Calls Try.prog 18 #[.pointer (some ⟨b, 0, none⟩), .int .i64 n] W (DelivSt base b N M F n W r) := by
  obtain ⟨L, i, h1, h2, hM, hF⟩ := h
  refine (deliver_any base b n L r W i hn hf.n0 hf.n1 hf.t0 hf.t1 (by omega) hf.w hf.e hf.bf hf.el).mono fun e W' hs => ?_
  rcases hs with ⟨a1, a2, a3⟩ | ⟨a1, a2, a3, a4⟩ | ⟨a1, a, a2, a3, r', a4, a5⟩
  · exact .inl ⟨a1, a2, St.of h1 h2 hM hF a3⟩
  · exact .inr (.inl ⟨a1, a2, a3, St.of h1 h2 hM hF a4⟩)
  · exact .inr (.inr ⟨a1, a, a2, a3, r', a4, St.of h1 h2 hM hF a5⟩)
theorem st_lose (h : St base b W r N M F) (n : Int) (hn : inI64 n) : Calls Try.prog 19 #[.pointer (some ⟨b, 0, none⟩), .int .i64 n] W fun e W' => e = .returned (.int .i64 (if (r.way n).isSome then 0 else 8)) ∧ Stp base b N M F W W' r := by
  obtain ⟨L, i, h1, h2, hM, hF⟩ := h
  exact (lose_any base b L r n W i hn).mono fun e W' ⟨a, c⟩ => ⟨a, by subst c; exact St.of h1 h2 hM hF i.same⟩
theorem st_resize (h : St base b W r N M F) (n : Int) : Calls Try.prog 21 #[.pointer (some ⟨b, 0, none⟩), .int .i64 n] W fun e W' => e = .returned (.int .i64 (if 1 ≤ n ∧ n ≤ 100 then 0 else 7)) ∧ Stp base b N M F W W' (if 1 ≤ n ∧ n ≤ 100 then { r with size := n } else r) := by
  obtain ⟨L, i, h1, h2, hM, hF⟩ := h
  exact (resize_any base b L r n W i).mono fun e W' ⟨a, c⟩ => ⟨a, St.of h1 h2 hM hF c⟩
end
theorem st_new (size credits room : Int) (F : Nat → Prop) (W : World) (hF : ∀ k, F k → k < W.heap.size) : Calls Try.prog 15 #[.int .i64 size, .int .i64 credits, .int .i64 room] W fun e W' => Below W.heap.size W W' ∧
    ((okNew size credits room ∧ ∃ b, e = .returned (.tuple #[.pointer (some ⟨b, 0, none⟩), .int .i64 0]) ∧ St W.heap.size b W' (newRaw size credits room) 0 ((mem W).on (fun k => ¬ F k)) F) ∨ (¬ okNew size credits room ∧ e = .returned (.tuple #[.pointer none, .int .i64 7]))) :=
  (new_any size credits room F W hF).mono fun e W' ⟨hB, h⟩ => ⟨hB, by
    rcases h with ⟨h1, b, L, h2, h3, h4, h5, _, h6⟩ | h
    · refine .inl ⟨h1, b, h2, L, h3, by omega, by omega, fun j o v e => ?_, h6⟩
      obtain ⟨hs, e⟩ := Mem.of_on e
      have hl := mem_lt e
      exact Mem.on_some ((mem_of_block (hB.block j hl) o).trans e) ⟨fun hm => by have := h3.ge j hm; omega, fun hm => hs (by rw [← h6]; exact hm)⟩
    · exact .inr h⟩
end Go.Proofs.Ytfkphdmnelchmaa
