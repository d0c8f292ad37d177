/- Wires: the state that a law carries; chapter 20's example. -/
import Derived.Test.YtfkphdmnelchmaaWireH
namespace Go.Proofs.Ytfkphdmnelchmaa
open Go.RowKit Go.Maps

/-- A wire in memory, beside things that are read in M. -/
def St (base b : Nat) (W : World) (r : Raw) (N : Nat) (M : Mem) : Prop := ∃ L, WireInv W base b L r ∧ L.nw ≤ N ∧ L.ne ≤ N ∧ M.le (safe W b L r)
section
variable {W W' : World} {base b N : Nat} {r r' : Raw} {M : Mem}
theorem St.of {L : WL} (hN1 : L.nw ≤ N) (hN2 : L.ne ≤ N) (hM : M.le (safe W b L r)) (h : WS 1 base b W L r W' r') : St base b W' r' (N + 1) M ∧ Below base W W' :=
  let ⟨L', i, B, s, n1, n2⟩ := h
  ⟨⟨L', i, by omega, by omega, Mem.le_trans hM s⟩, B⟩
theorem St.grow (h : St base b W r N M) (hk : Below W.heap.size W W') : ∃ M', St base b W' r N M' ∧ M.le M' ∧ ((mem W').on (W.heap.size ≤ ·)).le M' ∧ M'.le (mem W') := by
  obtain ⟨L, i, h1, h2, hM⟩ := h
  refine ⟨safe W' b L r, ⟨L, i.pure hk, h1, h2, Mem.le_refl _⟩, Mem.le_trans hM (i.safePure hk), fun j o v e => ?_, Mem.on_le _ _⟩
  obtain ⟨hs, e⟩ := Mem.of_on e
  exact Mem.on_some e (fun hm => by have := i.mut_lt j hm; omega)
theorem St.mem (h : St base b W r N M) : M.le (mem W) := let ⟨_, _, _, _, hM⟩ := h; Mem.le_trans hM (Mem.on_le _ _)
theorem St.pure (h : St base b W r N M) (hk : Below W.heap.size W W') : St base b W' r N M := by
  obtain ⟨L, i, h1, h2, hM⟩ := h
  exact ⟨L, i.pure hk, h1, h2, Mem.le_trans hM (i.safePure hk)⟩
theorem St.bw (h : St base b W r N M) : base ≤ W.heap.size := let ⟨_, i, _⟩ := h; i.bw
theorem St.mono {N' : Nat} (h : St base b W r N M) (hN : N ≤ N') : St base b W r N' M := by
  obtain ⟨L, i, h1, h2, hM⟩ := h
  exact ⟨L, i, by omega, by omega, hM⟩
end

/-- What the numbers of a wire are. -/
structure Fine (r : Raw) : Prop where
  s1 : 1 ≤ r.size
  s2 : r.size ≤ 100
  c0 : 0 ≤ r.credits
  c1 : r.credits ≤ 1000
  n0 : 0 ≤ r.next
  n1 : r.next ≤ 1000000
  t0 : 0 ≤ r.turn
  t1 : r.turn ≤ r.next
  k0 : 0 ≤ r.count
  k1 : r.count ≤ 4000
  q : r.queue.length ≤ 4000
  bf : r.buffer.length ≤ 4000
  bk : 1 ≤ r.count ∨ r.buffer = []
  br : ∀ i ∈ r.buffer, i.el.row.length ≤ 1000000
  bo : ∀ i ∈ r.buffer, ∀ a, i.of = some a → ∃ p ∈ r.pt, p.ad = a ∧ 1 ≤ p.left ∧ p.left ≤ 4000
  w : ∀ k a, r.way k = some a → k < r.next ∧ ∃ p ∈ r.pt, p.ad = a
  e : ∀ k a, r.early k = some a → k < r.next ∧ ∃ p ∈ r.pt, p.ad = a
  el : ∀ p ∈ r.pt, p.els.length ≤ 4000
  rm : 1 ≤ r.room ∧ r.room ≤ 1000

section
variable {W : World} {base b N : Nat} {r : Raw} {M : Mem}
theorem st_put (h : St base b W r N M) (hf : Fine r) (x : El) (s : Value) (hx : x.ok) (hv : tRow.rv (mem W) [s] x.row) :
    Calls Try.prog 16 #[.pointer (some ⟨b, 0, none⟩), elV x s] W fun e W' => e = .returned (.int .i64 (putE r x)) ∧ St base b W' (putR r x) (N + 1) M ∧ Below base W W' := by
  obtain ⟨L, i, h1, h2, hM⟩ := h
  exact (put_any base b L r x s W i hx hv hf.k0 hf.k1 hf.q).mono fun e W' ⟨a, c⟩ => ⟨a, St.of h1 h2 hM c⟩
def SendSt (base b N : Nat) (M : Mem) (W : World) (r : Raw) (e : Ending) (W' : World) : Prop :=
  Below base W W' ∧ ((r.queue = [] ∧ e = .returned (.tuple #[.int .i64 0, .int .i64 8]) ∧ St base b W' r (N + 1) M) ∨ (r.queue ≠ [] ∧ r.credits = 0 ∧ e = .returned (.tuple #[.int .i64 0, .int .i64 10]) ∧ St base b W' r (N + 1) M) ∨
  (r.queue ≠ [] ∧ r.credits ≠ 0 ∧ e = .returned (.tuple #[.int .i64 r.next, .int .i64 0]) ∧ ∃ a, (∀ p ∈ r.pt, p.ad ≠ a) ∧ St base b W' (sendR r a) (N + 1) M))
theorem st_send (h : St base b W r N M) (hf : Fine r) (hN : N ≤ 1000000000) : Calls Try.prog 17 #[.pointer (some ⟨b, 0, none⟩)] W (SendSt base b N M W r) := by
  obtain ⟨L, i, h1, h2, hM⟩ := h
  refine (send_any base b L r W i hf.s1 hf.s2 hf.q hf.c0 hf.c1 hf.n0 (by have := hf.n1; omega) (by omega)).mono fun e W' hs => ?_
  rcases hs with ⟨a1, a2, a3⟩ | ⟨a1, a2, a3, a4⟩ | ⟨a1, a2, a3, a, a4, a5⟩
  · obtain ⟨s, B⟩ := St.of h1 h2 hM a3; exact ⟨B, .inl ⟨a1, a2, s⟩⟩
  · obtain ⟨s, B⟩ := St.of h1 h2 hM a4; exact ⟨B, .inr (.inl ⟨a1, a2, a3, s⟩)⟩
  · obtain ⟨s, B⟩ := St.of h1 h2 hM a5
    exact ⟨B, .inr (.inr ⟨a1, a2, a3, a, fun p hp e => by have := i.mut_lt p.ad (.inr (.inr (.inr (.inl ⟨p, hp, rfl⟩)))); omega, s⟩)⟩
def RecvSt (base b N : Nat) (M : Mem) (W : World) (r : Raw) (e : Ending) (W' : World) : Prop :=
  Below base W W' ∧ St base b W' (recvR r) (N + 1) M ∧ ((r.buffer = [] ∧ e = .returned (.tuple #[elV noEl (.slice none 0 0), .int .i64 8])) ∨ ∃ i is a c, r.buffer = i :: is ∧ e = .returned (.tuple #[elV i.el (.slice a i.el.row.length c), .int .i64 0]) ∧ tRow.rv ((mem W').on (W.heap.size ≤ ·)) [.slice a i.el.row.length c] i.el.row)
theorem st_recv (h : St base b W r N M) (hf : Fine r) : Calls Try.prog 20 #[.pointer (some ⟨b, 0, none⟩)] W (RecvSt base b N M W r) := by
  obtain ⟨L, i, h1, h2, hM⟩ := h
  refine (receive_any base b L r W i hf.br hf.bo hf.bk hf.k1 ⟨hf.c0, hf.c1⟩).mono fun e W' hs => ?_
  obtain ⟨s, B⟩ := St.of h1 h2 hM hs.1
  exact ⟨B, s, hs.2⟩
def DelivSt (base b N : Nat) (M : Mem) (n : Int) (W : World) (r : Raw) (e : Ending) (W' : World) : Prop :=
  Below base W W' ∧ (((n < 0 ∨ r.next ≤ n) ∧ e = .returned (.int .i64 8) ∧ St base b W' r (N + 1) M) ∨ ((0 ≤ n ∧ n < r.next) ∧ r.way n = none ∧ e = .returned (.int .i64 0) ∧ St base b W' r (N + 1) M) ∨
  ((0 ≤ n ∧ n < r.next) ∧ ∃ a, r.way n = some a ∧ e = .returned (.int .i64 0) ∧ ∃ r', Moves (takenR r n a) r' ∧ St base b W' r' (N + 1) M))
theorem st_deliv (h : St base b W r N M) (hf : Fine r) (hN : N ≤ 1000000000) {n : Int} (hn : inI64 n) : Calls Try.prog 18 #[.pointer (some ⟨b, 0, none⟩), .int .i64 n] W (DelivSt base b N M n W r) := by
  obtain ⟨L, i, h1, h2, hM⟩ := h
  refine (deliver_any base b n L r W i hn hf.n0 hf.n1 hf.t0 hf.t1 (by omega) hf.w hf.e hf.bf hf.el).mono fun e W' hs => ?_
  rcases hs with ⟨a1, a2, a3⟩ | ⟨a1, a2, a3, a4⟩ | ⟨a1, a, a2, a3, r', a4, a5⟩
  · obtain ⟨s, B⟩ := St.of h1 h2 hM a3; exact ⟨B, .inl ⟨a1, a2, s⟩⟩
  · obtain ⟨s, B⟩ := St.of h1 h2 hM a4; exact ⟨B, .inr (.inl ⟨a1, a2, a3, s⟩)⟩
  · obtain ⟨s, B⟩ := St.of h1 h2 hM a5; exact ⟨B, .inr (.inr ⟨a1, a, a2, a3, r', a4, s⟩)⟩
end
theorem st_new (size credits room : Int) (W : World) : Calls Try.prog 15 #[.int .i64 size, .int .i64 credits, .int .i64 room] W fun e W' => Below W.heap.size W W' ∧
    ((okNew size credits room ∧ ∃ b, e = .returned (.tuple #[.pointer (some ⟨b, 0, none⟩), .int .i64 0]) ∧ St W.heap.size b W' (newRaw size credits room) 0 noMem) ∨ (¬ okNew size credits room ∧ e = .returned (.tuple #[.pointer none, .int .i64 7]))) :=
  (new_any size credits room W).mono fun e W' ⟨hB, h⟩ => ⟨hB, by
    rcases h with ⟨h1, b, L, h2, h3, h4, h5, _⟩ | h
    · exact .inl ⟨h1, b, h2, L, h3, by omega, by omega, fun _ _ _ e => by cases e⟩
    · exact .inr h⟩
end Go.Proofs.Ytfkphdmnelchmaa
