/- What a walk that receives carries: a wire and a slice of its own. -/
import Derived.Test.YtfkphdmnelchmaaSoundB
import Derived.Test.YtfkphdmnelchmaaWay
namespace Go.Proofs.Ytfkphdmnelchmaa
open Go.RowKit Go.Maps

/-- A block of the slice's own. -/
def orOwn (F : Nat → Prop) (v : Value) (k : Nat) : Prop := F k ∨ v.ownBlock = some k
/-- A wire beside a slice of received elements. -/
structure Dr (c : Int) (base b : Nat) (F : Nat → Prop) (M0 : Mem) (w0 : World) (C : List El) (W : World) (v : Value) (outs : List El) (r : Raw) (ah : List El) (ps : List PK) (m N : Nat) (M : Mem) : Prop where
  st : St base b W r N M (orOwn F v)
  so : Sound c N r ah ps m
  own : OwnsO (tIn M tEl) W 42 v outs
  all : outs ++ contentsOf r ah ps = C
  ge : ∀ k, v.ownBlock = some k → w0.heap.size ≤ k
  bel : Below base w0 W
  fk : ∀ k, F k → W.heap[k]? = w0.heap[k]?
  fl : ∀ k, F k → k < w0.heap.size
  b0 : base ≤ w0.heap.size
  mm : M0.le M

section
variable {c : Int} {base b m N : Nat} {F : Nat → Prop} {M0 M : Mem} {w0 W W' : World} {C outs : List El} {v v' : Value} {r r' : Raw} {ah ah' : List El} {ps ps' : List PK}
theorem Dr.pure (h : Dr c base b F M0 w0 C W v outs r ah ps m N M) (hb : Below W.heap.size W W') : Dr c base b F M0 w0 C W' v outs r ah ps m N M :=
  ⟨h.st.pure hb, h.so, h.own.keeps (fun k e => hb.block k (h.own.lt k e)), h.all, h.ge, h.bel.trans (hb.mono h.st.bw), fun k hk => (hb.block k (h.st.fl k (.inl hk))).trans (h.fk k hk), h.fl, h.b0, h.mm⟩
theorem Dr.grow (h : Dr c base b F M0 w0 C W v outs r ah ps m N M) (hb : Below W.heap.size W W') : ∃ M', Dr c base b F M0 w0 C W' v outs r ah ps m N M' ∧ ((mem W').on (W.heap.size ≤ ·)).le M' ∧ M.le M' := by
  obtain ⟨M', s, h1, h2, h3⟩ := h.st.grow hb
  have hp := h.pure hb
  exact ⟨M', ⟨s, hp.so, hp.own.re h1, hp.all, hp.ge, hp.bel, hp.fk, hp.fl, hp.b0, Mem.le_trans hp.mm h1⟩, h2, h1⟩
theorem Dr.len (h : Dr c base b F M0 w0 C W v outs r ah ps m N M) : outs.length + (contentsOf r ah ps).length = C.length := by rw [← h.all, List.length_append]
/-- The wire has made a step. -/
theorem Dr.step (h : Dr c base b F M0 w0 C W v outs r ah ps m N M) {M' : Mem} (hm : M.le M') (hs : Stp base b N M' (orOwn F v) W W' r') {m' : Nat} (so : Sound c (N + 1) r' ah' ps' m') : Dr c base b F M0 w0 (outs ++ contentsOf r' ah' ps') W' v outs r' ah' ps' m' (N + 1) M' :=
  ⟨hs.1, so, (h.own.keeps (fun k e => hs.2.2 k (.inr e))).re hm, rfl, h.ge, h.bel.trans hs.2.1, fun k hk => (hs.2.2 k (.inl hk)).trans (h.fk k hk), h.fl, h.b0, Mem.le_trans h.mm hm⟩
theorem Dr.as (h : Dr c base b F M0 w0 C W v outs r ah ps m N M) {C' : List El} (e : C = C') : Dr c base b F M0 w0 C' W v outs r ah ps m N M := by subst e; exact h
/-- An element was appended. -/
theorem Dr.got (h : Dr c base b F M0 w0 C W v outs r ah ps m N M) {x : El} (own : OwnsO (tIn M tEl) W' 42 v' (outs ++ [x])) (happ : AppAt W W' v outs.length 1 v') : Dr c base b F M0 w0 ((outs ++ [x]) ++ contentsOf r ah ps) W' v' (outs ++ [x]) r ah ps m N M := by
  have hk : Keeps (orOwn F v) W W' := (grown_keeps happ.grown).wide (fun k _ e => .inr e.symm)
  have hx : ∀ k, orOwn F v' k → (orOwn F v k ∨ W.heap.size ≤ k) ∧ k < W'.heap.size := fun k hk2 => by
    rcases hk2 with g | g
    · exact ⟨.inl (.inl g), Nat.lt_of_lt_of_le (h.st.fl k (.inl g)) hk.size⟩
    · refine ⟨?_, own.lt k g⟩
      rcases happ.block with e | e
      · exact .inl (.inr (e ▸ g))
      · exact .inr (e k g)
  obtain ⟨s1, s2⟩ := h.st.foreign hk hx
  have hF : ∀ k, F k → W'.heap[k]? = W.heap[k]? := fun k hk1 => by
    refine happ.grown.block k (h.st.fl k (.inl hk1)) (fun e => ?_)
    have := h.ge k e.symm
    have := h.fl k hk1
    omega
  have hb : Below base W W' := by
    have h0 := h.b0
    have h1 := h.st.bw
    exact ⟨hk.os, hk.tape, hk.output, hk.size, fun k hl => happ.grown.block k (by omega) (fun e => by have := h.ge k e.symm; omega)⟩
  refine ⟨s1, h.so, own, rfl, fun k e => ?_, h.bel.trans hb, fun k hk => (hF k hk).trans (h.fk k hk), h.fl, h.b0, h.mm⟩
  rcases happ.block with g | g
  · exact h.ge k (g ▸ e)
  · have := g k e
    have h0 := h.b0
    have h2 := h.bel.size
    omega

def SendD (c : Int) (base b : Nat) (F : Nat → Prop) (M0 : Mem) (w0 : World) (C : List El) (v : Value) (outs : List El) (r : Raw) (ah : List El) (ps : List PK) (m N : Nat) (M : Mem) (e : Ending) (W' : World) : Prop :=
  (∃ n r' ps', e = .returned (.tuple #[.int .i64 n, .int .i64 0]) ∧ phi r' ps' + 1 ≤ phi r ps ∧ Dr c base b F M0 w0 C W' v outs r' ah ps' m (N + 1) M) ∨
  (∃ k, e = .returned (.tuple #[.int .i64 0, .int .i64 k]) ∧ (k = 8 ∨ k = 10) ∧ (r.queue = [] ∨ r.credits = 0) ∧ Dr c base b F M0 w0 C W' v outs r ah ps m (N + 1) M)
theorem Dr.send (h : Dr c base b F M0 w0 C W v outs r ah ps m N M) (hN : N ≤ 1000000) : Calls Try.prog 17 #[.pointer (some ⟨b, 0, none⟩)] W (SendD c base b F M0 w0 C v outs r ah ps m N M) := by
  refine (st_send h.st (h.so.fine hN) (by omega)).mono fun e W' hs => ?_
  have h1 := h.so.mono (Nat.le_succ N)
  rcases hs with ⟨a1, a2, a3⟩ | ⟨a1, a2, a3, a4⟩ | ⟨a1, a2, a3, a, a4, a5⟩
  · exact .inr ⟨8, a2, .inl rfl, .inl a1, (h.step (Mem.le_refl _) a3 h1).as h.all⟩
  · exact .inr ⟨10, a3, .inr rfl, .inr a2, (h.step (Mem.le_refl _) a4 h1).as h.all⟩
  · exact .inl ⟨_, _, _, a3, phi_send a1 h.so.s1.1 a, (h.step (Mem.le_refl _) a5 (h.so.send a1 a2 a4)).as (by rw [contents_send]; exact h.all)⟩
def DelivD (c : Int) (base b : Nat) (F : Nat → Prop) (M0 : Mem) (w0 : World) (C : List El) (v : Value) (outs : List El) (r : Raw) (ah : List El) (ps : List PK) (N : Nat) (M : Mem) (n : Int) (e : Ending) (W' : World) : Prop :=
  e = .returned (.int .i64 0) ∧ ∃ r' ps' m', phi r' ps' + 1 ≤ phi r ps ∧ r'.way = delAt r.way n ∧ Alike r r' ∧ Dr c base b F M0 w0 C W' v outs r' ah ps' m' (N + 1) M
theorem moves_way {r r' : Raw} (h : Moves r r') : r'.way = r.way := by
  induction h with
  | done => rfl
  | step _ _ _ ih => exact ih
theorem Dr.deliv (h : Dr c base b F M0 w0 C W v outs r ah ps m N M) (hN : N ≤ 1000000) {n : Int} (hn : inI64 n) (hw : (r.way n).isSome = true) : Calls Try.prog 18 #[.pointer (some ⟨b, 0, none⟩), .int .i64 n] W (DelivD c base b F M0 w0 C v outs r ah ps N M n) := by
  refine (st_deliv h.st (h.so.fine hN) (by omega) hn).mono fun e W' hs => ?_
  cases hw2 : r.way n with
  | none => rw [hw2] at hw; cases hw
  | some a =>
    obtain ⟨p, hp, e1, _⟩ := (h.so.way n a).1 hw2
    have hlt := h.so.toSimX.numLt hp
    have hge : 0 ≤ n := by
      obtain ⟨i, hi, rfl⟩ := List.mem_iff_getElem.1 hp
      have := h.so.num i hi
      have := h.so.nx
      omega
    rcases hs with ⟨a1, a2, a3⟩ | ⟨a1, a2, a3, a4⟩ | ⟨a1, a', a2, a3, r', a4, a5⟩
    · exfalso; omega
    · rw [hw2] at a2; cases a2
    · obtain ⟨m', _, hs', hc, al⟩ := h.so.deliv a2 a4
      exact ⟨a3, r', _, m', phi_deliv h.so.toSimX a2 al, moves_way a4, al, (h.step (Mem.le_refl _) a5 (hs'.mono (Nat.le_succ N))).as (by rw [hc]; exact h.all)⟩
def RecvD (c : Int) (base b : Nat) (F : Nat → Prop) (M0 : Mem) (w0 : World) (C : List El) (v : Value) (outs : List El) (r : Raw) (ah : List El) (ps : List PK) (m N : Nat) (M : Mem) (e : Ending) (W' : World) : Prop :=
  (∃ M', r.buffer = [] ∧ e = .returned (.tuple #[elV noEl (.slice none 0 0), .int .i64 8]) ∧ Dr c base b F M0 w0 C W' v outs r ah ps m (N + 1) M') ∨
  ∃ M' x a cp r' ah' ps' m', e = .returned (.tuple #[elV x (.slice a x.row.length cp), .int .i64 0]) ∧ tRow.rv M' [.slice a x.row.length cp] x.row ∧ (validEl x = true ∧ x.ok) ∧ C = (outs ++ [x]) ++ contentsOf r' ah' ps' ∧ phi r' ps' + 1 ≤ phi r ps ∧ r'.queue = r.queue ∧ r'.way = r.way ∧
    Dr c base b F M0 w0 (outs ++ contentsOf r' ah' ps') W' v outs r' ah' ps' m' (N + 1) M'
theorem recv_way (r : Raw) : (recvR r).way = r.way := by
  unfold recvR
  cases r.buffer with
  | nil => rfl
  | cons i is => obtain ⟨x, of⟩ := i; cases of <;> rfl
theorem Dr.recv (h : Dr c base b F M0 w0 C W v outs r ah ps m N M) (hN : N ≤ 1000000) : Calls Try.prog 20 #[.pointer (some ⟨b, 0, none⟩)] W (RecvD c base b F M0 w0 C v outs r ah ps m N M) := by
  refine (st_recv h.st (h.so.fine hN)).mono fun e W' ⟨M', hm, hs, ho⟩ => ?_
  rcases ho with ⟨hb, rfl⟩ | ⟨i, is, a, cp, hb, rfl, hr⟩
  · have e : recvR r = r := by unfold recvR; rw [hb]
    rw [e] at hs
    exact .inl ⟨M', hb, rfl, (h.step hm hs (h.so.mono (Nat.le_succ N))).as h.all⟩
  · obtain ⟨ah', ps', m', hs', hc, g1, g2, g3⟩ := h.so.recv hb
    have hin : i.el ∈ contentsOf r ah ps := by rw [hc]; simp
    refine .inr ⟨M', i.el, a, cp, recvR r, ah', ps', m', rfl, hr, h.so.ok _ hin, ?_, ?_, g2, recv_way r, h.step hm hs (hs'.mono (Nat.le_succ N))⟩
    · rw [← h.all, hc]; simp
    · have h1 : r.count = (contentsOf r ah ps).length := h.so.cnt0
      rw [hc, List.length_cons] at h1
      unfold phi
      rw [g1, g2]; push_cast at h1; omega
def WayD (r : Raw) (W : World) (e : Ending) (W' : World) : Prop := ∃ v ss, e = .returned v ∧ (tSlice tInt).rv ((mem W').on (W.heap.size ≤ ·)) [v] ss ∧ SortedKeys r.way ss ∧ Below W.heap.size W W'
theorem st_way {M : Mem} {F : Nat → Prop} (h : St base b W r N M F) (hN : N ≤ 1000000000) : Calls Try.prog 38 #[.pointer (some ⟨b, 0, none⟩)] W (WayD r W) := by
  obtain ⟨L, i, h1, h2, hM, hF⟩ := h
  exact (way_any base b L r W i (by omega)).mono fun e W' ⟨v, ss, a1, a2, a3, _, a4⟩ => ⟨v, ss, a1, a2, a3, a4⟩
end
end Go.Proofs.Ytfkphdmnelchmaa
