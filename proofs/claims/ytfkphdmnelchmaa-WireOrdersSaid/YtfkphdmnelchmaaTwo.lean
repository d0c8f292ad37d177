/- What a law carries: a wire, what was put, what was received. -/
import Derived.Test.YtfkphdmnelchmaaDrain
import Derived.Test.YtfkphdmnelchmaaAppO
namespace Go.Proofs.Ytfkphdmnelchmaa
open Go.RowKit Go.Maps

def own2 (pv gv : Value) : Nat → Prop := orOwn (fun k => pv.ownBlock = some k) gv
/-- A wire beside two slices of elements: those put, those got; P is all. -/
structure Two (c : Int) (base b q : Nat) (M0 : Mem) (w0 : World) (P : List El) (W : World) (pv : Value) (puts : List El) (gv : Value) (gots : List El) (r : Raw) (ah : List El) (ps : List PK) (m N : Nat) (M : Mem) : Prop where
  st : St base b W r N M (own2 pv gv)
  so : Sound c N r ah ps m
  po : OwnsO (tIn M tEl) W 42 pv puts
  go : OwnsO (tIn M tEl) W 42 gv gots
  all : gots ++ contentsOf r ah ps = P
  ne : ∀ k, pv.ownBlock = some k → gv.ownBlock ≠ some k
  ge : ∀ k, own2 pv gv k → base ≤ k
  bel : Below base w0 W
  mm : M0.le M
  ct : P.length ≤ q

section
variable {c : Int} {base b m q N : Nat} {M0 M : Mem} {w0 W W' : World} {P puts gots : List El} {pv gv v' : Value} {r r' : Raw} {ah ah' : List El} {ps ps' : List PK}
theorem Two.step (h : Two c base b q M0 w0 P W pv puts gv gots r ah ps m N M) {M' : Mem} (hm : M.le M') (hs : Stp base b N M' (own2 pv gv) W W' r') {m' q' : Nat} (so : Sound c (N + 1) r' ah' ps' m') {P' : List El} (hP : gots ++ contentsOf r' ah' ps' = P') (hq : P'.length ≤ q') : Two c base b q' M0 w0 P' W' pv puts gv gots r' ah' ps' m' (N + 1) M' :=
  ⟨hs.1, so, (h.po.keeps (fun k e => hs.2.2 k (.inl e))).re hm, (h.go.keeps (fun k e => hs.2.2 k (.inr e))).re hm, hP, h.ne, h.ge, h.bel.trans hs.2.1, Mem.le_trans h.mm hm, hq⟩
theorem Two.pure (h : Two c base b q M0 w0 P W pv puts gv gots r ah ps m N M) (hb : Below W.heap.size W W') : Two c base b q M0 w0 P W' pv puts gv gots r ah ps m N M :=
  ⟨h.st.pure hb, h.so, h.po.keeps (fun k e => hb.block k (h.po.lt k e)), h.go.keeps (fun k e => hb.block k (h.go.lt k e)), h.all, h.ne, h.ge, h.bel.trans (hb.mono h.st.bw), h.mm, h.ct⟩
theorem Two.wide (h : Two c base b q M0 w0 P W pv puts gv gots r ah ps m N M) {q' : Nat} (hq : q ≤ q') : Two c base b q' M0 w0 P W pv puts gv gots r ah ps m N M :=
  ⟨h.st, h.so, h.po, h.go, h.all, h.ne, h.ge, h.bel, h.mm, Nat.le_trans h.ct hq⟩
theorem Two.lens (h : Two c base b q M0 w0 P W pv puts gv gots r ah ps m N M) : gots.length + (contentsOf r ah ps).length = P.length := by rw [← h.all, List.length_append]
theorem Two.cnt (h : Two c base b q M0 w0 P W pv puts gv gots r ah ps m N M) : r.count ≤ q := by
  have h1 := h.so.cnt0
  have h2 := h.lens
  have h3 := h.ct
  omega
/-- Appends to the one and to the other. -/
theorem app_frame {F F' : Nat → Prop} {v : Value} {n n2 : Nat} (hst : St base b W r N M F) (hv : ∀ k, v.ownBlock = some k → F k) (happ : AppAt W W' v n n2 v') (hl : ∀ k, v'.ownBlock = some k → k < W'.heap.size) (hF : ∀ k, F' k → F k ∨ v'.ownBlock = some k) (hg : ∀ k, F k → base ≤ k) :
    St base b W' r N M F' ∧ Below base W W' ∧ (∀ k, F' k → base ≤ k) ∧ ∀ k, k < W.heap.size → v.ownBlock ≠ some k → W'.heap[k]? = W.heap[k]? := by
  have hk : Keeps F W W' := (grown_keeps happ.grown).wide (fun k _ e => hv k e.symm)
  have hx : ∀ k, F' k → (F k ∨ W.heap.size ≤ k) ∧ k < W'.heap.size := fun k hk2 => by
    rcases hF k hk2 with g | g
    · exact ⟨.inl g, Nat.lt_of_lt_of_le (hst.fl k g) hk.size⟩
    · refine ⟨?_, hl k g⟩
      rcases happ.block with e | e
      · exact .inl (hv k (e ▸ g))
      · exact .inr (e k g)
  obtain ⟨s1, s2⟩ := hst.foreign hk hx
  refine ⟨s1, s2 hg, fun k h => ?_, fun k h1 h2 => happ.grown.block k h1 (fun e => h2 e.symm)⟩
  rcases (hx k h).1 with g | g
  · exact hg k g
  · exact Nat.le_trans hst.bw g
theorem Two.putA (h : Two c base b q M0 w0 P W pv puts gv gots r ah ps m N M) {x : El} (own : OwnsO (tIn M tEl) W' 42 v' (puts ++ [x])) (happ : AppAt W W' pv puts.length 1 v') : Two c base b q M0 w0 P W' v' (puts ++ [x]) gv gots r ah ps m N M := by
  obtain ⟨s, B, g, k⟩ := app_frame (F' := own2 v' gv) h.st (fun k e => .inl e) happ own.lt (fun k hk => by rcases hk with g | g; exact .inr g; exact .inl (.inr g)) h.ge
  refine ⟨s, h.so, own, h.go.keeps (fun j e => k j (h.go.lt j e) (fun e2 => h.ne j e2 e)), h.all, fun j e e2 => ?_, g, h.bel.trans B, h.mm, h.ct⟩
  rcases happ.block with e3 | e3
  · exact h.ne j (e3 ▸ e) e2
  · have := e3 j e; have := h.go.lt j e2; omega
theorem Two.gotA (h : Two c base b q M0 w0 P W pv puts gv gots r ah ps m N M) {x : El} (own : OwnsO (tIn M tEl) W' 42 v' (gots ++ [x])) (happ : AppAt W W' gv gots.length 1 v') {P' : List El} (hP : (gots ++ [x]) ++ contentsOf r ah ps = P') (hq : P'.length ≤ q) : Two c base b q M0 w0 P' W' pv puts v' (gots ++ [x]) r ah ps m N M := by
  obtain ⟨s, B, g, k⟩ := app_frame (F' := own2 pv v') h.st (fun k e => .inr e) happ own.lt (fun k hk => by rcases hk with g | g; exact .inl (.inl g); exact .inr g) h.ge
  refine ⟨s, h.so, h.po.keeps (fun j e => k j (h.po.lt j e) (h.ne j e)), own, hP, fun j e e2 => ?_, g, h.bel.trans B, h.mm, hq⟩
  rcases happ.block with e3 | e3
  · exact h.ne j e (e3 ▸ e2)
  · have := e3 j e2; have := h.po.lt j e; omega

def PutT (c : Int) (base b q : Nat) (M0 : Mem) (w0 : World) (P : List El) (pv : Value) (puts : List El) (gv : Value) (gots : List El) (r : Raw) (ah : List El) (ps : List PK) (m N : Nat) (M : Mem) (x : El) (e : Ending) (W' : World) : Prop :=
  (∃ r', e = .returned (.int .i64 0) ∧ Two c base b (q + 1) M0 w0 (P ++ [x]) W' pv puts gv gots r' ah ps m (N + 1) M) ∨ (e = .returned (.int .i64 1) ∧ Two c base b (q + 1) M0 w0 P W' pv puts gv gots r ah ps m (N + 1) M)
theorem Two.put (h : Two c base b q M0 w0 P W pv puts gv gots r ah ps m N M) (hN : N ≤ 1000000) (hq : q < 4000) (x : El) (s : Value) (hx : x.ok) (hv : tRow.rv (mem W) [s] x.row) :
    Calls Try.prog 16 #[.pointer (some ⟨b, 0, none⟩), elV x s] W (PutT c base b q M0 w0 P pv puts gv gots r ah ps m N M x) := by
  refine (st_put h.st (h.so.fine hN) x s hx hv).mono fun e W' ⟨he, hs⟩ => ?_
  have hc := h.cnt
  have hct := h.ct
  rcases h.so.put hx (by omega) with ⟨g1, g2, g3, g4, g5⟩ | ⟨g1, g2, g3⟩
  · exact .inl ⟨_, by rw [he, g1], h.step (Mem.le_refl _) hs (g2.mono (Nat.le_succ N)) (by rw [g3, ← List.append_assoc, h.all]) (by simp; omega)⟩
  · rw [g2] at hs
    exact .inr ⟨by rw [he, g1], h.step (Mem.le_refl _) hs (h.so.mono (Nat.le_succ N)) h.all (by omega)⟩
/-- A step that changes nothing of all. -/
def StepT (c : Int) (base b q : Nat) (M0 : Mem) (w0 : World) (P : List El) (pv : Value) (puts : List El) (gv : Value) (gots : List El) (N : Nat) (M : Mem) (W' : World) : Prop :=
  ∃ r ah ps m, Two c base b q M0 w0 P W' pv puts gv gots r ah ps m (N + 1) M
theorem Two.send (h : Two c base b q M0 w0 P W pv puts gv gots r ah ps m N M) (hN : N ≤ 1000000) : Calls Try.prog 17 #[.pointer (some ⟨b, 0, none⟩)] W fun e W' => (∃ n k, e = .returned (.tuple #[.int .i64 n, .int .i64 k])) ∧ StepT c base b q M0 w0 P pv puts gv gots N M W' := by
  refine (st_send h.st (h.so.fine hN) (by omega)).mono fun e W' hs => ?_
  have h1 := h.so.mono (Nat.le_succ N)
  rcases hs with ⟨a1, a2, a3⟩ | ⟨a1, a2, a3, a4⟩ | ⟨a1, a2, a3, a, a4, a5⟩
  · exact ⟨⟨_, _, a2⟩, _, _, _, _, h.step (Mem.le_refl _) a3 h1 h.all h.ct⟩
  · exact ⟨⟨_, _, a3⟩, _, _, _, _, h.step (Mem.le_refl _) a4 h1 h.all h.ct⟩
  · exact ⟨⟨_, _, a3⟩, _, _, _, _, h.step (Mem.le_refl _) a5 (h.so.send a1 a2 a4) (by rw [contents_send]; exact h.all) h.ct⟩
theorem Two.deliv (h : Two c base b q M0 w0 P W pv puts gv gots r ah ps m N M) (hN : N ≤ 1000000) {n : Int} (hn : inI64 n) : Calls Try.prog 18 #[.pointer (some ⟨b, 0, none⟩), .int .i64 n] W fun e W' => (∃ k, e = .returned (.int .i64 k)) ∧ StepT c base b q M0 w0 P pv puts gv gots N M W' := by
  refine (st_deliv h.st (h.so.fine hN) (by omega) hn).mono fun e W' hs => ?_
  have h1 := h.so.mono (Nat.le_succ N)
  rcases hs with ⟨a1, a2, a3⟩ | ⟨a1, a2, a3, a4⟩ | ⟨a1, a', a2, a3, r', a4, a5⟩
  · exact ⟨⟨_, a2⟩, _, _, _, _, h.step (Mem.le_refl _) a3 h1 h.all h.ct⟩
  · exact ⟨⟨_, a3⟩, _, _, _, _, h.step (Mem.le_refl _) a4 h1 h.all h.ct⟩
  · obtain ⟨m', _, hs', hc, al⟩ := h.so.deliv a2 a4
    exact ⟨⟨_, a3⟩, _, _, _, _, h.step (Mem.le_refl _) a5 (hs'.mono (Nat.le_succ N)) (by rw [hc]; exact h.all) h.ct⟩
theorem Two.lose (h : Two c base b q M0 w0 P W pv puts gv gots r ah ps m N M) {n : Int} (hn : inI64 n) : Calls Try.prog 19 #[.pointer (some ⟨b, 0, none⟩), .int .i64 n] W fun e W' => (∃ k, e = .returned (.int .i64 k)) ∧ StepT c base b q M0 w0 P pv puts gv gots N M W' :=
  (st_lose h.st n hn).mono fun e W' ⟨he, hs⟩ => ⟨⟨_, he⟩, _, _, _, _, h.step (Mem.le_refl _) hs (h.so.mono (Nat.le_succ N)) h.all h.ct⟩
theorem Two.resize (h : Two c base b q M0 w0 P W pv puts gv gots r ah ps m N M) (n : Int) : Calls Try.prog 21 #[.pointer (some ⟨b, 0, none⟩), .int .i64 n] W fun e W' => (∃ k, e = .returned (.int .i64 k)) ∧ StepT c base b q M0 w0 P pv puts gv gots N M W' := by
  refine (st_resize h.st n).mono fun e W' ⟨he, hs⟩ => ?_
  have h1 := h.so.mono (Nat.le_succ N)
  by_cases hn : 1 ≤ n ∧ n ≤ 100
  · rw [if_pos hn] at hs
    exact ⟨⟨_, he⟩, _, _, _, _, h.step (Mem.le_refl _) hs (h1.size n hn) h.all h.ct⟩
  · rw [if_neg hn] at hs
    exact ⟨⟨_, he⟩, _, _, _, _, h.step (Mem.le_refl _) hs h1 h.all h.ct⟩
def RecvT (c : Int) (base b q : Nat) (M0 : Mem) (w0 : World) (P : List El) (pv : Value) (puts : List El) (gv : Value) (gots : List El) (N : Nat) (e : Ending) (W' : World) : Prop :=
  (∃ M', e = .returned (.tuple #[elV noEl (.slice none 0 0), .int .i64 8]) ∧ StepT c base b q M0 w0 P pv puts gv gots N M' W') ∨
  ∃ M' x a cp r' ah' ps' m', e = .returned (.tuple #[elV x (.slice a x.row.length cp), .int .i64 0]) ∧ tRow.rv M' [.slice a x.row.length cp] x.row ∧ x.ok ∧ P = (gots ++ [x]) ++ contentsOf r' ah' ps' ∧
    Two c base b q M0 w0 (gots ++ contentsOf r' ah' ps') W' pv puts gv gots r' ah' ps' m' (N + 1) M'
theorem Two.recv (h : Two c base b q M0 w0 P W pv puts gv gots r ah ps m N M) (hN : N ≤ 1000000) : Calls Try.prog 20 #[.pointer (some ⟨b, 0, none⟩)] W (RecvT c base b q M0 w0 P pv puts gv gots N) := by
  refine (st_recv h.st (h.so.fine hN)).mono fun e W' ⟨M', hm, hs, ho⟩ => ?_
  rcases ho with ⟨hb, rfl⟩ | ⟨i, is, a, cp, hb, rfl, hr⟩
  · have e : recvR r = r := by unfold recvR; rw [hb]
    rw [e] at hs
    exact .inl ⟨M', rfl, _, _, _, _, h.step hm hs (h.so.mono (Nat.le_succ N)) h.all h.ct⟩
  · obtain ⟨ah', ps', m', hs', hc, g1, g2, g3⟩ := h.so.recv hb
    have hin : i.el ∈ contentsOf r ah ps := by rw [hc]; simp
    have hP : P = (gots ++ [i.el]) ++ contentsOf (recvR r) ah' ps' := by rw [← h.all, hc]; simp
    refine .inr ⟨M', i.el, a, cp, recvR r, ah', ps', m', rfl, hr, (h.so.ok _ hin).2, hP, h.step hm hs (hs'.mono (Nat.le_succ N)) rfl ?_⟩
    have := h.ct
    rw [hP] at this
    simp at this ⊢; omega
end
theorem tElIn_one {M : Mem} : ∀ m cs x, (tIn M tEl).rv m cs x → ∀ u ∈ cs, u.oneCell' = true := fun m cs x h u hu => by
  obtain ⟨s, rfl, _, hr⟩ := h
  obtain ⟨a, cap, rfl, _⟩ := slice_form hr
  simp at hu; rcases hu with rfl | rfl | rfl | rfl | rfl <;> rfl
end Go.Proofs.Ytfkphdmnelchmaa
