/- Wires, in plain words: every act's step; the measure of what is left to do. -/
import Derived.Test.YtfkphdmnelchmaaSound
namespace Go.Proofs.Ytfkphdmnelchmaa

section
variable {c : Int} {n : Nat} {r r' : Raw} {ah : List El} {ps : List PK} {m : Nat}
theorem Sound.put (h : Sound c n r ah ps m) {x : El} (hx : x.ok) (hk : r.count < 4000) :
    (putE r x = 0 ∧ Sound c n (putR r x) ah ps m ∧ contentsOf (putR r x) ah ps = contentsOf r ah ps ++ [x] ∧ (putR r x).count = r.count + 1 ∧ validEl x = true) ∨ (putE r x = 1 ∧ putR r x = r ∧ validEl x = false) := by
  cases hv : validEl x
  · right; simp [putE, putR, hv]
  · left
    have hne : ¬ r.count = 4000 := by omega
    have e : putR r x = { r with queue := r.queue ++ [x], count := r.count + 1 } := by simp [putR, hv, hne]
    have ec : contentsOf { r with queue := r.queue ++ [x], count := r.count + 1 } ah ps = contentsOf r ah ps ++ [x] := by simp [contentsOf]
    refine ⟨by simp [putE, hv, hne], ?_, by rw [e, ec], by rw [e], rfl⟩
    rw [e]
    exact ⟨sim_put h.toSim x, h.s1, h.rm, h.cr, h.c0, h.c1, h.nx, h.n1, by show r.count + 1 ≤ 4000; omega, fun y hy => by
      rw [ec] at hy
      rcases List.mem_append.1 hy with hy | hy
      · exact h.ok y hy
      · rw [List.mem_singleton] at hy; subst hy; exact ⟨hv, hx⟩, h.pe⟩
theorem Sound.size (h : Sound c n r ah ps m) (s : Int) (hs : 1 ≤ s ∧ s ≤ 100) : Sound c n { r with size := s } ah ps m :=
  ⟨sim_size h.toSim s, hs, h.rm, h.cr, h.c0, h.c1, h.nx, h.n1, h.k1, h.ok, h.pe⟩
theorem Sound.send (h : Sound c n r ah ps m) (hq : r.queue ≠ []) (hc : r.credits ≠ 0) {a : Nat} (ha : ∀ p ∈ r.pt, p.ad ≠ a) : Sound c (n + 1) (sendR r a) ah (ps ++ [⟨r.next, a, r.queue.take (sendN r), false⟩]) m := by
  have hs := h.s1
  have hnl : sendN r ≤ 100 := by unfold sendN; omega
  refine ⟨sim_send h.toSim h.s1.1 hq ha, h.s1, h.rm, ?_, ?_, h.c1, ?_, ?_, h.k1, fun x hx => ?_, fun p hp => ?_⟩
  · show r.credits - 1 + _ = c
    have := h.cr
    rw [List.length_append]; simp; omega
  · show 0 ≤ r.credits - 1
    have := h.c0; omega
  · show 0 ≤ r.next + 1 - _
    have := h.nx
    rw [List.length_append]; simp; omega
  · show r.next + 1 ≤ _
    have := h.n1
    push_cast; omega
  · rw [contents_send] at hx
    exact h.ok x hx
  · rcases List.mem_append.1 hp with hp | hp
    · exact h.pe p hp
    · rw [List.mem_singleton] at hp; subst hp
      show (r.queue.take (sendN r)).length ≤ 4000
      rw [List.length_take]; omega
/-- What moving packets to the buffer leaves alone. -/
structure Alike (r r' : Raw) : Prop where
  queue : r'.queue = r.queue
  size : r'.size = r.size
  credits : r'.credits = r.credits
  room : r'.room = r.room
  next : r'.next = r.next
  count : r'.count = r.count
  pt : r'.pt = r.pt
theorem moves_alike (h : Moves r r') : Alike r r' := by
  induction h with
  | done => exact ⟨rfl, rfl, rfl, rfl, rfl, rfl, rfl⟩
  | step _ _ _ ih => exact ⟨ih.queue, ih.size, ih.credits, ih.room, ih.next, ih.count, ih.pt⟩
theorem Sound.deliv (h : Sound c n r ah ps m) {k : Int} {a : Nat} (hw : r.way k = some a) (hm : Moves (takenR r k a) r') : ∃ m', m ≤ m' ∧ Sound c n r' ah (setDl k ps) m' ∧ contentsOf r' ah (setDl k ps) = contentsOf r ah ps ∧ Alike r r' := by
  obtain ⟨m', hle, hs⟩ := sim_moves hm (sim_taken h.toSimX hw)
  have al := moves_alike hm
  have ec : contentsOf r' ah (setDl k ps) = contentsOf r ah ps := by
    unfold contentsOf
    rw [setDl_els, al.queue]; rfl
  refine ⟨m', hle, ⟨hs, by rw [al.size]; exact h.s1, by rw [al.room]; exact h.rm, by rw [al.credits, setDl_len]; exact h.cr, by rw [al.credits]; exact h.c0, h.c1, by rw [al.next, setDl_len]; exact h.nx, by rw [al.next]; exact h.n1, by rw [al.count]; exact h.k1, fun x hx => h.ok x (by rw [ec] at hx; exact hx), by rw [al.pt]; exact h.pe⟩, ec, ⟨al.queue, al.size, al.credits, al.room, al.next, al.count, al.pt⟩⟩
def numOf (ps : List PK) : Nat := ps.countP fun p => !p.dl
theorem numOf_set {k : Int} : ∀ {ps : List PK}, (∃ p ∈ ps, p.num = k ∧ p.dl = false) → numOf (setDl k ps) + 1 ≤ numOf ps
  | [], h => by obtain ⟨p, hp, _⟩ := h; cases hp
  | q :: ps, h => by
    have hle : ∀ l : List PK, numOf (setDl k l) ≤ numOf l := fun l => by
      induction l with
      | nil => exact Nat.le_refl _
      | cons q l ih =>
        have e : setDl k (q :: l) = (if q.num = k then { q with dl := true } else q) :: setDl k l := rfl
        unfold numOf at ih ⊢
        rw [e, List.countP_cons, List.countP_cons]
        split
        · simp; omega
        · omega
    have e : setDl k (q :: ps) = (if q.num = k then { q with dl := true } else q) :: setDl k ps := rfl
    by_cases hq : q.num = k ∧ q.dl = false
    · have := hle ps
      unfold numOf at this ⊢
      rw [e, List.countP_cons, List.countP_cons, if_pos hq.1, hq.2]
      simp; omega
    · obtain ⟨p, hp, h1, h2⟩ := h
      have hp : p ∈ ps := by
        rcases List.mem_cons.1 hp with g | g
        · subst g; exact absurd ⟨h1, h2⟩ hq
        · exact g
      have ih := numOf_set (k := k) ⟨p, hp, h1, h2⟩
      unfold numOf at ih ⊢
      rw [e, List.countP_cons, List.countP_cons]
      split
      · simp; omega
      · omega
theorem Sound.recv (h : Sound c n r ah ps m) {i : Item} {is : List Item} (hb : r.buffer = i :: is) : ∃ ah' ps' m', Sound c n (recvR r) ah' ps' m' ∧ contentsOf r ah ps = i.el :: contentsOf (recvR r) ah' ps' ∧ (recvR r).count = r.count - 1 ∧ (recvR r).queue = r.queue ∧ numOf ps' ≤ numOf ps := by
  have hal : (recvR r).queue = r.queue ∧ (recvR r).size = r.size ∧ (recvR r).room = r.room ∧ (recvR r).next = r.next ∧ (recvR r).count = r.count - 1 ∧ ∀ p ∈ (recvR r).pt, p.els.length ≤ 4000 := by
    have hd : ∀ a, ∀ p ∈ decPt a r.pt, p.els.length ≤ 4000 := fun a p hp => by
      obtain ⟨q, hq, rfl⟩ := List.mem_map.1 hp
      have := h.pe q hq
      split <;> exact this
    obtain ⟨x, of⟩ := i
    unfold recvR
    rw [hb]
    cases of with
    | none => exact ⟨rfl, rfl, rfl, rfl, rfl, h.pe⟩
    | some a => exact ⟨rfl, rfl, rfl, rfl, rfl, hd a⟩
  obtain ⟨a1, a2, a3, a4, a5, a6⟩ := hal
  have hk1 := h.k1
  rcases sim_recv h.toSim hb with ⟨x, ah', rfl, rfl, hc, hs⟩ | ⟨rfl, hm, p, ps', x, rfl, rfl, ⟨hpe, hc, hs⟩ | ⟨y, xs, hpe, hc, hs⟩⟩
  · have ec : contentsOf r (x :: ah') ps = x :: contentsOf (recvR r) ah' ps := by unfold contentsOf; rw [a1]; simp
    exact ⟨ah', ps, m, ⟨hs, by rw [a2]; exact h.s1, by rw [a3]; exact h.rm, by rw [hc]; exact h.cr, by rw [hc]; exact h.c0, h.c1, by rw [a4]; exact h.nx, by rw [a4]; exact h.n1, by rw [a5]; omega, fun y hy => h.ok y (by rw [ec]; simp [hy]), a6⟩, ec, a5, a1, Nat.le_refl _⟩
  · have ec : contentsOf r [] (p :: ps') = x :: contentsOf (recvR r) [] ps' := by unfold contentsOf; rw [a1]; simp [hpe]
    have h1 := h.cr
    have h2 := h.nx
    have h0 := h.c0
    simp only [List.length_cons] at h1 h2
    push_cast at h1 h2
    exact ⟨[], ps', m - 1, ⟨hs, by rw [a2]; exact h.s1, by rw [a3]; exact h.rm, by rw [hc]; omega, by rw [hc]; omega, h.c1, by rw [a4]; omega, by rw [a4]; exact h.n1, by rw [a5]; omega, fun y hy => h.ok y (by rw [ec]; simp [hy]), a6⟩, ec, a5, a1, by unfold numOf; rw [List.countP_cons]; omega⟩
  · have ec : contentsOf r [] (p :: ps') = x :: contentsOf (recvR r) [] ({ p with els := y :: xs } :: ps') := by unfold contentsOf; rw [a1]; simp [hpe]
    exact ⟨[], _, m, ⟨hs, by rw [a2]; exact h.s1, by rw [a3]; exact h.rm, by rw [hc]; exact h.cr, by rw [hc]; exact h.c0, h.c1, by rw [a4]; exact h.nx, by rw [a4]; exact h.n1, by rw [a5]; omega, fun y hy => h.ok y (by rw [ec]; simp [hy]), a6⟩, ec, a5, a1, by unfold numOf; rw [List.countP_cons, List.countP_cons]; exact Nat.le_refl _⟩

/-- What is left to do. -/
def phi (r : Raw) (ps : List PK) : Nat := r.count.toNat + 2 * r.queue.length + numOf ps
theorem phi_send (hq : r.queue ≠ []) (hs : 1 ≤ r.size) (a : Nat) : phi (sendR r a) (ps ++ [⟨r.next, a, r.queue.take (sendN r), false⟩]) + 1 ≤ phi r ps := by
  have hlen : 0 < r.queue.length := List.length_pos_iff.2 hq
  have hn : 0 < sendN r := by unfold sendN; omega
  have hnl : sendN r ≤ r.queue.length := by unfold sendN; omega
  unfold phi numOf
  show r.count.toNat + 2 * (r.queue.drop (sendN r)).length + _ + 1 ≤ _
  rw [List.countP_append, List.length_drop]
  simp; omega
theorem phi_deliv {k : Int} {a : Nat} (h : SimX r ah ps m) (hw : r.way k = some a) (al : Alike r r') : phi r' (setDl k ps) + 1 ≤ phi r ps := by
  obtain ⟨p, hp, h1, _, h2⟩ := (h.way k a).1 hw
  have := numOf_set ⟨p, hp, h1, h2⟩
  unfold phi
  rw [al.count, al.queue]; omega
theorem Sound.cnt0 (h : Sound c n r ah ps m) : r.count = (contentsOf r ah ps).length := by
  rw [h.cnt]; unfold contentsOf; simp; omega
theorem numOf_le (h : SimX r ah ps m) : numOf ps ≤ (ps.flatMap (·.els)).length := by
  have hne := h.ne
  clear h
  induction ps with
  | nil => simp [numOf]
  | cons p ps ih =>
    have h1 := ih (fun q hq => hne q (by simp [hq]))
    have h2 := List.length_pos_iff.2 (hne p (by simp))
    unfold numOf at h1 ⊢
    rw [List.countP_cons, List.flatMap_cons, List.length_append]
    split <;> omega
theorem Sound.phi_le (h : Sound c n r ah ps m) : phi r ps ≤ 3 * (contentsOf r ah ps).length := by
  have h1 := h.cnt0
  have h2 := numOf_le h.toSimX
  unfold phi
  unfold contentsOf at h1 ⊢
  simp only [List.length_append] at h1 ⊢
  omega
/-- Nothing can be sent, nothing is on its way, nothing is in the buffer: nothing is there. -/
theorem Sound.empty (h : Sound c n r ah ps m) (hs : r.queue = [] ∨ r.credits = 0) (hw : ∀ k, r.way k = none) (hb : r.buffer = []) : ah = [] ∧ ps = [] ∧ r.queue = [] ∧ contentsOf r ah ps = [] := by
  have hbuf := h.buf
  rw [hb] at hbuf
  have hbuf := hbuf.symm
  rw [List.append_eq_nil_iff] at hbuf
  have hah : ah = [] := by simpa using hbuf.1
  have hdl : ∀ p ∈ ps, p.dl = true := fun p hp => by
    cases e : p.dl with
    | true => rfl
    | false =>
      have := (h.way p.num p.ad).2 ⟨p, hp, rfl, rfl, e⟩
      rw [hw] at this; cases this
  have hps : ps = [] := by
    refine Classical.byContradiction fun hne => ?_
    have hlen := List.length_pos_iff.2 hne
    have hm0 : m = 0 := by
      refine Classical.byContradiction fun hm => ?_
      have hp := List.getElem_mem hlen
      have hz : pkItems ps[0] = [] := List.flatMap_eq_nil_iff.1 hbuf.2 _ (by
        rw [List.mem_take_iff_getElem]; exact ⟨0, by omega, rfl⟩)
      exact h.ne _ hp (by simpa [pkItems] using hz)
    have htn := h.tn
    have hn0 := h.num 0 hlen
    have htu := h.tu
    have := (h.early r.turn ps[0].ad).2 ⟨ps[0], List.getElem_mem hlen, by rw [hn0, htu, hm0], rfl, hdl _ (List.getElem_mem hlen), Int.le_refl _⟩
    rw [htn] at this; cases this
  have hq : r.queue = [] := by
    rcases hs with hs | hs
    · exact hs
    · exfalso
      have h1 := h.cr
      have h2 := h.c1
      rw [hps, hs] at h1; simp at h1; all_goals omega
  exact ⟨hah, hps, hq, by rw [hah, hps]; unfold contentsOf; rw [hq]; rfl⟩
end
end Go.Proofs.Ytfkphdmnelchmaa
