/- Part 4 of the texts that the law's proof stands on, merged. -/
import Derived.Deep.LoopGhost
import Derived.Deep.Cut
import Derived.Test.YtfkphdmnelchmaaWc03
set_option linter.unusedVariables false
set_option linter.unusedSimpArgs false
/- Wires, in plain words: every act's step; the measure of what is left to do. -/
namespace Go.Proofs.Ytfkphdmnelchmaa

section
variable {c : Int} {n : Nat} {r r' : Raw} {ah : List El} {ps : List PK} {m : Nat}
theorem Sound.put (h : Sound c n r ah ps m) {x : El} (hx : x.ok) (hk : r.count < 4000) :
    (putE r x = 0 ∧ Sound c n (putR r x) ah ps m ∧ contentsOf (putR r x) ah ps = contentsOf r ah ps ++ [x] ∧ (putR r x).count = r.count + 1 ∧ validEl x = true) ∨ (putE r x = 1 ∧ putR r x = r ∧ validEl x = false) := by
  cases hv : validEl x
  · right; simp [putE, putR, hv]
  · left
    have hne : ¬ r.count = 4000 := by omega
    have e : putR r x = { r with queue := r.queue ++ [x], count := r.count + 1 } := by simp [putR, hv, hne]
    have ec : contentsOf { r with queue := r.queue ++ [x], count := r.count + 1 } ah ps = contentsOf r ah ps ++ [x] := by simp [contentsOf]
    refine ⟨by simp [putE, hv, hne], ?_, by rw [e, ec], by rw [e], rfl⟩
    rw [e]
    exact ⟨sim_put h.toSim x, h.s1, h.rm, h.cr, h.c0, h.c1, h.nx, h.n1, by show r.count + 1 ≤ 4000; omega, fun y hy => by
      rw [ec] at hy
      rcases List.mem_append.1 hy with hy | hy
      · exact h.ok y hy
      · rw [List.mem_singleton] at hy; subst hy; exact ⟨hv, hx⟩, h.pe⟩
theorem Sound.size (h : Sound c n r ah ps m) (s : Int) (hs : 1 ≤ s ∧ s ≤ 100) : Sound c n { r with size := s } ah ps m :=
  ⟨sim_size h.toSim s, hs, h.rm, h.cr, h.c0, h.c1, h.nx, h.n1, h.k1, h.ok, h.pe⟩
theorem Sound.send (h : Sound c n r ah ps m) (hq : r.queue ≠ []) (hc : r.credits ≠ 0) {a : Nat} (ha : ∀ p ∈ r.pt, p.ad ≠ a) : Sound c (n + 1) (sendR r a) ah (ps ++ [⟨r.next, a, r.queue.take (sendN r), false⟩]) m := by
  have hs := h.s1
  have hnl : sendN r ≤ 100 := by unfold sendN; omega
  refine ⟨sim_send h.toSim h.s1.1 hq ha, h.s1, h.rm, ?_, ?_, h.c1, ?_, ?_, h.k1, fun x hx => ?_, fun p hp => ?_⟩
  · show r.credits - 1 + _ = c
    have := h.cr
    rw [List.length_append]; simp; omega
  · show 0 ≤ r.credits - 1
    have := h.c0; omega
  · show 0 ≤ r.next + 1 - _
    have := h.nx
    rw [List.length_append]; simp; omega
  · show r.next + 1 ≤ _
    have := h.n1
    push_cast; omega
  · rw [contents_send] at hx
    exact h.ok x hx
  · rcases List.mem_append.1 hp with hp | hp
    · exact h.pe p hp
    · rw [List.mem_singleton] at hp; subst hp
      show (r.queue.take (sendN r)).length ≤ 4000
      rw [List.length_take]; omega
/-- What moving packets to the buffer leaves alone. -/
structure Alike (r r' : Raw) : Prop where
  queue : r'.queue = r.queue
  size : r'.size = r.size
  credits : r'.credits = r.credits
  room : r'.room = r.room
  next : r'.next = r.next
  count : r'.count = r.count
  pt : r'.pt = r.pt
theorem moves_alike (h : Moves r r') : Alike r r' := by
  induction h with
  | done => exact ⟨rfl, rfl, rfl, rfl, rfl, rfl, rfl⟩
  | step _ _ _ ih => exact ⟨ih.queue, ih.size, ih.credits, ih.room, ih.next, ih.count, ih.pt⟩
theorem Sound.deliv (h : Sound c n r ah ps m) {k : Int} {a : Nat} (hw : r.way k = some a) (hm : Moves (takenR r k a) r') : ∃ m', m ≤ m' ∧ Sound c n r' ah (setDl k ps) m' ∧ contentsOf r' ah (setDl k ps) = contentsOf r ah ps ∧ Alike r r' := by
  obtain ⟨m', hle, hs⟩ := sim_moves hm (sim_taken h.toSimX hw)
  have al := moves_alike hm
  have ec : contentsOf r' ah (setDl k ps) = contentsOf r ah ps := by
    unfold contentsOf
    rw [setDl_els, al.queue]; rfl
  refine ⟨m', hle, ⟨hs, by rw [al.size]; exact h.s1, by rw [al.room]; exact h.rm, by rw [al.credits, setDl_len]; exact h.cr, by rw [al.credits]; exact h.c0, h.c1, by rw [al.next, setDl_len]; exact h.nx, by rw [al.next]; exact h.n1, by rw [al.count]; exact h.k1, fun x hx => h.ok x (by rw [ec] at hx; exact hx), by rw [al.pt]; exact h.pe⟩, ec, ⟨al.queue, al.size, al.credits, al.room, al.next, al.count, al.pt⟩⟩
def numOf (ps : List PK) : Nat := ps.countP fun p => !p.dl
theorem numOf_set {k : Int} : ∀ {ps : List PK}, (∃ p ∈ ps, p.num = k ∧ p.dl = false) → numOf (setDl k ps) + 1 ≤ numOf ps
  | [], h => by obtain ⟨p, hp, _⟩ := h; cases hp
  | q :: ps, h => by
    have hle : ∀ l : List PK, numOf (setDl k l) ≤ numOf l := fun l => by
      induction l with
      | nil => exact Nat.le_refl _
      | cons q l ih =>
        have e : setDl k (q :: l) = (if q.num = k then { q with dl := true } else q) :: setDl k l := rfl
        unfold numOf at ih ⊢
        rw [e, List.countP_cons, List.countP_cons]
        split
        · simp; omega
        · omega
    have e : setDl k (q :: ps) = (if q.num = k then { q with dl := true } else q) :: setDl k ps := rfl
    by_cases hq : q.num = k ∧ q.dl = false
    · have := hle ps
      unfold numOf at this ⊢
      rw [e, List.countP_cons, List.countP_cons, if_pos hq.1, hq.2]
      simp; omega
    · obtain ⟨p, hp, h1, h2⟩ := h
      have hp : p ∈ ps := by
        rcases List.mem_cons.1 hp with g | g
        · subst g; exact absurd ⟨h1, h2⟩ hq
        · exact g
      have ih := numOf_set (k := k) ⟨p, hp, h1, h2⟩
      unfold numOf at ih ⊢
      rw [e, List.countP_cons, List.countP_cons]
      split
      · simp; omega
      · omega
theorem Sound.recv (h : Sound c n r ah ps m) {i : Item} {is : List Item} (hb : r.buffer = i :: is) : ∃ ah' ps' m', Sound c n (recvR r) ah' ps' m' ∧ contentsOf r ah ps = i.el :: contentsOf (recvR r) ah' ps' ∧ (recvR r).count = r.count - 1 ∧ (recvR r).queue = r.queue ∧ numOf ps' ≤ numOf ps := by
  have hal : (recvR r).queue = r.queue ∧ (recvR r).size = r.size ∧ (recvR r).room = r.room ∧ (recvR r).next = r.next ∧ (recvR r).count = r.count - 1 ∧ ∀ p ∈ (recvR r).pt, p.els.length ≤ 4000 := by
    have hd : ∀ a, ∀ p ∈ decPt a r.pt, p.els.length ≤ 4000 := fun a p hp => by
      obtain ⟨q, hq, rfl⟩ := List.mem_map.1 hp
      have := h.pe q hq
      split <;> exact this
    obtain ⟨x, of⟩ := i
    unfold recvR
    rw [hb]
    cases of with
    | none => exact ⟨rfl, rfl, rfl, rfl, rfl, h.pe⟩
    | some a => exact ⟨rfl, rfl, rfl, rfl, rfl, hd a⟩
  obtain ⟨a1, a2, a3, a4, a5, a6⟩ := hal
  have hk1 := h.k1
  rcases sim_recv h.toSim hb with ⟨x, ah', rfl, rfl, hc, hs⟩ | ⟨rfl, hm, p, ps', x, rfl, rfl, ⟨hpe, hc, hs⟩ | ⟨y, xs, hpe, hc, hs⟩⟩
  · have ec : contentsOf r (x :: ah') ps = x :: contentsOf (recvR r) ah' ps := by unfold contentsOf; rw [a1]; simp
    exact ⟨ah', ps, m, ⟨hs, by rw [a2]; exact h.s1, by rw [a3]; exact h.rm, by rw [hc]; exact h.cr, by rw [hc]; exact h.c0, h.c1, by rw [a4]; exact h.nx, by rw [a4]; exact h.n1, by rw [a5]; omega, fun y hy => h.ok y (by rw [ec]; simp [hy]), a6⟩, ec, a5, a1, Nat.le_refl _⟩
  · have ec : contentsOf r [] (p :: ps') = x :: contentsOf (recvR r) [] ps' := by unfold contentsOf; rw [a1]; simp [hpe]
    have h1 := h.cr
    have h2 := h.nx
    have h0 := h.c0
    simp only [List.length_cons] at h1 h2
    push_cast at h1 h2
    exact ⟨[], ps', m - 1, ⟨hs, by rw [a2]; exact h.s1, by rw [a3]; exact h.rm, by rw [hc]; omega, by rw [hc]; omega, h.c1, by rw [a4]; omega, by rw [a4]; exact h.n1, by rw [a5]; omega, fun y hy => h.ok y (by rw [ec]; simp [hy]), a6⟩, ec, a5, a1, by unfold numOf; rw [List.countP_cons]; omega⟩
  · have ec : contentsOf r [] (p :: ps') = x :: contentsOf (recvR r) [] ({ p with els := y :: xs } :: ps') := by unfold contentsOf; rw [a1]; simp [hpe]
    exact ⟨[], _, m, ⟨hs, by rw [a2]; exact h.s1, by rw [a3]; exact h.rm, by rw [hc]; exact h.cr, by rw [hc]; exact h.c0, h.c1, by rw [a4]; exact h.nx, by rw [a4]; exact h.n1, by rw [a5]; omega, fun y hy => h.ok y (by rw [ec]; simp [hy]), a6⟩, ec, a5, a1, by unfold numOf; rw [List.countP_cons, List.countP_cons]; exact Nat.le_refl _⟩

/-- What is left to do. -/
def phi (r : Raw) (ps : List PK) : Nat := r.count.toNat + 2 * r.queue.length + numOf ps
theorem phi_send (hq : r.queue ≠ []) (hs : 1 ≤ r.size) (a : Nat) : phi (sendR r a) (ps ++ [⟨r.next, a, r.queue.take (sendN r), false⟩]) + 1 ≤ phi r ps := by
  have hlen : 0 < r.queue.length := List.length_pos_iff.2 hq
  have hn : 0 < sendN r := by unfold sendN; omega
  have hnl : sendN r ≤ r.queue.length := by unfold sendN; omega
  unfold phi numOf
  show r.count.toNat + 2 * (r.queue.drop (sendN r)).length + _ + 1 ≤ _
  rw [List.countP_append, List.length_drop]
  simp; omega
theorem phi_deliv {k : Int} {a : Nat} (h : SimX r ah ps m) (hw : r.way k = some a) (al : Alike r r') : phi r' (setDl k ps) + 1 ≤ phi r ps := by
  obtain ⟨p, hp, h1, _, h2⟩ := (h.way k a).1 hw
  have := numOf_set ⟨p, hp, h1, h2⟩
  unfold phi
  rw [al.count, al.queue]; omega
theorem Sound.cnt0 (h : Sound c n r ah ps m) : r.count = (contentsOf r ah ps).length := by
  rw [h.cnt]; unfold contentsOf; simp; omega
theorem numOf_le (h : SimX r ah ps m) : numOf ps ≤ (ps.flatMap (·.els)).length := by
  have hne := h.ne
  clear h
  induction ps with
  | nil => simp [numOf]
  | cons p ps ih =>
    have h1 := ih (fun q hq => hne q (by simp [hq]))
    have h2 := List.length_pos_iff.2 (hne p (by simp))
    unfold numOf at h1 ⊢
    rw [List.countP_cons, List.flatMap_cons, List.length_append]
    split <;> omega
theorem Sound.phi_le (h : Sound c n r ah ps m) : phi r ps ≤ 3 * (contentsOf r ah ps).length := by
  have h1 := h.cnt0
  have h2 := numOf_le h.toSimX
  unfold phi
  unfold contentsOf at h1 ⊢
  simp only [List.length_append] at h1 ⊢
  omega
/-- Nothing can be sent, nothing is on its way, nothing is in the buffer: nothing is there. -/
theorem Sound.empty (h : Sound c n r ah ps m) (hs : r.queue = [] ∨ r.credits = 0) (hw : ∀ k, r.way k = none) (hb : r.buffer = []) : ah = [] ∧ ps = [] ∧ r.queue = [] ∧ contentsOf r ah ps = [] := by
  have hbuf := h.buf
  rw [hb] at hbuf
  have hbuf := hbuf.symm
  rw [List.append_eq_nil_iff] at hbuf
  have hah : ah = [] := by simpa using hbuf.1
  have hdl : ∀ p ∈ ps, p.dl = true := fun p hp => by
    cases e : p.dl with
    | true => rfl
    | false =>
      have := (h.way p.num p.ad).2 ⟨p, hp, rfl, rfl, e⟩
      rw [hw] at this; cases this
  have hps : ps = [] := by
    refine Classical.byContradiction fun hne => ?_
    have hlen := List.length_pos_iff.2 hne
    have hm0 : m = 0 := by
      refine Classical.byContradiction fun hm => ?_
      have hp := List.getElem_mem hlen
      have hz : pkItems ps[0] = [] := List.flatMap_eq_nil_iff.1 hbuf.2 _ (by
        rw [List.mem_take_iff_getElem]; exact ⟨0, by omega, rfl⟩)
      exact h.ne _ hp (by simpa [pkItems] using hz)
    have htn := h.tn
    have hn0 := h.num 0 hlen
    have htu := h.tu
    have := (h.early r.turn ps[0].ad).2 ⟨ps[0], List.getElem_mem hlen, by rw [hn0, htu, hm0], rfl, hdl _ (List.getElem_mem hlen), Int.le_refl _⟩
    rw [htn] at this; cases this
  have hq : r.queue = [] := by
    rcases hs with hs | hs
    · exact hs
    · exfalso
      have h1 := h.cr
      have h2 := h.c1
      rw [hps, hs] at h1; simp at h1; all_goals omega
  exact ⟨hah, hps, hq, by rw [hah, hps]; unfold contentsOf; rw [hq]; rfl⟩
end
end Go.Proofs.Ytfkphdmnelchmaa
/- What Contents tells is what the wire has. -/
namespace Go.Proofs.Ytfkphdmnelchmaa

section
variable {r : Raw} {ah : List El} {ps : List PK} {m : Nat}
theorem mem_drop_iff {p : PK} : p ∈ ps.drop m ↔ ∃ i, ∃ h : i < ps.length, m ≤ i ∧ ps[i] = p := by
  rw [List.mem_iff_getElem]
  constructor
  · rintro ⟨i, hi, rfl⟩
    rw [List.length_drop] at hi
    exact ⟨m + i, by omega, by omega, by rw [List.getElem_drop]⟩
  · rintro ⟨i, hi, hm, rfl⟩
    exact ⟨i - m, by rw [List.length_drop]; omega, by rw [List.getElem_drop]; congr 1; omega⟩
theorem Sim.key (h : Sim r ah ps m) {k : Int} {a : Nat} (he : mergeF r.way r.early k = some a) : ∃ p ∈ ps.drop m, p.num = k ∧ p.ad = a := by
  unfold mergeF at he
  cases hea : r.early k with
  | some a' =>
    rw [hea] at he
    obtain rfl : a' = a := by simpa using he
    obtain ⟨p, hp, h1, h2, _, h4⟩ := (h.early k a').1 hea
    obtain ⟨i, hi, hm, e⟩ := h.toSimX.place hp (by omega)
    exact ⟨p, mem_drop_iff.2 ⟨i, hi, hm, e⟩, h1, h2⟩
  | none =>
    rw [hea] at he
    obtain ⟨p, hp, h1, h2, h3⟩ := (h.way k a).1 he
    obtain ⟨i, hi, rfl⟩ := List.mem_iff_getElem.1 hp
    refine ⟨_, mem_drop_iff.2 ⟨i, hi, ?_, rfl⟩, h1, h2⟩
    by_cases hm : i < m
    · rw [h.dl i hi hm] at h3; cases h3
    · omega
theorem Sim.keyOf (h : Sim r ah ps m) {p : PK} (hp : p ∈ ps.drop m) : mergeF r.way r.early p.num = some p.ad := by
  have hp' := List.mem_of_mem_drop hp
  obtain ⟨i, hi, hm, rfl⟩ := mem_drop_iff.1 hp
  have hn := h.num i hi
  have ht := h.tu
  have hs : (mergeF r.way r.early ps[i].num).isSome = true := by
    unfold mergeF
    cases hd : ps[i].dl with
    | true =>
      rw [(h.early _ _).2 ⟨ps[i], hp', rfl, rfl, hd, by omega⟩]; rfl
    | false =>
      have hw := (h.way _ _).2 ⟨ps[i], hp', rfl, rfl, hd⟩
      cases r.early ps[i].num with
      | some a => rfl
      | none => rw [hw]; rfl
  cases e : mergeF r.way r.early ps[i].num with
  | none => rw [e] at hs; cases hs
  | some a =>
    obtain ⟨q, hq, h1, h2⟩ := h.key e
    rw [← h2, h.toSimX.inj (List.mem_of_mem_drop hq) hp' h1]
theorem Sim.sorted (h : Sim r ah ps m) : SortedKeys (mergeF r.way r.early) ((ps.drop m).map (·.num)) := by
  have hnum : ∀ (i : Nat) (hi : i < ((ps.drop m).map (·.num)).length), ((ps.drop m).map (·.num))[i] = r.next - ps.length + m + i := fun i hi => by
    rw [List.length_map, List.length_drop] at hi
    rw [List.getElem_map, List.getElem_drop, h.num (m + i) (by omega)]; push_cast; omega
  refine ⟨fun k => ?_, List.pairwise_iff_getElem.2 fun i j hi hj hij => by rw [hnum i hi, hnum j hj]; omega, List.pairwise_iff_getElem.2 fun i j hi hj hij => by rw [hnum i hi, hnum j hj]; omega⟩
  rw [List.mem_map]
  constructor
  · rintro ⟨p, hp, rfl⟩; rw [h.keyOf hp]; rfl
  · intro hs
    cases e : mergeF r.way r.early k with
    | none => rw [e] at hs; cases hs
    | some a => obtain ⟨p, hp, h1, _⟩ := h.key e; exact ⟨p, hp, h1⟩
theorem Sim.elsAt (h : Sim r ah ps m) {p : PK} (hp : p ∈ ps.drop m) : elsAt r p.num = p.els := by
  unfold _root_.Go.Proofs.Ytfkphdmnelchmaa.elsAt
  rw [h.keyOf hp]
  obtain ⟨q, hq, h1, _, h3⟩ := h.pt p (List.mem_of_mem_drop hp)
  obtain ⟨i, hi, hm, rfl⟩ := mem_drop_iff.1 hp
  have hn := h.num i hi
  have ht := h.tu
  show elsOf ps[i].ad r.pt = _
  rw [← h1, elsOf_mem h.nd hq, h3 (by omega)]
theorem sim_cont (h : Sim r ah ps m) {ss : List Int} (hs : SortedKeys (mergeF r.way r.early) ss) : contR r ss = contentsOf r ah ps := by
  rw [hs.unique h.sorted]
  unfold contR contentsOf
  have e1 : r.buffer.map (·.el) = ah ++ (ps.take m).flatMap (·.els) := by
    rw [h.buf, List.map_append, List.map_map, List.map_flatMap]
    congr 1
    · simp [Function.comp_def]
    · exact flatMap_congr' fun p _ => by simp [pkItems, Function.comp_def]
  have e2 : ((ps.drop m).map (·.num)).flatMap (_root_.Go.Proofs.Ytfkphdmnelchmaa.elsAt r) = (ps.drop m).flatMap (·.els) := by
    rw [List.flatMap_map]
    exact flatMap_congr' fun p hp => h.elsAt hp
  rw [e1, e2, List.append_assoc ah, ← List.flatMap_append, List.take_append_drop]
end
end Go.Proofs.Ytfkphdmnelchmaa
/- APPEND of a whole slice to a slice of the call's own at any offset. -/
namespace Go.Proofs.Ytfkphdmnelchmaa
open Go.RowKit
section
variable {P : Program}
theorem run_append_os {α : Type} {t : Ty α} (hf : t.flat) (hone : ∀ m cs x, t.rv m cs x → ∀ u ∈ cs, u.oneCell' = true) (w : World) (T ty : TypeId) {e : TypeId} {z : Value} {bytes : Nat} (hT : P.underlying T = some (.slice e))
    (hinf : (P.info? e).map (fun i => (i.zero, i.size, i.bytes)) = some (some z, t.sz, bytes)) (hzs : z.cells.size = t.sz) (hsz : 0 < t.sz) (v : Value) (xs ys : List α) (hown : OwnsO t w e v xs)
    (a : Option Addr) (c : Nat) (hy : (tSlice t).rv (mem w) [.slice a ys.length c] ys) (h63 : xs.length + ys.length ≤ maxLen) (hbytes : (xs.length + ys.length) * bytes ≤ 140737488355328) :
    ∃ v' w', (Builtin.append_ #[T, T] ty #[v, .slice a ys.length c]).run P w = .ok v' w' ∧ OwnsO t w' e v' (xs ++ ys) ∧ AppAt w w' v xs.length ys.length v' := by
  by_cases h0 : ys.length = 0
  · obtain rfl := List.length_eq_zero_iff.1 h0
    refine run_append_o (P := P) w T T ty hT hinf hzs v xs [] hown _ [] ?_ rfl (fun k h => absurd h (by simp)) h63 hbytes
    cases a with
    | none => exact Src.ofNil w hT c
    | some ad => exact Src.ofSlice w hT ad 0 c [] (by simp) (fun j u h => by simp at h) (fun u h => by cases h)
  · obtain ⟨b, o, rfl, _⟩ := slice_at hy (k := 0) (by omega)
    obtain ⟨dss, d1, d2, d3⟩ := slice_css hy
    have hl : dss.flatten.length = ys.length * t.sz := by rw [flatten_len dss d2, d1]
    refine run_append_o (P := P) w T T ty hT hinf hzs v xs ys hown _ dss ?_ d1 (fun k h h' => hf _ _ _ _ (d3 k h h').2) h63 hbytes
    refine Src.ofSlice w hT ⟨b, o, none⟩ ys.length c _ hl (fun j u hj => ?_) (fun u hu => ?_)
    · obtain ⟨k, hk, r, rfl, hv⟩ := flatten_split hsz dss d2 j u hj
      have := (d3 k hk (by omega)).1 r u hv
      rw [Addr.add_lit, ← Nat.add_assoc]
      exact this
    · obtain ⟨l, hl, hu⟩ := List.mem_flatten.1 hu
      obtain ⟨k, hk, rfl⟩ := List.getElem_of_mem hl
      exact hone _ _ _ (d3 k hk (by omega)).2 u hu
theorem wpList_append_os {α : Type} {ops : Array Oper} {rest : List Oper} {o : Oper} {a : Act} {Q : Exit → Act → World → Prop} {w : World} (hgd : o.guard = none) (s x : Operand) (T : TypeId)
    (ho : o.op = .call { callee := .builtin .append, args := #[s, x], argTypes := #[T, T] }) (t : Ty α) (hf : t.flat) (hone : ∀ m cs x, t.rv m cs x → ∀ u ∈ cs, u.oneCell' = true) {e : TypeId} {z : Value} {bytes : Nat} (hT : P.underlying T = some (.slice e))
    (hinf : (P.info? e).map (fun i => (i.zero, i.size, i.bytes)) = some (some z, t.sz, bytes)) (hzs : z.cells.size = t.sz) (hsz : 0 < t.sz) (v : Value) (xs ys : List α) (hs : a.eval s = v) (hown : OwnsO t w e v xs)
    (ad : Option Addr) (n c : Nat) (hx : a.eval x = .slice ad n c) (hn : n = ys.length) (hy : (tSlice t).rv (mem w) [.slice ad n c] ys) (h63 : xs.length + ys.length ≤ maxLen) (hbytes : (xs.length + ys.length) * bytes ≤ 140737488355328)
    (h : ∀ v' w', OwnsO t w' e v' (xs ++ ys) → AppAt w w' v xs.length ys.length v' → wpList P ops Q rest (a.put o.dst v') w') : wpList P ops Q (o :: rest) a w := by
  subst hn
  refine wpList_plain hgd fun K hK => ?_
  obtain ⟨v', w', hr, h2, h3⟩ := run_append_os (P := P) hf hone w T o.type hT hinf hzs hsz v xs ys hown ad c hy h63 hbytes
  unfold Oper.wp execOp
  simp only [ho, resolve, invoke, builtin, Sem.run_bind, Sem.run_pure, Result.andThen_ok, List.map_toArray, List.map_cons, List.map_nil, hs, hx, hr]
  exact hK _ _ (h v' w' h2 h3)
end
end Go.Proofs.Ytfkphdmnelchmaa
/- What a walk that receives carries: a wire and a slice of its own. -/
namespace Go.Proofs.Ytfkphdmnelchmaa
open Go.RowKit Go.Maps

/-- A block of the slice's own. -/
def orOwn (F : Nat → Prop) (v : Value) (k : Nat) : Prop := F k ∨ v.ownBlock = some k
/-- A wire beside a slice of received elements. -/
structure Dr (c : Int) (base b : Nat) (F : Nat → Prop) (M0 : Mem) (w0 : World) (C : List El) (W : World) (v : Value) (outs : List El) (r : Raw) (ah : List El) (ps : List PK) (m N : Nat) (M : Mem) : Prop where
  st : St base b W r N M (orOwn F v)
  so : Sound c N r ah ps m
  own : OwnsO (tIn M tEl) W 42 v outs
  all : outs ++ contentsOf r ah ps = C
  ge : ∀ k, v.ownBlock = some k → w0.heap.size ≤ k
  bel : Below base w0 W
  fk : ∀ k, F k → W.heap[k]? = w0.heap[k]?
  fl : ∀ k, F k → k < w0.heap.size
  b0 : base ≤ w0.heap.size
  mm : M0.le M

section
variable {c : Int} {base b m N : Nat} {F : Nat → Prop} {M0 M : Mem} {w0 W W' : World} {C outs : List El} {v v' : Value} {r r' : Raw} {ah ah' : List El} {ps ps' : List PK}
theorem Dr.pure (h : Dr c base b F M0 w0 C W v outs r ah ps m N M) (hb : Below W.heap.size W W') : Dr c base b F M0 w0 C W' v outs r ah ps m N M :=
  ⟨h.st.pure hb, h.so, h.own.keeps (fun k e => hb.block k (h.own.lt k e)), h.all, h.ge, h.bel.trans (hb.mono h.st.bw), fun k hk => (hb.block k (h.st.fl k (.inl hk))).trans (h.fk k hk), h.fl, h.b0, h.mm⟩
theorem Dr.grow (h : Dr c base b F M0 w0 C W v outs r ah ps m N M) (hb : Below W.heap.size W W') : ∃ M', Dr c base b F M0 w0 C W' v outs r ah ps m N M' ∧ ((mem W').on (W.heap.size ≤ ·)).le M' ∧ M.le M' := by
  obtain ⟨M', s, h1, h2, h3⟩ := h.st.grow hb
  have hp := h.pure hb
  exact ⟨M', ⟨s, hp.so, hp.own.re h1, hp.all, hp.ge, hp.bel, hp.fk, hp.fl, hp.b0, Mem.le_trans hp.mm h1⟩, h2, h1⟩
theorem Dr.len (h : Dr c base b F M0 w0 C W v outs r ah ps m N M) : outs.length + (contentsOf r ah ps).length = C.length := by rw [← h.all, List.length_append]
/-- The wire has made a step. -/
theorem Dr.step (h : Dr c base b F M0 w0 C W v outs r ah ps m N M) {M' : Mem} (hm : M.le M') (hs : Stp base b N M' (orOwn F v) W W' r') {m' : Nat} (so : Sound c (N + 1) r' ah' ps' m') : Dr c base b F M0 w0 (outs ++ contentsOf r' ah' ps') W' v outs r' ah' ps' m' (N + 1) M' :=
  ⟨hs.1, so, (h.own.keeps (fun k e => hs.2.2 k (.inr e))).re hm, rfl, h.ge, h.bel.trans hs.2.1, fun k hk => (hs.2.2 k (.inl hk)).trans (h.fk k hk), h.fl, h.b0, Mem.le_trans h.mm hm⟩
theorem Dr.as (h : Dr c base b F M0 w0 C W v outs r ah ps m N M) {C' : List El} (e : C = C') : Dr c base b F M0 w0 C' W v outs r ah ps m N M := by subst e; exact h
/-- An element was appended. -/
theorem Dr.got (h : Dr c base b F M0 w0 C W v outs r ah ps m N M) {x : El} (own : OwnsO (tIn M tEl) W' 42 v' (outs ++ [x])) (happ : AppAt W W' v outs.length 1 v') : Dr c base b F M0 w0 ((outs ++ [x]) ++ contentsOf r ah ps) W' v' (outs ++ [x]) r ah ps m N M := by
  have hk : Keeps (orOwn F v) W W' := (grown_keeps happ.grown).wide (fun k _ e => .inr e.symm)
  have hx : ∀ k, orOwn F v' k → (orOwn F v k ∨ W.heap.size ≤ k) ∧ k < W'.heap.size := fun k hk2 => by
    rcases hk2 with g | g
    · exact ⟨.inl (.inl g), Nat.lt_of_lt_of_le (h.st.fl k (.inl g)) hk.size⟩
    · refine ⟨?_, own.lt k g⟩
      rcases happ.block with e | e
      · exact .inl (.inr (e ▸ g))
      · exact .inr (e k g)
  obtain ⟨s1, s2⟩ := h.st.foreign hk hx
  have hF : ∀ k, F k → W'.heap[k]? = W.heap[k]? := fun k hk1 => by
    refine happ.grown.block k (h.st.fl k (.inl hk1)) (fun e => ?_)
    have := h.ge k e.symm
    have := h.fl k hk1
    omega
  have hb : Below base W W' := by
    have h0 := h.b0
    have h1 := h.st.bw
    exact ⟨hk.os, hk.tape, hk.output, hk.size, fun k hl => happ.grown.block k (by omega) (fun e => by have := h.ge k e.symm; omega)⟩
  refine ⟨s1, h.so, own, rfl, fun k e => ?_, h.bel.trans hb, fun k hk => (hF k hk).trans (h.fk k hk), h.fl, h.b0, h.mm⟩
  rcases happ.block with g | g
  · exact h.ge k (g ▸ e)
  · have := g k e
    have h0 := h.b0
    have h2 := h.bel.size
    omega

def SendD (c : Int) (base b : Nat) (F : Nat → Prop) (M0 : Mem) (w0 : World) (C : List El) (v : Value) (outs : List El) (r : Raw) (ah : List El) (ps : List PK) (m N : Nat) (M : Mem) (e : Ending) (W' : World) : Prop :=
  (∃ n r' ps', e = .returned (.tuple #[.int .i64 n, .int .i64 0]) ∧ phi r' ps' + 1 ≤ phi r ps ∧ Dr c base b F M0 w0 C W' v outs r' ah ps' m (N + 1) M) ∨
  (∃ k, e = .returned (.tuple #[.int .i64 0, .int .i64 k]) ∧ (k = 8 ∨ k = 10) ∧ (r.queue = [] ∨ r.credits = 0) ∧ Dr c base b F M0 w0 C W' v outs r ah ps m (N + 1) M)
theorem Dr.send (h : Dr c base b F M0 w0 C W v outs r ah ps m N M) (hN : N ≤ 1000000) : Calls Try.prog 17 #[.pointer (some ⟨b, 0, none⟩)] W (SendD c base b F M0 w0 C v outs r ah ps m N M) := by
  refine (st_send h.st (h.so.fine hN) (by omega)).mono fun e W' hs => ?_
  have h1 := h.so.mono (Nat.le_succ N)
  rcases hs with ⟨a1, a2, a3⟩ | ⟨a1, a2, a3, a4⟩ | ⟨a1, a2, a3, a, a4, a5⟩
  · exact .inr ⟨8, a2, .inl rfl, .inl a1, (h.step (Mem.le_refl _) a3 h1).as h.all⟩
  · exact .inr ⟨10, a3, .inr rfl, .inr a2, (h.step (Mem.le_refl _) a4 h1).as h.all⟩
  · exact .inl ⟨_, _, _, a3, phi_send a1 h.so.s1.1 a, (h.step (Mem.le_refl _) a5 (h.so.send a1 a2 a4)).as (by rw [contents_send]; exact h.all)⟩
def DelivD (c : Int) (base b : Nat) (F : Nat → Prop) (M0 : Mem) (w0 : World) (C : List El) (v : Value) (outs : List El) (r : Raw) (ah : List El) (ps : List PK) (N : Nat) (M : Mem) (n : Int) (e : Ending) (W' : World) : Prop :=
  e = .returned (.int .i64 0) ∧ ∃ r' ps' m', phi r' ps' + 1 ≤ phi r ps ∧ r'.way = delAt r.way n ∧ Alike r r' ∧ Dr c base b F M0 w0 C W' v outs r' ah ps' m' (N + 1) M
theorem moves_way {r r' : Raw} (h : Moves r r') : r'.way = r.way := by
  induction h with
  | done => rfl
  | step _ _ _ ih => exact ih
theorem Dr.deliv (h : Dr c base b F M0 w0 C W v outs r ah ps m N M) (hN : N ≤ 1000000) {n : Int} (hn : inI64 n) (hw : (r.way n).isSome = true) : Calls Try.prog 18 #[.pointer (some ⟨b, 0, none⟩), .int .i64 n] W (DelivD c base b F M0 w0 C v outs r ah ps N M n) := by
  refine (st_deliv h.st (h.so.fine hN) (by omega) hn).mono fun e W' hs => ?_
  cases hw2 : r.way n with
  | none => rw [hw2] at hw; cases hw
  | some a =>
    obtain ⟨p, hp, e1, _⟩ := (h.so.way n a).1 hw2
    have hlt := h.so.toSimX.numLt hp
    have hge : 0 ≤ n := by
      obtain ⟨i, hi, rfl⟩ := List.mem_iff_getElem.1 hp
      have := h.so.num i hi
      have := h.so.nx
      omega
    rcases hs with ⟨a1, a2, a3⟩ | ⟨a1, a2, a3, a4⟩ | ⟨a1, a', a2, a3, r', a4, a5⟩
    · exfalso; omega
    · rw [hw2] at a2; cases a2
    · obtain ⟨m', _, hs', hc, al⟩ := h.so.deliv a2 a4
      exact ⟨a3, r', _, m', phi_deliv h.so.toSimX a2 al, moves_way a4, al, (h.step (Mem.le_refl _) a5 (hs'.mono (Nat.le_succ N))).as (by rw [hc]; exact h.all)⟩
def RecvD (c : Int) (base b : Nat) (F : Nat → Prop) (M0 : Mem) (w0 : World) (C : List El) (v : Value) (outs : List El) (r : Raw) (ah : List El) (ps : List PK) (m N : Nat) (M : Mem) (e : Ending) (W' : World) : Prop :=
  (∃ M', r.buffer = [] ∧ e = .returned (.tuple #[elV noEl (.slice none 0 0), .int .i64 8]) ∧ Dr c base b F M0 w0 C W' v outs r ah ps m (N + 1) M') ∨
  ∃ M' x a cp r' ah' ps' m', e = .returned (.tuple #[elV x (.slice a x.row.length cp), .int .i64 0]) ∧ tRow.rv M' [.slice a x.row.length cp] x.row ∧ (validEl x = true ∧ x.ok) ∧ C = (outs ++ [x]) ++ contentsOf r' ah' ps' ∧ phi r' ps' + 1 ≤ phi r ps ∧ r'.queue = r.queue ∧ r'.way = r.way ∧
    Dr c base b F M0 w0 (outs ++ contentsOf r' ah' ps') W' v outs r' ah' ps' m' (N + 1) M'
theorem recv_way (r : Raw) : (recvR r).way = r.way := by
  unfold recvR
  cases r.buffer with
  | nil => rfl
  | cons i is => obtain ⟨x, of⟩ := i; cases of <;> rfl
theorem Dr.recv (h : Dr c base b F M0 w0 C W v outs r ah ps m N M) (hN : N ≤ 1000000) : Calls Try.prog 20 #[.pointer (some ⟨b, 0, none⟩)] W (RecvD c base b F M0 w0 C v outs r ah ps m N M) := by
  refine (st_recv h.st (h.so.fine hN)).mono fun e W' ⟨M', hm, hs, ho⟩ => ?_
  rcases ho with ⟨hb, rfl⟩ | ⟨i, is, a, cp, hb, rfl, hr⟩
  · have e : recvR r = r := by unfold recvR; rw [hb]
    rw [e] at hs
    exact .inl ⟨M', hb, rfl, (h.step hm hs (h.so.mono (Nat.le_succ N))).as h.all⟩
  · obtain ⟨ah', ps', m', hs', hc, g1, g2, g3⟩ := h.so.recv hb
    have hin : i.el ∈ contentsOf r ah ps := by rw [hc]; simp
    refine .inr ⟨M', i.el, a, cp, recvR r, ah', ps', m', rfl, hr, h.so.ok _ hin, ?_, ?_, g2, recv_way r, h.step hm hs (hs'.mono (Nat.le_succ N))⟩
    · rw [← h.all, hc]; simp
    · have h1 : r.count = (contentsOf r ah ps).length := h.so.cnt0
      rw [hc, List.length_cons] at h1
      unfold phi
      rw [g1, g2]; push_cast at h1; omega
def WayD (r : Raw) (W : World) (e : Ending) (W' : World) : Prop := ∃ v ss, e = .returned v ∧ (tSlice tInt).rv ((mem W').on (W.heap.size ≤ ·)) [v] ss ∧ SortedKeys r.way ss ∧ Below W.heap.size W W'
theorem st_way {M : Mem} {F : Nat → Prop} (h : St base b W r N M F) (hN : N ≤ 1000000000) : Calls Try.prog 38 #[.pointer (some ⟨b, 0, none⟩)] W (WayD r W) := by
  obtain ⟨L, i, h1, h2, hM, hF⟩ := h
  exact (way_any base b L r W i (by omega)).mono fun e W' ⟨v, ss, a1, a2, a3, _, a4⟩ => ⟨v, ss, a1, a2, a3, a4⟩
end
end Go.Proofs.Ytfkphdmnelchmaa
/- drained: all that a wire has is received. -/
namespace Go.Proofs.Ytfkphdmnelchmaa
open Go.RowKit Go.Maps

def DrainedOut (c : Int) (base b : Nat) (F : Nat → Prop) (M0 : Mem) (W : World) (C : List El) (B : Nat) (e : Ending) (W' : World) : Prop :=
  ∃ v M r N m, e = .returned v ∧ r.queue = [] ∧ N ≤ B ∧ Dr c base b F M0 W C W' v C r [] [] m N M
theorem orOwn_nil (F : Nat → Prop) : orOwn F (.slice none 0 0) = F := funext fun k => propext ⟨fun h => h.elim id (fun e => by cases e), .inl⟩

theorem way_take {ss : List Int} {f : Int → Option Nat} {g : Nat} (hn : ss.Nodup) (hg : g < ss.length) (h : ∀ k, (f k).isSome = true ↔ k ∈ ss.take (g + 1)) : ∀ k, (delAt f ss[g] k).isSome = true ↔ k ∈ ss.take g := fun k => by
  rw [List.take_succ_eq_append_getElem hg] at h
  have hnt : ss[g] ∉ ss.take g := fun hm => by
    have h2 : (ss.take (g + 1)).Nodup := hn.sublist (List.take_sublist _ _)
    rw [List.take_succ_eq_append_getElem hg, List.nodup_append] at h2
    exact h2.2.2 _ hm _ (by simp) rfl
  by_cases hk : k = ss[g]
  · subst hk
    rw [delAt_same]
    exact ⟨fun e => (by cases e), fun e => absurd e hnt⟩
  · rw [delAt_other _ hk, h k, List.mem_append]
    exact ⟨fun h => h.elim id (fun e => absurd (List.mem_singleton.1 e) hk), .inl⟩

theorem el_cells2 {w : World} {x : El} {a : Option Addr} {c : Nat} {T : TypeId} {o : Obj} : At (mem ((w.alloc o).alloc (.cells #[.int .i64 x.kind, .int .i64 x.n, .int .i64 x.time, .slice a x.row.length c, .int .i64 x.cn] T))) (w.heap.size + 1) 0 [.int .i64 x.kind, .int .i64 x.n, .int .i64 x.time, .slice a x.row.length c, .int .i64 x.cn] := by
  have h := el_cells (w := w.alloc o) (x := x) (a := a) (c := c) (T := T)
  rw [World.size_alloc] at h
  exact h

set_option maxRecDepth 100000 in
set_option maxHeartbeats 8000000 in
theorem drained_any (c : Int) (base b : Nat) (F : Nat → Prop) (M0 : Mem) (W : World) (r : Raw) (ah : List El) (ps : List PK) (m N : Nat) (h : St base b W r N M0 F) (so : Sound c N r ah ps m) (hN : N ≤ 500000) (hC : (contentsOf r ah ps).length ≤ 1000) :
    Calls Try.prog 23 #[.pointer (some ⟨b, 0, none⟩)] W (DrainedOut c base b F M0 W (contentsOf r ah ps) (N + 4 * phi r ps + 2)) := by
  have hphi := so.phi_le
  have HD0 := Lib.hid (show Dr c base b F M0 W (contentsOf r ah ps) W (.slice none 0 0) [] r ah ps m N M0 from
    ⟨by rw [orOwn_nil]; exact h, so, OwnsO.nil _ _ _, rfl, fun k e => (by cases e), Below.refl _ _, fun _ _ => rfl, h.fl, h.bw, Mem.le_refl _⟩)
  generalize contentsOf r ah ps = C at *
  generalize hK : phi r ps = K at *
  have HK := Lib.hid hK
  have hK3 : K ≤ 3000 := by omega
  clear h so hphi hK
  go_enter Try.func23, Try.ntmps23
  go_wp2
  go_loopg [3, 4, 5] (2 * K + 1) (fun g u s a wr => ∃ outs r1 ah1 ps1 m1 N1 M1, ∃ sn : Nat, ∃ ag : Bool, s = .int .i64 sn ∧ a = .bool ag ∧ Hid (Dr c base b F M0 W C wr u outs r1 ah1 ps1 m1 N1 M1) ∧ Hid (2 * phi r1 ps1 + ag.toNat ≤ g ∧ sn + phi r1 ps1 ≤ K ∧ N1 + 4 * phi r1 ps1 ≤ N + 4 * K + (if ag then 0 else 2) ∧ (ag = false → r1.queue = [] ∧ ah1 = [] ∧ ps1 = [])))
  case atStart => exact ⟨[], r, ah, ps, m, N, M0, 0, true, by go_num, rfl, HD0, Lib.hid ⟨by rw [HK.out]; simp, by rw [HK.out]; simp, by rw [HK.out]; simp, fun h => by cases h⟩⟩
  case round =>
    clear HD0
    obtain ⟨outs, r1, ah1, ps1, m1, N1, M1, sn, ag, rfl, rfl, HD, HN⟩ := hrel
    have hlenC := HD.out.len
    obtain ⟨au, cu, rfl, _, _⟩ := HD.out.own.form
    cases ag with
    | false =>
      go_wp2
      go_ret
      exact ⟨_, M1, r1, N1, m1, rfl, (HN.out.2.2.2 (by first | rfl | trivial)).1, by have := HN.out.2.2.1; simp at this; omega, by
        have h1 := HD.out
        obtain ⟨q1, q2, q3⟩ := HN.out.2.2.2 (by first | rfl | trivial)
        have h2 : outs = C := by have := h1.all; rw [q2, q3] at this; unfold contentsOf at this; rw [q1] at this; simpa using this
        rw [q2, q3, h2] at h1
        rw [h2]; exact h1⟩
    | true =>
      have hsn : sn ≤ 3000 := by have := HN.out.2.1; omega
      go_wp2
      go_loopg [4, 5] (phi r1 ps1) (fun g s a wx => ∃ r2 ps2 N2, ∃ sn2 : Nat, ∃ ag2 : Bool, s = .int .i64 sn2 ∧ a = .bool ag2 ∧ Hid (Dr c base b F M0 W C wx (.slice au outs.length cu) outs r2 ah1 ps2 m1 N2 M1) ∧ Hid (phi r2 ps2 ≤ g ∧ sn2 + phi r2 ps2 ≤ K ∧ N2 + phi r2 ps2 ≤ N1 + phi r1 ps1 ∧ phi r2 ps2 + ag2.toNat ≤ phi r1 ps1))
      case atStart => exact ⟨r1, ps1, N1, sn, false, rfl, rfl, HD, Lib.hid ⟨Nat.le_refl _, HN.out.2.1, Nat.le_refl _, by simp⟩⟩
      case round =>
        clear HD
        obtain ⟨r2, ps2, N2, sn2, ag2, rfl, rfl, HD2, HN2⟩ := hrel
        have hsn2 : sn2 ≤ 3000 := by have := HN2.out.2.1; omega
        have hp1 : phi r1 ps1 ≤ 3000 := by have := HN.out.2.1; omega
        have hN1 : N1 ≤ 600000 := by have := HN.out.2.2.1; simp at this; omega
        have hN2 : N2 ≤ 700000 := by have := HN2.out.2.2.1; omega
        have HS := Lib.hid (HD2.out.send (by omega))
        clear HD2
        go_wp2_with fail
        refine HS.out.mono ?_
        rintro e w2 (⟨n, r3, ps3, rfl, hp, hD3⟩ | ⟨k, rfl, hk, hq, hD3⟩)
        · have HD3 := Lib.hid hD3
          have HP := Lib.hid hp
          clear HS hD3 hp
          go_wp2
          go_roundg (phi r3 ps3)
          case measure => have := HP.out; have := HN2.out.1; omega
          case rel => exact ⟨r3, ps3, N2 + 1, sn2 + 1, true, by go_num, rfl, HD3, Lib.hid (by have := HP.out; have := HN2.out; simp; omega)⟩
        · have hk0 : (k == 0) = false := by rcases hk with rfl | rfl <;> rfl
          have HQ := Lib.hid hq
          have HW := Lib.hid (st_way hD3.st (by omega))
          have HD3 := Lib.hid hD3
          clear HS hk hq hD3
          go_wp2_with fail
          refine HW.out.mono ?_
          rintro e w3 ⟨vw, ss, rfl, hr, hss, hb3⟩
          obtain ⟨M2, hD4, hnew, hM12⟩ := HD3.out.grow hb3
          have hrv := (tSlice tInt).mono _ _ _ _ hnew hr
          obtain ⟨aw, cw, rfl, hw1, hw2, hrv⟩ := slice_form hrv
          have hw3 : cw ≤ 9223372036854775807 := by unfold maxLen at hw2; exact hw2
          have HSS := Lib.hid hss
          have HRV := Lib.hid hrv
          have HD4 := Lib.hid hD4
          clear hw2 hss hrv hD4 hr hnew hM12 HD3 HW hb3 hk0
          go_wp2
          go_loopg [4, 5, 9] ss.length (fun g s a i wx => ∃ r4 ps4 m4 N4, ∃ sn4 : Nat, ∃ ag4 : Bool, s = .int .i64 sn4 ∧ a = .bool ag4 ∧ g ≤ ss.length ∧ i = .int .i64 ((g : Int) - 1) ∧ Hid (Dr c base b F M0 W C wx (.slice au outs.length cu) outs r4 ah1 ps4 m4 N4 M2) ∧
            Hid (sn4 + phi r4 ps4 ≤ K ∧ N4 + phi r4 ps4 ≤ N1 + phi r1 ps1 + 1 ∧ phi r4 ps4 + ag4.toNat ≤ phi r1 ps1) ∧ Hid ((r4.queue = [] ∨ r4.credits = 0) ∧ ∀ k, (r4.way k).isSome = true ↔ k ∈ ss.take g))
          case atStart => exact ⟨r2, ps2, m1, N2 + 1, sn2, ag2, rfl, rfl, Nat.le_refl _, by go_num, HD4, Lib.hid (by have := HN2.out; omega), Lib.hid ⟨HQ.out, fun k => by rw [List.take_length]; exact (HSS.out.mem k).symm⟩⟩
          case round =>
            clear HD4
            obtain ⟨r4, ps4, m4, N4, sn4, ag4, rfl, rfl, hgk, rfl, HD4, HN4, HW4⟩ := hrel
            have hsn4 : sn4 ≤ 3000 := by have := HN4.out.1; omega
            have hN4 : N4 ≤ 800000 := by have := HN4.out.2.1; omega
            cases gk with
            | zero =>
              have hwn : ∀ k, r4.way k = none := fun k => by
                cases e : r4.way k with
                | none => rfl
                | some q => have := (HW4.out.2 k).1 (by rw [e]; rfl); simp at this
              have HQ4 := Lib.hid (And.intro HW4.out.1 hwn)
              clear HW4 hwn HRV HSS
              go_wp2
              go_loopg [3, 5] (phi r4 ps4) (fun g u a wy => ∃ outs5 r5 ah5 ps5 m5 N5 M5 a5 c5, ∃ ag5 : Bool, a = .bool ag5 ∧ u = .slice a5 outs5.length c5 ∧ Hid (Dr c base b F M0 W C wy (.slice a5 outs5.length c5) outs5 r5 ah5 ps5 m5 N5 M5) ∧
                Hid (phi r5 ps5 ≤ g ∧ sn4 + phi r5 ps5 ≤ K ∧ N5 + phi r5 ps5 ≤ N1 + phi r1 ps1 + 1 ∧ phi r5 ps5 + ag5.toNat ≤ phi r1 ps1) ∧ Hid ((ag5 = false → r5.queue = [] ∨ r5.credits = 0) ∧ ∀ k, r5.way k = none))
              case atStart => exact ⟨outs, r4, ah1, ps4, m4, N4, M2, au, cu, ag4, rfl, rfl, HD4, Lib.hid ⟨Nat.le_refl _, HN4.out⟩, Lib.hid ⟨fun _ => HQ4.out.1, HQ4.out.2⟩⟩
              case round =>
                clear HD4 HQ4
                obtain ⟨outs5, r5, ah5, ps5, m5, N5, M5, a5, c5, ag5, rfl, rfl, HD5, HN5, HW5⟩ := hrel
                have hl5 : outs5.length ≤ 1000 := by have := HD5.out.len; omega
                have hN5 : N5 ≤ 800000 := by have := HN5.out.2.2.1; omega
                have HR := Lib.hid (HD5.out.recv (by omega))
                clear HD5
                go_wp2_with fail
                refine HR.out.mono ?_
                rintro e w6 (⟨M6, hb, rfl, hD6⟩ | ⟨M6, x, a6, c6, r6, ah6, ps6, m6, rfl, hrow, hok, hC6, hp6, hq6, hw6, hD6⟩)
                · have HD6 := Lib.hid (fun o => hD6.pure ((Below.refl _ _).alloc (Nat.le_refl _) o))
                  have HE := Lib.hid (fun h => hD6.so.empty (HW5.out.1 h) HW5.out.2 hb)
                  clear HR hb hD6
                  simp only [elV]
                  cases ag5 with
                  | false =>
                    go_wp2
                    go_roundg (2 * phi r5 ps5)
                    case measure => have := HN5.out.2.2.2; have := HN.out.1; simp at this; omega
                    case rel => exact ⟨outs5, r5, ah5, ps5, m5, N5 + 1, M6, sn4, false, rfl, rfl, HD6.out _, Lib.hid ⟨by simp, HN5.out.2.1, by have := HN5.out.2.2.1; have := HN5.out.2.2.2; have := HN.out.2.2.1; simp at *; omega, fun _ => let h := HE.out (by first | rfl | trivial); ⟨h.2.2.1, h.1, h.2.1⟩⟩⟩
                  | true =>
                    go_wp2
                    go_roundg (2 * phi r5 ps5 + 1)
                    case measure => have := HN5.out.2.2.2; have := HN.out.1; simp at *; omega
                    case rel => exact ⟨outs5, r5, ah5, ps5, m5, N5 + 1, M6, sn4, true, rfl, by simp; omega, HD6.out _, Lib.hid ⟨by simp, HN5.out.2.1, by have := HN5.out.2.2.1; have := HN5.out.2.2.2; have := HN.out.2.2.1; simp at *; omega, fun h => by cases h⟩⟩
                · have HB := Lib.hid (((Below.refl w6.heap.size w6).alloc (Nat.le_refl _) (.cells #[.int .i64 x.kind, .int .i64 x.n, .int .i64 x.time, .slice a6 x.row.length c6, .int .i64 x.cn] 42)).alloc (by simp) (.cells #[.int .i64 x.kind, .int .i64 x.n, .int .i64 x.time, .slice a6 x.row.length c6, .int .i64 x.cn] 42))
                  have HD7 := Lib.hid (hD6.pure HB.out)
                  have HX := Lib.hid (show (tIn M6 tEl).rv noMem [.int .i64 x.kind, .int .i64 x.n, .int .i64 x.time, .slice a6 x.row.length c6, .int .i64 x.cn] x from ⟨_, rfl, ⟨hok.2.k, hok.2.n, hok.2.t, hok.2.c⟩, hrow⟩)
                  have HP6 := Lib.hid (And.intro hC6 (And.intro hp6 hw6))
                  have HL1 := Lib.hid (show outs5.length + 1 ≤ maxLen by unfold maxLen; omega)
                  have HL2 := Lib.hid (show (outs5.length + 1) * 56 ≤ 140737488355328 by omega)
                  clear hD6 hok hrow hC6 hp6 hq6 hw6 HB HR
                  simp only [elV]
                  go_wp2_with (at_builtin; refine wpList_append_o1 rfl (.tmp 51) (.tmp 53) 36 rfl (tIn M6 tEl) Try.underlying36 (infoEl _) rfl _ outs5 rfl HD7.out.own _ _ x rfl _ el_cells2 HX.out el_one HL1.out HL2.out ?_)
                  intro v' w7 own7 happ
                  have HG := Lib.hid ((HD7.out.got own7 happ).as HP6.out.1.symm)
                  obtain ⟨a7, c7, rfl, _⟩ := own7.form
                  clear own7 happ HD7 HX HL1 HL2
                  go_wp2
                  go_roundg (phi r6 ps6)
                  case measure => have := HP6.out.2.1; have := HN5.out.1; omega
                  case rel => exact ⟨outs5 ++ [x], r6, ah6, ps6, m6, N5 + 1, M6, a7, c7, true, rfl, rfl, HG, Lib.hid (by have := HP6.out.2.1; have := HN5.out; simp at *; omega), Lib.hid ⟨fun h => (by cases h), by rw [HP6.out.2.2]; exact HW5.out.2⟩⟩
            | succ g2 =>
              have hlt : g2 < ss.length := by omega
              obtain ⟨bw, ow, rfl, cs, hcs, rfl, hin⟩ := slice_at HRV.out hlt
              have q := HD4.out.st.mem _ _ _ (hcs 0 _ rfl)
              have q : wr.cell? ⟨bw, ow + g2, none⟩ = some (.int .i64 ss[g2]) := by simpa [mem, tInt] using q
              have hway : (r4.way ss[g2]).isSome = true := (HW4.out.2 _).2 (by rw [List.take_succ_eq_append_getElem hlt]; exact List.mem_append_right _ (List.mem_singleton.2 rfl))
              have HV := Lib.hid (HD4.out.deliv (by omega) hin hway)
              have HT := Lib.hid (way_take HSS.out.nd hlt HW4.out.2)
              have hi : ((g2 + 1 : Nat) : Int) - 1 = g2 := by omega
              rw [hi]
              clear hcs hway HD4 hi
              generalize ss[g2] = x at *
              go_wp2_with fail
              refine HV.out.mono ?_
              rintro e w5 ⟨rfl, r5, ps5, m5, hp, hwy, al, hD5⟩
              have HD5 := Lib.hid hD5
              have HP := Lib.hid (And.intro hp (And.intro hwy al))
              clear HV hp hwy al hD5 q
              go_wp2
              go_roundg g2
              case measure => omega
              case rel => exact ⟨r5, ps5, m5, N4 + 1, sn4 + 1, true, by go_num, rfl, by omega, by go_num, HD5, Lib.hid (by have := HP.out.1; have := HN4.out; simp at *; omega), Lib.hid ⟨by rw [HP.out.2.2.queue, HP.out.2.2.credits]; exact HW4.out.1, by rw [HP.out.2.1]; exact HT.out⟩⟩
end Go.Proofs.Ytfkphdmnelchmaa
/- What a law carries: a wire, what was put, what was received. -/
namespace Go.Proofs.Ytfkphdmnelchmaa
open Go.RowKit Go.Maps

def own2 (pv gv : Value) : Nat → Prop := orOwn (fun k => pv.ownBlock = some k) gv
/-- A wire beside two slices of elements: those put, those got; P is all. -/
structure Two (c : Int) (base b q : Nat) (M0 : Mem) (w0 : World) (P : List El) (W : World) (pv : Value) (puts : List El) (gv : Value) (gots : List El) (r : Raw) (ah : List El) (ps : List PK) (m N : Nat) (M : Mem) : Prop where
  st : St base b W r N M (own2 pv gv)
  so : Sound c N r ah ps m
  po : OwnsO (tIn M tEl) W 42 pv puts
  go : OwnsO (tIn M tEl) W 42 gv gots
  all : gots ++ contentsOf r ah ps = P
  ne : ∀ k, pv.ownBlock = some k → gv.ownBlock ≠ some k
  ge : ∀ k, own2 pv gv k → base ≤ k
  bel : Below base w0 W
  mm : M0.le M
  ct : P.length ≤ q

section
variable {c : Int} {base b m q N : Nat} {M0 M : Mem} {w0 W W' : World} {P puts gots : List El} {pv gv v' : Value} {r r' : Raw} {ah ah' : List El} {ps ps' : List PK}
theorem Two.step (h : Two c base b q M0 w0 P W pv puts gv gots r ah ps m N M) {M' : Mem} (hm : M.le M') (hs : Stp base b N M' (own2 pv gv) W W' r') {m' q' : Nat} (so : Sound c (N + 1) r' ah' ps' m') {P' : List El} (hP : gots ++ contentsOf r' ah' ps' = P') (hq : P'.length ≤ q') : Two c base b q' M0 w0 P' W' pv puts gv gots r' ah' ps' m' (N + 1) M' :=
  ⟨hs.1, so, (h.po.keeps (fun k e => hs.2.2 k (.inl e))).re hm, (h.go.keeps (fun k e => hs.2.2 k (.inr e))).re hm, hP, h.ne, h.ge, h.bel.trans hs.2.1, Mem.le_trans h.mm hm, hq⟩
theorem Two.pure (h : Two c base b q M0 w0 P W pv puts gv gots r ah ps m N M) (hb : Below W.heap.size W W') : Two c base b q M0 w0 P W' pv puts gv gots r ah ps m N M :=
  ⟨h.st.pure hb, h.so, h.po.keeps (fun k e => hb.block k (h.po.lt k e)), h.go.keeps (fun k e => hb.block k (h.go.lt k e)), h.all, h.ne, h.ge, h.bel.trans (hb.mono h.st.bw), h.mm, h.ct⟩
theorem Two.wide (h : Two c base b q M0 w0 P W pv puts gv gots r ah ps m N M) {q' : Nat} (hq : q ≤ q') : Two c base b q' M0 w0 P W pv puts gv gots r ah ps m N M :=
  ⟨h.st, h.so, h.po, h.go, h.all, h.ne, h.ge, h.bel, h.mm, Nat.le_trans h.ct hq⟩
theorem Two.lens (h : Two c base b q M0 w0 P W pv puts gv gots r ah ps m N M) : gots.length + (contentsOf r ah ps).length = P.length := by rw [← h.all, List.length_append]
theorem Two.cnt (h : Two c base b q M0 w0 P W pv puts gv gots r ah ps m N M) : r.count ≤ q := by
  have h1 := h.so.cnt0
  have h2 := h.lens
  have h3 := h.ct
  omega
/-- Appends to the one and to the other. -/
theorem app_frame {F F' : Nat → Prop} {v : Value} {n n2 : Nat} (hst : St base b W r N M F) (hv : ∀ k, v.ownBlock = some k → F k) (happ : AppAt W W' v n n2 v') (hl : ∀ k, v'.ownBlock = some k → k < W'.heap.size) (hF : ∀ k, F' k → F k ∨ v'.ownBlock = some k) (hg : ∀ k, F k → base ≤ k) :
    St base b W' r N M F' ∧ Below base W W' ∧ (∀ k, F' k → base ≤ k) ∧ ∀ k, k < W.heap.size → v.ownBlock ≠ some k → W'.heap[k]? = W.heap[k]? := by
  have hk : Keeps F W W' := (grown_keeps happ.grown).wide (fun k _ e => hv k e.symm)
  have hx : ∀ k, F' k → (F k ∨ W.heap.size ≤ k) ∧ k < W'.heap.size := fun k hk2 => by
    rcases hF k hk2 with g | g
    · exact ⟨.inl g, Nat.lt_of_lt_of_le (hst.fl k g) hk.size⟩
    · refine ⟨?_, hl k g⟩
      rcases happ.block with e | e
      · exact .inl (hv k (e ▸ g))
      · exact .inr (e k g)
  obtain ⟨s1, s2⟩ := hst.foreign hk hx
  refine ⟨s1, s2 hg, fun k h => ?_, fun k h1 h2 => happ.grown.block k h1 (fun e => h2 e.symm)⟩
  rcases (hx k h).1 with g | g
  · exact hg k g
  · exact Nat.le_trans hst.bw g
theorem Two.putA (h : Two c base b q M0 w0 P W pv puts gv gots r ah ps m N M) {x : El} (own : OwnsO (tIn M tEl) W' 42 v' (puts ++ [x])) (happ : AppAt W W' pv puts.length 1 v') : Two c base b q M0 w0 P W' v' (puts ++ [x]) gv gots r ah ps m N M := by
  obtain ⟨s, B, g, k⟩ := app_frame (F' := own2 v' gv) h.st (fun k e => .inl e) happ own.lt (fun k hk => by rcases hk with g | g; exact .inr g; exact .inl (.inr g)) h.ge
  refine ⟨s, h.so, own, h.go.keeps (fun j e => k j (h.go.lt j e) (fun e2 => h.ne j e2 e)), h.all, fun j e e2 => ?_, g, h.bel.trans B, h.mm, h.ct⟩
  rcases happ.block with e3 | e3
  · exact h.ne j (e3 ▸ e) e2
  · have := e3 j e; have := h.go.lt j e2; omega
theorem Two.gotA (h : Two c base b q M0 w0 P W pv puts gv gots r ah ps m N M) {x : El} (own : OwnsO (tIn M tEl) W' 42 v' (gots ++ [x])) (happ : AppAt W W' gv gots.length 1 v') {P' : List El} (hP : (gots ++ [x]) ++ contentsOf r ah ps = P') (hq : P'.length ≤ q) : Two c base b q M0 w0 P' W' pv puts v' (gots ++ [x]) r ah ps m N M := by
  obtain ⟨s, B, g, k⟩ := app_frame (F' := own2 pv v') h.st (fun k e => .inr e) happ own.lt (fun k hk => by rcases hk with g | g; exact .inl (.inl g); exact .inr g) h.ge
  refine ⟨s, h.so, h.po.keeps (fun j e => k j (h.po.lt j e) (h.ne j e)), own, hP, fun j e e2 => ?_, g, h.bel.trans B, h.mm, hq⟩
  rcases happ.block with e3 | e3
  · exact h.ne j e (e3 ▸ e2)
  · have := e3 j e2; have := h.po.lt j e; omega

def PutT (c : Int) (base b q : Nat) (M0 : Mem) (w0 : World) (P : List El) (pv : Value) (puts : List El) (gv : Value) (gots : List El) (r : Raw) (ah : List El) (ps : List PK) (m N : Nat) (M : Mem) (x : El) (e : Ending) (W' : World) : Prop :=
  (∃ r', e = .returned (.int .i64 0) ∧ Two c base b (q + 1) M0 w0 (P ++ [x]) W' pv puts gv gots r' ah ps m (N + 1) M) ∨ (e = .returned (.int .i64 1) ∧ Two c base b (q + 1) M0 w0 P W' pv puts gv gots r ah ps m (N + 1) M)
theorem Two.put (h : Two c base b q M0 w0 P W pv puts gv gots r ah ps m N M) (hN : N ≤ 1000000) (hq : q < 4000) (x : El) (s : Value) (hx : x.ok) (hv : tRow.rv (mem W) [s] x.row) :
    Calls Try.prog 16 #[.pointer (some ⟨b, 0, none⟩), elV x s] W (PutT c base b q M0 w0 P pv puts gv gots r ah ps m N M x) := by
  refine (st_put h.st (h.so.fine hN) x s hx hv).mono fun e W' ⟨he, hs⟩ => ?_
  have hc := h.cnt
  have hct := h.ct
  rcases h.so.put hx (by omega) with ⟨g1, g2, g3, g4, g5⟩ | ⟨g1, g2, g3⟩
  · exact .inl ⟨_, by rw [he, g1], h.step (Mem.le_refl _) hs (g2.mono (Nat.le_succ N)) (by rw [g3, ← List.append_assoc, h.all]) (by simp; omega)⟩
  · rw [g2] at hs
    exact .inr ⟨by rw [he, g1], h.step (Mem.le_refl _) hs (h.so.mono (Nat.le_succ N)) h.all (by omega)⟩
/-- A step that changes nothing of all. -/
def StepT (c : Int) (base b q : Nat) (M0 : Mem) (w0 : World) (P : List El) (pv : Value) (puts : List El) (gv : Value) (gots : List El) (N : Nat) (M : Mem) (W' : World) : Prop :=
  ∃ r ah ps m, Two c base b q M0 w0 P W' pv puts gv gots r ah ps m (N + 1) M
theorem Two.send (h : Two c base b q M0 w0 P W pv puts gv gots r ah ps m N M) (hN : N ≤ 1000000) : Calls Try.prog 17 #[.pointer (some ⟨b, 0, none⟩)] W fun e W' => (∃ n k, e = .returned (.tuple #[.int .i64 n, .int .i64 k])) ∧ StepT c base b q M0 w0 P pv puts gv gots N M W' := by
  refine (st_send h.st (h.so.fine hN) (by omega)).mono fun e W' hs => ?_
  have h1 := h.so.mono (Nat.le_succ N)
  rcases hs with ⟨a1, a2, a3⟩ | ⟨a1, a2, a3, a4⟩ | ⟨a1, a2, a3, a, a4, a5⟩
  · exact ⟨⟨_, _, a2⟩, _, _, _, _, h.step (Mem.le_refl _) a3 h1 h.all h.ct⟩
  · exact ⟨⟨_, _, a3⟩, _, _, _, _, h.step (Mem.le_refl _) a4 h1 h.all h.ct⟩
  · exact ⟨⟨_, _, a3⟩, _, _, _, _, h.step (Mem.le_refl _) a5 (h.so.send a1 a2 a4) (by rw [contents_send]; exact h.all) h.ct⟩
theorem Two.deliv (h : Two c base b q M0 w0 P W pv puts gv gots r ah ps m N M) (hN : N ≤ 1000000) {n : Int} (hn : inI64 n) : Calls Try.prog 18 #[.pointer (some ⟨b, 0, none⟩), .int .i64 n] W fun e W' => (∃ k, e = .returned (.int .i64 k)) ∧ StepT c base b q M0 w0 P pv puts gv gots N M W' := by
  refine (st_deliv h.st (h.so.fine hN) (by omega) hn).mono fun e W' hs => ?_
  have h1 := h.so.mono (Nat.le_succ N)
  rcases hs with ⟨a1, a2, a3⟩ | ⟨a1, a2, a3, a4⟩ | ⟨a1, a', a2, a3, r', a4, a5⟩
  · exact ⟨⟨_, a2⟩, _, _, _, _, h.step (Mem.le_refl _) a3 h1 h.all h.ct⟩
  · exact ⟨⟨_, a3⟩, _, _, _, _, h.step (Mem.le_refl _) a4 h1 h.all h.ct⟩
  · obtain ⟨m', _, hs', hc, al⟩ := h.so.deliv a2 a4
    exact ⟨⟨_, a3⟩, _, _, _, _, h.step (Mem.le_refl _) a5 (hs'.mono (Nat.le_succ N)) (by rw [hc]; exact h.all) h.ct⟩
theorem Two.lose (h : Two c base b q M0 w0 P W pv puts gv gots r ah ps m N M) {n : Int} (hn : inI64 n) : Calls Try.prog 19 #[.pointer (some ⟨b, 0, none⟩), .int .i64 n] W fun e W' => (∃ k, e = .returned (.int .i64 k)) ∧ StepT c base b q M0 w0 P pv puts gv gots N M W' :=
  (st_lose h.st n hn).mono fun e W' ⟨he, hs⟩ => ⟨⟨_, he⟩, _, _, _, _, h.step (Mem.le_refl _) hs (h.so.mono (Nat.le_succ N)) h.all h.ct⟩
theorem Two.resize (h : Two c base b q M0 w0 P W pv puts gv gots r ah ps m N M) (n : Int) : Calls Try.prog 21 #[.pointer (some ⟨b, 0, none⟩), .int .i64 n] W fun e W' => (∃ k, e = .returned (.int .i64 k)) ∧ StepT c base b q M0 w0 P pv puts gv gots N M W' := by
  refine (st_resize h.st n).mono fun e W' ⟨he, hs⟩ => ?_
  have h1 := h.so.mono (Nat.le_succ N)
  by_cases hn : 1 ≤ n ∧ n ≤ 100
  · rw [if_pos hn] at hs
    exact ⟨⟨_, he⟩, _, _, _, _, h.step (Mem.le_refl _) hs (h1.size n hn) h.all h.ct⟩
  · rw [if_neg hn] at hs
    exact ⟨⟨_, he⟩, _, _, _, _, h.step (Mem.le_refl _) hs h1 h.all h.ct⟩
def RecvT (c : Int) (base b q : Nat) (M0 : Mem) (w0 : World) (P : List El) (pv : Value) (puts : List El) (gv : Value) (gots : List El) (N : Nat) (e : Ending) (W' : World) : Prop :=
  (∃ M', e = .returned (.tuple #[elV noEl (.slice none 0 0), .int .i64 8]) ∧ StepT c base b q M0 w0 P pv puts gv gots N M' W') ∨
  ∃ M' x a cp r' ah' ps' m', e = .returned (.tuple #[elV x (.slice a x.row.length cp), .int .i64 0]) ∧ tRow.rv M' [.slice a x.row.length cp] x.row ∧ x.ok ∧ P = (gots ++ [x]) ++ contentsOf r' ah' ps' ∧
    Two c base b q M0 w0 (gots ++ contentsOf r' ah' ps') W' pv puts gv gots r' ah' ps' m' (N + 1) M'
theorem Two.recv (h : Two c base b q M0 w0 P W pv puts gv gots r ah ps m N M) (hN : N ≤ 1000000) : Calls Try.prog 20 #[.pointer (some ⟨b, 0, none⟩)] W (RecvT c base b q M0 w0 P pv puts gv gots N) := by
  refine (st_recv h.st (h.so.fine hN)).mono fun e W' ⟨M', hm, hs, ho⟩ => ?_
  rcases ho with ⟨hb, rfl⟩ | ⟨i, is, a, cp, hb, rfl, hr⟩
  · have e : recvR r = r := by unfold recvR; rw [hb]
    rw [e] at hs
    exact .inl ⟨M', rfl, _, _, _, _, h.step hm hs (h.so.mono (Nat.le_succ N)) h.all h.ct⟩
  · obtain ⟨ah', ps', m', hs', hc, g1, g2, g3⟩ := h.so.recv hb
    have hin : i.el ∈ contentsOf r ah ps := by rw [hc]; simp
    have hP : P = (gots ++ [i.el]) ++ contentsOf (recvR r) ah' ps' := by rw [← h.all, hc]; simp
    refine .inr ⟨M', i.el, a, cp, recvR r, ah', ps', m', rfl, hr, (h.so.ok _ hin).2, hP, h.step hm hs (hs'.mono (Nat.le_succ N)) rfl ?_⟩
    have := h.ct
    rw [hP] at this
    simp at this ⊢; omega
end
theorem tElIn_one {M : Mem} : ∀ m cs x, (tIn M tEl).rv m cs x → ∀ u ∈ cs, u.oneCell' = true := fun m cs x h u hu => by
  obtain ⟨s, rfl, _, hr⟩ := h
  obtain ⟨a, cap, rfl, _⟩ := slice_form hr
  simp at hu; rcases hu with rfl | rfl | rfl | rfl | rfl <;> rfl
end Go.Proofs.Ytfkphdmnelchmaa
/- The reference's wire: readings, rows made anew. -/
namespace Go.Proofs.Ytfkphdmnelchmaa
open Go.RowKit Go.Maps

structure RP where
  num : Int
  els : List El
  dl : Bool
structure RW where
  size : Int
  room : Int
  credits : Int
  next : Int
  ahead : List El
  queue : List El
  pk : List RP
def tRP : Ty RP := ⟨3, fun m cs x => ∃ s, cs = [.int .i64 x.num, s, .bool x.dl] ∧ inI64 x.num ∧ tEls.rv m [s] x.els,
  fun _ _ _ h => by obtain ⟨s, rfl, _⟩ := h; rfl, fun m m' cs x hm h => by obtain ⟨s, e, i, r⟩ := h; exact ⟨s, e, i, tEls.mono _ _ _ _ hm r⟩⟩
@[reducible] def wV (w : RW) (a q p : Value) : Value := .agg #[.int .i64 w.size, .int .i64 w.room, .int .i64 w.credits, .int .i64 w.next, a, q, p]
structure RwAt (m : Mem) (w : RW) (a q p : Value) : Prop where
  i1 : inI64 w.size
  i2 : inI64 w.room
  i3 : inI64 w.credits
  i4 : inI64 w.next
  ha : tEls.rv m [a] w.ahead
  hq : tEls.rv m [q] w.queue
  hp : (tSlice tRP).rv m [p] w.pk
theorem RwAt.mono {m m' : Mem} {w : RW} {a q p : Value} (h : RwAt m w a q p) (hm : m.le m') : RwAt m' w a q p :=
  ⟨h.i1, h.i2, h.i3, h.i4, tEls.mono _ _ _ _ hm h.ha, tEls.mono _ _ _ _ hm h.hq, (tSlice tRP).mono _ _ _ _ hm h.hp⟩

open Classical in
noncomputable def joinM (M : Mem) (W W' : World) : Mem := fun b o => if W.heap.size ≤ b then _root_.Go.Proofs.Ytfkphdmnelchmaa.mem W' b o else M b o
section
variable {M M2 : Mem} {W W' W1 w w' : World}
theorem joinM_le (hM : M.le (mem W)) : M.le (joinM M W W') := fun b o v e => by
  have := mem_lt (hM _ _ _ e)
  unfold joinM
  rw [if_neg (by omega)]; exact e
theorem joinM_new : ((mem W').on (W.heap.size ≤ ·)).le (joinM M W W') := fun b o v e => by
  obtain ⟨hs, e⟩ := Mem.of_on e
  unfold joinM
  rw [if_pos hs]; exact e
theorem joinM_to (h1 : M.le M2) (h2 : ((mem W').on (W.heap.size ≤ ·)).le M2) : (joinM M W W').le M2 := fun b o v e => by
  unfold joinM at e
  split at e
  · rename_i h; exact h2 _ _ _ (Mem.on_some e h)
  · exact h1 _ _ _ e
theorem own_join {α : Type} {t : Ty α} {T : TypeId} {v : Value} {xs : List α} (hM : M.le (mem W)) (h : OwnsO (tIn M t) W' T v xs) (hg : ∀ k, v.ownBlock = some k → W.heap.size ≤ k) : (tSlice t).rv (joinM M W W') [v] xs :=
  slice_in ((tSlice (tIn M t)).mono _ _ _ _ joinM_new (h.rv (tIn_flat _ _) (S := (W.heap.size ≤ ·)) hg)) (joinM_le hM)

/-- A row made since W1. -/
structure Mk {α : Type} (t : Ty α) (T : TypeId) (W1 w : World) (v : Value) (xs : List α) : Prop where
  own : OwnsO t w T v xs
  ge : ∀ k, v.ownBlock = some k → W1.heap.size ≤ k
  bel : Below W1.heap.size W1 w
variable {α : Type} {t : Ty α} {T : TypeId} {v v' : Value} {xs ys : List α}
theorem Mk.pure (h : Mk t T W1 w v xs) (hb : Below w.heap.size w w') : Mk t T W1 w' v xs :=
  ⟨h.own.keeps (fun k e => hb.block k (h.own.lt k e)), h.ge, h.bel.trans (hb.mono h.bel.size)⟩
theorem Mk.add {n m : Nat} (h : Mk t T W1 w v xs) (own : OwnsO t w' T v' ys) (happ : AppAt w w' v n m v') : Mk t T W1 w' v' ys :=
  ⟨own, fun k e => by
    rcases happ.block with g | g
    · exact h.ge k (g ▸ e)
    · exact Nat.le_trans h.bel.size (g k e), h.bel.grown happ.grown h.bel.size (fun k e => h.ge k e)⟩
theorem OwnsO.lit0 (t : Ty α) (w : World) (T : TypeId) : OwnsO t (w.alloc (.cells #[] T)) T (.slice (some ⟨w.heap.size, 0, none⟩) 0 0) [] :=
  ⟨[], rfl, fun k h => absurd h (by simp), .inr ⟨w.heap.size, 0, 0, #[], rfl, heap_alloc_new w _, by simp, by simp, by simp, by simp⟩⟩
theorem Mk.lit0 (t : Ty α) (w : World) (T : TypeId) : Mk t T w (w.alloc (.cells #[] T)) (.slice (some ⟨w.heap.size, 0, none⟩) 0 0) [] :=
  ⟨OwnsO.lit0 t w T, fun k e => by cases e; exact Nat.le_refl _, (Below.refl _ _).alloc (Nat.le_refl _) _⟩
end
theorem infoRP (M : Mem) : (Try.prog.info? 126).map (fun i => (i.zero, i.size, i.bytes)) = some (some (.agg #[.int .i64 0, .slice none 0 0, .bool false]), (tIn M tRP).sz, 40) := by kernel_rfl
theorem tRPIn_one {M : Mem} : ∀ m cs x, (tIn M tRP).rv m cs x → ∀ u ∈ cs, u.oneCell' = true := fun m cs x h u hu => by
  obtain ⟨s, rfl, _, hr⟩ := h
  obtain ⟨a, cap, rfl, _⟩ := slice_form hr
  simp at hu; rcases hu with rfl | rfl | rfl <;> rfl

/-- A struct of seven cells is stored. -/
def store7 (w : World) (b : Nat) (v0 v1 v2 v3 v4 v5 v6 : Value) : World :=
  ((((((w.setCell ⟨b, 0, none⟩ v0).setCell ⟨b, 1, none⟩ v1).setCell ⟨b, 2, none⟩ v2).setCell ⟨b, 3, none⟩ v3).setCell ⟨b, 4, none⟩ v4).setCell ⟨b, 5, none⟩ v5).setCell ⟨b, 6, none⟩ v6
theorem store7_block {w : World} {b : Nat} {T : TypeId} {a0 a1 a2 a3 a4 a5 a6 : Value} (h : w.heap[b]? = some (.cells #[a0, a1, a2, a3, a4, a5, a6] T (0, 0))) (v0 v1 v2 v3 v4 v5 v6 : Value) : (store7 w b v0 v1 v2 v3 v4 v5 v6).heap[b]? = some (.cells #[v0, v1, v2, v3, v4, v5, v6] T (0, 0)) := by
  have h0 : (w.setCell ⟨b, 0, none⟩ v0).heap[b]? = some (.cells #[v0, a1, a2, a3, a4, a5, a6] T (0, 0)) := set_block h
  have h1 : ((w.setCell ⟨b, 0, none⟩ v0).setCell ⟨b, 1, none⟩ v1).heap[b]? = some (.cells #[v0, v1, a2, a3, a4, a5, a6] T (0, 0)) := set_block h0
  have h2 : (((w.setCell ⟨b, 0, none⟩ v0).setCell ⟨b, 1, none⟩ v1).setCell ⟨b, 2, none⟩ v2).heap[b]? = some (.cells #[v0, v1, v2, a3, a4, a5, a6] T (0, 0)) := set_block h1
  have h3 : ((((w.setCell ⟨b, 0, none⟩ v0).setCell ⟨b, 1, none⟩ v1).setCell ⟨b, 2, none⟩ v2).setCell ⟨b, 3, none⟩ v3).heap[b]? = some (.cells #[v0, v1, v2, v3, a4, a5, a6] T (0, 0)) := set_block h2
  have h4 : (((((w.setCell ⟨b, 0, none⟩ v0).setCell ⟨b, 1, none⟩ v1).setCell ⟨b, 2, none⟩ v2).setCell ⟨b, 3, none⟩ v3).setCell ⟨b, 4, none⟩ v4).heap[b]? = some (.cells #[v0, v1, v2, v3, v4, a5, a6] T (0, 0)) := set_block h3
  have h5 : ((((((w.setCell ⟨b, 0, none⟩ v0).setCell ⟨b, 1, none⟩ v1).setCell ⟨b, 2, none⟩ v2).setCell ⟨b, 3, none⟩ v3).setCell ⟨b, 4, none⟩ v4).setCell ⟨b, 5, none⟩ v5).heap[b]? = some (.cells #[v0, v1, v2, v3, v4, v5, a6] T (0, 0)) := set_block h4
  have h6 : (((((((w.setCell ⟨b, 0, none⟩ v0).setCell ⟨b, 1, none⟩ v1).setCell ⟨b, 2, none⟩ v2).setCell ⟨b, 3, none⟩ v3).setCell ⟨b, 4, none⟩ v4).setCell ⟨b, 5, none⟩ v5).setCell ⟨b, 6, none⟩ v6).heap[b]? = some (.cells #[v0, v1, v2, v3, v4, v5, v6] T (0, 0)) := set_block h5
  exact h6
theorem keep1 {w w1 : World} {b : Nat} (h : Keeps (fun k => k = b) w w1) (i : Nat) (v : Value) : Keeps (fun k => k = b) w (w1.setCell ⟨b, i, none⟩ v) := h.setCell (p := ⟨b, i, none⟩) (fun _ => rfl) v
theorem store7_keeps (w : World) (b : Nat) (v0 v1 v2 v3 v4 v5 v6 : Value) : Keeps (fun k => k = b) w (store7 w b v0 v1 v2 v3 v4 v5 v6) := by
  unfold store7
  exact keep1 (keep1 (keep1 (keep1 (keep1 (keep1 (keep1 (Keeps.refl (fun k => k = b) w) 0 v0) 1 v1) 2 v2) 3 v3) 4 v4) 5 v5) 6 v6
theorem Mk.store {α : Type} {t : Ty α} {T : TypeId} {W1 w w' : World} {v : Value} {xs : List α} {b : Nat} (h : Mk t T W1 w v xs) (hk : Keeps (fun k => k = b) w w') (hne : v.ownBlock ≠ some b) (hb : ∀ k, k < W1.heap.size → k ≠ b) : Mk t T W1 w' v xs :=
  ⟨h.own.keeps (fun k e => hk.block k (h.own.lt k e) (fun e2 => hne (e2 ▸ e))), h.ge, ⟨hk.os.trans h.bel.os, hk.tape.trans h.bel.tape, hk.output.trans h.bel.output, Nat.le_trans h.bel.size hk.size, fun k hl => (hk.block k (Nat.lt_of_lt_of_le hl h.bel.size) (hb k hl)).trans (h.bel.block k hl)⟩⟩
/-- The reference's wire of a wire. -/
def refOf (r : Raw) (ah : List El) (ps : List PK) : RW := ⟨r.size, r.room, r.credits, r.next, ah, r.queue, ps.map fun p => ⟨p.num, p.els, p.dl⟩⟩
def rcont (w : RW) : List El := w.ahead ++ w.pk.flatMap (·.els) ++ w.queue
theorem rcont_ref (r : Raw) (ah : List El) (ps : List PK) : rcont (refOf r ah ps) = contentsOf r ah ps := by
  unfold rcont contentsOf refOf
  rw [List.flatMap_map]
end Go.Proofs.Ytfkphdmnelchmaa
/- The reference's wire: what is told of it. -/
namespace Go.Proofs.Ytfkphdmnelchmaa
open Go.RowKit Go.Maps

theorem rp_at {m : Mem} {b o : Nat} {x : RP} (h : tRP.at m b o x) : ∃ a c, c ≤ 9223372036854775807 ∧ m b o = some (.int .i64 x.num) ∧ m b (o + 1) = some (.slice a x.els.length c) ∧ m b (o + 2) = some (.bool x.dl) ∧ inI64 x.num ∧ tEls.rv m [.slice a x.els.length c] x.els := by
  obtain ⟨cs, hc, s, rfl, i, hr⟩ := h
  obtain ⟨a, c, rfl, _, hm, hr⟩ := slice_form hr
  exact ⟨a, c, (by unfold maxLen at hm; exact hm), hc 0 _ rfl, hc 1 _ rfl, hc 2 _ rfl, i, hr⟩
theorem tEls_in {M : Mem} {v : Value} {xs : List El} (h : tEls.rv M [v] xs) : (tSlice (tIn M tEl)).rv M [v] xs := by
  obtain ⟨a, cap, h1, h2, h3, h4⟩ := h
  refine ⟨a, cap, h1, h2, h3, fun hp => ?_⟩
  obtain ⟨b, o, ha, hat⟩ := h4 hp
  exact ⟨b, o, ha, fun k hk => let ⟨cs, hc, hr⟩ := hat k hk; ⟨cs, hc, hr⟩⟩
theorem tRPs_in {M : Mem} {v : Value} {xs : List RP} (h : (tSlice tRP).rv M [v] xs) : (tSlice (tIn M tRP)).rv M [v] xs := by
  obtain ⟨a, cap, h1, h2, h3, h4⟩ := h
  refine ⟨a, cap, h1, h2, h3, fun hp => ?_⟩
  obtain ⟨b, o, ha, hat⟩ := h4 hp
  exact ⟨b, o, ha, fun k hk => let ⟨cs, hc, hr⟩ := hat k hk; ⟨cs, hc, hr⟩⟩

set_option maxRecDepth 100000 in
set_option maxHeartbeats 4000000 in
theorem refContents_any (w : RW) (a q p : Value) (M : Mem) (W : World) (hM : M.le (mem W)) (h : RwAt M w a q p) (hl : (rcont w).length ≤ 100000) :
    Calls Try.prog 62 #[wV w a q p] W fun e W' => ∃ v, e = .returned v ∧ OwnsO (tIn M tEl) W' 42 v (rcont w) ∧ (∀ k, v.ownBlock = some k → W.heap.size ≤ k) ∧ Below W.heap.size W W' := by
  obtain ⟨aa, ca, rfl, hla, hma, hra⟩ := slice_form h.ha
  obtain ⟨aq, cq, rfl, hlq, hmq, hrq⟩ := slice_form h.hq
  obtain ⟨ap, cp, rfl, hlp, hmp, hrp⟩ := slice_form h.hp
  have hca : ca ≤ 9223372036854775807 := by unfold maxLen at hma; exact hma
  have hcq : cq ≤ 9223372036854775807 := by unfold maxLen at hmq; exact hmq
  have hcp : cp ≤ 9223372036854775807 := by unfold maxLen at hmp; exact hmp
  have HA := Lib.hid hra
  have HQ := Lib.hid hrq
  have HP := Lib.hid hrp
  have HW := Lib.hid h
  have HM := Lib.hid hM
  clear hma hmq hmp hra hrq hrp h hM
  have hlen : w.ahead.length + (w.pk.flatMap (·.els)).length + w.queue.length ≤ 100000 := by unfold rcont at hl; simp only [List.length_append] at hl; omega
  clear hl
  have hB1 : ∀ o, Below W.heap.size W (W.alloc o) := fun o => (Below.refl _ _).alloc (Nat.le_refl _) o
  have HB1 := Lib.hid (hB1 (.cells #[.int .i64 w.size, .int .i64 w.room, .int .i64 w.credits, .int .i64 w.next, .slice aa w.ahead.length ca, .slice aq w.queue.length cq, .slice ap w.pk.length cp] 56))
  have y := heap_alloc_new W (.cells #[.int .i64 w.size, .int .i64 w.room, .int .i64 w.credits, .int .i64 w.next, .slice aa w.ahead.length ca, .slice aq w.queue.length cq, .slice ap w.pk.length cp] 56)
  clear hB1
  go_enter Try.func62, Try.ntmps62
  go_upto_region 1 with fail
  generalize (W.alloc (.cells #[.int .i64 w.size, .int .i64 w.room, .int .i64 w.credits, .int .i64 w.next, .slice aa w.ahead.length ca, .slice aq w.queue.length cq, .slice ap w.pk.length cp] 56)) = Y at HB1 y ⊢
  have hmY : M.le (mem Y) := Mem.le_trans HM.out (below_mem HB1.out)
  have y4 : ∀ wq, Below Y.heap.size Y wq → wq.cell? ⟨W.heap.size, 4, none⟩ = some (.slice aa w.ahead.length ca) := fun wq h => below_mem h _ _ _ (mem_cells y 4)
  have y5 : ∀ wq, Below Y.heap.size Y wq → wq.cell? ⟨W.heap.size, 5, none⟩ = some (.slice aq w.queue.length cq) := fun wq h => below_mem h _ _ _ (mem_cells y 5)
  have y6 : ∀ wq, Below Y.heap.size Y wq → wq.cell? ⟨W.heap.size, 6, none⟩ = some (.slice ap w.pk.length cp) := fun wq h => below_mem h _ _ _ (mem_cells y 6)
  have y4' := y4 (Y.alloc (.cells #[] 42)) ((Below.refl _ _).alloc (Nat.le_refl _) _)
  have HY5 := Lib.hid y5
  have HY6 := Lib.hid y6
  have HMY := Lib.hid (fun wq (h : Below Y.heap.size Y wq) => Mem.le_trans hmY (below_mem h))
  have HK := Lib.hid (Mk.lit0 (tIn M tEl) Y 42)
  have HL1 := Lib.hid (show ([] : List El).length + w.ahead.length ≤ maxLen by unfold maxLen; simp; omega)
  have HL2 := Lib.hid (show (([] : List El).length + w.ahead.length) * 56 ≤ 140737488355328 by simp; omega)
  have HRA := Lib.hid ((tSlice (tIn M tEl)).mono _ _ _ _ (HMY.out _ HK.out.bel) (tEls_in HA.out))
  clear y y4 y5 y6 hmY
  go_wp2_with (at_builtin; refine wpList_append_os rfl (.tmp 5) (.tmp 7) 36 rfl (tIn M tEl) (tIn_flat _ _) tElIn_one Try.underlying36 (infoEl _) rfl (Nat.succ_pos 4) _ [] w.ahead rfl HK.out.own _ _ _ rfl rfl HRA.out HL1.out HL2.out ?_)
  intro v1 w1 own1 happ1
  obtain ⟨a1, c1, rfl, _⟩ := own1.form
  have HK1 := Lib.hid (HK.out.add own1 happ1)
  clear own1 happ1 HK HL1 HL2 HRA y4'
  go_wp2
  go_loopg [3, 4] w.pk.length (fun g u i wr => ∃ k c' ac, ∃ outs : List El, k + g = w.pk.length ∧ i = .int .i64 k ∧ u = .slice ac outs.length c' ∧ Hid (outs = [] ++ w.ahead ++ (w.pk.take k).flatMap (·.els)) ∧ Hid (Mk (tIn M tEl) 42 Y wr (.slice ac outs.length c') outs))
  case atStart => exact ⟨0, c1, a1, _, by omega, by go_num, rfl, Lib.hid (by simp), HK1⟩
  case round =>
    clear HK1
    obtain ⟨k, c', ac, outs, hkg, rfl, rfl, HO, HK⟩ := hrel
    have y6 := HY6.out wr HK.out.bel
    have ho1 : outs.length ≤ w.ahead.length + (w.pk.flatMap (·.els)).length := by
      rw [HO.out, List.length_append, List.length_append]; have := len_flat_take (f := fun p : RP => p.els) w.pk k; simp only [List.length_nil]; omega
    cases gk with
    | zero =>
      obtain rfl : k = w.pk.length := by omega
      have y5 := HY5.out wr HK.out.bel
      have HL1 := Lib.hid (show outs.length + w.queue.length ≤ maxLen by unfold maxLen; omega)
      have HL2 := Lib.hid (show (outs.length + w.queue.length) * 56 ≤ 140737488355328 by omega)
      have HRQ := Lib.hid ((tSlice (tIn M tEl)).mono _ _ _ _ (HMY.out _ HK.out.bel) (tEls_in HQ.out))
      have HE := Lib.hid (show outs ++ w.queue = rcont w by rw [HO.out, List.take_length]; simp [rcont])
      go_wp2_with (at_builtin; refine wpList_append_os rfl (.tmp 24) (.tmp 26) 36 rfl (tIn M tEl) (tIn_flat _ _) tElIn_one Try.underlying36 (infoEl _) rfl (Nat.succ_pos 4) _ outs w.queue rfl HK.out.own _ _ _ rfl rfl HRQ.out HL1.out HL2.out ?_)
      intro v1 w1 own1 happ1
      have HK1 := Lib.hid (HK.out.add own1 happ1)
      rw [HE.out] at HK1
      clear own1 happ1 HK HL1 HL2 HRQ y5 y6
      go_wp2
      go_ret
      exact ⟨_, rfl, HK1.out.own, fun k e => Nat.le_trans HB1.out.size (HK1.out.ge k e), HB1.out.trans (HK1.out.bel.mono HB1.out.size)⟩
    | succ g2 =>
      have hlt : k < w.pk.length := by omega
      obtain ⟨b, o, rfl, hat⟩ := slice_at HP.out hlt
      obtain ⟨ar, cr, hcr, q0, q1, q2, hin, hr⟩ := rp_at hat
      have e1 : wr.cell? ⟨b, o + k * 3 + 1, none⟩ = some (.slice ar w.pk[k].els.length cr) := HMY.out wr HK.out.bel _ _ _ q1
      have hlm := len_mem_flat (f := fun p : RP => p.els) (List.getElem_mem hlt)
      have HS := Lib.hid (show outs ++ w.pk[k].els = [] ++ w.ahead ++ (w.pk.take (k + 1)).flatMap (·.els) by rw [HO.out, List.take_succ_eq_append_getElem hlt, List.flatMap_append]; simp)
      have HL1 := Lib.hid (show outs.length + w.pk[k].els.length ≤ maxLen by unfold maxLen; omega)
      have HL2 := Lib.hid (show (outs.length + w.pk[k].els.length) * 56 ≤ 140737488355328 by omega)
      have HR := Lib.hid ((tSlice (tIn M tEl)).mono _ _ _ _ (HMY.out _ HK.out.bel) (tEls_in hr))
      clear hat q0 q1 q2 hin hr hlm
      generalize w.pk[k].els = ys at *
      go_wp2_with (at_builtin; refine wpList_append_os rfl (.tmp 16) (.tmp 22) 36 rfl (tIn M tEl) (tIn_flat _ _) tElIn_one Try.underlying36 (infoEl _) rfl (Nat.succ_pos 4) _ outs ys rfl HK.out.own _ _ _ rfl rfl HR.out HL1.out HL2.out ?_)
      intro v1 w1 own1 happ1
      obtain ⟨a2, c2, rfl, _⟩ := own1.form
      have HK1 := Lib.hid (HK.out.add own1 happ1)
      clear own1 happ1 HK HL1 HL2 HR e1 y6
      go_wp2
      go_roundg g2
      case measure => omega
      case rel => exact ⟨k + 1, c2, a2, _, by omega, by go_num, rfl, HS, HK1⟩
end Go.Proofs.Ytfkphdmnelchmaa
/- The reference's wire: Buffered, Way, Waits, Spilled, find, Lose. -/
namespace Go.Proofs.Ytfkphdmnelchmaa
open Go.RowKit Go.Maps

def spillR (q room : Int) : Int := if 0 < q - room then q - room else 0
def loseK (d : Bool) : Int := if d = true then 8 else 0
theorem infoI20 : (Try.prog.info? 3).map (fun i => (i.zero, i.size, i.bytes)) = some (some (.int .i64 0), 1, 8) := by kernel_rfl
def rbuf (w : RW) : List El := w.ahead ++ (w.pk.takeWhile (·.dl)).flatMap (·.els)
def rway (w : RW) : List Int := (w.pk.filter (fun p => !p.dl)).map (·.num)
theorem takeWhile_take {l : List RP} {k : Nat} (hk : k ≤ l.length) (h1 : ∀ j, (hj : j < l.length) → j < k → l[j].dl = true) (h2 : ∀ h : k < l.length, l[k].dl = false) : l.takeWhile (·.dl) = l.take k := by
  induction l generalizing k with
  | nil => simp
  | cons x l ih =>
    cases k with
    | zero => have := h2 (by simp); simp at this; simp [this]
    | succ k =>
      have hx := h1 0 (by simp) (by omega)
      simp only [List.getElem_cons_zero] at hx
      rw [List.takeWhile_cons_of_pos hx, List.take_succ_cons, ih (by simpa using hk) (fun j hj hjk => by have := h1 (j + 1) (by simpa using hj) (by omega); rwa [List.getElem_cons_succ] at this) (fun h => by have := h2 (by simpa using h); rwa [List.getElem_cons_succ] at this)]

theorem refWaits_any (w : RW) (a q p : Value) (M : Mem) (W : World) (hM : M.le (mem W)) (h : RwAt M w a q p) : Calls Try.prog 64 #[wV w a q p] W fun e W' => e = .returned (.bool (decide (0 < w.queue.length) && w.credits == 0)) ∧ Below W.heap.size W W' := by
  obtain ⟨aa, ca, rfl, hla, hma, hra⟩ := slice_form h.ha
  obtain ⟨aq, cq, rfl, hlq, hmq, hrq⟩ := slice_form h.hq
  obtain ⟨ap, cp, rfl, hlp, hmp, hrp⟩ := slice_form h.hp
  have hca : ca ≤ 9223372036854775807 := by unfold maxLen at hma; exact hma
  have hcq : cq ≤ 9223372036854775807 := by unfold maxLen at hmq; exact hmq
  have hcp : cp ≤ 9223372036854775807 := by unfold maxLen at hmp; exact hmp
  have HA := Lib.hid hra
  have HQ := Lib.hid hrq
  have HP := Lib.hid hrp
  have HW := Lib.hid h
  have HM := Lib.hid hM
  clear hma hmq hmp hra hrq hrp h hM
  have hB1 : ∀ o, Below W.heap.size W (W.alloc o) := fun o => (Below.refl _ _).alloc (Nat.le_refl _) o
  have HB1 := Lib.hid (hB1 (.cells #[.int .i64 w.size, .int .i64 w.room, .int .i64 w.credits, .int .i64 w.next, .slice aa w.ahead.length ca, .slice aq w.queue.length cq, .slice ap w.pk.length cp] 56))
  have y := heap_alloc_new W (.cells #[.int .i64 w.size, .int .i64 w.room, .int .i64 w.credits, .int .i64 w.next, .slice aa w.ahead.length ca, .slice aq w.queue.length cq, .slice ap w.pk.length cp] 56)
  clear hB1
  go_enter Try.func64, Try.ntmps64
  go_upto_region 1 with fail
  generalize (W.alloc (.cells #[.int .i64 w.size, .int .i64 w.room, .int .i64 w.credits, .int .i64 w.next, .slice aa w.ahead.length ca, .slice aq w.queue.length cq, .slice ap w.pk.length cp] 56)) = Y at HB1 y ⊢
  have y2 : Y.cell? ⟨W.heap.size, 2, none⟩ = some (.int .i64 w.credits) := mem_cells y 2
  have y5 : Y.cell? ⟨W.heap.size, 5, none⟩ = some (.slice aq w.queue.length cq) := mem_cells y 5
  clear y
  by_cases h0 : 0 < w.queue.length
  · have h0' : (0 : Int) < w.queue.length := by omega
    go_wp2
    go_ret
    exact ⟨by simp [h0], HB1.out⟩
  · have h0' : ¬ (0 : Int) < w.queue.length := by omega
    go_wp2
    go_ret
    exact ⟨by simp [h0], HB1.out⟩

theorem refSpilled_any (w : RW) (a q p : Value) (M : Mem) (W : World) (hM : M.le (mem W)) (h : RwAt M w a q p) (hr : 0 ≤ w.room ∧ w.room ≤ 1000000) (hq : w.queue.length ≤ 1000000) : Calls Try.prog 66 #[wV w a q p] W fun e W' => e = .returned (.int .i64 (spillR w.queue.length w.room)) ∧ Below W.heap.size W W' := by
  obtain ⟨aa, ca, rfl, hla, hma, hra⟩ := slice_form h.ha
  obtain ⟨aq, cq, rfl, hlq, hmq, hrq⟩ := slice_form h.hq
  obtain ⟨ap, cp, rfl, hlp, hmp, hrp⟩ := slice_form h.hp
  have hca : ca ≤ 9223372036854775807 := by unfold maxLen at hma; exact hma
  have hcq : cq ≤ 9223372036854775807 := by unfold maxLen at hmq; exact hmq
  have hcp : cp ≤ 9223372036854775807 := by unfold maxLen at hmp; exact hmp
  have HA := Lib.hid hra
  have HQ := Lib.hid hrq
  have HP := Lib.hid hrp
  have HW := Lib.hid h
  have HM := Lib.hid hM
  clear hma hmq hmp hra hrq hrp h hM
  have hB1 : ∀ o, Below W.heap.size W (W.alloc o) := fun o => (Below.refl _ _).alloc (Nat.le_refl _) o
  have HB1 := Lib.hid (hB1 (.cells #[.int .i64 w.size, .int .i64 w.room, .int .i64 w.credits, .int .i64 w.next, .slice aa w.ahead.length ca, .slice aq w.queue.length cq, .slice ap w.pk.length cp] 56))
  have y := heap_alloc_new W (.cells #[.int .i64 w.size, .int .i64 w.room, .int .i64 w.credits, .int .i64 w.next, .slice aa w.ahead.length ca, .slice aq w.queue.length cq, .slice ap w.pk.length cp] 56)
  clear hB1
  go_enter Try.func66, Try.ntmps66
  go_upto_region 1 with fail
  generalize (W.alloc (.cells #[.int .i64 w.size, .int .i64 w.room, .int .i64 w.credits, .int .i64 w.next, .slice aa w.ahead.length ca, .slice aq w.queue.length cq, .slice ap w.pk.length cp] 56)) = Y at HB1 y ⊢
  have y1 : Y.cell? ⟨W.heap.size, 1, none⟩ = some (.int .i64 w.room) := mem_cells y 1
  have y5 : Y.cell? ⟨W.heap.size, 5, none⟩ = some (.slice aq w.queue.length cq) := mem_cells y 5
  clear y
  by_cases h0 : 0 < (w.queue.length : Int) - w.room
  · go_wp2
    go_ret
    exact ⟨by unfold spillR; rw [if_pos h0]; rfl, HB1.out⟩
  · go_wp2
    go_ret
    exact ⟨by unfold spillR; rw [if_neg (by omega)]; rfl, HB1.out⟩

def FindOut (l : List RP) (n : Int) (i : Int) : Prop := (∃ k : Nat, ∃ h : k < l.length, i = k ∧ l[k].num = n ∧ ∀ j, (hj : j < l.length) → j < k → l[j].num ≠ n) ∨ (i = -1 ∧ ∀ p ∈ l, p.num ≠ n)
set_option maxRecDepth 100000 in
set_option maxHeartbeats 2000000 in
theorem refFind_any (w : RW) (a q p : Value) (M : Mem) (W : World) (hM : M.le (mem W)) (h : RwAt M w a q p) (n : Int) : Calls Try.prog 73 #[wV w a q p, .int .i64 n] W fun e W' => (∃ i, e = .returned (.int .i64 i) ∧ FindOut w.pk n i) ∧ Below W.heap.size W W' := by
  obtain ⟨aa, ca, rfl, hla, hma, hra⟩ := slice_form h.ha
  obtain ⟨aq, cq, rfl, hlq, hmq, hrq⟩ := slice_form h.hq
  obtain ⟨ap, cp, rfl, hlp, hmp, hrp⟩ := slice_form h.hp
  have hca : ca ≤ 9223372036854775807 := by unfold maxLen at hma; exact hma
  have hcq : cq ≤ 9223372036854775807 := by unfold maxLen at hmq; exact hmq
  have hcp : cp ≤ 9223372036854775807 := by unfold maxLen at hmp; exact hmp
  have HA := Lib.hid hra
  have HQ := Lib.hid hrq
  have HP := Lib.hid hrp
  have HW := Lib.hid h
  have HM := Lib.hid hM
  clear hma hmq hmp hra hrq hrp h hM
  have hB1 : ∀ o, Below W.heap.size W (W.alloc o) := fun o => (Below.refl _ _).alloc (Nat.le_refl _) o
  have HB1 := Lib.hid (hB1 (.cells #[.int .i64 w.size, .int .i64 w.room, .int .i64 w.credits, .int .i64 w.next, .slice aa w.ahead.length ca, .slice aq w.queue.length cq, .slice ap w.pk.length cp] 56))
  have y := heap_alloc_new W (.cells #[.int .i64 w.size, .int .i64 w.room, .int .i64 w.credits, .int .i64 w.next, .slice aa w.ahead.length ca, .slice aq w.queue.length cq, .slice ap w.pk.length cp] 56)
  clear hB1
  go_enter Try.func73, Try.ntmps73
  go_upto_region 1 with fail
  generalize (W.alloc (.cells #[.int .i64 w.size, .int .i64 w.room, .int .i64 w.credits, .int .i64 w.next, .slice aa w.ahead.length ca, .slice aq w.queue.length cq, .slice ap w.pk.length cp] 56)) = Y at HB1 y ⊢
  have y6 : Y.cell? ⟨W.heap.size, 6, none⟩ = some (.slice ap w.pk.length cp) := mem_cells y 6
  have hmY : M.le (mem Y) := Mem.le_trans HM.out (below_mem HB1.out)
  have HY := Lib.hid hmY
  clear y hmY
  go_wp2
  go_loopg [5] w.pk.length (fun g i wr => ∃ k : Nat, k + g = w.pk.length ∧ i = .int .i64 k ∧ Hid (∀ j, (hj : j < w.pk.length) → j < k → w.pk[j].num ≠ n) ∧ wr = Y)
  case atStart => exact ⟨0, by omega, by go_num, Lib.hid (fun j hj h => by omega), rfl⟩
  case round =>
    obtain ⟨k, hkg, rfl, HJ, rfl⟩ := hrel
    cases gk with
    | zero =>
      obtain rfl : k = w.pk.length := by omega
      go_wp2
      go_ret
      exact ⟨⟨-1, rfl, .inr ⟨rfl, fun p hp => by obtain ⟨j, hj, rfl⟩ := List.mem_iff_getElem.1 hp; exact HJ.out j hj hj⟩⟩, HB1.out⟩
    | succ g2 =>
      have hlt : k < w.pk.length := by omega
      obtain ⟨b, o, rfl, hat⟩ := slice_at HP.out hlt
      obtain ⟨ar, cr, hcr, q0, q1, q2, hin, hr⟩ := rp_at hat
      have e0 : wr.cell? ⟨b, o + k * 3, none⟩ = some (.int .i64 w.pk[k].num) := HY.out _ _ _ q0
      have HS := Lib.hid (fun (hne : w.pk[k].num ≠ n) => (fun j hj hjk => by
        by_cases e : j = k
        · subst e; exact hne
        · exact HJ.out j hj (by omega) : ∀ j, (hj : j < w.pk.length) → j < k + 1 → w.pk[j].num ≠ n))
      have HF := Lib.hid (fun (he : w.pk[k].num = n) => (.inl ⟨k, hlt, rfl, he, HJ.out⟩ : FindOut w.pk n k))
      clear hat q0 q1 q2 hin hr
      generalize w.pk[k].num = x at *
      by_cases hx : x = n
      · have HF2 := Lib.hid (HF.out hx)
        have hx' : (x == n) = true := by simpa using hx
        clear HS HF hx
        go_wp2
        try rw [Exit.noGoto_ret]
        go_ret
        exact ⟨⟨k, rfl, HF2.out⟩, HB1.out⟩
      · have HS2 := Lib.hid (HS.out hx)
        have hx' : (x == n) = false := by simpa using hx
        clear HS HF hx
        go_wp2
        go_roundg g2
        case measure => omega
        case rel => exact ⟨k + 1, by omega, by go_num, HS2, rfl⟩

set_option maxRecDepth 100000 in
set_option maxHeartbeats 4000000 in
theorem refBuffered_any (w : RW) (a q p : Value) (M : Mem) (W : World) (hM : M.le (mem W)) (h : RwAt M w a q p) (hl : (rcont w).length ≤ 100000) :
    Calls Try.prog 65 #[wV w a q p] W fun e W' => ∃ v, e = .returned v ∧ OwnsO (tIn M tEl) W' 42 v (rbuf w) ∧ (∀ k, v.ownBlock = some k → W.heap.size ≤ k) ∧ Below W.heap.size W W' := by
  obtain ⟨aa, ca, rfl, hla, hma, hra⟩ := slice_form h.ha
  obtain ⟨aq, cq, rfl, hlq, hmq, hrq⟩ := slice_form h.hq
  obtain ⟨ap, cp, rfl, hlp, hmp, hrp⟩ := slice_form h.hp
  have hca : ca ≤ 9223372036854775807 := by unfold maxLen at hma; exact hma
  have hcq : cq ≤ 9223372036854775807 := by unfold maxLen at hmq; exact hmq
  have hcp : cp ≤ 9223372036854775807 := by unfold maxLen at hmp; exact hmp
  have HA := Lib.hid hra
  have HQ := Lib.hid hrq
  have HP := Lib.hid hrp
  have HW := Lib.hid h
  have HM := Lib.hid hM
  clear hma hmq hmp hra hrq hrp h hM
  have hlen : w.ahead.length + (w.pk.flatMap (·.els)).length + w.queue.length ≤ 100000 := by unfold rcont at hl; simp only [List.length_append] at hl; omega
  clear hl
  have hB1 : ∀ o, Below W.heap.size W (W.alloc o) := fun o => (Below.refl _ _).alloc (Nat.le_refl _) o
  have HB1 := Lib.hid (hB1 (.cells #[.int .i64 w.size, .int .i64 w.room, .int .i64 w.credits, .int .i64 w.next, .slice aa w.ahead.length ca, .slice aq w.queue.length cq, .slice ap w.pk.length cp] 56))
  have y := heap_alloc_new W (.cells #[.int .i64 w.size, .int .i64 w.room, .int .i64 w.credits, .int .i64 w.next, .slice aa w.ahead.length ca, .slice aq w.queue.length cq, .slice ap w.pk.length cp] 56)
  clear hB1
  go_enter Try.func65, Try.ntmps65
  go_upto_region 1 with fail
  generalize (W.alloc (.cells #[.int .i64 w.size, .int .i64 w.room, .int .i64 w.credits, .int .i64 w.next, .slice aa w.ahead.length ca, .slice aq w.queue.length cq, .slice ap w.pk.length cp] 56)) = Y at HB1 y ⊢
  have hmY : M.le (mem Y) := Mem.le_trans HM.out (below_mem HB1.out)
  have y4 : ∀ wq, Below Y.heap.size Y wq → wq.cell? ⟨W.heap.size, 4, none⟩ = some (.slice aa w.ahead.length ca) := fun wq h => below_mem h _ _ _ (mem_cells y 4)
  have y6 : ∀ wq, Below Y.heap.size Y wq → wq.cell? ⟨W.heap.size, 6, none⟩ = some (.slice ap w.pk.length cp) := fun wq h => below_mem h _ _ _ (mem_cells y 6)
  have y4' := y4 (Y.alloc (.cells #[] 42)) ((Below.refl _ _).alloc (Nat.le_refl _) _)
  have HY6 := Lib.hid y6
  have HMY := Lib.hid (fun wq (h : Below Y.heap.size Y wq) => Mem.le_trans hmY (below_mem h))
  have HK := Lib.hid (Mk.lit0 (tIn M tEl) Y 42)
  have HL1 := Lib.hid (show ([] : List El).length + w.ahead.length ≤ maxLen by unfold maxLen; simp; omega)
  have HL2 := Lib.hid (show (([] : List El).length + w.ahead.length) * 56 ≤ 140737488355328 by simp; omega)
  have HRA := Lib.hid ((tSlice (tIn M tEl)).mono _ _ _ _ (HMY.out _ HK.out.bel) (tEls_in HA.out))
  clear y y4 y6 hmY
  go_wp2_with (at_builtin; refine wpList_append_os rfl (.tmp 5) (.tmp 7) 36 rfl (tIn M tEl) (tIn_flat _ _) tElIn_one Try.underlying36 (infoEl _) rfl (Nat.succ_pos 4) _ [] w.ahead rfl HK.out.own _ _ _ rfl rfl HRA.out HL1.out HL2.out ?_)
  intro v1 w1 own1 happ1
  obtain ⟨a1, c1, rfl, _⟩ := own1.form
  have HK1 := Lib.hid (HK.out.add own1 happ1)
  clear own1 happ1 HK HL1 HL2 HRA y4'
  go_wp2
  go_loopg [3, 4] w.pk.length (fun g u i wr => ∃ k c' ac, ∃ outs : List El, k + g = w.pk.length ∧ i = .int .i64 k ∧ u = .slice ac outs.length c' ∧ Hid (outs = [] ++ w.ahead ++ (w.pk.take k).flatMap (·.els) ∧ ∀ j, (hj : j < w.pk.length) → j < k → w.pk[j].dl = true) ∧ Hid (Mk (tIn M tEl) 42 Y wr (.slice ac outs.length c') outs))
  case atStart => exact ⟨0, c1, a1, _, by omega, by go_num, rfl, Lib.hid ⟨by simp, fun j hj h => by omega⟩, HK1⟩
  case round =>
    clear HK1
    obtain ⟨k, c', ac, outs, hkg, rfl, rfl, HO, HK⟩ := hrel
    have y6 := HY6.out wr HK.out.bel
    have ho1 : outs.length ≤ w.ahead.length + (w.pk.flatMap (·.els)).length := by
      rw [HO.out.1, List.length_append, List.length_append]; have := len_flat_take (f := fun p : RP => p.els) w.pk k; simp only [List.length_nil]; omega
    cases gk with
    | zero =>
      obtain rfl : k = w.pk.length := by omega
      have hE : outs = rbuf w := by rw [HO.out.1, List.nil_append]; unfold rbuf; rw [takeWhile_take (Nat.le_refl _) (fun j hj h => HO.out.2 j hj h) (fun h => by omega)]
      subst hE
      go_wp2
      go_ret
      exact ⟨_, rfl, HK.out.own, fun k e => Nat.le_trans HB1.out.size (HK.out.ge k e), HB1.out.trans (HK.out.bel.mono HB1.out.size)⟩
    | succ g2 =>
      have hlt : k < w.pk.length := by omega
      obtain ⟨b, o, rfl, hat⟩ := slice_at HP.out hlt
      obtain ⟨ar, cr, hcr, q0, q1, q2, hin, hr⟩ := rp_at hat
      have e1 : wr.cell? ⟨b, o + k * 3 + 1, none⟩ = some (.slice ar w.pk[k].els.length cr) := HMY.out wr HK.out.bel _ _ _ q1
      have e2 : wr.cell? ⟨b, o + k * 3 + 2, none⟩ = some (.bool w.pk[k].dl) := HMY.out wr HK.out.bel _ _ _ q2
      have hlm := len_mem_flat (f := fun p : RP => p.els) (List.getElem_mem hlt)
      have HS := Lib.hid (fun (hd : w.pk[k].dl = true) => (⟨by rw [HO.out.1, List.take_succ_eq_append_getElem hlt, List.flatMap_append]; simp, fun j hj hjk => by
        by_cases e : j = k
        · subst e; exact hd
        · exact HO.out.2 j hj (by omega)⟩ : outs ++ w.pk[k].els = [] ++ w.ahead ++ (w.pk.take (k + 1)).flatMap (·.els) ∧ ∀ j, (hj : j < w.pk.length) → j < k + 1 → w.pk[j].dl = true))
      have HE := Lib.hid (fun (hd : w.pk[k].dl = false) => (by rw [HO.out.1, List.nil_append]; unfold rbuf; rw [takeWhile_take (Nat.le_of_lt hlt) HO.out.2 (fun _ => hd)] : outs = rbuf w))
      have HL1 := Lib.hid (show outs.length + w.pk[k].els.length ≤ maxLen by unfold maxLen; omega)
      have HL2 := Lib.hid (show (outs.length + w.pk[k].els.length) * 56 ≤ 140737488355328 by omega)
      have HR := Lib.hid ((tSlice (tIn M tEl)).mono _ _ _ _ (HMY.out _ HK.out.bel) (tEls_in hr))
      clear hat q0 q1 q2 hin hr hlm
      generalize w.pk[k].els = ys at *
      generalize w.pk[k].dl = d at *
      cases d with
      | false =>
        have hE := HE.out rfl
        subst hE
        clear HS HE HL1 HL2 HR e1
        go_wp2
        go_ret
        exact ⟨_, rfl, HK.out.own, fun k e => Nat.le_trans HB1.out.size (HK.out.ge k e), HB1.out.trans (HK.out.bel.mono HB1.out.size)⟩
      | true =>
        have HS2 := Lib.hid (HS.out rfl)
        clear HE HS
        go_wp2_with (at_builtin; refine wpList_append_os rfl (.tmp 24) (.tmp 30) 36 rfl (tIn M tEl) (tIn_flat _ _) tElIn_one Try.underlying36 (infoEl _) rfl (Nat.succ_pos 4) _ outs ys rfl HK.out.own _ _ _ rfl rfl HR.out HL1.out HL2.out ?_)
        intro v1 w1 own1 happ1
        obtain ⟨a2, c2, rfl, _⟩ := own1.form
        have HK1 := Lib.hid (HK.out.add own1 happ1)
        clear own1 happ1 HK HL1 HL2 HR e1 e2 y6
        go_wp2
        go_roundg g2
        case measure => omega
        case rel => exact ⟨k + 1, c2, a2, _, by omega, by go_num, rfl, HS2, HK1⟩

set_option maxRecDepth 100000 in
set_option maxHeartbeats 4000000 in
theorem refWay_any (w : RW) (a q p : Value) (M : Mem) (W : World) (hM : M.le (mem W)) (h : RwAt M w a q p) (hl : w.pk.length ≤ 100000) :
    Calls Try.prog 63 #[wV w a q p] W fun e W' => ∃ v, e = .returned v ∧ (tSlice tInt).rv ((mem W').on (W.heap.size ≤ ·)) [v] (rway w) ∧ Below W.heap.size W W' := by
  obtain ⟨aa, ca, rfl, hla, hma, hra⟩ := slice_form h.ha
  obtain ⟨aq, cq, rfl, hlq, hmq, hrq⟩ := slice_form h.hq
  obtain ⟨ap, cp, rfl, hlp, hmp, hrp⟩ := slice_form h.hp
  have hca : ca ≤ 9223372036854775807 := by unfold maxLen at hma; exact hma
  have hcq : cq ≤ 9223372036854775807 := by unfold maxLen at hmq; exact hmq
  have hcp : cp ≤ 9223372036854775807 := by unfold maxLen at hmp; exact hmp
  have HA := Lib.hid hra
  have HQ := Lib.hid hrq
  have HP := Lib.hid hrp
  have HW := Lib.hid h
  have HM := Lib.hid hM
  clear hma hmq hmp hra hrq hrp h hM
  have hB1 : ∀ o, Below W.heap.size W (W.alloc o) := fun o => (Below.refl _ _).alloc (Nat.le_refl _) o
  have HB1 := Lib.hid (hB1 (.cells #[.int .i64 w.size, .int .i64 w.room, .int .i64 w.credits, .int .i64 w.next, .slice aa w.ahead.length ca, .slice aq w.queue.length cq, .slice ap w.pk.length cp] 56))
  have y := heap_alloc_new W (.cells #[.int .i64 w.size, .int .i64 w.room, .int .i64 w.credits, .int .i64 w.next, .slice aa w.ahead.length ca, .slice aq w.queue.length cq, .slice ap w.pk.length cp] 56)
  clear hB1
  go_enter Try.func63, Try.ntmps63
  go_upto_region 1 with fail
  generalize (W.alloc (.cells #[.int .i64 w.size, .int .i64 w.room, .int .i64 w.credits, .int .i64 w.next, .slice aa w.ahead.length ca, .slice aq w.queue.length cq, .slice ap w.pk.length cp] 56)) = Y at HB1 y ⊢
  have hmY : M.le (mem Y) := Mem.le_trans HM.out (below_mem HB1.out)
  have y6 : ∀ wq, Below Y.heap.size Y wq → wq.cell? ⟨W.heap.size, 6, none⟩ = some (.slice ap w.pk.length cp) := fun wq h => below_mem h _ _ _ (mem_cells y 6)
  have HY6 := Lib.hid y6
  have HMY := Lib.hid (fun wq (h : Below Y.heap.size Y wq) => Mem.le_trans hmY (below_mem h))
  clear y y6 hmY
  go_wp2
  go_loopg [3, 4] w.pk.length (fun g u i wr => ∃ k c' ac, ∃ outs : List Int, k + g = w.pk.length ∧ i = .int .i64 k ∧ u = .slice ac outs.length c' ∧ Hid (outs = ((w.pk.take k).filter (fun p => !p.dl)).map (·.num)) ∧ Owns tInt wr Y.heap.size 3 (.slice ac outs.length c') outs ∧ Below Y.heap.size Y wr)
  case atStart => exact ⟨0, 0, none, [], by omega, by go_num, rfl, Lib.hid (by simp), Owns.nil _ _ _ _, Below.refl _ _⟩
  case round =>
    obtain ⟨k, c', ac, outs, hkg, rfl, rfl, HO, hown, hbel⟩ := hrel
    have y6 := HY6.out wr hbel
    have ho1 : outs.length ≤ k := by
      rw [HO.out, List.length_map]; have := List.length_filter_le (fun p : RP => !p.dl) (w.pk.take k); rw [List.length_take] at this; omega
    cases gk with
    | zero =>
      obtain rfl : k = w.pk.length := by omega
      have hE : outs = rway w := by rw [HO.out, List.take_length]; rfl
      subst hE
      have HR := Lib.hid (And.intro (show (tSlice tInt).rv ((mem wr).on (W.heap.size ≤ ·)) _ _ from hown.rv (fun k hk => Nat.le_trans HB1.out.size hk) (fun _ _ _ hk => hk)) hbel)
      clear hown hbel
      go_wp2
      go_ret
      exact ⟨_, rfl, HR.out.1, HB1.out.trans (HR.out.2.mono HB1.out.size)⟩
    | succ g2 =>
      have hlt : k < w.pk.length := by omega
      obtain ⟨b, o, rfl, hat⟩ := slice_at HP.out hlt
      obtain ⟨ar, cr, hcr, q0, q1, q2, hin, hr⟩ := rp_at hat
      have e0 : wr.cell? ⟨b, o + k * 3, none⟩ = some (.int .i64 w.pk[k].num) := HMY.out wr hbel _ _ _ q0
      have e2 : wr.cell? ⟨b, o + k * 3 + 2, none⟩ = some (.bool w.pk[k].dl) := HMY.out wr hbel _ _ _ q2
      have HS := Lib.hid (show ((w.pk.take (k + 1)).filter (fun p => !p.dl)).map (·.num) = outs ++ (if w.pk[k].dl = true then [] else [w.pk[k].num]) by
        rw [List.take_succ_eq_append_getElem hlt, List.filter_append, List.map_append, ← HO.out]
        congr 1
        cases hd : w.pk[k].dl <;> simp [hd])
      clear hat q0 q1 q2 hr
      generalize w.pk[k].num = x at *
      generalize w.pk[k].dl = d at *
      have HK := Lib.hid (And.intro hown hbel)
      clear hown hbel
      cases d with
      | true =>
        have hS := HS.out
        rw [if_pos rfl, List.append_nil] at hS
        have HS2 := Lib.hid hS
        clear hS HS
        go_wp2
        go_roundg g2
        case measure => omega
        case rel => exact ⟨k + 1, c', ac, outs, by omega, by go_num, rfl, Lib.hid HS2.out.symm, HK.out.1, HK.out.2⟩
      | false =>
        have hS := HS.out
        rw [if_neg (by simp)] at hS
        have HS2 := Lib.hid hS
        clear hS HS
        have c5 : (wr.alloc (.cells #[.int .i64 x] 3)).cell? ⟨wr.heap.size, 0, none⟩ = some (.int .i64 x) := cell_new 0 rfl
        have HO5 := Lib.hid (HK.out.1.alloc (.cells #[.int .i64 x] 3))
        have hs5 : Y.heap.size ≤ (wr.alloc (.cells #[.int .i64 x] 3)).heap.size := by have := HK.out.2.size; simp; omega
        have HB5 := Lib.hid (HK.out.2.alloc HK.out.2.size (.cells #[.int .i64 x] 3))
        go_wp2_with (at_builtin; go_loud (refine wpList_append_int rfl _ _ 25 rfl Try.underlying25 infoI20 Y.heap.size _ outs rfl HO5.out _ _ x rfl c5 hin ?d3 ?d4 ?_))
        case d3 => omega
        case d4 => simpa using hs5
        intro v' w6 hown6 hg6 hblk
        obtain ⟨a6, c6, rfl, _⟩ := hown6.len
        have HF := Lib.hid (And.intro hown6 (HB5.out.grown hg6 (by simpa using hs5) (fun k hk => (HO5.out.lt k hk).1)))
        clear hown6 hg6 hblk c5 e0 e2 y6
        go_wp2
        go_roundg g2
        case measure => omega
        case rel => exact ⟨k + 1, c6, a6, outs ++ [x], by omega, by go_num, by simp, Lib.hid HS2.out.symm, by simpa using HF.out.1, HF.out.2⟩

set_option maxRecDepth 100000 in
set_option maxHeartbeats 2000000 in
theorem refLose_any (w : RW) (a q p : Value) (M : Mem) (W : World) (hM : M.le (mem W)) (h : RwAt M w a q p) (n : Int) (hl : w.pk.length ≤ 100000) : Calls Try.prog 51 #[wV w a q p, .int .i64 n] W fun e W' => (∃ i k, e = .returned (.int .i64 k) ∧ FindOut w.pk n i ∧ ((i = -1 ∧ k = 8) ∨ ∃ j : Nat, ∃ hj : j < w.pk.length, i = j ∧ k = loseK w.pk[j].dl)) ∧ Below W.heap.size W W' := by
  have HF := Lib.hid (fun (wq : World) (hq : Below W.heap.size W wq) => refFind_any w a q p M wq (Mem.le_trans hM (below_mem hq)) h n)
  obtain ⟨aa, ca, rfl, hla, hma, hra⟩ := slice_form h.ha
  obtain ⟨aq, cq, rfl, hlq, hmq, hrq⟩ := slice_form h.hq
  obtain ⟨ap, cp, rfl, hlp, hmp, hrp⟩ := slice_form h.hp
  have hca : ca ≤ 9223372036854775807 := by unfold maxLen at hma; exact hma
  have hcq : cq ≤ 9223372036854775807 := by unfold maxLen at hmq; exact hmq
  have hcp : cp ≤ 9223372036854775807 := by unfold maxLen at hmp; exact hmp
  have HA := Lib.hid hra
  have HQ := Lib.hid hrq
  have HP := Lib.hid hrp
  have HW := Lib.hid h
  have HM := Lib.hid hM
  clear hma hmq hmp hra hrq hrp h hM
  have hB1 : ∀ o, Below W.heap.size W (W.alloc o) := fun o => (Below.refl _ _).alloc (Nat.le_refl _) o
  have HB1 := Lib.hid (hB1 (.cells #[.int .i64 w.size, .int .i64 w.room, .int .i64 w.credits, .int .i64 w.next, .slice aa w.ahead.length ca, .slice aq w.queue.length cq, .slice ap w.pk.length cp] 56))
  have y := heap_alloc_new W (.cells #[.int .i64 w.size, .int .i64 w.room, .int .i64 w.credits, .int .i64 w.next, .slice aa w.ahead.length ca, .slice aq w.queue.length cq, .slice ap w.pk.length cp] 56)
  clear hB1
  go_enter Try.func51, Try.ntmps51
  go_upto_region 1 with fail
  generalize (W.alloc (.cells #[.int .i64 w.size, .int .i64 w.room, .int .i64 w.credits, .int .i64 w.next, .slice aa w.ahead.length ca, .slice aq w.queue.length cq, .slice ap w.pk.length cp] 56)) = Y at HB1 y ⊢
  have hmY : M.le (mem Y) := Mem.le_trans HM.out (below_mem HB1.out)
  have HMY := Lib.hid (fun wq (h : Below Y.heap.size Y wq) => Mem.le_trans hmY (below_mem h))
  have HY6 := Lib.hid (fun (wq : World) (h : Below Y.heap.size Y wq) => (below_mem h _ _ _ (mem_cells y 6) : wq.cell? ⟨W.heap.size, 6, none⟩ = some (.slice ap w.pk.length cp)))
  have y0 : Y.cell? ⟨W.heap.size, 0, none⟩ = some (.int .i64 w.size) := mem_cells y 0
  have y1 : Y.cell? ⟨W.heap.size, 1, none⟩ = some (.int .i64 w.room) := mem_cells y 1
  have y2 : Y.cell? ⟨W.heap.size, 2, none⟩ = some (.int .i64 w.credits) := mem_cells y 2
  have y3 : Y.cell? ⟨W.heap.size, 3, none⟩ = some (.int .i64 w.next) := mem_cells y 3
  have y4 : Y.cell? ⟨W.heap.size, 4, none⟩ = some (.slice aa w.ahead.length ca) := mem_cells y 4
  have y5 : Y.cell? ⟨W.heap.size, 5, none⟩ = some (.slice aq w.queue.length cq) := mem_cells y 5
  have y6 : Y.cell? ⟨W.heap.size, 6, none⟩ = some (.slice ap w.pk.length cp) := mem_cells y 6
  clear y hmY
  go_wp2_with fail
  refine (HF.out Y HB1.out).mono ?_
  rintro e w1 ⟨⟨i, rfl, hf⟩, hb⟩
  have HFO := Lib.hid hf
  have HB2 := Lib.hid (HB1.out.trans (hb.mono HB1.out.size))
  have y6w : w1.cell? ⟨W.heap.size, 6, none⟩ = some (.slice ap w.pk.length cp) := HY6.out w1 hb
  rcases hf with ⟨j, hj, rfl, hn, _⟩ | ⟨rfl, _⟩
  · obtain ⟨b, o, rfl, hat⟩ := slice_at HP.out hj
    obtain ⟨ar, cr, hcr, q0, q1, q2, hin, hr⟩ := rp_at hat
    have e2 : w1.cell? ⟨b, o + j * 3 + 2, none⟩ = some (.bool w.pk[j].dl) := HMY.out w1 hb _ _ _ q2
    clear hat q0 q1 q2 hin hr hb hn y0 y1 y2 y3 y4 y5 y6
    cases hd : w.pk[j].dl with
    | true =>
      rw [hd] at e2
      have HD := Lib.hid hd
      clear hd
      go_wp2
      go_ret
      exact ⟨⟨j, 8, rfl, HFO.out, .inr ⟨j, hj, rfl, by rw [HD.out]; rfl⟩⟩, HB2.out⟩
    | false =>
      rw [hd] at e2
      have HD := Lib.hid hd
      clear hd
      go_wp2
      go_ret
      exact ⟨⟨j, 0, rfl, HFO.out, .inr ⟨j, hj, rfl, by rw [HD.out]; rfl⟩⟩, HB2.out⟩
  · clear hb y0 y1 y2 y3 y4 y5 y6
    go_wp2
    go_ret
    exact ⟨⟨-1, 8, rfl, HFO.out, .inl ⟨rfl, rfl⟩⟩, HB2.out⟩
end Go.Proofs.Ytfkphdmnelchmaa
