/- Wires, in plain words: what a wire holds, told by ahead, packets and queue. -/
import Derived.Test.YtfkphdmnelchmaaWireI
namespace Go.Proofs.Ytfkphdmnelchmaa

/-- A packet that was not received wholly: its elements that were not received, and whether it was delivered. -/
structure PK where
  num : Int
  ad : Nat
  els : List El
  dl : Bool
def pkItems (p : PK) : List Item := p.els.map fun x => ⟨x, some p.ad⟩
structure SimX (r : Raw) (ah : List El) (ps : List PK) (m : Nat) : Prop where
  buf : r.buffer = ah.map (fun x => ⟨x, none⟩) ++ (ps.take m).flatMap pkItems
  num : ∀ i (h : i < ps.length), ps[i].num = r.next - ps.length + i
  tu : r.turn = r.next - ps.length + m
  hm : m ≤ ps.length
  dl : ∀ i (h : i < ps.length), i < m → ps[i].dl = true
  way : ∀ k a, r.way k = some a ↔ ∃ p ∈ ps, p.num = k ∧ p.ad = a ∧ p.dl = false
  early : ∀ k a, r.early k = some a ↔ ∃ p ∈ ps, p.num = k ∧ p.ad = a ∧ p.dl = true ∧ r.turn ≤ k
  pt : ∀ p ∈ ps, ∃ q ∈ r.pt, q.ad = p.ad ∧ q.left = p.els.length ∧ (r.turn ≤ p.num → q.els = p.els)
  ne : ∀ p ∈ ps, p.els ≠ []
  ads : (ps.map (·.ad)).Nodup
  nd : (r.pt.map (·.ad)).Nodup
  cnt : r.count = ah.length + (ps.flatMap (·.els)).length + r.queue.length
structure Sim (r : Raw) (ah : List El) (ps : List PK) (m : Nat) : Prop extends SimX r ah ps m where
  tn : r.early r.turn = none
def contentsOf (r : Raw) (ah : List El) (ps : List PK) : List El := ah ++ ps.flatMap (·.els) ++ r.queue

theorem sim_new (size credits room : Int) : Sim (newRaw size credits room) [] [] 0 :=
  ⟨⟨rfl, fun i h => absurd h (by simp), rfl, Nat.le_refl _, fun i h => absurd h (by simp), fun k a => by simp [newRaw], fun k a => by simp [newRaw], fun p hp => absurd hp (by simp), fun p hp => absurd hp (by simp), by simp, by simp [newRaw], rfl⟩, rfl⟩

section
variable {r : Raw} {ah : List El} {ps : List PK} {m : Nat}
theorem SimX.inj (h : SimX r ah ps m) {p q : PK} (hp : p ∈ ps) (hq : q ∈ ps) (e : p.num = q.num) : p = q := by
  obtain ⟨i, hi, rfl⟩ := List.mem_iff_getElem.1 hp
  obtain ⟨j, hj, rfl⟩ := List.mem_iff_getElem.1 hq
  rw [h.num i hi, h.num j hj] at e
  obtain rfl : i = j := by omega
  rfl
theorem SimX.place (h : SimX r ah ps m) {p : PK} (hp : p ∈ ps) (ht : r.turn ≤ p.num) : ∃ i, ∃ hi : i < ps.length, m ≤ i ∧ ps[i] = p := by
  obtain ⟨i, hi, rfl⟩ := List.mem_iff_getElem.1 hp
  exact ⟨i, hi, by rw [h.num i hi, h.tu] at ht; omega, rfl⟩
theorem SimX.numLt (h : SimX r ah ps m) {p : PK} (hp : p ∈ ps) : p.num < r.next := by
  obtain ⟨i, hi, rfl⟩ := List.mem_iff_getElem.1 hp
  rw [h.num i hi]; omega

/-- Numbers other than queue, size, credits do not matter. -/
theorem SimX.nums (h : SimX r ah ps m) (r' : Raw) (hb : r'.buffer = r.buffer) (hn : r'.next = r.next) (ht : r'.turn = r.turn) (hw : r'.way = r.way) (he : r'.early = r.early) (hp : r'.pt = r.pt) (hc : r'.count = ah.length + (ps.flatMap (·.els)).length + r'.queue.length) : SimX r' ah ps m :=
  ⟨by rw [hb]; exact h.buf, by rw [hn]; exact h.num, by rw [ht, hn]; exact h.tu, h.hm, h.dl, by rw [hw]; exact h.way, by rw [he, ht]; exact h.early, by rw [hp, ht]; exact h.pt, h.ne, h.ads, by rw [hp]; exact h.nd, hc⟩
theorem sim_put (h : Sim r ah ps m) (x : El) : Sim { r with queue := r.queue ++ [x], count := r.count + 1 } ah ps m :=
  ⟨h.toSimX.nums _ rfl rfl rfl rfl rfl rfl (by show r.count + 1 = _ + ((r.queue ++ [x]).length : Int); rw [h.cnt, List.length_append]; simp; omega), h.tn⟩
theorem sim_size (h : Sim r ah ps m) (n : Int) : Sim { r with size := n } ah ps m :=
  ⟨h.toSimX.nums _ rfl rfl rfl rfl rfl rfl h.cnt, h.tn⟩

theorem sim_send (h : Sim r ah ps m) (hs : 1 ≤ r.size) (hq : r.queue ≠ []) {a : Nat} (ha : ∀ p ∈ r.pt, p.ad ≠ a) : Sim (sendR r a) ah (ps ++ [⟨r.next, a, r.queue.take (sendN r), false⟩]) m := by
  have hlen : 0 < r.queue.length := List.length_pos_iff.2 hq
  have hn : 0 < sendN r := by unfold sendN; omega
  have hnl : sendN r ≤ r.queue.length := by unfold sendN; omega
  have hm := h.hm
  have htu := h.tu
  refine ⟨⟨?_, fun i hi => ?_, ?_, by simp; omega, fun i hi him => ?_, fun k b => ?_, fun k b => ?_, fun p hp => ?_, fun p hp => ?_, ?_, ?_, ?_⟩, h.tn⟩
  · rw [List.take_append_of_le_length hm]; exact h.buf
  · show _ = r.next + 1 - _ + _
    rw [List.getElem_append]
    split
    · rename_i h1; rw [h.num i h1]; simp; omega
    · rename_i h1; simp at hi ⊢; omega
  · show r.turn = r.next + 1 - _ + _
    rw [htu]; simp; omega
  · rw [List.getElem_append_left (by omega)]; exact h.dl i (by omega) him
  · show putAt r.way r.next a k = some b ↔ _
    by_cases hk : k = r.next
    · subst hk
      rw [putAt_same]
      constructor
      · intro e; cases e; exact ⟨_, List.mem_append_right _ (List.mem_singleton.2 rfl), rfl, rfl, rfl⟩
      · rintro ⟨p, hp, h1, h2, h3⟩
        rcases List.mem_append.1 hp with hp | hp
        · have := h.numLt hp; omega
        · rw [List.mem_singleton] at hp; subst hp; rw [← h2]
    · rw [putAt_other _ _ hk, h.way k b]
      constructor
      · rintro ⟨p, hp, g⟩; exact ⟨p, List.mem_append_left _ hp, g⟩
      · rintro ⟨p, hp, h1, h2, h3⟩
        rcases List.mem_append.1 hp with hp | hp
        · exact ⟨p, hp, h1, h2, h3⟩
        · rw [List.mem_singleton] at hp; subst hp; exact absurd h1.symm hk
  · show r.early k = some b ↔ _
    rw [h.early k b]
    constructor
    · rintro ⟨p, hp, g⟩; exact ⟨p, List.mem_append_left _ hp, g⟩
    · rintro ⟨p, hp, h1, h2, h3, h4⟩
      rcases List.mem_append.1 hp with hp | hp
      · exact ⟨p, hp, h1, h2, h3, h4⟩
      · rw [List.mem_singleton] at hp; subst hp; cases h3
  · rcases List.mem_append.1 hp with hp | hp
    · obtain ⟨q, hq, g⟩ := h.pt p hp
      exact ⟨q, List.mem_append_left _ hq, g⟩
    · rw [List.mem_singleton] at hp; subst hp
      exact ⟨_, List.mem_append_right _ (List.mem_singleton.2 rfl), rfl, by simp; omega, fun _ => rfl⟩
  · rcases List.mem_append.1 hp with hp | hp
    · exact h.ne p hp
    · rw [List.mem_singleton] at hp; subst hp
      intro e
      have := congrArg List.length e
      rw [List.length_take, List.length_nil] at this; omega
  · rw [List.map_append, List.nodup_append]
    refine ⟨h.ads, by simp, fun x hx y hy e => ?_⟩
    simp at hy
    obtain ⟨p, hp, rfl⟩ := List.mem_map.1 hx
    obtain ⟨q, hq, g, _⟩ := h.pt p hp
    exact ha q hq (by rw [g, e, hy])
  · show ((r.pt ++ [_]).map _).Nodup
    rw [List.map_append, List.nodup_append]
    refine ⟨h.nd, by simp, fun x hx y hy e => ?_⟩
    simp at hy
    obtain ⟨p, hp, rfl⟩ := List.mem_map.1 hx
    exact ha p hp (e.trans hy)
  · show r.count = _ + _ + ((r.queue.drop (sendN r)).length : Int)
    rw [h.cnt, List.flatMap_append]
    simp; omega
theorem contents_send (a : Nat) : contentsOf (sendR r a) ah (ps ++ [⟨r.next, a, r.queue.take (sendN r), false⟩]) = contentsOf r ah ps := by
  unfold contentsOf
  show _ ++ _ ++ r.queue.drop (sendN r) = _
  rw [List.flatMap_append]
  simp [List.append_assoc]

theorem flatMap_congr' {α β : Type} {f g : α → List β} : ∀ {l : List α}, (∀ p ∈ l, f p = g p) → l.flatMap f = l.flatMap g
  | [], _ => rfl
  | x :: l, h => by rw [List.flatMap_cons, List.flatMap_cons, h x (by simp), flatMap_congr' fun p hp => h p (by simp [hp])]
/-- Packet n has come. -/
def setDl (n : Int) (ps : List PK) : List PK := ps.map fun p => if p.num = n then { p with dl := true } else p
theorem setDl_len (n : Int) : (setDl n ps).length = ps.length := by simp [setDl]
theorem setDl_get (n : Int) (i : Nat) (hi : i < (setDl n ps).length) : (setDl n ps)[i] = if (ps[i]'(by rw [← setDl_len n]; exact hi)).num = n then { ps[i]'(by rw [← setDl_len n]; exact hi) with dl := true } else ps[i]'(by rw [← setDl_len n]; exact hi) := by simp [setDl]
theorem setDl_els (n : Int) : (setDl n ps).flatMap (·.els) = ps.flatMap (·.els) := by
  unfold setDl
  rw [List.flatMap_map]
  exact flatMap_congr' fun p _ => by split <;> rfl
theorem setDl_mem {n : Int} {p : PK} : p ∈ setDl n ps ↔ ∃ q ∈ ps, p = if q.num = n then { q with dl := true } else q := by
  unfold setDl
  rw [List.mem_map]
  exact ⟨fun ⟨q, h, e⟩ => ⟨q, h, e.symm⟩, fun ⟨q, h, e⟩ => ⟨q, h, e.symm⟩⟩
theorem setDl_items (n : Int) (l : List PK) : (setDl n l).flatMap pkItems = l.flatMap pkItems := by
  unfold setDl
  rw [List.flatMap_map]
  exact flatMap_congr' fun p _ => by unfold pkItems; split <;> rfl
theorem sim_taken (h : SimX r ah ps m) {n : Int} {a : Nat} (hw : r.way n = some a) : SimX (takenR r n a) ah (setDl n ps) m := by
  obtain ⟨p0, hp0, hn0, ha0, hd0⟩ := (h.way n a).1 hw
  have hinj : ∀ q ∈ ps, q.num = n → q = p0 := fun q hq e => h.inj hq hp0 (e.trans hn0.symm)
  have ht0 : r.turn ≤ n := by
    obtain ⟨i, hi, rfl⟩ := List.mem_iff_getElem.1 hp0
    rw [h.num i hi] at hn0
    have := h.tu
    by_cases him : i < m
    · rw [h.dl i hi him] at hd0; cases hd0
    · omega
  refine ⟨?_, fun i hi => ?_, by rw [setDl_len]; exact h.tu, by rw [setDl_len]; exact h.hm, fun i hi him => ?_, fun k b => ?_, fun k b => ?_, fun p hp => ?_, fun p hp => ?_, ?_, h.nd, ?_⟩
  · show r.buffer = _
    rw [h.buf]
    unfold setDl
    rw [← List.map_take]
    exact congrArg _ (setDl_items n (ps.take m)).symm
  · have e : ∀ (c : Prop) [Decidable c] (p : PK), (if c then { p with dl := true } else p).num = p.num := fun c _ p => by split <;> rfl
    rw [setDl_get, e, h.num i (by rw [← setDl_len n]; exact hi)]
    show r.next - _ + _ = r.next - _ + _
    rw [setDl_len]
  · rw [setDl_get]
    rw [setDl_len] at hi
    split
    · rfl
    · exact h.dl i hi him
  · show delAt r.way n k = some b ↔ _
    by_cases hk : k = n
    · subst hk
      rw [delAt_same]
      constructor
      · intro e; cases e
      · rintro ⟨p, hp, h1, h2, h3⟩
        obtain ⟨q, hq, rfl⟩ := setDl_mem.1 hp
        split at h3
        · cases h3
        · rename_i hne; rw [if_neg hne] at h1; exact absurd h1 hne
    · rw [delAt_other _ hk, h.way k b]
      constructor
      · rintro ⟨p, hp, h1, h2, h3⟩
        exact ⟨p, setDl_mem.2 ⟨p, hp, by rw [if_neg (by rw [h1]; exact hk)]⟩, h1, h2, h3⟩
      · rintro ⟨p, hp, h1, h2, h3⟩
        obtain ⟨q, hq, rfl⟩ := setDl_mem.1 hp
        by_cases hqn : q.num = n
        · rw [if_pos hqn] at h3; cases h3
        · rw [if_neg hqn] at h1 h2 h3; exact ⟨q, hq, h1, h2, h3⟩
  · show putAt r.early n a k = some b ↔ _
    by_cases hk : k = n
    · subst hk
      rw [putAt_same]
      constructor
      · intro e; cases e
        exact ⟨_, setDl_mem.2 ⟨p0, hp0, rfl⟩, by rw [if_pos hn0]; exact hn0, by rw [if_pos hn0]; exact ha0, by rw [if_pos hn0], ht0⟩
      · rintro ⟨p, hp, h1, h2, h3, h4⟩
        obtain ⟨q, hq, rfl⟩ := setDl_mem.1 hp
        have hqn : q.num = k := by split at h1 <;> exact h1
        rw [if_pos hqn] at h2
        rw [← h2, ← ha0, hinj q hq hqn]
    · rw [putAt_other _ _ hk, h.early k b]
      constructor
      · rintro ⟨p, hp, h1, h2, h3, h4⟩
        exact ⟨p, setDl_mem.2 ⟨p, hp, by rw [if_neg (by rw [h1]; exact hk)]⟩, h1, h2, h3, h4⟩
      · rintro ⟨p, hp, h1, h2, h3, h4⟩
        obtain ⟨q, hq, rfl⟩ := setDl_mem.1 hp
        by_cases hqn : q.num = n
        · rw [if_pos hqn] at h1; exact absurd (h1.symm.trans hqn) hk
        · rw [if_neg hqn] at h1 h2 h3; exact ⟨q, hq, h1, h2, h3, h4⟩
  · obtain ⟨q, hq, rfl⟩ := setDl_mem.1 hp
    obtain ⟨t, ht, g⟩ := h.pt q hq
    refine ⟨t, ht, ?_⟩
    split <;> exact g
  · obtain ⟨q, hq, rfl⟩ := setDl_mem.1 hp
    split <;> exact h.ne q hq
  · have e : (setDl n ps).map (·.ad) = ps.map (·.ad) := by
      unfold setDl; rw [List.map_map]; exact List.map_congr_left fun p _ => by simp only [Function.comp]; split <;> rfl
    rw [e]; exact h.ads
  · rw [setDl_els]; exact h.cnt

theorem sim_moves {r r' : Raw} (hmv : Moves r r') : ∀ {m : Nat}, SimX r ah ps m → ∃ m', m ≤ m' ∧ Sim r' ah ps m' := by
  induction hmv with
  | done hd => intro m h; exact ⟨m, Nat.le_refl _, h, hd⟩
  | @step r r' p hp he hm ih =>
    intro m h
    obtain ⟨q, hq, h1, h2, h3, h4⟩ := (h.early _ _).1 he
    obtain ⟨i, hi, him, hqi⟩ := h.place hq (by omega)
    have hnum := h.num i hi
    have htu := h.tu
    rw [hqi, h1, htu] at hnum
    obtain rfl : i = m := by omega
    obtain ⟨t, ht, g1, g2, g3⟩ := h.pt q hq
    have htp : t = p := map_nodup_inj h.nd ht hp (g1.trans h2)
    subst htp
    have hels := g3 (by omega)
    obtain ⟨m', hle, hs⟩ := ih (m := i + 1) ⟨by
        show r.buffer ++ _ = _
        rw [h.buf, List.take_succ_eq_append_getElem hi, List.flatMap_append, hqi, List.append_assoc]
        simp only [List.flatMap_cons, List.flatMap_nil, List.append_nil]
        congr 2
        unfold pkItems
        rw [hels, h2], h.num, by show r.turn + 1 = r.next - (ps.length : Int) + ((i + 1 : Nat) : Int); rw [htu]; push_cast; omega, by omega, fun j hj hjm => by
          by_cases hji : j = i
          · subst hji; rw [hqi]; exact h3
          · exact h.dl j hj (by omega), h.way, fun k b => by
            show delAt r.early r.turn k = some b ↔ ∃ p ∈ ps, p.num = k ∧ p.ad = b ∧ p.dl = true ∧ r.turn + 1 ≤ k
            by_cases hk : k = r.turn
            · subst hk; rw [delAt_same]
              exact ⟨fun e => (by cases e), fun ⟨_, _, _, _, _, hh⟩ => (by omega)⟩
            · rw [delAt_other _ hk, h.early k b]
              exact ⟨fun ⟨p, a1, a2, a3, a4, a5⟩ => ⟨p, a1, a2, a3, a4, by omega⟩, fun ⟨p, a1, a2, a3, a4, a5⟩ => ⟨p, a1, a2, a3, a4, by omega⟩⟩,
          fun p hp => let ⟨q, b1, b2, b3, b4⟩ := h.pt p hp; ⟨q, b1, b2, b3, fun hh => b4 (by have hh' : r.turn + 1 ≤ p.num := hh; omega)⟩, h.ne, h.ads, h.nd, h.cnt⟩
    exact ⟨m', by omega, hs⟩

theorem decPt_mem {a : Nat} {pt : List PT} {q : PT} (h : q ∈ pt) : (if q.ad = a then { q with left := q.left - 1 } else q) ∈ decPt a pt := List.mem_map.2 ⟨q, h, rfl⟩
theorem SimX.leftOf (h : SimX r ah ps m) {p : PK} (hp : p ∈ ps) : leftAt p.ad r.pt = p.els.length := by
  obtain ⟨q, hq, h1, h2, _⟩ := h.pt p hp
  rw [← h1, leftAt_mem h.nd hq, h2]
/-- What Receive takes. -/
def RecvP (r : Raw) (ah : List El) (ps : List PK) (m : Nat) (i : Item) : Prop :=
  (∃ x ah', ah = x :: ah' ∧ i = ⟨x, none⟩ ∧ (recvR r).credits = r.credits ∧ Sim (recvR r) ah' ps m) ∨
  (ah = [] ∧ 1 ≤ m ∧ ∃ p ps' x, ps = p :: ps' ∧ i = ⟨x, some p.ad⟩ ∧ ((p.els = [x] ∧ (recvR r).credits = r.credits + 1 ∧ Sim (recvR r) [] ps' (m - 1)) ∨ ∃ y xs, p.els = x :: y :: xs ∧ (recvR r).credits = r.credits ∧ Sim (recvR r) [] ({ p with els := y :: xs } :: ps') m))
theorem sim_recv (h : Sim r ah ps m) {i : Item} {is : List Item} (hb : r.buffer = i :: is) : RecvP r ah ps m i := by
  have hbuf := h.buf
  rw [hb] at hbuf
  cases ah with
  | cons x ah' =>
    rw [List.map_cons, List.cons_append] at hbuf
    injection hbuf with h1 h2
    subst h1
    have e : recvR r = { r with buffer := is, count := r.count - 1 } := by unfold recvR; rw [hb]
    refine .inl ⟨x, ah', rfl, rfl, by rw [e], ?_⟩
    rw [e]
    have hc := h.cnt
    exact ⟨⟨h2, h.num, h.tu, h.hm, h.dl, h.way, h.early, h.pt, h.ne, h.ads, h.nd, by show r.count - 1 = _; rw [hc]; simp; omega⟩, h.tn⟩
  | nil =>
    rw [List.map_nil, List.nil_append] at hbuf
    have hm := h.hm
    cases ps with
    | nil => simp at hbuf
    | cons p ps' =>
      cases m with
      | zero => simp at hbuf
      | succ m =>
        rw [List.take_succ_cons, List.flatMap_cons] at hbuf
        cases hpe : p.els with
        | nil => exact absurd hpe (h.ne p (by simp))
        | cons x xs =>
          have hit : pkItems p = ⟨x, some p.ad⟩ :: xs.map (fun x => ⟨x, some p.ad⟩) := by unfold pkItems; rw [hpe]; rfl
          rw [hit, List.cons_append] at hbuf
          injection hbuf with h1 h2
          subst h1
          have hleft := h.leftOf (p := p) (by simp)
          rw [hpe, List.length_cons] at hleft
          have hdl0 : p.dl = true := h.dl 0 (by simp) (by omega)
          have hnum0 : p.num = r.next - (ps'.length + 1 : Nat) + 0 := h.num 0 (by simp)
          have hadn : ∀ q ∈ ps', q.ad ≠ p.ad := fun q hq e => by
            have := h.ads
            rw [List.map_cons, List.nodup_cons] at this
            exact this.1 (List.mem_map.2 ⟨q, hq, e⟩)
          have htu := h.tu
          have hc := h.cnt
          rw [List.flatMap_cons, hpe] at hc
          simp only [List.length_nil, List.length_append, List.length_cons] at hc htu hm
          have hpt : ∀ q ∈ ps', ∃ t ∈ decPt p.ad r.pt, t.ad = q.ad ∧ t.left = q.els.length ∧ (r.turn ≤ q.num → t.els = q.els) := fun q hq => by
            obtain ⟨t, ht, g1, g2, g3⟩ := h.pt q (by simp [hq])
            have := decPt_mem (a := p.ad) ht
            rw [if_neg (by rw [g1]; exact hadn q hq)] at this
            exact ⟨t, this, g1, g2, g3⟩
          refine .inr ⟨rfl, by omega, p, ps', x, rfl, rfl, ?_⟩
          cases xs with
          | nil =>
            have e : recvR r = { r with buffer := is, count := r.count - 1, pt := decPt p.ad r.pt, credits := r.credits + 1 } := by unfold recvR; rw [hb]; simp [hleft]
            refine .inl ⟨hpe, by rw [e], ?_⟩
            rw [e]
            refine ⟨⟨by rw [h2]; rfl, fun j hj => ?_, ?_, by simp; omega, fun j hj hjm => ?_, fun k a => ?_, fun k a => ?_, hpt, fun q hq => h.ne q (by simp [hq]), ?_, by rw [decPt_ad]; exact h.nd, ?_⟩, h.tn⟩
            · have := h.num (j + 1) (by simp; omega)
              simp only [List.getElem_cons_succ, List.length_cons] at this
              rw [this]; push_cast; omega
            · show r.turn = _; rw [htu]; push_cast; omega
            · exact h.dl (j + 1) (by simp; omega) (by omega)
            · show r.way k = some a ↔ _
              rw [h.way k a]
              exact ⟨fun ⟨q, hq, g1, g2, g3⟩ => by
                rcases List.mem_cons.1 hq with e | hq
                · subst e; rw [hdl0] at g3; cases g3
                · exact ⟨q, hq, g1, g2, g3⟩, fun ⟨q, hq, g⟩ => ⟨q, by simp [hq], g⟩⟩
            · show r.early k = some a ↔ _
              rw [h.early k a]
              exact ⟨fun ⟨q, hq, g1, g2, g3, g4⟩ => by
                rcases List.mem_cons.1 hq with e | hq
                · subst e; exfalso; rw [← g1, hnum0, htu] at g4; push_cast at g4; omega
                · exact ⟨q, hq, g1, g2, g3, g4⟩, fun ⟨q, hq, g⟩ => ⟨q, by simp [hq], g⟩⟩
            · have := h.ads
              rw [List.map_cons, List.nodup_cons] at this
              exact this.2
            · show r.count - 1 = _
              rw [hc]; simp; omega
          | cons y xs =>
            have e : recvR r = { r with buffer := is, count := r.count - 1, pt := decPt p.ad r.pt, credits := r.credits } := by
              unfold recvR; rw [hb]; simp [hleft]; omega
            refine .inr ⟨y, xs, hpe, by rw [e], ?_⟩
            rw [e]
            refine ⟨⟨by rw [h2]; rfl, fun j hj => ?_, ?_, by simp; omega, fun j hj hjm => ?_, fun k a => ?_, fun k a => ?_, fun q hq => ?_, fun q hq => ?_, ?_, by rw [decPt_ad]; exact h.nd, ?_⟩, h.tn⟩
            · cases j with
              | zero => exact h.num 0 (by simp)
              | succ j => exact h.num (j + 1) hj
            · show r.turn = _; rw [htu]; simp
            · cases j with
              | zero => exact hdl0
              | succ j => exact h.dl (j + 1) hj hjm
            · show r.way k = some a ↔ _
              rw [h.way k a]
              exact ⟨fun ⟨q, hq, g1, g2, g3⟩ => by
                rcases List.mem_cons.1 hq with e | hq
                · subst e; rw [hdl0] at g3; cases g3
                · exact ⟨q, by simp [hq], g1, g2, g3⟩, fun ⟨q, hq, g1, g2, g3⟩ => by
                rcases List.mem_cons.1 hq with e | hq
                · subst e; rw [show p.dl = false from g3] at hdl0; cases hdl0
                · exact ⟨q, by simp [hq], g1, g2, g3⟩⟩
            · show r.early k = some a ↔ _
              rw [h.early k a]
              exact ⟨fun ⟨q, hq, g1, g2, g3, g4⟩ => by
                rcases List.mem_cons.1 hq with e | hq
                · subst e; exact ⟨_, List.mem_cons_self, g1, g2, g3, g4⟩
                · exact ⟨q, by simp [hq], g1, g2, g3, g4⟩, fun ⟨q, hq, g1, g2, g3, g4⟩ => by
                rcases List.mem_cons.1 hq with e | hq
                · subst e; exact ⟨_, List.mem_cons_self, g1, g2, g3, g4⟩
                · exact ⟨q, by simp [hq], g1, g2, g3, g4⟩⟩
            · rcases List.mem_cons.1 hq with e | hq
              · subst e
                obtain ⟨t, ht, g1, g2, g3⟩ := h.pt p (by simp)
                have hd := decPt_mem (a := p.ad) ht
                rw [if_pos g1] at hd
                refine ⟨_, hd, g1, ?_, fun hh => ?_⟩
                · show t.left - 1 = _; rw [g2, hpe]; simp
                · exfalso
                  have hh' : r.turn ≤ p.num := hh
                  rw [hnum0, htu] at hh'; push_cast at hh'; omega
              · exact hpt q hq
            · rcases List.mem_cons.1 hq with e | hq
              · subst e; simp
              · exact h.ne q (by simp [hq])
            · exact h.ads
            · show r.count - 1 = _
              rw [hc, List.flatMap_cons]; simp; omega
end
end Go.Proofs.Ytfkphdmnelchmaa
