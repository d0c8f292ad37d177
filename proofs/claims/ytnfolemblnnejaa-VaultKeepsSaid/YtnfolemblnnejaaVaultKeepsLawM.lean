/- The statement VaultKeepsSaid: for every input the law VaultKeeps returns true and leaves its arguments as they were. -/
import Derived.Deep.RegionLaw
import Derived.Test.YtnfolemblnnejaaVk07
set_option linter.unusedVariables false
set_option linter.unusedSimpArgs false
/- Plain facts of the law VaultKeeps: the newest complete snapshot only advances, the nameless ones are few. -/
namespace Go.Proofs.Ytnfolemblnnejaa
open Go.RowKit Go.Maps

/-- The newest complete snapshot. -/
def Top (s : VS) (n : Int) (t : Sn) : Prop := (n, t) ∈ s.all ∧ t.done = true ∧ ∀ x ∈ s.all, x.2.done = true → x.1 ≤ n
/-- From one state to another the newest one stays, or a newer one comes. -/
def Adv (s s' : VS) : Prop := ∀ n t, Top s n t → ∃ n' t', Top s' n' t' ∧ (n < n' ∨ (n' = n ∧ t'.told = t.told))
def nlP (t : Sn) : Bool := t.done && (t.name.toList == [])
/-- Not more than keep without names. -/
def Few (s : VS) : Prop := ((s.those nlP).length : Int) ≤ s.keep
theorem Adv.refl (s : VS) : Adv s s := fun n t h => ⟨n, t, h, .inr ⟨rfl, rfl⟩⟩
theorem Adv.trans {a b c : VS} (h : Adv a b) (g : Adv b c) : Adv a c := fun n t ht => by
  obtain ⟨n1, t1, h1, e1⟩ := h n t ht
  obtain ⟨n2, t2, h2, e2⟩ := g n1 t1 h1
  refine ⟨n2, t2, h2, ?_⟩
  rcases e1 with e1 | ⟨e1, f1⟩ <;> rcases e2 with e2 | ⟨e2, f2⟩
  · exact .inl (by omega)
  · exact .inl (by omega)
  · exact .inl (by omega)
  · exact .inr ⟨by omega, f2.trans f1⟩
theorem comp_mem {s : VS} {n : Int} : n ∈ s.comp ↔ ∃ t, (n, t) ∈ s.all ∧ t.done = true := by
  unfold VS.comp VS.those
  rw [List.mem_map]
  constructor
  · rintro ⟨⟨k, t⟩, h, rfl⟩
    have h := List.mem_filter.1 h
    exact ⟨t, h.1, h.2⟩
  · rintro ⟨t, h1, h2⟩
    exact ⟨(n, t), List.mem_filter.2 ⟨h1, h2⟩, rfl⟩
theorem those_up {s : VS} (h : VOk s) (P : Sn → Bool) : (s.those P).Pairwise (· < ·) := by
  have h1 := h.up
  unfold VS.nums at h1
  unfold VS.those
  exact h1.sublist ((List.filter_sublist).map Prod.fst)
theorem last_max : ∀ {l : List Int}, l.Pairwise (· < ·) → ∀ (hne : l ≠ []), ∀ x ∈ l, x ≤ l.getLast hne
  | [], _, hne, _, _ => absurd rfl hne
  | [a], _, _, x, hx => by simp at hx; subst hx; exact Int.le_refl _
  | a :: b :: l, hp, _, x, hx => by
    rw [List.getLast_cons (by simp)]
    rw [List.pairwise_cons] at hp
    have ih := last_max hp.2 (by simp)
    rcases List.mem_cons.1 hx with rfl | hx
    · exact Int.le_trans (Int.le_of_lt (hp.1 b (by simp))) (ih b (by simp))
    · exact ih x hx
theorem top_of {s : VS} (h : VOk s) (hne : s.comp ≠ []) : ∃ n t, Top s n t ∧ latAns s.comp = (n, 0) ∧ s.find n = some t := by
  have hm := List.getLast_mem hne
  obtain ⟨t, h1, h2⟩ := comp_mem.1 hm
  refine ⟨s.comp.getLast hne, t, ⟨h1, h2, fun x hx hd => last_max (those_up h Sn.done) hne _ (comp_mem.2 ⟨x.2, hx, hd⟩)⟩, ?_, h.find h1⟩
  unfold latAns
  rw [if_neg hne, List.getLast?_eq_some_getLast hne]
  rfl
theorem top_comp {s : VS} {n : Int} {t : Sn} (h : Top s n t) : s.comp ≠ [] := fun e => by
  have := comp_mem.2 ⟨t, h.1, h.2.1⟩
  rw [e] at this
  cases this
theorem Top.one {s : VS} (h : VOk s) {n n' : Int} {t t' : Sn} (h1 : Top s n t) (h2 : Top s n' t') : n = n' ∧ t = t' := by
  have e : n = n' := Int.le_antisymm (h2.2.2 _ h1.1 h1.2.1) (h1.2.2 _ h2.1 h2.2.1)
  subst e
  exact ⟨rfl, h.one h1.1 h2.1⟩
theorem adv_sub {s s' : VS} {p : Int × Sn → Bool} (he : s'.all = s.all.filter p) (hp : ∀ x ∈ s.all, x.2.done = true → p x = true) : Adv s s' := fun n t ⟨h1, h2, h3⟩ =>
  ⟨n, t, ⟨by rw [he]; exact List.mem_filter.2 ⟨h1, hp _ h1 h2⟩, h2, fun x hx hd => by rw [he] at hx; exact h3 x (List.mem_filter.1 hx).1 hd⟩, .inr ⟨rfl, rfl⟩⟩
theorem few_sub {s s' : VS} {p : Int × Sn → Bool} (he : s'.all = s.all.filter p) (hk : s'.keep = s.keep) (h : Few s) : Few s' := by
  unfold Few VS.those at *
  rw [he, hk]
  refine Int.le_trans (Int.ofNat_le.2 ?_) h
  rw [List.length_map, List.length_map, List.filter_filter]
  have : (s.all.filter (fun a => nlP a.2 && p a)).length ≤ (s.all.filter (fun a => nlP a.2)).length := by
    rw [← List.countP_eq_length_filter, ← List.countP_eq_length_filter]
    exact List.countP_mono_left (fun x _ h => by simp only [Bool.and_eq_true] at h; exact h.1)
  exact this
theorem new_not_done {s : VS} (h : VOk s) (nm : ByteArray) : (Sn.new s.tasks nm).done = false := by
  have := h.t1
  simp only [Sn.new, Sn.done, List.all_replicate]
  simp [show s.tasks ≠ 0 by omega]
theorem adv_trig {s : VS} (h : VOk s) (nm : ByteArray) : Adv s (s.trigged nm) := by
  unfold VS.trigged
  split
  · intro n t ⟨h1, h2, h3⟩
    refine ⟨n, t, ⟨List.mem_append_left _ h1, h2, fun x hx hd => ?_⟩, .inr ⟨rfl, rfl⟩⟩
    rcases List.mem_append.1 hx with hx | hx
    · exact h3 x hx hd
    · simp at hx; subst hx
      rw [new_not_done h] at hd; cases hd
  · exact Adv.refl s
theorem few_trig {s : VS} (h : VOk s) (nm : ByteArray) (hf : Few s) : Few (s.trigged nm) := by
  unfold VS.trigged
  split
  · unfold Few VS.those VS.trig at *
    simp only
    rw [List.filter_append, List.filter_cons, if_neg (by unfold nlP; simp only; rw [new_not_done h]; simp), List.filter_nil, List.append_nil]
    exact hf
  · exact hf
theorem take_last {l : List Int} (hp : l.Pairwise (· < ·)) {j : Nat} (hj : j < l.length) {n : Int} (hn : ∀ x ∈ l, x ≤ n) : n ∉ l.take j := fun hm => by
  have hm' := hm
  rw [← List.take_append_drop j l, List.pairwise_append] at hp
  have h1 := hp.2.2 n hm (l[j]) (List.drop_eq_getElem_cons hj ▸ List.mem_cons_self)
  have h2 := hn _ (List.getElem_mem hj)
  omega
theorem adv_dropped {s : VS} (h : VOk s) : Adv s s.dropped := fun n t ⟨h1, h2, h3⟩ => by
  have hk := h.k
  refine ⟨n, t, ⟨?_, h2, fun x hx hd => h3 x (List.mem_filter.1 hx).1 hd⟩, .inr ⟨rfl, rfl⟩⟩
  refine List.mem_filter.2 ⟨h1, decide_eq_true ?_⟩
  unfold VS.old
  by_cases h0 : (s.those (fun t => t.done && (t.name.toList == []))).length = 0
  · rw [List.length_eq_zero_iff.1 h0]; simp
  · refine take_last (those_up h _) (by omega) (fun x hx => ?_)
    obtain ⟨y, hy, rfl⟩ := List.mem_map.1 hx
    obtain ⟨hy1, hy2⟩ := List.mem_filter.1 hy
    simp only [Bool.and_eq_true] at hy2
    exact h3 y hy1 hy2.1
theorem few_dropped {s : VS} (h : VOk s) : Few s.dropped := by
  have hk := h.k
  have hup := those_up h nlP
  unfold Few
  show ((s.dropped.those nlP).length : Int) ≤ s.keep
  have e : s.dropped.those nlP = (s.those nlP).filter (fun k => decide (k ∉ s.old)) := by
    unfold VS.dropped VS.dels VS.those
    simp only
    rw [List.filter_map, List.filter_filter, List.filter_filter]
    congr 2
    funext x
    simp only [Function.comp]
    rw [Bool.and_comm]
  have e2 : s.old = (s.those nlP).take ((s.those nlP).length - s.keep.toNat) := rfl
  rw [e, e2]
  generalize s.those nlP = l at *
  have hsp : l.filter (fun k => decide (k ∉ l.take (l.length - s.keep.toNat))) = (l.drop (l.length - s.keep.toNat)).filter (fun k => decide (k ∉ l.take (l.length - s.keep.toNat))) := by
    conv => lhs; arg 2; rw [← List.take_append_drop (l.length - s.keep.toNat) l]
    rw [List.filter_append, List.filter_eq_nil_iff.2 (fun x hx => by simpa using hx), List.nil_append]
  rw [hsp]
  have h1 := List.length_filter_le (fun k => decide (k ∉ l.take (l.length - s.keep.toNat))) (l.drop (l.length - s.keep.toNat))
  rw [List.length_drop] at h1
  omega
theorem updA_mem {s : VS} {k : Int} {f : Sn → Sn} {x : Int × Sn} (h : x ∈ (s.upd k f).all) : ∃ t, (x.1, t) ∈ s.all ∧ ((x.1 = k ∧ x.2 = f t) ∨ (x.1 ≠ k ∧ x.2 = t)) := by
  unfold VS.upd at h
  obtain ⟨⟨j, t⟩, hy, rfl⟩ := List.mem_map.1 h
  by_cases e : j = k
  · exact ⟨t, by simp [e] at hy ⊢; exact hy, .inl (by simp [e])⟩
  · exact ⟨t, by simp [e] at hy ⊢; exact hy, .inr (by simp [e])⟩
theorem mem_updA {s : VS} {k : Int} (f : Sn → Sn) {j : Int} {t : Sn} (h : (j, t) ∈ s.all) : (j, if j = k then f t else t) ∈ (s.upd k f).all := by
  unfold VS.upd
  refine List.mem_map.2 ⟨(j, t), h, ?_⟩
  by_cases e : j = k <;> simp [e]
theorem adv_tell {s : VS} (h : VOk s) {k : Int} {t0 : Sn} (hm : (k, t0) ∈ s.all) (hd : t0.done = false) (i : Nat) (x : Part) : Adv s (s.upd k (fun t => t.tell i x)) := fun n t ⟨h1, h2, h3⟩ => by
  have hne : n ≠ k := fun e => by subst e; rw [h.one h1 hm] at h2; rw [h2] at hd; cases hd
  have hin : (n, t) ∈ (s.upd k (fun t => t.tell i x)).all := by have := mem_updA (k := k) (fun t => t.tell i x) h1; rwa [if_neg hne] at this
  have hink : (k, t0.tell i x) ∈ (s.upd k (fun t => t.tell i x)).all := by have := mem_updA (k := k) (fun t => t.tell i x) hm; rwa [if_pos rfl] at this
  by_cases hc : (t0.tell i x).done = true ∧ n < k
  · refine ⟨k, t0.tell i x, ⟨hink, hc.1, fun y hy hyd => ?_⟩, .inl hc.2⟩
    obtain ⟨u, hu, e | e⟩ := updA_mem hy
    · omega
    · have := h3 (y.1, u) hu (by rw [← e.2]; exact hyd)
      simp only at this; omega
  · refine ⟨n, t, ⟨hin, h2, fun y hy hyd => ?_⟩, .inr ⟨rfl, rfl⟩⟩
    obtain ⟨u, hu, e | e⟩ := updA_mem hy
    · have hu0 : u = t0 := h.one (e.1 ▸ hu) hm
      subst hu0
      rw [e.2] at hyd
      have : ¬ n < k := fun hlt => hc ⟨hyd, hlt⟩
      omega
    · exact h3 (y.1, u) hu (by rw [← e.2]; exact hyd)
theorem few_tell {s : VS} (h : VOk s) {k : Int} {t0 : Sn} (hm : (k, t0) ∈ s.all) (hd : t0.done = false) {f : Sn → Sn} (hd2 : (f t0).done = false) (hf : Few s) : Few (s.upd k f) := by
  unfold Few VS.those VS.upd at *
  simp only
  rw [List.filter_map, List.length_map, List.length_map]
  rw [List.length_map] at hf
  have : s.all.filter ((fun x : Int × Sn => nlP x.2) ∘ fun x => if x.1 = k then (x.1, f x.2) else x) = s.all.filter (fun x => nlP x.2) := by
    refine List.filter_congr (fun x hx => ?_)
    simp only [Function.comp]
    by_cases e : x.1 = k
    · rw [if_pos e]
      have : x.2 = t0 := h.one (k := k) (e ▸ hx) hm
      rw [this]
      unfold nlP
      simp only
      rw [hd, hd2, Bool.false_and, Bool.false_and]
    · rw [if_neg e]
  rw [this]
  exact hf
theorem adv_noName {s : VS} (k : Int) : Adv s (s.upd k Sn.noName) := fun n t ⟨h1, h2, h3⟩ => by
  have h1' := mem_updA (k := k) Sn.noName h1
  refine ⟨n, _, ⟨h1', ?_, fun y hy hyd => ?_⟩, .inr ⟨rfl, ?_⟩⟩
  · split
    · exact h2
    · exact h2
  · obtain ⟨u, hu, e | e⟩ := updA_mem hy
    · exact h3 (y.1, u) hu (by rw [e.2] at hyd; exact hyd)
    · exact h3 (y.1, u) hu (by rw [← e.2]; exact hyd)
  · split <;> rfl
/-- The acts, told plainly. -/
theorem told_adv {s : VS} (h : VOk s) (k task : Int) (x : Part) (hxs : x.1.size ≤ maxLen) : Adv s (s.told k task x) ∧ (Few s → Few (s.told k task x)) := by
  unfold VS.told
  by_cases h0 : (tellAns s k task x).2 ≠ 0
  · rw [if_pos h0]; exact ⟨Adv.refl s, id⟩
  rw [if_neg h0]
  have h0 : (tellAns s k task x).2 = 0 := by simpa using h0
  obtain ⟨t0, hm, hd, h1⟩ : ∃ t0, (k, t0) ∈ s.all ∧ t0.done = false ∧ (tellAns s k task x).1 = (t0.tell task.toNat x).done := by
    cases hv : x.2.all validE with
    | false => rw [tellAns_bad hv] at h0; simp at h0
    | true =>
      cases hf : s.find k with
      | none => rw [tellAns_none hv hf] at h0; split at h0 <;> simp at h0
      | some t0 =>
        rw [tellAns_some hv hf] at h0 ⊢
        by_cases h2 : task < 0 ∨ (t0.told.length : Int) ≤ task
        · rw [if_pos h2] at h0; simp at h0
        rw [if_neg h2] at h0 ⊢
        by_cases h3 : t0.bits.getD task.toNat false = true
        · rw [if_pos h3] at h0; simp at h0
        rw [if_neg h3]
        refine ⟨t0, find_mem hf, ?_, rfl⟩
        rw [Sn.done_bits]
        have hlt : task.toNat < t0.bits.length := by unfold Sn.bits; rw [List.length_map]; omega
        rw [List.all_eq_false]
        refine ⟨t0.bits[task.toNat], List.getElem_mem hlt, ?_⟩
        simpa [List.getD, hlt] using h3
  have hu : VOk (s.upd k (fun t => t.tell task.toNat x)) := h.upd hm (by simp [Sn.tell]) (h.tk _ hm).2.2
  by_cases hc : (tellAns s k task x).1 = true
  · rw [if_pos hc]
    have hdl := hu.dels ((s.upd k (fun t => t.tell task.toNat x)).pend.filter (fun j => decide (j < k)))
    refine ⟨(adv_tell h hm hd task.toNat x).trans (Adv.trans ?_ (adv_dropped hdl)), fun _ => few_dropped hdl⟩
    refine adv_sub rfl (fun y hy hyd => decide_eq_true (fun hmm => ?_))
    obtain ⟨z, hz, hze⟩ := List.mem_map.1 (List.mem_filter.1 hmm).1
    obtain ⟨hz1, hz2⟩ := List.mem_filter.1 hz
    have : z.2 = y.2 := hu.one (k := y.1) (hze ▸ hz1) hy
    simp only [this, hyd] at hz2
    cases hz2
  · rw [if_neg hc]
    refine ⟨adv_tell h hm hd task.toNat x, fun hf => few_tell h hm hd ?_ hf⟩
    rw [← h1]
    simpa using hc
theorem del_adv {s : VS} (h : VOk s) {k : Int} (hd : decAns (s.find k) = 0) : Adv s (s.del k) ∧ (Few s → Few (s.del k)) := by
  refine ⟨adv_sub rfl (fun y hy hyd => decide_eq_true (fun e => ?_)), few_sub rfl rfl⟩
  have hf := h.find (k := k) (t := y.2) (e ▸ hy)
  rw [hf] at hd
  simp only [decAns] at hd
  rw [if_pos hyd] at hd
  cases hd
theorem pend_adv {s : VS} (h : VOk s) : Adv s (s.dels s.pend) ∧ (Few s → Few (s.dels s.pend)) := by
  refine ⟨adv_sub rfl (fun y hy hyd => decide_eq_true (fun hmm => ?_)), few_sub rfl rfl⟩
  obtain ⟨z, hz, hze⟩ := List.mem_map.1 hmm
  obtain ⟨hz1, hz2⟩ := List.mem_filter.1 hz
  have : z.2 = y.2 := h.one (k := y.1) (hze ▸ hz1) hy
  simp only [this, hyd] at hz2
  cases hz2
theorem forget_adv {s : VS} (h : VOk s) (nm : ByteArray) : Adv s (s.forget nm) ∧ (Few s → Few (s.forget nm)) := by
  unfold VS.forget
  split
  · next h0 =>
    obtain ⟨t, hm, -, -⟩ := named_in h0
    have hu : VOk (s.upd (namedAns s nm).1 Sn.noName) := h.upd hm rfl (Nat.zero_le _)
    exact ⟨(adv_noName _).trans (adv_dropped hu), fun _ => few_dropped hu⟩
  · exact ⟨Adv.refl s, id⟩
theorem comp_names (s : VS) : s.comp.length = (s.those nlP).length + s.names.length := by
  unfold VS.comp VS.those VS.names
  rw [List.length_map, List.length_map, List.length_map]
  generalize s.all = l
  induction l with
  | nil => rfl
  | cons x l ih =>
    rw [List.filter_cons, List.filter_cons]
    unfold nlP at ih ⊢
    by_cases hd : x.2.done = true
    · by_cases hn : (x.2.name.toList == []) = true
      · rw [if_pos hd, if_pos (by simp [hd, hn]), List.length_cons, List.length_cons, List.filter_cons, if_neg (by simp [hn])]; omega
      · rw [if_pos hd, if_neg (by simp [hd, hn]), List.length_cons, List.filter_cons, if_pos (by simpa using hn), List.length_cons]; omega
    · rw [if_neg hd, if_neg (by simp [hd])]; exact ih
theorem few_names {s : VS} (h : Few s) : (s.comp.length : Int) ≤ s.keep + s.names.length := by
  have := comp_names s
  unfold Few at h
  omega
end Go.Proofs.Ytnfolemblnnejaa
/- VaultKeeps: what an act does, told plainly. -/
namespace Go.Proofs.Ytnfolemblnnejaa
open Go.RowKit Go.Maps

theorem act_adv {s : VS} (h : VOk s) (x : VAct) (hx : x.tx.size ≤ maxLen) : Adv s (actVS s x) ∧ (Few s → Few (actVS s x)) := by
  unfold actVS
  split
  · exact ⟨adv_trig h _, few_trig h _⟩
  split
  · unfold VS.declined
    split
    · next e => exact del_adv h e
    · exact ⟨Adv.refl s, id⟩
  split
  · exact pend_adv h
  split
  · exact forget_adv h _
  split
  · unfold VS.retasked
    split <;> exact ⟨Adv.refl s, id⟩
  · exact told_adv h _ _ _ hx
theorem act_keep (s : VS) (x : VAct) : (actVS s x).keep = s.keep := by
  unfold actVS
  split
  · unfold VS.trigged; split <;> rfl
  split
  · unfold VS.declined; split <;> rfl
  split
  · rfl
  split
  · unfold VS.forget; split <;> rfl
  split
  · unfold VS.retasked; split <;> rfl
  · unfold VS.told; split; rfl; split <;> rfl
/-- What the law has in its variables: the newest number, its texts. -/
def LastIs (s : VS) (nl : Int) (ts : List ByteArray) : Prop := (nl = 0 ∧ s.comp = []) ∨ ∃ t, Top s nl t ∧ ts = t.texts
theorem LastIs.none {s s' : VS} {nl : Int} {ts : List ByteArray} (hl : LastIs s nl ts) (ha : Adv s s') (h0 : s'.comp = []) : nl = 0 := by
  rcases hl with ⟨rfl, -⟩ | ⟨t, ht, -⟩
  · rfl
  · obtain ⟨n', t', h1, -⟩ := ha _ _ ht
    exact absurd h0 (top_comp h1)
theorem LastIs.some {s s' : VS} {nl n : Int} {t : Sn} {ts : List ByteArray} (hok : VOk s') (hl : LastIs s nl ts) (ha : Adv s s') (ht : Top s' n t) : ¬ n < nl ∧ (n = nl → t.texts = ts) := by
  have hn : 1 ≤ n := (hok.lt _ (mem_nums ht.1)).1
  rcases hl with ⟨rfl, -⟩ | ⟨t0, ht0, rfl⟩
  · exact ⟨by omega, fun e => by omega⟩
  · obtain ⟨n', t', h1, h2⟩ := ha _ _ ht0
    obtain ⟨rfl, rfl⟩ := Top.one hok ht h1
    rcases h2 with h2 | ⟨h2, h3⟩
    · exact ⟨by omega, fun e => by omega⟩
    · exact ⟨by omega, fun _ => by unfold Sn.texts; rw [h3]⟩
end Go.Proofs.Ytnfolemblnnejaa
/- VaultKeeps: the walk (printed by gen_vkeeps.py). -/
namespace Go.Proofs.Ytnfolemblnnejaa
open Go.RowKit Go.Maps

set_option maxRecDepth 100000 in
set_option maxHeartbeats 16000000 in
theorem vaultKeeps_any (tasks most keep : Int) (l : List VAct) (v : Value) (w : World) (h0 : inI64 tasks) (h1 : inI64 most) (h2 : inI64 keep) (hv : tVActs.rv (mem w) [v] l) :
    Calls Try.prog 3 #[.int .i64 tasks, .int .i64 most, .int .i64 keep, v] w fun e w' => e = .returned (.bool true) ∧ Below w.heap.size w w' := by
  obtain ⟨av, kv, rfl, hlv, hmv, -⟩ := slice_form hv
  have hkv : kv ≤ 9223372036854775807 := by unfold maxLen at hmv; exact hmv
  have HV := Lib.hid hv
  clear hv hmv
  go_enter Try.func3, Try.ntmps3
  go_wp2_with fail
  refine (awake_any _).mono ?_
  rintro e w1 ⟨rfl, hb⟩
  have HB1 := Lib.hid hb
  clear hb
  go_wp2_with fail
  refine (many_any l _ _ (tVActs.mono _ _ _ _ (below_mem HB1.out) HV.out)).mono ?_
  rintro e w2 ⟨bb, rfl, hb, hmany⟩
  have HB2 := Lib.hid (pure_trans HB1.out hb)
  have HMY := Lib.hid hmany
  clear hb HB1 hmany
  cases bb
  case true =>
    go_wp2
    go_ret
    exact ⟨rfl, HB2.out⟩
  obtain ⟨hl80, hsm⟩ := HMY.out rfl
  have HSM := Lib.hid hsm
  clear hsm HMY
  by_cases h40 : 40 < tasks
  case pos =>
    go_wp2
    go_ret
    exact ⟨rfl, HB2.out⟩
  by_cases hna : newAns tasks most keep = 0
  case neg =>
    have HRN := Lib.hid (fun wr => refNew_any tasks most keep wr)
    have HNA := Lib.hid hna
    clear hna
    go_wp2_with fail
    refine (vNew_bad tasks most keep w2 HNA.out).mono ?_
    rintro e w3 ⟨rfl, rfl⟩
    go_wp2_with fail
    refine (HRN.out _).mono ?_
    rintro e w4 ⟨hb, hor⟩
    obtain ⟨-, rfl⟩ : newAns tasks most keep ≠ 0 ∧ e = _ := by
      rcases hor with h | h
      · exact h
      · exact absurd h.1 HNA.out
    have HB4 := Lib.hid (HB2.out.trans (hb.mono HB2.out.size))
    clear hb hor HRN
    go_wp2
    go_ret
    exact ⟨rfl, HB4.out.alloc HB4.out.size _⟩
  have HRN := Lib.hid (fun wr => refNew_any tasks most keep wr)
  have HNA := Lib.hid hna
  have hkk : 1 ≤ keep ∧ keep ≤ 10 := by
    unfold newAns at hna
    by_cases hc : (1 ≤ tasks ∧ tasks ≤ 400) ∧ (1 ≤ most ∧ most ≤ 5) ∧ (1 ≤ keep ∧ keep ≤ 10)
    · exact hc.2.2
    · rw [if_neg hc] at hna; cases hna
  have htt : 0 ≤ tasks := by
    unfold newAns at hna
    by_cases hc : (1 ≤ tasks ∧ tasks ≤ 400) ∧ (1 ≤ most ∧ most ≤ 5) ∧ (1 ≤ keep ∧ keep ≤ 10)
    · omega
    · rw [if_neg hc] at hna; cases hna
  clear hna
  go_wp2_with fail
  refine (vNew_any tasks most keep w2 HNA.out (by omega)).mono ?_
  rintro e w3 ⟨p, r, rfl, hI, hvs, hb⟩
  have HI3 := Lib.hid hI
  have HVS := Lib.hid hvs
  have HB3 := Lib.hid (HB2.out.trans (hb.mono HB2.out.size))
  have HWB := Lib.hid HB2.out.size
  have HS3 := Lib.hid hb.size
  clear hI hvs hb HB2
  generalize w2.heap.size = base at *
  go_wp2_with fail
  refine (HRN.out _).mono ?_
  rintro e w4 ⟨hb, hor⟩
  obtain ⟨-, rfl⟩ : newAns tasks most keep = 0 ∧ e = _ := by
    rcases hor with h | h
    · exact absurd HNA.out h.1
    · exact h
  have HBX := Lib.hid (hb.alloc hb.size (.cells #[.int .i64 tasks, .int .i64 most, .int .i64 keep, .int .i64 1, .slice none 0 0] 31))
  have HIX := Lib.hid (HI3.out.pure HBX.out)
  have HRX := Lib.hid (heap_alloc_new w4 (.cells #[.int .i64 tasks, .int .i64 most, .int .i64 keep, .int .i64 1, .slice none 0 0] 31))
  have HS5 := Lib.hid hb.size
  clear hb hor HRN HNA
  go_wp2_with fail
  generalize w4.alloc (.cells #[.int .i64 tasks, .int .i64 most, .int .i64 keep, .int .i64 1, .slice none 0 0] 31) = X at *
  have HNM := Lib.hid (fun (k : Nat) (e : mutV p r k) => (show k < w4.heap.size from Nat.lt_of_lt_of_le (HI3.out.kind k e) HS5.out))
  generalize w4.heap.size = R at *
  have HBo := Lib.hid (show Below w.heap.size w X from HB3.out.trans (HBX.out.mono HB3.out.size))
  have HAR := Lib.hid (show (#[.int .i64 tasks, .int .i64 most, .int .i64 keep, .int .i64 1, .slice none 0 0] : Array Value) = #[.int .i64 r.vs.tasks, .int .i64 r.vs.most, .int .i64 r.vs.keep, .int .i64 ((r.vs.last : Int) + 1), .slice none r.vs.all.length 0] from by
    rw [HVS.out]
    show _ = (#[.int .i64 ((tasks.toNat : Nat) : Int), .int .i64 most, .int .i64 keep, .int .i64 1, .slice none 0 0] : Array Value)
    rw [Int.toNat_of_nonneg htt])
  have HL0 := Lib.hid (show VLaw base p 0 ((safeV X p r).on (· ≠ R)) R w X r (.slice none r.vs.all.length 0) #[.int .i64 r.vs.tasks, .int .i64 r.vs.most, .int .i64 r.vs.keep, .int .i64 ((r.vs.last : Int) + 1), .slice none r.vs.all.length 0] from
    ⟨HIX.out, Mem.le_refl _, by rw [HVS.out]; exact Nat.le_refl _, ⟨by rw [HVS.out]; exact slice_nil _ _, HIX.out.ok⟩, by rw [← HAR.out]; exact HRX.out, rv_notext, fun e => Nat.lt_irrefl _ (HNM.out R e), HBo.out, HWB.out, by have := HB3.out.size; have := HS5.out; omega⟩)
  have HW0 := Lib.hid (show (mem w).le ((safeV X p r).on (· ≠ R)) from fun b x v e => by
    have hlt := mem_lt e
    refine Mem.on_some (Mem.on_some (below_mem HBo.out _ _ _ e) (fun hm => ?_)) (fun e => ?_)
    · have := HIX.out.ge b hm; have := HWB.out; omega
    · have := HB3.out.size; have := HS5.out; omega)
  have HA0 := Lib.hid (tVActs.mono _ _ _ _ HW0.out HV.out)
  have HF0 := Lib.hid (show Few r.vs ∧ r.vs.keep = keep ∧ LastIs r.vs 0 [] from by
    rw [HVS.out]
    exact ⟨by show ((([] : List Int).length : Nat) : Int) ≤ keep; simp; omega, rfl, .inl ⟨rfl, rfl⟩⟩)
  clear HV HI3 HVS HB3 HWB HBX HIX HRX HS5 HNM HBo HW0 HAR HS3
  go_loopw [13, 14, 15] (fun nv tv iv wr => ∃ (k : Nat) (M : Mem) (r : HV) (aa : Option Addr) (ca : Nat) (nl : Int) (ts : List ByteArray) (ta : Option Addr) (tc : Nat), k ≤ l.length ∧ iv = .int .i64 k ∧ nv = .int .i64 nl ∧ tv = .slice ta ts.length tc ∧ Hid (VLaw base p k M R w wr r (.slice aa r.vs.all.length ca) #[.int .i64 r.vs.tasks, .int .i64 r.vs.most, .int .i64 r.vs.keep, .int .i64 ((r.vs.last : Int) + 1), .slice aa r.vs.all.length ca]) ∧ Hid (tVActs.rv M [.slice av l.length kv] l) ∧ Hid (tStrs.rv M [.slice ta ts.length tc] ts) ∧ Hid (Few r.vs ∧ r.vs.keep = keep ∧ LastIs r.vs nl ts)) (fun _ _ iv _ => l.length - (intOf iv).toNat)
  case atStart => exact ⟨0, _, r, none, 0, 0, [], none, 0, Nat.zero_le _, rfl, rfl, rfl, HL0, HA0, Lib.hid (slice_nil _ _), HF0⟩
  case round =>
    clear HL0 HA0 HF0
    obtain ⟨k, M, r, aa, ca, nl, ts, ta, tc, hk, rfl, rfl, rfl, HL, HA, HTS, HF⟩ := hrel
    by_cases hlt : k < l.length
    · obtain ⟨b, o, ve, e, ⟨q0, q1, q2, q3, q4, q5⟩, hok, hve⟩ := vacts_at HA.out hlt
      subst e
      have d0 : wr.cell? ⟨b, o + k * 6, none⟩ = some (.int .u8 l[k].k) := HL.out.le _ _ _ q0
      have d1 : wr.cell? ⟨b, o + k * 6 + 1, none⟩ = some (.int .i64 l[k].n) := HL.out.le _ _ _ q1
      have d2 : wr.cell? ⟨b, o + k * 6 + 2, none⟩ = some (.int .i64 l[k].t) := HL.out.le _ _ _ q2
      have d3 : wr.cell? ⟨b, o + k * 6 + 3, none⟩ = some (.string l[k].nm) := HL.out.le _ _ _ q3
      have d4 : wr.cell? ⟨b, o + k * 6 + 4, none⟩ = some (.string l[k].tx) := HL.out.le _ _ _ q4
      have d5 : wr.cell? ⟨b, o + k * 6 + 5, none⟩ = some ve := HL.out.le _ _ _ q5
      have hsx := HSM.out _ (List.getElem_mem hlt)
      clear q0 q1 q2 q3 q4 q5
      generalize l[k] = x at *
      obtain ⟨xk, xn, xt, nm, tx, es⟩ := x
      simp only at d0 d1 d2 d3 d4 d5
      have hk0 : 0 ≤ xk := hok.1.1
      have hkm : xk.tmod 10 = xk % 10 := Int.tmod_eq_emod_of_nonneg hk0
      by_cases hskip : xk % 10 = 9 ∧ 40 < xt
      case pos =>
        obtain ⟨hs9, hs40⟩ := hskip
        rw [hs9] at hkm
        have HLM := Lib.hid HL.out.more
        clear hok hve hsx d3 d4 d5
        go_wp2_with fail
        go_roundw
        case rel => exact ⟨k + 1, M, r, aa, ca, nl, ts, ta, tc, by omega, by go_num, rfl, rfl, HLM, HA, HTS, HF⟩
        case measure => simp [intOf]; omega
      have h49 : xk % 10 = 9 → xt ≤ 40 := fun e => by
        have : ¬ 40 < xt := fun h => hskip ⟨e, h⟩
        omega
      have HLD := Lib.hid (HL.out.pure0 (Below.refl wr.heap.size wr).drew)
      obtain ⟨ae, ke, rfl, -⟩ := slice_form hve
      have HD := Lib.hid (does_any base p k M wr.drew r _ ⟨xk, xn, xt, nm, tx, es⟩ _ HLD.out.run hok hsx hve (by omega) h49)
      have HAD := Lib.hid (act_adv HL.out.inv.ok ⟨xk, xn, xt, nm, tx, es⟩ hok.2.2.2.2)
      have HAK := Lib.hid (act_keep r.vs ⟨xk, xn, xt, nm, tx, es⟩)
      have c0 : wr.cell? ⟨R, 0, none⟩ = some (.int .i64 r.vs.tasks) := mem_cells HL.out.hR 0
      have c1 : wr.cell? ⟨R, 1, none⟩ = some (.int .i64 r.vs.most) := mem_cells HL.out.hR 1
      have c2 : wr.cell? ⟨R, 2, none⟩ = some (.int .i64 r.vs.keep) := mem_cells HL.out.hR 2
      have c3 : wr.cell? ⟨R, 3, none⟩ = some (.int .i64 ((r.vs.last : Int) + 1)) := mem_cells HL.out.hR 3
      have c4 : wr.cell? ⟨R, 4, none⟩ = some (.slice aa r.vs.all.length ca) := mem_cells HL.out.hR 4
      clear hok hve hsx
      rcases (show (xk % 10 = 9 ∧ xt ≤ 40) ∨ ¬ xk % 10 = 9 from by by_cases e : xk % 10 = 9; exact .inl ⟨e, h49 e⟩; exact .inr e) with ⟨hs9, hs40⟩ | hs9
      · rw [hs9] at hkm
        clear h49 hskip hk0
        go_wp2_with fail
        go_region_law (go_simp; go_at_call 9; refine HD.out.mono ?_; rintro e w5 hd; obtain ⟨r5, a5, M5, rfl, hl5, hm5, hv5⟩ := HLD.out.after hd; obtain ⟨a6, k6, rfl, -, -, -⟩ := slice_form hl5.rat.ha; have HL5 := Lib.hid hl5; have HM5 := Lib.hid hm5; have HV5 := Lib.hid hv5; have e0 : w5.cell? ⟨R, 0, none⟩ = some (.int .i64 r.vs.tasks) := mem_cells hl5.hR 0; have e1 : w5.cell? ⟨R, 1, none⟩ = some (.int .i64 r.vs.most) := mem_cells hl5.hR 1; have e2 : w5.cell? ⟨R, 2, none⟩ = some (.int .i64 r.vs.keep) := mem_cells hl5.hR 2; have e3 : w5.cell? ⟨R, 3, none⟩ = some (.int .i64 ((r.vs.last : Int) + 1)) := mem_cells hl5.hR 3; have e4 : w5.cell? ⟨R, 4, none⟩ = some (.slice aa r.vs.all.length ca) := mem_cells hl5.hR 4; have z0 := frozen_cells hl5.hR 0; have z1 := frozen_cells hl5.hR 1; have z2 := frozen_cells hl5.hR 2; have z3 := frozen_cells hl5.hR 3; have z4 := frozen_cells hl5.hR 4; clear hd hl5 hm5 hv5)
        all_goals
          have HL6 := Lib.hid (HL5.out.store (store5_keeps w5 R (.int .i64 r5.vs.tasks) (.int .i64 r5.vs.most) (.int .i64 r5.vs.keep) (.int .i64 ((r5.vs.last : Int) + 1)) (.slice a6 r5.vs.all.length k6)) (store5_block HL5.out.hR (.int .i64 r5.vs.tasks) (.int .i64 r5.vs.most) (.int .i64 r5.vs.keep) (.int .i64 ((r5.vs.last : Int) + 1)) (.slice a6 r5.vs.all.length k6)) rv_notext)
          have HF5 := Lib.hid (show Few r5.vs ∧ r5.vs.keep = keep ∧ Adv r.vs r5.vs from by rw [HV5.out]; exact ⟨HAD.out.2 HF.out.1, HAK.out.trans HF.out.2.1, HAD.out.1⟩)
          have HA5 := Lib.hid (tVActs.mono _ _ _ _ HM5.out HA.out)
          have HT5 := Lib.hid (tStrs.mono _ _ _ _ HM5.out HTS.out)
          have HLI := Lib.hid HF.out.2.2
          clear HD HLD HL HA HTS HF HAD HAK HV5 c0 c1 c2 c3 c4 d0 d1 d2 d3 d4 d5
          go_upto_region 16 with fail
          show Code.wp _ _ _ _ (store5 w5 R (.int .i64 r5.vs.tasks) (.int .i64 r5.vs.most) (.int .i64 r5.vs.keep) (.int .i64 ((r5.vs.last : Int) + 1)) (.slice a6 r5.vs.all.length k6))
          clear e0 e1 e2 e3 e4 z0 z1 z2 z3 z4 HL5
          generalize store5 w5 R (.int .i64 r5.vs.tasks) (.int .i64 r5.vs.most) (.int .i64 r5.vs.keep) (.int .i64 ((r5.vs.last : Int) + 1)) (.slice a6 r5.vs.all.length k6) = w6 at *
          have hcl := those_len HL6.out.inv.ok Sn.done
          change r5.vs.comp.length ≤ 1000000 at hcl
          go_wp2_with fail
          refine (vLatest_any w6 HL6.out.inv).mono ?_
          rintro e w7 ⟨rfl, hb7⟩
          have HL7 := Lib.hid (HL6.out.pure0 hb7)
          clear hb7 HL6
          by_cases hcm : r5.vs.comp = []
          case pos =>
            have hn0 := HLI.out.none HF5.out.2.2 hcm
            subst hn0
            have hla : latAns r5.vs.comp = (0, 8) := by rw [hcm]; rfl
            have HLN := Lib.hid (show LastIs r5.vs 0 ts from .inl ⟨rfl, hcm⟩)
            rw [hla]
            clear hcm hla
            go_wp2
            go_roundw
            case rel => exact ⟨k + 1, M5, r5, a6, k6, 0, ts, ta, tc, by omega, by go_num, rfl, rfl, HL7, HA5, HT5, Lib.hid ⟨HF5.out.1, HF5.out.2.1, HLN.out⟩⟩
            case measure => simp [intOf]; omega
          obtain ⟨n, t, htop, hla, hfd⟩ := top_of HL7.out.inv.ok hcm
          have hnn := HLI.out.some HL7.out.inv.ok HF5.out.2.2 htop
          have hn64 := HL7.out.inv.ok.i64 (mem_nums htop.1)
          simp only at hn64
          have HTX := Lib.hid (vTexts_any n w7 HL7.out.inv hn64)
          have hta : textsAns (some t) = (t.texts, 0) := by unfold textsAns; simp only; rw [if_pos htop.2.1]
          rw [hfd, hta] at HTX
          rw [hla]
          have HTP := Lib.hid htop
          have HEQ := Lib.hid hnn.2
          have hnlt := hnn.1
          clear hcm hla hfd hta htop hnn
          go_wp2_with fail
          refine HTX.out.mono ?_
          rintro e w8 ⟨a8, c8, rfl, hrv8, hb8⟩
          have HL8 := Lib.hid (HL7.out.grow hb8)
          have HM8 := Lib.hid (joinM_le (W' := w8) HL7.out.le)
          have HT8 := Lib.hid (tStrs.mono _ _ _ _ (joinM_new (M := M5)) hrv8)
          clear hb8 hrv8 HTX
          generalize joinM M5 w7 w8 = M8 at *
          have HA8 := Lib.hid (tVActs.mono _ _ _ _ HM8.out HA5.out)
          have HLN := Lib.hid (show LastIs r5.vs n t.texts from .inr ⟨t, HTP.out, rfl⟩)
          have HST := Lib.hid (sameTexts_any t.texts ts _ _ w8 (tStrs.mono _ _ _ _ HL8.out.le HT8.out) (tStrs.mono _ _ _ _ (Mem.le_trans HM8.out HL8.out.le) HT5.out))
          have HFN := Lib.hid (few_names HF5.out.1)
          have HKE := Lib.hid HF5.out.2.1
          rw [HKE.out] at HFN
          have HNL := Lib.hid (comp_names r5.vs)
          clear HT5 HA5 HM8 HLI
          generalize t.texts = tt at *
          rcases (show n = nl ∨ n ≠ nl from by omega) with hnx | hnx
          · have htt2 := HEQ.out hnx
            subst hnx
            rw [decide_eq_true htt2] at HST
            clear HEQ htt2
            go_wp2_with fail
            refine HST.out.mono ?_
            rintro e w9 ⟨rfl, hb9⟩
            have HL9 := Lib.hid (HL8.out.pure0 hb9)
            clear hb9 HST HL8
            go_wp2_with fail
            refine (vComplete_any _ HL9.out.inv).mono ?_
            rintro e w10 ⟨a10, c10, rfl, -, hb10⟩
            have HL10 := Lib.hid (HL9.out.pure0 hb10)
            clear hb10 HL9
            go_wp2_with fail
            refine (vNames_any _ HL10.out.inv).mono ?_
            rintro e w11 ⟨a11, c11, rfl, -, hb11⟩
            have HL11 := Lib.hid (HL10.out.pure0 hb11)
            clear hb11 HL10
            have hfn := HFN.out
            have hnl2 : r5.vs.names.length ≤ 1000000 := by have := HNL.out; omega
            clear HFN HNL
            generalize r5.vs.comp.length = cl at *
            generalize r5.vs.names.length = nm' at *
            go_wp2
            go_roundw
            case rel => exact ⟨k + 1, M8, r5, a6, k6, n, tt, a8, c8, by omega, by go_num, rfl, rfl, HL11, HA8, HT8, Lib.hid ⟨HF5.out.1, HF5.out.2.1, HLN.out⟩⟩
            case measure => simp [intOf]; omega
          · have hne : (n == nl) = false := by rw [beq_eq_false_iff_ne]; exact hnx
            clear HST HEQ
            have HL9 := HL8
            go_wp2_with fail
            refine (vComplete_any _ HL9.out.inv).mono ?_
            rintro e w10 ⟨a10, c10, rfl, -, hb10⟩
            have HL10 := Lib.hid (HL9.out.pure0 hb10)
            clear hb10 HL9
            go_wp2_with fail
            refine (vNames_any _ HL10.out.inv).mono ?_
            rintro e w11 ⟨a11, c11, rfl, -, hb11⟩
            have HL11 := Lib.hid (HL10.out.pure0 hb11)
            clear hb11 HL10
            have hfn := HFN.out
            have hnl2 : r5.vs.names.length ≤ 1000000 := by have := HNL.out; omega
            clear HFN HNL
            generalize r5.vs.comp.length = cl at *
            generalize r5.vs.names.length = nm' at *
            go_wp2
            go_roundw
            case rel => exact ⟨k + 1, M8, r5, a6, k6, n, tt, a8, c8, by omega, by go_num, rfl, rfl, HL11, HA8, HT8, Lib.hid ⟨HF5.out.1, HF5.out.2.1, HLN.out⟩⟩
            case measure => simp [intOf]; omega
      · have hkb : (xk.tmod 10 == 9) = false := by rw [beq_eq_false_iff_ne, hkm]; exact hs9
        clear h49 hskip hk0
        go_wp2_with fail
        go_region_law (go_simp; go_at_call 9; refine HD.out.mono ?_; rintro e w5 hd; obtain ⟨r5, a5, M5, rfl, hl5, hm5, hv5⟩ := HLD.out.after hd; obtain ⟨a6, k6, rfl, -, -, -⟩ := slice_form hl5.rat.ha; have HL5 := Lib.hid hl5; have HM5 := Lib.hid hm5; have HV5 := Lib.hid hv5; have e0 : w5.cell? ⟨R, 0, none⟩ = some (.int .i64 r.vs.tasks) := mem_cells hl5.hR 0; have e1 : w5.cell? ⟨R, 1, none⟩ = some (.int .i64 r.vs.most) := mem_cells hl5.hR 1; have e2 : w5.cell? ⟨R, 2, none⟩ = some (.int .i64 r.vs.keep) := mem_cells hl5.hR 2; have e3 : w5.cell? ⟨R, 3, none⟩ = some (.int .i64 ((r.vs.last : Int) + 1)) := mem_cells hl5.hR 3; have e4 : w5.cell? ⟨R, 4, none⟩ = some (.slice aa r.vs.all.length ca) := mem_cells hl5.hR 4; have z0 := frozen_cells hl5.hR 0; have z1 := frozen_cells hl5.hR 1; have z2 := frozen_cells hl5.hR 2; have z3 := frozen_cells hl5.hR 3; have z4 := frozen_cells hl5.hR 4; clear hd hl5 hm5 hv5)
        all_goals
          have HL6 := Lib.hid (HL5.out.store (store5_keeps w5 R (.int .i64 r5.vs.tasks) (.int .i64 r5.vs.most) (.int .i64 r5.vs.keep) (.int .i64 ((r5.vs.last : Int) + 1)) (.slice a6 r5.vs.all.length k6)) (store5_block HL5.out.hR (.int .i64 r5.vs.tasks) (.int .i64 r5.vs.most) (.int .i64 r5.vs.keep) (.int .i64 ((r5.vs.last : Int) + 1)) (.slice a6 r5.vs.all.length k6)) rv_notext)
          have HF5 := Lib.hid (show Few r5.vs ∧ r5.vs.keep = keep ∧ Adv r.vs r5.vs from by rw [HV5.out]; exact ⟨HAD.out.2 HF.out.1, HAK.out.trans HF.out.2.1, HAD.out.1⟩)
          have HA5 := Lib.hid (tVActs.mono _ _ _ _ HM5.out HA.out)
          have HT5 := Lib.hid (tStrs.mono _ _ _ _ HM5.out HTS.out)
          have HLI := Lib.hid HF.out.2.2
          clear HD HLD HL HA HTS HF HAD HAK HV5 c0 c1 c2 c3 c4 d0 d1 d2 d3 d4 d5
          go_upto_region 16 with fail
          show Code.wp _ _ _ _ (store5 w5 R (.int .i64 r5.vs.tasks) (.int .i64 r5.vs.most) (.int .i64 r5.vs.keep) (.int .i64 ((r5.vs.last : Int) + 1)) (.slice a6 r5.vs.all.length k6))
          clear e0 e1 e2 e3 e4 z0 z1 z2 z3 z4 HL5
          generalize store5 w5 R (.int .i64 r5.vs.tasks) (.int .i64 r5.vs.most) (.int .i64 r5.vs.keep) (.int .i64 ((r5.vs.last : Int) + 1)) (.slice a6 r5.vs.all.length k6) = w6 at *
          have hcl := those_len HL6.out.inv.ok Sn.done
          change r5.vs.comp.length ≤ 1000000 at hcl
          go_wp2_with fail
          refine (vLatest_any w6 HL6.out.inv).mono ?_
          rintro e w7 ⟨rfl, hb7⟩
          have HL7 := Lib.hid (HL6.out.pure0 hb7)
          clear hb7 HL6
          by_cases hcm : r5.vs.comp = []
          case pos =>
            have hn0 := HLI.out.none HF5.out.2.2 hcm
            subst hn0
            have hla : latAns r5.vs.comp = (0, 8) := by rw [hcm]; rfl
            have HLN := Lib.hid (show LastIs r5.vs 0 ts from .inl ⟨rfl, hcm⟩)
            rw [hla]
            clear hcm hla
            go_wp2
            go_roundw
            case rel => exact ⟨k + 1, M5, r5, a6, k6, 0, ts, ta, tc, by omega, by go_num, rfl, rfl, HL7, HA5, HT5, Lib.hid ⟨HF5.out.1, HF5.out.2.1, HLN.out⟩⟩
            case measure => simp [intOf]; omega
          obtain ⟨n, t, htop, hla, hfd⟩ := top_of HL7.out.inv.ok hcm
          have hnn := HLI.out.some HL7.out.inv.ok HF5.out.2.2 htop
          have hn64 := HL7.out.inv.ok.i64 (mem_nums htop.1)
          simp only at hn64
          have HTX := Lib.hid (vTexts_any n w7 HL7.out.inv hn64)
          have hta : textsAns (some t) = (t.texts, 0) := by unfold textsAns; simp only; rw [if_pos htop.2.1]
          rw [hfd, hta] at HTX
          rw [hla]
          have HTP := Lib.hid htop
          have HEQ := Lib.hid hnn.2
          have hnlt := hnn.1
          clear hcm hla hfd hta htop hnn
          go_wp2_with fail
          refine HTX.out.mono ?_
          rintro e w8 ⟨a8, c8, rfl, hrv8, hb8⟩
          have HL8 := Lib.hid (HL7.out.grow hb8)
          have HM8 := Lib.hid (joinM_le (W' := w8) HL7.out.le)
          have HT8 := Lib.hid (tStrs.mono _ _ _ _ (joinM_new (M := M5)) hrv8)
          clear hb8 hrv8 HTX
          generalize joinM M5 w7 w8 = M8 at *
          have HA8 := Lib.hid (tVActs.mono _ _ _ _ HM8.out HA5.out)
          have HLN := Lib.hid (show LastIs r5.vs n t.texts from .inr ⟨t, HTP.out, rfl⟩)
          have HST := Lib.hid (sameTexts_any t.texts ts _ _ w8 (tStrs.mono _ _ _ _ HL8.out.le HT8.out) (tStrs.mono _ _ _ _ (Mem.le_trans HM8.out HL8.out.le) HT5.out))
          have HFN := Lib.hid (few_names HF5.out.1)
          have HKE := Lib.hid HF5.out.2.1
          rw [HKE.out] at HFN
          have HNL := Lib.hid (comp_names r5.vs)
          clear HT5 HA5 HM8 HLI
          generalize t.texts = tt at *
          rcases (show n = nl ∨ n ≠ nl from by omega) with hnx | hnx
          · have htt2 := HEQ.out hnx
            subst hnx
            rw [decide_eq_true htt2] at HST
            clear HEQ htt2
            go_wp2_with fail
            refine HST.out.mono ?_
            rintro e w9 ⟨rfl, hb9⟩
            have HL9 := Lib.hid (HL8.out.pure0 hb9)
            clear hb9 HST HL8
            go_wp2_with fail
            refine (vComplete_any _ HL9.out.inv).mono ?_
            rintro e w10 ⟨a10, c10, rfl, -, hb10⟩
            have HL10 := Lib.hid (HL9.out.pure0 hb10)
            clear hb10 HL9
            go_wp2_with fail
            refine (vNames_any _ HL10.out.inv).mono ?_
            rintro e w11 ⟨a11, c11, rfl, -, hb11⟩
            have HL11 := Lib.hid (HL10.out.pure0 hb11)
            clear hb11 HL10
            have hfn := HFN.out
            have hnl2 : r5.vs.names.length ≤ 1000000 := by have := HNL.out; omega
            clear HFN HNL
            generalize r5.vs.comp.length = cl at *
            generalize r5.vs.names.length = nm' at *
            go_wp2
            go_roundw
            case rel => exact ⟨k + 1, M8, r5, a6, k6, n, tt, a8, c8, by omega, by go_num, rfl, rfl, HL11, HA8, HT8, Lib.hid ⟨HF5.out.1, HF5.out.2.1, HLN.out⟩⟩
            case measure => simp [intOf]; omega
          · have hne : (n == nl) = false := by rw [beq_eq_false_iff_ne]; exact hnx
            clear HST HEQ
            have HL9 := HL8
            go_wp2_with fail
            refine (vComplete_any _ HL9.out.inv).mono ?_
            rintro e w10 ⟨a10, c10, rfl, -, hb10⟩
            have HL10 := Lib.hid (HL9.out.pure0 hb10)
            clear hb10 HL9
            go_wp2_with fail
            refine (vNames_any _ HL10.out.inv).mono ?_
            rintro e w11 ⟨a11, c11, rfl, -, hb11⟩
            have HL11 := Lib.hid (HL10.out.pure0 hb11)
            clear hb11 HL10
            have hfn := HFN.out
            have hnl2 : r5.vs.names.length ≤ 1000000 := by have := HNL.out; omega
            clear HFN HNL
            generalize r5.vs.comp.length = cl at *
            generalize r5.vs.names.length = nm' at *
            go_wp2
            go_roundw
            case rel => exact ⟨k + 1, M8, r5, a6, k6, n, tt, a8, c8, by omega, by go_num, rfl, rfl, HL11, HA8, HT8, Lib.hid ⟨HF5.out.1, HF5.out.2.1, HLN.out⟩⟩
            case measure => simp [intOf]; omega
    · obtain rfl : k = l.length := by omega
      go_wp2
      go_ret
      exact ⟨rfl, HL.out.bl⟩
end Go.Proofs.Ytnfolemblnnejaa
namespace Go.Proofs.Ytnfolemblnnejaa.lawVaultKeeps
open Go.ChangeShapes Go.WideShapes Go.ChangeAt Go.RowKit
set_option maxRecDepth 100000 in
theorem lifted (os : Os) (started : os.Started) (H : Type) (enc : TypeId × Value → H) :
    ReturnsInHanded {} Try.checked os 3 .any (Rows.vaultKeepsSpec.pre6 enc Try.prog Try.f3 Rows.vaultKeepsRow.domain false) (Rows.vaultKeepsSpec.post enc Try.prog Try.f3 false true false false) := by
  refine returnsInHanded_of_change (C := Try.checked) Try.own started (by kernel_rfl) Try.func3
    (ChangeSpec.witness6 (enc := enc) (C := Try.checked) false ⟨#[], #[.int .i64 0, .int .i64 0, .int .i64 0, .slice none 0 0], []⟩ 8 (by kernel_rfl) (by kernel_rfl) (by kernel_rfl) (by kernel_rfl)) ?_
  intro W base args ds gs before hval0 hW hcnd _
  have hval : ∀ (j : Nat) t v, Try.f3.params[j]? = some t → args[j]? = some v → Value.okWide Try.prog W .any base t v := hval0
  have hW' := hW
  obtain ⟨p, q, hA0, hV, rfl, hfz, hnd⟩ := hW
  have hA : DataW.TrodAll enc Try.prog W 0 (fun _ => true) true Try.f3.params.toList args.toList ds p := hA0
  rw [Try.params3] at hA hval
  obtain ⟨v0, vs0, d0, ds0, p0, q0, hargs, rfl, rfl, h0, r0⟩ := trodAll_cons hA
  obtain ⟨v1, vs1, d1, ds1, p1, q1, rfl, rfl, rfl, h1, r1⟩ := trodAll_cons r0
  obtain ⟨v2, vs2, d2, ds2, p2, q2, rfl, rfl, rfl, h2, r2⟩ := trodAll_cons r1
  obtain ⟨v3, vs3, d3, ds3, p3, q3, rfl, rfl, rfl, h3, r3⟩ := trodAll_cons r2
  obtain ⟨rfl, rfl, rfl⟩ := trodAll_nil r3
  obtain rfl : args = #[v0, v1, v2, v3] := by cases args; simp_all
  obtain ⟨rfl, rfl⟩ := trodVars_none hV
  obtain ⟨n0, rfl, w0⟩ := arg_int Try.underlying3 (hval 0 3 v0 rfl rfl) h0
  obtain ⟨n1, rfl, w1⟩ := arg_int Try.underlying3 (hval 1 3 v1 rfl rfl) h1
  obtain ⟨n2, rfl, w2⟩ := arg_int Try.underlying3 (hval 2 3 v2 rfl rfl) h2
  obtain ⟨x3, w3⟩ := arg_slice (t := tVAct) reads_vacts Try.underlying22 (hval 3 22 v3 rfl rfl) h3
  clear hA0 hval0
  refine (vaultKeeps_any n0 n1 n2 x3 v3 W w0 w1 w2 w3).mono fun e W' ⟨he, bel⟩ => ?_
  subst he
  exact ⟨_, rfl, law_post Try.laidOut rfl (by rw [Try.params3]; intro t ht; have hs : Try.prog.types.size = Try.prog.types.size := rfl; simp only [List.mem_cons, List.not_mem_nil, or_false] at ht; rcases ht with rfl | rfl | rfl | rfl <;> exact ⟨by kernel_rfl, of_decide_eq_true (by kernel_rfl)⟩) (by kernel_rfl) Try.underlying4 rfl rfl rfl hW' bel⟩

theorem proved : Rows.VaultKeepsSaid :=
  OpenClaim.holds_of_wide 3 Try.f3 rfl rfl rfl rfl rfl rfl rfl ⟨rfl, rfl, rfl, rfl, rfl⟩ rfl rfl rfl rfl rfl (by kernel_rfl) Try.func3 (by kernel_rfl)
    (of_decide_eq_true (by kernel_rfl)) (by unfold Func.isWrapper; first | (rw [if_pos (by decide +kernel)]; kernel_rfl) | (rw [if_neg (by decide +kernel)]; exact ⟨rfl, rfl⟩))
    (fun os started H enc _ => lifted os started H enc)
#print axioms proved
end Go.Proofs.Ytnfolemblnnejaa.lawVaultKeeps
