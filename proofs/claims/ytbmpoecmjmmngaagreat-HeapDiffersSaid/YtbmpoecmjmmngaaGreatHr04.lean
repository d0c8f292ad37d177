/- Part 4 of the texts that the law's proof stands on, merged. -/
import Derived.Test.YtbmpoecmjmmngaaGreatHr03
set_option linter.unusedVariables false
set_option linter.unusedSimpArgs false
/- The state of package heap and the reference's: one relation, its steps; plain. -/
namespace Go.Proofs.YtbmpoecmjmmngaaGreat
open Go.RowKit Go.Maps

def putR (N : Nat) (l : List Ent) (x : Ent) : List Ent × Int := if chk N x.g x.nm [x.key, x.val] ≠ 0 then (l, chk N x.g x.nm [x.key, x.val]) else if (delL l x).length = 4000 then (l, 4) else (putL l x, 0)
theorem delL_val (l : List Ent) {g : Int} {nm key v v' : ByteArray} : delL l ⟨g, nm, key, v⟩ = delL l ⟨g, nm, key, v'⟩ := rfl
def delR (N : Nat) (l : List Ent) (g : Int) (nm key : ByteArray) : List Ent × Int :=
  if chk N g nm [key, .empty] ≠ 0 then (l, chk N g nm [key, .empty]) else if (delL l ⟨g, nm, key, .empty⟩).length = l.length then (l, 8) else (delL l ⟨g, nm, key, .empty⟩, 0)
def GetSays (N : Nat) (l : List Ent) (g : Int) (nm key v : ByteArray) (c : Int) : Prop :=
  (chk N g nm [key, .empty] ≠ 0 ∧ v = .empty ∧ c = chk N g nm [key, .empty]) ∨ (chk N g nm [key, .empty] = 0 ∧ (g, nm, key) ∉ l.map Ent.pl ∧ v = .empty ∧ c = 8) ∨
    (chk N g nm [key, .empty] = 0 ∧ ∃ x ∈ l, x.pl = (g, nm, key) ∧ v = x.val ∧ c = 0)
theorem big_empty : big .empty = false := rfl
theorem chk_empty (N : Nat) (g : Int) (nm key : ByteArray) : chk N g nm [key, .empty] = chk N g nm [key] := by
  unfold chk
  rw [show [key, ByteArray.empty].any big = [key].any big by simp [big_empty]]
structure Rel (s : PS) (r : RS) : Prop where
  hN : s.grps.length = r.N
  es : Es 0 s.grps r.es
  cnt : s.cnt = r.es.length
  le : r.es.length ≤ 4000
  nx : r.next = s.last + 1
  ks : ∀ k, (s.sn k).isSome = true ↔ k ∈ r.sn.map Prod.fst
  se : ∀ x ∈ r.sn, ∀ fs, s.sn x.1 = some fs → Es 0 fs x.2 ∧ fs.length = r.N
  sl : ∀ x ∈ r.sn, x.2.length ≤ 4000
  up : (r.sn.map Prod.fst).Pairwise (· < ·)
  lt : ∀ k ∈ r.sn.map Prod.fst, 1 ≤ k ∧ k ≤ s.last
  l20 : r.sn.length ≤ 20
  pos : 0 ≤ s.last
  ok : ∀ x ∈ r.es, big x.key = false
  so : ∀ x ∈ r.sn, ∀ y ∈ x.2, big y.key = false
section
variable {s : PS} {r : RS}
/-- Only the entries change. -/
theorem Rel.ents (h : Rel s r) {gs : List FMap} {c : Int} {es : List Ent} (hl : gs.length = r.N) (he : Es 0 gs es) (hc : c = es.length) (h4 : es.length ≤ 4000) (ho : ∀ x ∈ es, big x.key = false) : Rel { s with grps := gs, cnt := c } { r with es := es } :=
  ⟨hl, he, hc, h4, h.nx, h.ks, h.se, h.sl, h.up, h.lt, h.l20, h.pos, ho, h.so⟩
theorem putL_ok (h : ∀ x ∈ r.es, big x.key = false) {x : Ent} (hx : big x.key = false) : ∀ y ∈ putL r.es x, big y.key = false := fun y hy => by
  rcases (putL_mem x y).1 hy with rfl | ⟨h1, _⟩
  · exact hx
  · exact h y h1
theorem Rel.put (h : Rel s r) {g : Int} {nm key val : ByteArray} {F : FMap} (hF : 0 ≤ g → g < r.N → s.grps[g.toNat]? = some F) :
    putAns r.N F s.cnt g nm key val = (putR r.N r.es ⟨g, nm, key, val⟩).2 ∧ Rel (s.put r.N F g nm key val) { r with es := (putR r.N r.es ⟨g, nm, key, val⟩).1 } := by
  unfold PS.put
  by_cases hc : chk r.N g nm [key, val] = 0
  case neg =>
    have e1 : putAns r.N F s.cnt g nm key val = chk r.N g nm [key, val] := by unfold putAns; rw [if_pos hc]
    have e2 : putR r.N r.es ⟨g, nm, key, val⟩ = (r.es, chk r.N g nm [key, val]) := by unfold putR; rw [if_pos hc]
    rw [e1, e2, if_neg hc]
    exact ⟨rfl, h⟩
  have e1 : putAns r.N F s.cnt g nm key val = if F (nm, key) = none ∧ s.cnt = 4000 then 4 else 0 := by unfold putAns; rw [if_neg (fun e => e hc)]
  have e2 : putR r.N r.es ⟨g, nm, key, val⟩ = if (delL r.es ⟨g, nm, key, val⟩).length = 4000 then (r.es, 4) else (putL r.es ⟨g, nm, key, val⟩, 0) := by unfold putR; rw [if_neg (fun e => e hc)]
  rw [e1, e2]
  clear e1 e2
  obtain ⟨_, hbg, hg0, hgN⟩ := chk_ok hc
  have hbk : big key = false := by simp at hbg; exact hbg.1
  have hF := hF hg0 hgN
  obtain ⟨i, rfl⟩ := Int.eq_ofNat_of_zero_le hg0
  rw [Int.toNat_natCast] at *
  have hth := h.es.there hF (x := ⟨i, nm, key, val⟩) (by simp)
  have hput := h.es.put hF (x := ⟨i, nm, key, val⟩) (by simp)
  have hdl := delL_len h.es.asc ⟨i, nm, key, val⟩
  have hpl := putL_len r.es ⟨i, nm, key, val⟩
  have hle := h.le
  have hcnt := h.cnt
  have hN := h.hN
  cases hs : F (nm, key) with
  | none =>
    have hd := hdl.2 (fun hm => by have := hth.1 hm; rw [show F ((⟨i, nm, key, val⟩ : Ent).nm, (⟨i, nm, key, val⟩ : Ent).key) = F (nm, key) from rfl, hs] at this; cases this)
    by_cases h4 : r.es.length = 4000
    · rw [if_pos ⟨rfl, by omega⟩, if_pos (by omega), if_neg (by decide)]
      exact ⟨rfl, h⟩
    · rw [if_neg (fun e => h4 (by omega)), if_neg (by omega), if_pos rfl, if_pos rfl]
      exact ⟨rfl, h.ents (by rw [List.length_set]; exact hN) hput (by simp only; omega) (by simp only; omega) (putL_ok h.ok hbk)⟩
  | some v =>
    have hd := hdl.1 (hth.2 (by rw [show F ((⟨i, nm, key, val⟩ : Ent).nm, (⟨i, nm, key, val⟩ : Ent).key) = F (nm, key) from rfl, hs]; rfl))
    rw [if_neg (by simp), if_neg (by omega), if_pos rfl, if_neg (by simp)]
    exact ⟨rfl, h.ents (by rw [List.length_set]; exact hN) hput (by simp only; omega) (by simp only; omega) (putL_ok h.ok hbk)⟩
theorem Rel.get (h : Rel s r) {g : Int} {nm key v : ByteArray} {c : Int} {F : FMap} (hF : 0 ≤ g → g < r.N → s.grps[g.toNat]? = some F) (hs : GetSays r.N r.es g nm key v c) : getAns r.N F g nm key = (v, c) := by
  unfold getAns
  unfold GetSays at hs
  rw [chk_empty] at hs
  by_cases hc : chk r.N g nm [key] = 0
  case neg =>
    rw [if_neg hc]
    rcases hs with ⟨_, rfl, rfl⟩ | ⟨h0, _⟩ | ⟨h0, _⟩
    · rfl
    · exact absurd h0 hc
    · exact absurd h0 hc
  rw [if_pos hc]
  obtain ⟨_, _, hg0, hgN⟩ := chk_ok hc
  have hF := hF hg0 hgN
  obtain ⟨i, rfl⟩ := Int.eq_ofNat_of_zero_le hg0
  rw [Int.toNat_natCast] at *
  have hth := h.es.there hF (x := ⟨i, nm, key, .empty⟩) (by simp)
  rcases hs with ⟨h0, _⟩ | ⟨_, hn, rfl, rfl⟩ | ⟨_, x, hx, hp, rfl, rfl⟩
  · exact absurd hc h0
  · have h0 : ¬ (F (nm, key)).isSome = true := fun e => hn (hth.2 e)
    cases hs : F (nm, key) with
    | none => rfl
    | some v => rw [hs] at h0; exact absurd rfl h0
  · unfold Ent.pl at hp
    simp only [Prod.mk.injEq] at hp
    have := h.es.get hF hx (by omega)
    rw [hp.2.1, hp.2.2] at this
    rw [this]
    rfl
theorem Rel.del (h : Rel s r) {g : Int} {nm key : ByteArray} {F : FMap} (hF : 0 ≤ g → g < r.N → s.grps[g.toNat]? = some F) :
    (getAns r.N F g nm key).2 = (delR r.N r.es g nm key).2 ∧ Rel (if (getAns r.N F g nm key).2 = 0 then s.del F g.toNat nm key else s) { r with es := (delR r.N r.es g nm key).1 } := by
  by_cases hc : chk r.N g nm [key] = 0
  case neg =>
    have e1 : (getAns r.N F g nm key).2 = chk r.N g nm [key] := by unfold getAns; rw [if_neg hc]
    have e2 : delR r.N r.es g nm key = (r.es, chk r.N g nm [key]) := by unfold delR; rw [chk_empty, if_pos hc]
    rw [e1, e2, if_neg hc]
    exact ⟨rfl, h⟩
  have e1 : (getAns r.N F g nm key).2 = if (F (nm, key)).isSome = true then 0 else 8 := by unfold getAns; rw [if_pos hc]
  have e2 : delR r.N r.es g nm key = if (delL r.es ⟨g, nm, key, .empty⟩).length = r.es.length then (r.es, 8) else (delL r.es ⟨g, nm, key, .empty⟩, 0) := by unfold delR; rw [chk_empty, if_neg (fun e => e hc)]
  rw [e1, e2]
  clear e1 e2
  obtain ⟨_, _, hg0, hgN⟩ := chk_ok hc
  have hF := hF hg0 hgN
  obtain ⟨i, rfl⟩ := Int.eq_ofNat_of_zero_le hg0
  rw [Int.toNat_natCast] at *
  have hth := h.es.there hF (x := ⟨i, nm, key, .empty⟩) (by simp)
  have hdel := h.es.del hF (x := ⟨i, nm, key, .empty⟩) (by simp)
  have hdl := delL_len h.es.asc ⟨i, nm, key, .empty⟩
  have hle := h.le
  have hcnt := h.cnt
  have hN := h.hN
  cases hs : F (nm, key) with
  | none =>
    have hd := hdl.2 (fun hm => by have := hth.1 hm; rw [show F ((⟨i, nm, key, .empty⟩ : Ent).nm, (⟨i, nm, key, .empty⟩ : Ent).key) = F (nm, key) from rfl, hs] at this; cases this)
    rw [if_pos hd, if_neg (by simp), if_neg (by decide)]
    exact ⟨rfl, h⟩
  | some v =>
    have hd := hdl.1 (hth.2 (by rw [show F ((⟨i, nm, key, .empty⟩ : Ent).nm, (⟨i, nm, key, .empty⟩ : Ent).key) = F (nm, key) from rfl, hs]; rfl))
    rw [if_pos (show (some v).isSome = true from rfl), if_neg (show ¬ (delL r.es ⟨i, nm, key, .empty⟩).length = r.es.length by omega), if_pos rfl]
    exact ⟨rfl, h.ents (by rw [List.length_set]; exact hN) hdel (by simp only; omega) (by simp only; omega) (fun y hy => h.ok y ((delL_mem _ y).1 hy).1)⟩
theorem delR_fst {N : Nat} {l : List Ent} (h : Asc l) {g : Int} {nm key : ByteArray} (hc : chk N g nm [key] = 0) : (delR N l g nm key).1 = delL l ⟨g, nm, key, .empty⟩ := by
  unfold delR
  rw [chk_empty, if_neg (fun e => e hc)]
  by_cases hm : (⟨g, nm, key, .empty⟩ : Ent).pl ∈ l.map Ent.pl
  · rw [if_neg (by have := (delL_len h _).1 hm; omega)]
  · rw [if_pos ((delL_len h _).2 hm)]
    refine h.one (delL_asc h _) (fun x => ?_)
    rw [delL_mem]
    exact ⟨fun hx => ⟨hx, fun e => hm (e ▸ List.mem_map_of_mem hx)⟩, fun hx => hx.1⟩
theorem Rel.snap (h : Rel s r) (h20 : r.sn.length ≠ 20) : Rel { s with last := s.last + 1, sn := putAt s.sn (s.last + 1) s.grps } { r with next := r.next + 1, sn := r.sn ++ [(r.next, r.es)] } := by
  have hnx := h.nx
  have hnew : s.last + 1 ∉ r.sn.map Prod.fst := fun hm => by have := (h.lt _ hm).2; omega
  refine ⟨h.hN, h.es, h.cnt, h.le, by show r.next + 1 = s.last + 1 + 1; omega, fun k => ?_, fun x hx fs hfs => ?_, fun x hx => ?_, ?_, fun k hk => ?_, by have := h.l20; simp; omega, by have := h.pos; show 0 ≤ s.last + 1; omega, h.ok, fun x hx => ?_⟩
  · show (putAt s.sn (s.last + 1) s.grps k).isSome = true ↔ k ∈ (r.sn ++ [(r.next, r.es)]).map Prod.fst
    rw [List.map_append, List.mem_append]
    by_cases e : k = s.last + 1
    · subst e; rw [putAt_same]; simp [hnx]
    · rw [putAt_other _ _ e, h.ks]; simp [hnx, e]
  · have hfs : putAt s.sn (s.last + 1) s.grps x.1 = some fs := hfs
    rcases List.mem_append.1 hx with hx | hx
    · rw [putAt_other _ _ (fun e => hnew (by rw [← e]; exact List.mem_map_of_mem (f := Prod.fst) hx))] at hfs
      exact h.se x hx fs hfs
    · simp only [List.mem_singleton] at hx
      subst hx
      rw [show (r.next, r.es).1 = s.last + 1 from hnx, putAt_same] at hfs
      cases hfs
      exact ⟨h.es, h.hN⟩
  · rcases List.mem_append.1 hx with hx | hx
    · exact h.sl x hx
    · simp only [List.mem_singleton] at hx
      subst hx; exact h.le
  · show ((r.sn ++ [(r.next, r.es)]).map Prod.fst).Pairwise (· < ·)
    rw [List.map_append, List.pairwise_append]
    refine ⟨h.up, by simp, fun a ha b hb => ?_⟩
    have h1 := (h.lt a ha).2
    simp only [List.map_cons, List.map_nil, List.mem_singleton] at hb
    omega
  · have hk : k ∈ (r.sn ++ [(r.next, r.es)]).map Prod.fst := hk
    rw [List.map_append, List.mem_append] at hk
    show 1 ≤ k ∧ k ≤ s.last + 1
    rcases hk with hk | hk
    · have := h.lt k hk; omega
    · simp only [List.map_cons, List.map_nil, List.mem_singleton] at hk
      have := h.pos
      omega
  · rcases List.mem_append.1 hx with hx | hx
    · exact h.so x hx
    · simp only [List.mem_singleton] at hx
      subst hx; exact h.ok
theorem Rel.one (h : Rel s r) {x y : Int × List Ent} (hx : x ∈ r.sn) (hy : y ∈ r.sn) (e : x.1 = y.1) : x = y := by
  have hup := h.up
  clear h
  generalize r.sn = l at *
  induction l with
  | nil => cases hx
  | cons z l ih =>
    rw [List.map_cons, List.pairwise_cons] at hup
    rcases List.mem_cons.1 hx with rfl | hx' <;> rcases List.mem_cons.1 hy with rfl | hy'
    · rfl
    · have := hup.1 _ (List.mem_map_of_mem (f := Prod.fst) hy'); omega
    · have := hup.1 _ (List.mem_map_of_mem (f := Prod.fst) hx'); omega
    · exact ih hx' hy' hup.2
theorem Rel.drop (h : Rel s r) {k : Int} {i : Nat} {es : List Ent} (hi : r.sn[i]? = some (k, es)) : Rel { s with sn := delAt s.sn k } { r with sn := r.sn.take i ++ r.sn.drop (i + 1) } := by
  obtain ⟨hil, hie⟩ := List.getElem?_eq_some_iff.1 hi
  have hl : r.sn = r.sn.take i ++ (k, es) :: r.sn.drop (i + 1) := by
    conv => lhs; rw [← List.take_append_drop i r.sn, List.drop_eq_getElem_cons hil, hie]
  have hsub : ∀ x, x ∈ r.sn.take i ++ r.sn.drop (i + 1) → x ∈ r.sn := fun x hx => by
    rcases List.mem_append.1 hx with hx | hx
    · exact List.mem_of_mem_take hx
    · exact List.mem_of_mem_drop hx
  have hup := h.up
  rw [hl, List.map_append, List.map_cons, List.pairwise_append, List.pairwise_cons] at hup
  obtain ⟨u1, ⟨u2, u3⟩, u4⟩ := hup
  have hne : ∀ x ∈ r.sn.take i ++ r.sn.drop (i + 1), x.1 ≠ k := fun x hx e => by
    rcases List.mem_append.1 hx with hx | hx
    · have := u4 _ (List.mem_map_of_mem (f := Prod.fst) hx) k (by simp); omega
    · have := u2 _ (List.mem_map_of_mem (f := Prod.fst) hx); omega
  refine ⟨h.hN, h.es, h.cnt, h.le, h.nx, fun k' => ?_, fun x hx fs hfs => ?_, fun x hx => h.sl x (hsub x hx), ?_, fun k' hk' => ?_, ?_, h.pos, h.ok, fun x hx => h.so x (hsub x hx)⟩
  · show (delAt s.sn k k').isSome = true ↔ k' ∈ (r.sn.take i ++ r.sn.drop (i + 1)).map Prod.fst
    by_cases e : k' = k
    · subst e
      rw [delAt_same]
      exact ⟨fun h => (by cases h), fun hm => by
        obtain ⟨x, hx, e⟩ := List.mem_map.1 hm
        exact absurd e (hne x hx)⟩
    · rw [delAt_other _ e, h.ks]
      conv => lhs; rw [hl]
      simp [e]
  · have hfs : delAt s.sn k x.1 = some fs := hfs
    rw [delAt_other _ (hne x hx)] at hfs
    exact h.se x (hsub x hx) fs hfs
  · show ((r.sn.take i ++ r.sn.drop (i + 1)).map Prod.fst).Pairwise (· < ·)
    rw [List.map_append, List.pairwise_append]
    exact ⟨u1, u3, fun a ha b hb => u4 a ha b (List.mem_cons_of_mem _ hb)⟩
  · obtain ⟨x, hx, rfl⟩ := List.mem_map.1 hk'
    exact h.lt _ (List.mem_map_of_mem (hsub x hx))
  · have := h.l20
    show (r.sn.take i ++ r.sn.drop (i + 1)).length ≤ 20
    rw [List.length_append, List.length_take, List.length_drop]
    omega
theorem Rel.ents_of (h : Rel s r) {k : Int} {es es' : List Ent} {c : Int} (hx : (k, es') ∈ r.sn) (hs : SnapEnts s k es c) : es = es' ∧ c = 0 := by
  unfold SnapEnts at hs
  obtain ⟨fs, hfs⟩ := Option.isSome_iff_exists.1 ((h.ks k).2 (List.mem_map_of_mem (f := Prod.fst) hx))
  rw [hfs] at hs
  exact ⟨(AllOf.es hs.1).one (h.se _ hx fs hfs).1, hs.2⟩
theorem Rel.ents_no (h : Rel s r) {k : Int} {es : List Ent} {c : Int} (hx : k ∉ r.sn.map Prod.fst) (hs : SnapEnts s k es c) : es = [] ∧ c = 8 := by
  unfold SnapEnts at hs
  cases hk : s.sn k with
  | none => rw [hk] at hs; exact hs
  | some fs => exact absurd ((h.ks k).1 (by rw [hk]; rfl)) hx
theorem Rel.reset (h : Rel s r) {k : Int} {es es' : List Ent} {fs : List FMap} (hx : (k, es') ∈ r.sn) (hs : s.sn k = some fs) (ha : AllOf 0 fs es) : Rel { s with grps := fs, cnt := es.length } { r with es := es' } := by
  obtain ⟨h1, h2⟩ := h.se _ hx fs hs
  obtain rfl : es = es' := (AllOf.es ha).one h1
  exact h.ents h2 h1 rfl (h.sl _ hx) (h.so _ hx)
theorem Rel.new (n : Nat) : Rel ⟨List.replicate n (fun _ => none), 0, 0, fun _ => none⟩ ⟨n, 1, [], []⟩ := by
  refine ⟨by simp, ⟨List.Pairwise.nil, fun x => ?_⟩, rfl, by simp, rfl, fun k => by simp, fun x hx => absurd hx (by simp), fun x hx => absurd hx (by simp), List.Pairwise.nil, fun k hk => absurd hk (by simp), by simp, Int.le_refl _, fun x hx => absurd hx (by simp), fun x hx => absurd hx (by simp)⟩
  refine ⟨fun h => absurd h (by simp), ?_⟩
  rintro ⟨i, F, hF, _, hv⟩
  have hF : (List.replicate n (fun _ => none : FMap))[i]? = some F := hF
  rw [List.getElem?_replicate] at hF
  split at hF
  · cases hF; cases hv
  · cases hF
end
end Go.Proofs.YtbmpoecmjmmngaaGreat
/- The two states: scans, groups, clearing; plain. -/
namespace Go.Proofs.YtbmpoecmjmmngaaGreat
open Go.RowKit Go.Maps

def inScan (nm a b : ByteArray) (x : Ent) : Bool := (x.nm.toList == nm.toList) && (!Op.bytesLess x.key.toList a.toList && (b.toList == [] || Op.bytesLess x.key.toList b.toList))
def scanL (l : List Ent) (g : Int) (nm a b : ByteArray) : List Ent := l.filter (fun x => (x.g == g) && inScan nm a b x)
def inGrp (a b : Int) (x : Ent) : Bool := decide (a ≤ x.g) && decide (x.g < b)
def isOf (g : Int) (nm : ByteArray) (x : Ent) : Bool := (x.g == g) && (x.nm.toList == nm.toList)
section
variable {gs : List FMap} {es : List Ent}
theorem Es.scan (h : Es 0 gs es) {i : Nat} {F : FMap} (hi : gs[i]? = some F) {ss : List Spot} (hk : Keysof F ss) (P : Ent → Bool) : (entsOf i ss F).filter P = es.filter (fun x => (x.g == (i : Int)) && P x) := by
  refine ((entsOf_asc hk).filter P).one (h.asc.filter _) (fun x => ?_)
  rw [List.mem_filter, List.mem_filter, entsOf_mem hk, Bool.and_eq_true, beq_iff_eq, h.mem]
  constructor
  · rintro ⟨⟨h1, h2⟩, h3⟩
    exact ⟨⟨i, F, hi, by omega, h2⟩, h1, h3⟩
  · rintro ⟨⟨j, F', hj, hg, hv⟩, h1, h3⟩
    obtain rfl : j = i := by omega
    rw [hi] at hj; cases hj
    exact ⟨⟨h1, hv⟩, h3⟩
theorem Es.groups (h : Es 0 gs es) {a n : Nat} {es' : List Ent} (ha : AllOf a ((gs.drop a).take n) es') : es' = es.filter (inGrp a (a + n : Nat)) := by
  have he := AllOf.es ha
  refine he.asc.one (h.asc.filter _) (fun x => ?_)
  rw [List.mem_filter, he.mem, h.mem]
  unfold inGrp
  rw [Bool.and_eq_true, decide_eq_true_eq, decide_eq_true_eq]
  constructor
  · rintro ⟨i, F, hi, hg, hv⟩
    rw [List.getElem?_take] at hi
    split at hi
    · rw [List.getElem?_drop] at hi
      exact ⟨⟨a + i, F, hi, by omega, hv⟩, by omega, by omega⟩
    · cases hi
  · rintro ⟨⟨i, F, hi, hg, hv⟩, h1, h2⟩
    refine ⟨i - a, F, ?_, by omega, hv⟩
    rw [List.getElem?_take, if_pos (by omega), List.getElem?_drop, show a + (i - a) = i by omega]
    exact hi
theorem delAll_mem : ∀ (l es : List Ent) (y : Ent), y ∈ l.foldl delL es ↔ y ∈ es ∧ ∀ x ∈ l, y.pl ≠ x.pl
  | [], es, y => by simp
  | x :: l, es, y => by
    rw [List.foldl_cons, delAll_mem l, delL_mem]
    simp only [List.mem_cons, forall_eq_or_imp, and_assoc]
theorem delAll_asc : ∀ {l es : List Ent}, Asc es → Asc (l.foldl delL es)
  | [], _, h => h
  | x :: l, es, h => delAll_asc (l := l) (es := delL es x) (delL_asc h x)
theorem clear_one (h : Asc es) (P : Ent → Bool) : (es.filter P).foldl delL es = es.filter (fun x => !P x) := by
  refine (delAll_asc h).one (h.filter _) (fun y => ?_)
  rw [delAll_mem, List.mem_filter]
  constructor
  · rintro ⟨h1, h2⟩
    refine ⟨h1, ?_⟩
    cases hp : P y with
    | false => rfl
    | true => exact absurd rfl (h2 y (List.mem_filter.2 ⟨h1, hp⟩))
  · rintro ⟨h1, h2⟩
    refine ⟨h1, fun x hx e => ?_⟩
    obtain ⟨hx1, hx2⟩ := List.mem_filter.1 hx
    have := h.eq h1 hx1 e
    subst this
    rw [hx2] at h2
    cases h2
theorem filter_lens (P : Ent → Bool) : (es.filter P).length + (es.filter (fun x => !P x)).length = es.length := by
  induction es with
  | nil => rfl
  | cons x l ih =>
    rw [List.filter_cons, List.filter_cons]
    cases P x <;> simp <;> omega
theorem less_nil (x : List UInt8) : Op.bytesLess x [] = false := by cases x <;> rfl
theorem empty_toList : ByteArray.empty.toList = [] := by unfold ByteArray.toList ByteArray.toList.loop; rfl
theorem inScan_all (nm : ByteArray) (x : Ent) : inScan nm .empty .empty x = (x.nm.toList == nm.toList) := by
  unfold inScan
  rw [empty_toList, less_nil]
  simp
theorem scan_isOf (l : List Ent) (g : Int) (nm : ByteArray) : scanL l g nm .empty .empty = l.filter (isOf g nm) := by
  unfold scanL isOf
  simp only [inScan_all]
end
end Go.Proofs.YtbmpoecmjmmngaaGreat
/- package heap: Drop, All, Groups. -/
namespace Go.Proofs.YtbmpoecmjmmngaaGreat
open Go.RowKit Go.Maps

set_option maxRecDepth 100000 in
set_option maxHeartbeats 2000000 in
theorem drop_any {base p : Nat} {r : HS} (k : Int) (w : World) (hI : HeapInv w base p r) (hk : inI64 k) :
    Calls Tryz.prog 48 #[.pointer (some ⟨p, 0, none⟩), .int .i64 k] w fun e w' => ∃ r', HStep w base p r w' r' ∧ r'.nn = r.nn ∧ r'.cur = r.cur ∧
      ((r.view.sn k = none ∧ e = .returned (.int .i64 8) ∧ r'.view = r.view) ∨ ((r.view.sn k).isSome = true ∧ e = .returned (.int .i64 0) ∧ r'.view = { r.view with sn := delAt r.view.sn k })) := by
  have HS := Lib.hid (snapOf_any k w hI hk)
  have HI := Lib.hid hI
  cases hs : r.snaps k with
  | none =>
    rw [hs] at HS
    have HV := Lib.hid (view_sn0 hs)
    have HF := Lib.hid (HStep.pure hI (Below.refl _ _))
    clear hs hI
    go_enter Tryz.func48, Tryz.ntmps48
    go_wp2_with fail
    refine HS.out.mono ?_
    rintro e w1 ⟨rfl, rfl⟩
    simp only [rowOr]
    go_wp2
    go_ret
    exact ⟨r, HF.out, rfl, rfl, .inl ⟨HV.out, rfl, rfl⟩⟩
  | some x =>
    obtain ⟨h1, h2, h3⟩ := hI.sr k x hs
    have HV := Lib.hid (view_sn hs)
    rw [hs] at HS
    obtain ⟨a, c, hx, _⟩ := slice_form h1
    have HS : Hid (Calls Tryz.prog 59 #[.pointer (some ⟨p, 0, none⟩), .int .i64 k] w fun e w' => e = .returned (.tuple #[.slice a x.2.length c, .int .i64 0]) ∧ w' = w) := by
      have := HS
      rw [show rowOr (some x) = .slice a x.2.length c from hx] at this
      exact this
    have c2 : w.cell? ⟨p, 2, none⟩ = some (.map (some r.sm)) := mem_cells hI.hb 2
    obtain ⟨w3, hdel, hsm, hgr⟩ := hI.sn.drop hk 0
    have HST := Lib.hid (hI.unsnap hsm hgr)
    clear hs hI h1 h2 h3 hx hsm hgr
    go_enter Tryz.func48, Tryz.ntmps48
    go_wp2_with fail
    refine HS.out.mono ?_
    rintro e w1 ⟨rfl, rfl⟩
    go_wp2
    go_ret
    exact ⟨_, HST.out, rfl, rfl, .inr ⟨by rw [HV.out]; rfl, rfl, view_unsnap _ _⟩⟩
set_option maxRecDepth 100000 in
set_option maxHeartbeats 2000000 in
theorem all_any {base p : Nat} {r : HS} (w : World) (hI : HeapInv w base p r) (hcl : r.cur.length ≤ 1000) (hnn : r.nn ≤ 100000) :
    Calls Tryz.prog 14 #[.pointer (some ⟨p, 0, none⟩)] w fun e w' => ∃ u es, e = .returned u ∧ AllOf 0 r.view.grps es ∧ Owns tEnt w' w.heap.size 34 u es ∧ Below w.heap.size w w' := by
  have HE := Lib.hid (entries_any r.cur r.g r.nn 0 r.cv w hI.cu.rv (fun a ha => hI.gb a (.inl ha)) hcl hnn (Int.le_refl _) (by decide))
  obtain ⟨b, off, cap, arr, hcv, -⟩ := hI.cu
  have c0 : w.cell? ⟨p, 0, none⟩ = some r.cv := mem_cells hI.hb 0
  rw [hcv] at c0 HE
  clear hI hcv
  go_enter Tryz.func14, Tryz.ntmps14
  go_wp2_with fail
  refine HE.out.mono ?_
  rintro e w1 ⟨u, es, rfl, ha, ho, hb, hl⟩
  have HA := Lib.hid ha
  have HB := Lib.hid hb
  obtain ⟨au, cu, rfl, _⟩ := ho.len
  have HO := Lib.hid ho
  clear ha hb ho HE
  go_wp2
  go_ret
  exact ⟨_, es, rfl, HA.out, HO.out, HB.out⟩
/-- Elements of a slice between two places. -/
theorem cut_lh {P : Program} {α : Type} {t : Ty α} {m : Mem} {a : Option Addr} {len cap i j : Nat} {xs : List α} (h : (tSlice t).rv m [.slice a len cap] xs) (hij : i ≤ j) (hj : j ≤ xs.length) {T e : TypeId} (hT : P.underlying T = some (.slice e)) (hs : (P.info? e).map (·.size) = some t.sz) :
    ∃ a' c', (∀ w2, (Instr.slice T (.slice a len cap) (some (.int .i64 i)) (some (.int .i64 j)) none).run P w2 = .ok (.slice a' (j - i) c') w2) ∧ (tSlice t).rv m [.slice a' (j - i) c'] ((xs.drop i).take (j - i)) := by
  obtain ⟨rfl, h1, h2⟩ := slice_len h
  obtain ⟨a', cap', eq, _, _, h4⟩ := h
  simp only [List.cons.injEq, Value.slice.injEq, and_true] at eq
  obtain ⟨rfl, _, rfl⟩ := eq
  have he : P.elem T = e := by simp [Program.elem, hT]
  have hl : ((xs.drop i).take (j - i)).length = j - i := by rw [List.length_take, List.length_drop]; omega
  refine ⟨if cap = i then a else a.map (·.add (i * t.sz)), cap - i, fun w2 => ?_, _, _, by rw [hl], by rw [hl]; omega, by omega, fun h0 => ?_⟩
  · rw [run_slice_lh w2 T _ xs.length cap (by rw [he]; exact hT) .i64 .i64 i j (by omega) (by omega) (by omega), he, size_run hs]
    simp only [Result.andThen_ok, sliced, Int.toNat_natCast]
  · rw [hl] at h0
    obtain ⟨b, o, ha, hat⟩ := h4 (by omega)
    subst ha
    refine ⟨b, o + i * t.sz, by rw [if_neg (by omega)]; simp [Addr.add], fun k hk => ?_⟩
    rw [hl] at hk
    have h := hat (i + k) (by omega)
    rw [List.getElem_take, List.getElem_drop]
    have e : o + (i + k) * t.sz = o + i * t.sz + k * t.sz := by rw [Nat.add_mul]; omega
    rw [e] at h; exact h
def GroupsAre (N : Nat) (gs : List FMap) (a b : Int) (es : List Ent) (c : Int) : Prop :=
  (¬ (0 ≤ a ∧ a ≤ b ∧ b ≤ N) ∧ es = [] ∧ c = 7) ∨ ((0 ≤ a ∧ a ≤ b ∧ b ≤ N) ∧ AllOf a ((gs.drop a.toNat).take (b - a).toNat) es ∧ c = 0)
theorem ptrSize : (Tryz.prog.info? 85).map (·.size) = some tPtr.sz := by kernel_rfl
set_option maxRecDepth 100000 in
set_option maxHeartbeats 4000000 in
theorem groups_any {base p : Nat} {r : HS} (a b : Int) (w : World) (hI : HeapInv w base p r) (ha : inI64 a) (hb : inI64 b) (hcl : r.cur.length ≤ 1000) (hnn : r.nn ≤ 100000) :
    Calls Tryz.prog 51 #[.pointer (some ⟨p, 0, none⟩), .int .i64 a, .int .i64 b] w fun e w' => ∃ u es c, e = .returned (.tuple #[u, .int .i64 c]) ∧ Owns tEnt w' w.heap.size 34 u es ∧ Below w.heap.size w w' ∧
      GroupsAre r.cur.length r.view.grps a b es c := by
  obtain ⟨cb, off, cap, arr, hcv, hlc, hmx, -⟩ := hI.cu
  have c0 : w.cell? ⟨p, 0, none⟩ = some (.slice (some ⟨cb, off, none⟩) r.cur.length cap) := by rw [← hcv]; exact mem_cells hI.hb 0
  have hcap : cap ≤ 9223372036854775807 := by unfold maxLen at hmx; exact hmx
  unfold inI64 at ha hb
  by_cases h : 0 ≤ a ∧ a ≤ b ∧ b ≤ r.cur.length
  case neg =>
    have HN := Lib.hid h
    have HO := Lib.hid (Owns.nil (t := tEnt) w w.heap.size 34)
    clear hI hcv
    go_enter Tryz.func51, Tryz.ntmps51
    by_cases h1 : 0 ≤ a
    · by_cases h2 : a ≤ b
      · have h3 : ¬ b ≤ r.cur.length := fun h3 => h ⟨h1, h2, h3⟩
        clear h
        go_wp2
        go_ret2
        exact ⟨_, [], 7, rfl, HO.out, Below.refl _ _, .inl ⟨HN.out, rfl, rfl⟩⟩
      · clear h
        go_wp2
        go_ret2
        exact ⟨_, [], 7, rfl, HO.out, Below.refl _ _, .inl ⟨HN.out, rfl, rfl⟩⟩
    · clear h
      go_wp2
      go_ret2
      exact ⟨_, [], 7, rfl, HO.out, Below.refl _ _, .inl ⟨HN.out, rfl, rfl⟩⟩
  obtain ⟨h1, h2, h3⟩ := h
  obtain ⟨i, rfl⟩ := Int.eq_ofNat_of_zero_le h1
  obtain ⟨j, rfl⟩ := Int.eq_ofNat_of_zero_le (show 0 ≤ b by omega)
  obtain ⟨a2, c2, hcut, hrv⟩ := cut_lh (P := Tryz.prog) (t := tPtr) (hcv ▸ hI.cu.rv : tPtrs.rv (mem w) [.slice (some ⟨cb, off, none⟩) r.cur.length cap] r.cur) (i := i) (j := j) (by omega) (by omega) Tryz.underlying78 ptrSize
  have HE := Lib.hid (entries_any ((r.cur.drop i).take (j - i)) r.g r.nn i _ w hrv (fun a ha => hI.gb a (.inl (List.mem_of_mem_drop (List.mem_of_mem_take ha)))) (by rw [List.length_take, List.length_drop]; omega) hnn (by omega) (by omega))
  have HG := Lib.hid (show ((r.cur.drop i).take (j - i)).map (fun a => (r.g a).f) = (r.view.grps.drop (i : Int).toNat).take ((j : Int) - (i : Int)).toNat by
    rw [List.map_take, List.map_drop, Int.toNat_natCast, show ((j : Int) - (i : Int)).toNat = j - i by omega]; rfl)
  have HC := Lib.hid (show 0 ≤ (i : Int) ∧ (i : Int) ≤ (j : Int) ∧ (j : Int) ≤ r.cur.length from ⟨h1, h2, h3⟩)
  clear hI hcv hrv
  go_enter Tryz.func51, Tryz.ntmps51
  go_wp2_with fail
  refine HE.out.mono ?_
  rintro e w1 ⟨u, es, rfl, ha, ho, hb, hl⟩
  have HA := Lib.hid (HG.out ▸ ha)
  have HB := Lib.hid hb
  obtain ⟨au, cu, rfl, _⟩ := ho.len
  have HO := Lib.hid ho
  clear ha hb ho HE
  go_wp2
  go_ret2
  exact ⟨_, es, 0, rfl, HO.out, HB.out, .inr ⟨HC.out, HA.out, rfl⟩⟩
end Go.Proofs.YtbmpoecmjmmngaaGreat
/- package heap: Scan. -/
namespace Go.Proofs.YtbmpoecmjmmngaaGreat
open Go.RowKit Go.Shelf Go.Maps
attribute [local go_sem] Oper.semAt_some

def ScanIs (r : HS) (g : Int) (nm a b : ByteArray) (es : List Ent) (c : Int) : Prop :=
  (chk r.cur.length g nm [a, b] ≠ 0 ∧ es = [] ∧ c = chk r.cur.length g nm [a, b]) ∨ (chk r.cur.length g nm [a, b] = 0 ∧ (∃ ss, Keysof (grpF r g) ss ∧ es = (entsOf g ss (grpF r g)).filter (inScan nm a b)) ∧ c = 0)
/-- The boxes of a scan. -/
structure ScanBx (w W : World) (nm f t : ByteArray) : Prop where
  b0 : W.heap[w.heap.size]? = some (.cells #[.string nm] 9 (0, 0))
  b1 : W.heap[w.heap.size + 1]? = some (.cells #[.string f] 9 (0, 0))
  b2 : W.heap[w.heap.size + 2]? = some (.cells #[.string t] 9 (0, 0))
  bl : Below w.heap.size w W
  sz : w.heap.size + 3 ≤ W.heap.size
theorem ScanBx.start (w : World) (nm f t : ByteArray) : ScanBx w (((w.alloc (.cells #[.string nm] 9)).alloc (.cells #[.string f] 9)).alloc (.cells #[.string t] 9)) nm f t := by
  refine ⟨?_, ?_, ?_, (((Below.refl _ _).alloc (Nat.le_refl _) _).alloc (by simp) _).alloc (by simp; omega) _, by simp⟩
  · exact (Below.heap_alloc _ _ _ (by simp; omega)).trans ((Below.heap_alloc _ _ _ (by simp)).trans (heap_alloc_new _ _))
  · have := heap_alloc_new (w.alloc (.cells #[.string nm] 9)) (.cells #[.string f] 9)
    rw [World.size_alloc] at this
    exact (Below.heap_alloc _ _ _ (by simp)).trans this
  · have := heap_alloc_new ((w.alloc (.cells #[.string nm] 9)).alloc (.cells #[.string f] 9)) (.cells #[.string t] 9)
    rw [World.size_alloc, World.size_alloc] at this
    exact this
theorem ScanBx.pure {w W W' : World} {nm f t : ByteArray} (h : ScanBx w W nm f t) (hb : Below W.heap.size W W') : ScanBx w W' nm f t :=
  have hs := h.sz
  ⟨(hb.block _ (by omega)).trans h.b0, (hb.block _ (by omega)).trans h.b1, (hb.block _ (by omega)).trans h.b2, h.bl.trans (hb.mono h.bl.size), Nat.le_trans h.sz hb.size⟩
/-- The end of a function with two results, without and with a range over a function ahead of it. -/
theorem ret_end2 {P : Program} {fn : Func} {tm : Array Value} {W : World} {s1 s2 : Nat} {u1 u2 : Value} {R : Ending → World → Prop} (hr : fn.results = #[.tmp s1, .tmp s2]) (h1 : tm.getD s1 undef = u1) (h2 : tm.getD s2 undef = u2)
    (hp : R (.returned (.tuple #[u1, u2])) W) : bodyPostM Fence.wide 0 P fn R .ret { tmps := tm, defers := [] } W := by
  refine ⟨.tuple #[u1, u2], ?_, hp⟩
  unfold results
  rw [hr]
  simp only [Array.getD_eq_getD_getElem?] at h1 h2
  simp [h1, h2, go_sem, Result.andThen]
theorem coll_end2 {P : Program} {fn : Func} {tm : Array Value} {W : World} {D s1 s2 : Nat} {u1 u2 : Value} {R : Ending → World → Prop} (hr : fn.results = #[.tmp s1, .tmp s2]) (h1 : tm.getD s1 undef = u1) (h2 : tm.getD s2 undef = u2) (hD : W.heap[D]? = some (.deferred (some [])))
    (hp : ∀ WF, Keeps (fun k => k = D) W WF → R (.returned (.tuple #[u1, u2])) WF) :
    bodyPostM Fence.wide 0 P fn R .ret { tmps := tm, defers := [{ target := .collected D, args := #[] }] } W := by
  refine ⟨by simp, .inl ⟨_, _, rfl, run_takeDeferred hD, ?_⟩⟩
  refine ⟨.tuple #[u1, u2], ?_, hp _ ((Keeps.refl _ _).trans (Keeps.put rfl))⟩
  unfold results
  rw [hr]
  simp only [Array.getD_eq_getD_getElem?] at h1 h2
  simp [h1, h2, go_sem, Result.andThen]
set_option maxRecDepth 100000 in
set_option maxHeartbeats 8000000 in
theorem scan_any {base p : Nat} {r : HS} (g : Int) (nm f t : ByteArray) (w : World) (hI : HeapInv w base p r) (hg : inI64 g) (hn : nm.size ≤ maxLen) (hf : f.size ≤ maxLen) (ht : t.size ≤ maxLen) (hcl : r.cur.length ≤ 1000) (hnn : r.nn ≤ 100000) :
    Calls Tryz.prog 44 #[.pointer (some ⟨p, 0, none⟩), .int .i64 g, .string nm, .string f, .string t] w fun e w' => ∃ u es c, e = .returned (.tuple #[u, .int .i64 c]) ∧ Owns tEnt w' w.heap.size 34 u es ∧ Below w.heap.size w w' ∧ ScanIs r g nm f t es c := by
  have HX0 := Lib.hid (ScanBx.start w nm f t)
  have HG1 := Lib.hid (fun (e : chk r.cur.length g nm [f, t] ≠ 0) => (show ScanIs r g nm f t [] (chk r.cur.length g nm [f, t]) from .inl ⟨e, rfl, rfl⟩))
  have HG2 := Lib.hid (fun (e : chk r.cur.length g nm [f, t] = 0) (ss : List Spot) (hs : Keysof (grpF r g) ss) => (show ScanIs r g nm f t ((entsOf g ss (grpF r g)).filter (inScan nm f t)) 0 from .inr ⟨e, ⟨ss, hs, rfl⟩, rfl⟩))
  have HCH := Lib.hid (fun (W : World) (hb : ScanBx w W nm f t) (v : Value) (hv : tStrs.rv (mem W) [v] [f, t]) => checked_any g nm [f, t] v W (hI.pure hb.bl) hg hn hv)
  have HOK := Lib.hid (fun (e : chk r.cur.length g nm [f, t] = 0) => chk_ok e)
  generalize ScanIs r g nm f t = GS at *
  generalize hcc : chk r.cur.length g nm [f, t] = c at *
  clear hcc
  have HI := Lib.hid hI
  clear hI
  refine (callsIn_wide (n := 0)).1 (callsIn_of_wp_marks Tryz.func44 rfl trivial ?_ rfl)
  simp only [Tryz.ntmps44, List.size_toArray, List.length_cons, List.length_nil, Nat.reduceAdd, Nat.reduceSub, Array.replicate_succ, Array.replicate_zero, List.push_toArray, List.append_toArray, List.nil_append, List.cons_append]
  gi_wp2
  generalize hW3 : ((w.alloc (.cells #[.string nm] 9)).alloc (.cells #[.string f] 9)).alloc (.cells #[.string t] 9) = W3 at *
  have hz3 : W3.heap.size = w.heap.size + 1 + 1 + 1 := by rw [← hW3]; simp
  have HX1 := Lib.hid (HX0.out.pure ((Below.refl W3.heap.size W3).alloc (Nat.le_refl _) (.cells #[.string f, .string t] 9)))
  have hc0 : mem (W3.alloc (.cells #[.string f, .string t] 9)) (w.heap.size + 1 + 1 + 1) 0 = some (.string f) := by rw [← hz3]; exact mem_cells_new W3 _ _ (0, 0) 0
  have hc1 : mem (W3.alloc (.cells #[.string f, .string t] 9)) (w.heap.size + 1 + 1 + 1) 1 = some (.string t) := by rw [← hz3]; exact mem_cells_new W3 _ _ (0, 0) 1
  refine ⟨trivial, rfl, ((callsIn_wide (n := 0)).2 (HCH.out _ HX1.out _ (strs_rv2 hc0 hc1 hf ht))).mono ?_⟩
  rintro e w1 ⟨rfl, hb1⟩
  have HX := Lib.hid (HX1.out.pure hb1)
  clear hb1 HX1 HX0 HCH hW3 hz3 hc0 hc1
  by_cases hc0 : c = 0
  case neg =>
    have hcb : (c == 0) = false := by simp [hc0]
    have HC0 := Lib.hid hc0
    gi_wp2
    exact ret_end2 rfl rfl rfl ⟨_, [], c, rfl, Owns.nil _ _ _ _, HX.out.bl, HG1.out HC0.out⟩
  subst hc0
  obtain ⟨-, -, hg0, hgN⟩ := HOK.out rfl
  obtain ⟨i, rfl⟩ := Int.eq_ofNat_of_zero_le hg0
  have hil : i < r.cur.length := by omega
  have HB1 := Lib.hid (show Below w1.heap.size w1 (w1.alloc (.cells #[.slice none 0 0] 22)) from (Below.refl _ _).alloc (Nat.le_refl _) _)
  have HI1 := Lib.hid ((HI.out.pure HX.out.bl).pure HB1.out)
  obtain ⟨cb, off, cap, hga, hu⟩ := HI1.out.grp hil
  have HGB := Lib.hid (HI1.out.gb _ hu)
  have HG := Lib.hid (HG2.out rfl)
  have HFE := Lib.hid (show (r.g (adAt r (i : Int))).f = grpF r (i : Int) from rfl)
  generalize grpF r (i : Int) = F at *
  have g1 := hga.cv
  have g2 := hga.lc
  have g3 := hga.mx
  have g4 := hga.el
  clear hga hu HG1 HG2 HOK
  generalize adAt r (i : Int) = ga at *
  have B0 := Lib.hid (show (w1.alloc (.cells #[.slice none 0 0] 22)).heap[w1.heap.size]? = some (.cells #[.slice none 0 0] 22 (0, 0)) from heap_alloc_new w1 _)
  gi_wp2
  generalize hWo : w1.alloc (.cells #[.slice none 0 0] 22) = Wo at *
  have hwz : Wo.heap.size = w1.heap.size + 1 := by rw [← hWo]; simp
  clear hWo
  refine ⟨trivial, rfl, ((callsIn_wide (n := 0)).2 (sorted_any ga (i : Int) Wo)).mono ?_⟩
  rintro e w3 ⟨rfl, b1, b2, hb3⟩
  have HIT := Lib.hid (show ItAt w3 Wo.heap.size (Wo.heap.size + 1) ga (r.g ga).mb r.nn (r.g ga).sh (i : Int) F from ⟨b1, b2, (hb3.block _ (Array.getElem?_eq_some_iff.1 HGB.out.1).1).trans HGB.out.1, HFE.out ▸ HGB.out.2.below hb3⟩)
  have HB3 := Lib.hid (HB1.out.trans (hb3.mono HB1.out.size))
  have hz3 : w1.heap.size + 1 ≤ w3.heap.size := by have := hb3.size; omega
  have HO0 := Lib.hid (show AppEKept w1 w.heap.size (.slice none 0 0) [] [] w3 from ⟨⟨_, (hb3.block _ (by omega)).trans B0.out, Owns.nil _ _ _ _, .inl rfl⟩, (below_keeps HB3.out).wide (fun k h1 h2 => by omega)⟩)
  have HZ := Lib.hid HX.out.sz
  have HNM := Lib.hid (fun (W : World) (h : Keeps (fun k => some k = (Value.slice none 0 0).ownBlock) w1 W) => (show W.cell? ⟨w.heap.size, 0, none⟩ = some (.string nm) ∧ W.cell? ⟨w.heap.size + 1, 0, none⟩ = some (.string f) ∧ W.cell? ⟨w.heap.size + 2, 0, none⟩ = some (.string t) from
    ⟨mem_cells ((h.block _ (by have := HZ.out; omega) (fun e => by cases e)).trans HX.out.b0) 0, mem_cells ((h.block _ (by have := HZ.out; omega) (fun e => by cases e)).trans HX.out.b1) 0, mem_cells ((h.block _ (by have := HZ.out; omega) (fun e => by cases e)).trans HX.out.b2) 0⟩))
  have HST := Lib.hid (show ∀ (pre : List Ent) (x : Ent), (∃ ss post, Keysof F ss ∧ entsOf (i : Int) ss F = pre ++ x :: post) ∧ pre.length < r.nn ∧ x.okE → pre.length < r.nn ∧ x.okE from fun _ _ h => ⟨h.2.1, h.2.2⟩)
  have HSQ := Lib.hid (sorted1_gives Wo.heap.size (Wo.heap.size + 1) ga (r.g ga).mb r.nn (r.g ga).sh (i : Int) F w3 HIT.out (by omega) hg)
  clear b1 b2 hb3 HIT HGB HFE g1 g2 g3 g4 HI1 HB1 B0
  gi_wp2
  refine (wpIn_wide (n := 0)).2 (wp_rangeB okB okB_loop (gf := 102) (lb := #[.pointer (some ⟨Wo.heap.size, 0, none⟩), .pointer (some ⟨Wo.heap.size + 1, 0, none⟩)]) (by first | rfl | (simp [go_sem]; done)) (fun _ _ => rfl) HSQ.out (Below.refl _ _) (fun x => rfl) (fun pre W => AppEKept w1 w.heap.size (.slice none 0 0) [] (pre.filter (inScan nm f t)) W) ?closed ?start ?round ?done)
  case closed =>
    intro pre A C hI hk
    refine hI.keeps hk (fun k h => ?_) (fun k o h2 h3 h => ?_)
    · have := h.1; omega
    · obtain ⟨_, o', ho, hc⟩ := h
      rw [h2] at ho; cases ho; rw [h3] at hc; cases hc
  case start => exact HO0.out
  case round =>
    rintro l pre x W1 hx hI hsz1
    obtain ⟨hpl, hxok⟩ := HST.out _ _ hx
    clear hx HST HSQ HO0
    obtain ⟨xg, x1, x2, x3⟩ := x
    have HXO := Lib.hid hxok
    clear hxok
    gi_wp2
    refine ⟨(Keeps.refl _ _).alloc _, fun W3 hk => ?_⟩
    have hV1 : (W1.alloc (.cells #[.int .i64 xg, .string x1, .string x2, .string x3] 34)).heap[W1.heap.size]? = some (.cells #[.int .i64 xg, .string x1, .string x2, .string x3] 34 (0, 0)) := heap_alloc_new W1 _
    have hI2 : AppEKept w1 w.heap.size (.slice none 0 0) [] (pre.filter (inScan nm f t)) (W1.alloc (.cells #[.int .i64 xg, .string x1, .string x2, .string x3] 34)) := hI.keeps (F := fun _ => False) ((Keeps.refl _ _).alloc _) (fun k h => h.elim) (fun k o _ _ h => h.elim)
    have hI3 := hI2.keeps hk (fun k h => by have := h.1; omega) (fun k o h2 h3 h => by
      obtain ⟨_, o', ho, hc⟩ := h
      rw [h2] at ho; cases ho; rw [h3] at hc; cases hc)
    have hV3 : W3.heap[W1.heap.size]? = some (.cells #[.int .i64 xg, .string x1, .string x2, .string x3] 34 (0, 0)) := (hk.block _ (by simp) (fun h => by
      obtain ⟨_, o', ho, hc⟩ := h
      rw [hV1] at ho; cases ho; cases hc)).trans hV1
    have v0 : W3.cell? ⟨W1.heap.size, 0, none⟩ = some (.int .i64 xg) := mem_cells hV3 0
    have v1 : W3.cell? ⟨W1.heap.size, 1, none⟩ = some (.string x1) := mem_cells hV3 1
    have v2 : W3.cell? ⟨W1.heap.size, 2, none⟩ = some (.string x2) := mem_cells hV3 2
    have v3 : W3.cell? ⟨W1.heap.size, 3, none⟩ = some (.string x3) := mem_cells hV3 3
    have HI3 := Lib.hid hI3
    obtain ⟨n0, n1, n2⟩ := HNM.out W3 hI3.kp
    have HFN := Lib.hid (fun (e : inScan nm f t ⟨xg, x1, x2, x3⟩ = false) => (show (pre ++ [(⟨xg, x1, x2, x3⟩ : Ent)]).filter (inScan nm f t) = pre.filter (inScan nm f t) by rw [List.filter_append, List.filter_cons, e]; simp))
    have HFY := Lib.hid (fun (e : inScan nm f t ⟨xg, x1, x2, x3⟩ = true) => (show (pre ++ [(⟨xg, x1, x2, x3⟩ : Ent)]).filter (inScan nm f t) = [] ++ (pre.filter (inScan nm f t) ++ [(⟨xg, x1, x2, x3⟩ : Ent)]) by rw [List.filter_append, List.filter_cons, e]; simp))
    have hql : (pre.filter (inScan nm f t)).length ≤ 100000 := Nat.le_trans (List.length_filter_le _ _) (by omega)
    have HPY := Lib.hid (show inScan nm f t ⟨xg, x1, x2, x3⟩ = ((x1.toList == nm.toList) && (!Op.bytesLess x2.toList f.toList && (t.toList == [] || Op.bytesLess x2.toList t.toList))) from rfl)
    generalize hq2 : (pre ++ [(⟨xg, x1, x2, x3⟩ : Ent)]).filter (inScan nm f t) = qs2 at *
    have HQ2 := Lib.hid hq2
    clear hq2
    generalize pre.filter (inScan nm f t) = qs at *
    generalize inScan nm f t ⟨xg, x1, x2, x3⟩ = ok at *
    clear hk hI2 hI hV1 hV3 hI3
    cases h2 : (x1.toList == nm.toList)
    case false =>
      obtain rfl := HFN.out (by rw [HPY.out]; simp [h2])
      gi_wp2
      exact ⟨others_of_keeps (Keeps.refl (fun _ => False) _) (fun _ _ h _ => h.elim), KeepsB.refl _ _, by have h := HI3.out; rw [← HQ2.out] at h; exact h⟩
    cases h3 : Op.bytesLess x2.toList f.toList
    case true =>
      obtain rfl := HFN.out (by rw [HPY.out]; simp [h2, h3])
      gi_wp2
      exact ⟨others_of_keeps (Keeps.refl (fun _ => False) _) (fun _ _ h _ => h.elim), KeepsB.refl _ _, by have h := HI3.out; rw [← HQ2.out] at h; exact h⟩
    by_cases h4 : t.toList = []
    case pos =>
      have h4b : (t.toList == []) = true := by simp [h4]
      obtain rfl := HFY.out (by rw [HPY.out]; simp [h2, h3, h4])
      clear HFY HFN HPY
      obtain ⟨⟨u, c3, o3, hub⟩, hK3⟩ := HI3.out
      have HUB := Lib.hid hub
      have HK3 := Lib.hid hK3
      rw [List.nil_append] at o3
      obtain ⟨au, cu, rfl, hml⟩ := o3.len
      have c5 : W3.cell? ⟨w1.heap.size, 0, none⟩ = some (.slice au qs.length cu) := mem_cells c3 0
      have f5 : W3.frozen? ⟨w1.heap.size, 0, none⟩ = false := frozen_cells c3 0
      have HC3 := Lib.hid c3
      have HCU3 := Lib.hid (owns_kind o3)
      have O4 := Lib.hid o3
      have HLU := Lib.hid (o3.lt)
      have hlt5 : w1.heap.size < W3.heap.size := mem_lt c5
      have hw01 : w.heap.size + 3 ≤ w1.heap.size := HZ.out
      clear c3 o3 hml hub hK3 HI3
      gi_wp2_with (gi_at_builtin; refine wpListIn_append_one rfl _ _ 22 rfl tEnt Tryz.underlying22 infoEnt rfl (by decide) w.heap.size _ qs rfl (O4.out.alloc _) _ _ (⟨xg, x1, x2, x3⟩ : Ent) rfl [.int .i64 xg, .string x1, .string x2, .string x3] ?a2 ⟨rfl, HXO.out⟩ ?b2 ?c2 ?d2 ?e2 ?_)
      case a2 => exact fun j u hj => by match j, hj with | 0, hj => simp at hj; subst hj; simp [mem] | 1, hj => simp at hj; subst hj; simp [mem] | 2, hj => simp at hj; subst hj; simp [mem] | 3, hj => simp at hj; subst hj; simp [mem]
      case b2 => intro x hx; simp at hx; rcases hx with rfl | rfl | rfl | rfl <;> rfl
      case c2 => unfold maxLen; omega
      case d2 => omega
      case e2 => simp; omega
      intro v' W6 own6 hgrow hblk
      obtain ⟨a6, cap6, rfl, _⟩ := own6.len
      have hne6 : some w1.heap.size ≠ (Value.slice au qs.length cu).ownBlock := fun h => by
        rcases HUB.out with e | e
        · rw [← h] at e; cases e
        · have := e _ h.symm; omega
      have i6 : W6.heap[w1.heap.size]? = some (.cells #[.slice au qs.length cu] 22 (0, 0)) := (hgrow.block w1.heap.size (by simp; omega) hne6).trans ((Below.heap_alloc _ _ _ (by omega)).trans HC3.out)
      have k6 : W6.cell? ⟨w1.heap.size, 0, none⟩ = some (.slice au qs.length cu) := mem_cells i6 0
      have l6 : W6.frozen? ⟨w1.heap.size, 0, none⟩ = false := frozen_cells i6 0
      have KG := Lib.hid (show Keeps (fun k => k = w1.heap.size ∨ some k = (Value.slice au qs.length cu).ownBlock ∨ W3.heap.size ≤ k) W3 W6 from
        ((Keeps.refl _ W3).alloc _).trans ((grown_keeps hgrow).wide (fun k _ h => .inr (.inl h))))
      have I6 := Lib.hid i6
      have O6 := Lib.hid own6
      have HBK := Lib.hid (show ∀ k, (Value.slice a6 (qs ++ [(⟨xg, x1, x2, x3⟩ : Ent)]).length cap6).ownBlock = some k → w1.heap.size < k from by
        rcases hblk with e | e
        · rcases HUB.out with g | g
          · exact fun k h => by rw [e.trans g] at h; cases h
          · exact fun k h => g k (e ▸ h)
        · exact fun k h => by have := e k h; first | omega | (simp at this; omega))
      clear i6 own6 hgrow hblk hne6
      gi_wp2
      have O7 := O6.out
      have HBK7 := HBK.out
      simp only [List.length_append, List.length_cons, List.length_nil, Nat.zero_add] at O7 HBK7
      generalize (Value.slice a6 (qs.length + 1) cap6) = v' at O7 HBK7
      have hset : Keeps (fun k => k = w1.heap.size) W6 (W6.setCell ⟨w1.heap.size, 0, none⟩ v') := (Keeps.refl (fun k => k = w1.heap.size) W6).setCell (p := ⟨w1.heap.size, 0, none⟩) (fun _ => rfl) _
      have KH : Keeps (fun k => k = w1.heap.size ∨ some k = (Value.slice au qs.length cu).ownBlock ∨ W3.heap.size ≤ k) W3 (W6.setCell ⟨w1.heap.size, 0, none⟩ v') := KG.out.trans (hset.wide (fun k _ h => .inl h))
      refine ⟨others_of_keeps KH (fun k o h1 h2 => ?_), Keeps.kinds KH (fun k o h1 h2 => ?_), ⟨⟨v', ?_, ?_, .inr HBK7⟩, ?_⟩⟩
      · rcases h1 with h1 | h1 | h1
        · subst h1; rw [HC3.out] at h2; cases h2; rfl
        · obtain ⟨c, rfl⟩ := HCU3.out k o h1.symm h2; rfl
        · have := (Array.getElem?_eq_some_iff.1 h2).1; omega
      · rcases h1 with h1 | h1 | h1
        · subst h1; rw [HC3.out] at h2; cases h2; rfl
        · obtain ⟨c, rfl⟩ := HCU3.out k o h1.symm h2; rfl
        · have := (Array.getElem?_eq_some_iff.1 h2).1; omega
      · exact setC_block I6.out
      · have e : (pre ++ [(⟨xg, x1, x2, x3⟩ : Ent)]).filter (inScan nm f t) = qs ++ [(⟨xg, x1, x2, x3⟩ : Ent)] := HQ2.out.trans (List.nil_append _)
        show Owns tEnt _ _ _ v' ((pre ++ [(⟨xg, x1, x2, x3⟩ : Ent)]).filter (inScan nm f t))
        rw [e]
        exact O7.keepsFlat tEnt_flat hset (fun k e h => by
          subst h
          have := HBK7 _ e; omega)
      · refine ⟨KH.os.trans HK3.out.os, KH.tape.trans HK3.out.tape, KH.output.trans HK3.out.output, Nat.le_trans HK3.out.size KH.size, fun k h1 h2 => (KH.block k (by omega) (fun h => ?_)).trans (HK3.out.block k h1 h2)⟩
        rcases h with h | h | h
        · omega
        · rcases HUB.out with g | g
          · exact h2 (h.trans g)
          · have := g k h.symm; omega
        · omega
    have h4b : (t.toList == []) = false := by simp [h4]
    cases h5 : Op.bytesLess x2.toList t.toList
    case false =>
      obtain rfl := HFN.out (by rw [HPY.out]; simp [h2, h3, h4, h5])
      gi_wp2
      exact ⟨others_of_keeps (Keeps.refl (fun _ => False) _) (fun _ _ h _ => h.elim), KeepsB.refl _ _, by have h := HI3.out; rw [← HQ2.out] at h; exact h⟩
    obtain rfl := HFY.out (by rw [HPY.out]; simp [h2, h3, h4, h5])
    clear HFY HFN HPY
    obtain ⟨⟨u, c3, o3, hub⟩, hK3⟩ := HI3.out
    have HUB := Lib.hid hub
    have HK3 := Lib.hid hK3
    rw [List.nil_append] at o3
    obtain ⟨au, cu, rfl, hml⟩ := o3.len
    have c5 : W3.cell? ⟨w1.heap.size, 0, none⟩ = some (.slice au qs.length cu) := mem_cells c3 0
    have f5 : W3.frozen? ⟨w1.heap.size, 0, none⟩ = false := frozen_cells c3 0
    have HC3 := Lib.hid c3
    have HCU3 := Lib.hid (owns_kind o3)
    have O4 := Lib.hid o3
    have HLU := Lib.hid (o3.lt)
    have hlt5 : w1.heap.size < W3.heap.size := mem_lt c5
    have hw01 : w.heap.size + 3 ≤ w1.heap.size := HZ.out
    clear c3 o3 hml hub hK3 HI3
    gi_wp2_with (gi_at_builtin; refine wpListIn_append_one rfl _ _ 22 rfl tEnt Tryz.underlying22 infoEnt rfl (by decide) w.heap.size _ qs rfl (O4.out.alloc _) _ _ (⟨xg, x1, x2, x3⟩ : Ent) rfl [.int .i64 xg, .string x1, .string x2, .string x3] ?a2 ⟨rfl, HXO.out⟩ ?b2 ?c2 ?d2 ?e2 ?_)
    case a2 => exact fun j u hj => by match j, hj with | 0, hj => simp at hj; subst hj; simp [mem] | 1, hj => simp at hj; subst hj; simp [mem] | 2, hj => simp at hj; subst hj; simp [mem] | 3, hj => simp at hj; subst hj; simp [mem]
    case b2 => intro x hx; simp at hx; rcases hx with rfl | rfl | rfl | rfl <;> rfl
    case c2 => unfold maxLen; omega
    case d2 => omega
    case e2 => simp; omega
    intro v' W6 own6 hgrow hblk
    obtain ⟨a6, cap6, rfl, _⟩ := own6.len
    have hne6 : some w1.heap.size ≠ (Value.slice au qs.length cu).ownBlock := fun h => by
      rcases HUB.out with e | e
      · rw [← h] at e; cases e
      · have := e _ h.symm; omega
    have i6 : W6.heap[w1.heap.size]? = some (.cells #[.slice au qs.length cu] 22 (0, 0)) := (hgrow.block w1.heap.size (by simp; omega) hne6).trans ((Below.heap_alloc _ _ _ (by omega)).trans HC3.out)
    have k6 : W6.cell? ⟨w1.heap.size, 0, none⟩ = some (.slice au qs.length cu) := mem_cells i6 0
    have l6 : W6.frozen? ⟨w1.heap.size, 0, none⟩ = false := frozen_cells i6 0
    have KG := Lib.hid (show Keeps (fun k => k = w1.heap.size ∨ some k = (Value.slice au qs.length cu).ownBlock ∨ W3.heap.size ≤ k) W3 W6 from
      ((Keeps.refl _ W3).alloc _).trans ((grown_keeps hgrow).wide (fun k _ h => .inr (.inl h))))
    have I6 := Lib.hid i6
    have O6 := Lib.hid own6
    have HBK := Lib.hid (show ∀ k, (Value.slice a6 (qs ++ [(⟨xg, x1, x2, x3⟩ : Ent)]).length cap6).ownBlock = some k → w1.heap.size < k from by
      rcases hblk with e | e
      · rcases HUB.out with g | g
        · exact fun k h => by rw [e.trans g] at h; cases h
        · exact fun k h => g k (e ▸ h)
      · exact fun k h => by have := e k h; first | omega | (simp at this; omega))
    clear i6 own6 hgrow hblk hne6
    gi_wp2
    have O7 := O6.out
    have HBK7 := HBK.out
    simp only [List.length_append, List.length_cons, List.length_nil, Nat.zero_add] at O7 HBK7
    generalize (Value.slice a6 (qs.length + 1) cap6) = v' at O7 HBK7
    have hset : Keeps (fun k => k = w1.heap.size) W6 (W6.setCell ⟨w1.heap.size, 0, none⟩ v') := (Keeps.refl (fun k => k = w1.heap.size) W6).setCell (p := ⟨w1.heap.size, 0, none⟩) (fun _ => rfl) _
    have KH : Keeps (fun k => k = w1.heap.size ∨ some k = (Value.slice au qs.length cu).ownBlock ∨ W3.heap.size ≤ k) W3 (W6.setCell ⟨w1.heap.size, 0, none⟩ v') := KG.out.trans (hset.wide (fun k _ h => .inl h))
    refine ⟨others_of_keeps KH (fun k o h1 h2 => ?_), Keeps.kinds KH (fun k o h1 h2 => ?_), ⟨⟨v', ?_, ?_, .inr HBK7⟩, ?_⟩⟩
    · rcases h1 with h1 | h1 | h1
      · subst h1; rw [HC3.out] at h2; cases h2; rfl
      · obtain ⟨c, rfl⟩ := HCU3.out k o h1.symm h2; rfl
      · have := (Array.getElem?_eq_some_iff.1 h2).1; omega
    · rcases h1 with h1 | h1 | h1
      · subst h1; rw [HC3.out] at h2; cases h2; rfl
      · obtain ⟨c, rfl⟩ := HCU3.out k o h1.symm h2; rfl
      · have := (Array.getElem?_eq_some_iff.1 h2).1; omega
    · exact setC_block I6.out
    · have e : (pre ++ [(⟨xg, x1, x2, x3⟩ : Ent)]).filter (inScan nm f t) = qs ++ [(⟨xg, x1, x2, x3⟩ : Ent)] := HQ2.out.trans (List.nil_append _)
      show Owns tEnt _ _ _ v' ((pre ++ [(⟨xg, x1, x2, x3⟩ : Ent)]).filter (inScan nm f t))
      rw [e]
      exact O7.keepsFlat tEnt_flat hset (fun k e h => by
        subst h
        have := HBK7 _ e; omega)
    · refine ⟨KH.os.trans HK3.out.os, KH.tape.trans HK3.out.tape, KH.output.trans HK3.out.output, Nat.le_trans HK3.out.size KH.size, fun k h1 h2 => (KH.block k (by omega) (fun h => ?_)).trans (HK3.out.block k h1 h2)⟩
      rcases h with h | h | h
      · omega
      · rcases HUB.out with g | g
        · exact h2 (h.trans g)
        · have := g k h.symm; omega
      · omega
  case done =>
    intro D W ps hfin hDl hI hD
    obtain ⟨⟨u, c, o4, hub⟩, hK⟩ := hI
    rw [List.nil_append] at o4
    obtain ⟨au, cu, rfl, hml⟩ := o4.len
    have c4 : W.cell? ⟨w1.heap.size, 0, none⟩ = some (.slice au (ps.filter (inScan nm f t)).length cu) := mem_cells c 0
    have O4 := Lib.hid o4
    have HK := Lib.hid hK
    have HD := Lib.hid hD
    have hwD : w1.heap.size < D := by omega
    have HES := Lib.hid (show GS (ps.filter (inScan nm f t)) 0 from by obtain ⟨ss, hk, rfl⟩ := hfin; exact HG.out ss hk)
    generalize ps.filter (inScan nm f t) = es at *
    clear o4 hK hD c HSQ HST hub
    gi_wp2
    refine coll_end2 rfl rfl rfl HD.out (fun WF hk => ⟨_, es, 0, rfl, ?_, ?_, HES.out⟩)
    · exact O4.out.keepsC tEnt_flat hk (fun k o h1 h2 h3 h => by subst h; rw [HD.out] at h2; cases h2; cases h3)
    · have h1 : Below w1.heap.size w1 WF := Keeps.below (Keeps.trans (HK.out.wide (fun k _ h => (by cases h))) (hk.wide (fun k _ h => (by omega : w1.heap.size ≤ k)))) (Nat.le_refl _) (fun k h => h)
      exact HX.out.bl.trans (h1.mono HX.out.bl.size)
end Go.Proofs.YtbmpoecmjmmngaaGreat
/- The reference's Find, Entries, Get. -/
namespace Go.Proofs.YtbmpoecmjmmngaaGreat
open Go.RowKit Go.Maps

theorem sn_at {m : Mem} {a : Option Addr} {n cap : Nat} {xs : List (Int × List Ent)} (h : (tSlice tSn).rv m [.slice a n cap] xs) {k : Nat} (hk : k < xs.length) :
    ∃ b o s, a = some ⟨b, o, none⟩ ∧ m b (o + k * 2) = some (.int .i64 xs[k].1) ∧ m b (o + k * 2 + 1) = some s ∧ tEnts.rv m [s] xs[k].2 := by
  obtain ⟨b, o, rfl, cs, hat, s, rfl, _, hr⟩ := slice_at h hk
  exact ⟨b, o, s, rfl, hat 0 _ rfl, hat 1 _ rfl, hr⟩
def FindSays (l : List (Int × List Ent)) (k : Int) (i : Int) : Prop := (∃ (j : Nat) (es : List Ent), l[j]? = some (k, es) ∧ i = j) ∨ (k ∉ l.map Prod.fst ∧ i = -1)
theorem box_below (W : World) (o : Obj) : Below W.heap.size W (W.alloc o) := (Below.refl _ _).alloc (Nat.le_refl _) o
set_option maxRecDepth 100000 in
set_option maxHeartbeats 4000000 in
theorem refFind_any (r : RS) (a q : Value) (W : World) (h : RsAt (mem W) r a q) (k : Int) :
    Calls Tryz.prog 77 #[rsV r a q, .int .i64 k] W fun e w' => ∃ i, e = .returned (.int .i64 i) ∧ FindSays r.sn k i ∧ Below W.heap.size W w' := by
  obtain ⟨aa, ca, rfl, hla, hma, hra⟩ := slice_form h.ha
  obtain ⟨aq, cq, rfl, hlq, hmq, hrq⟩ := slice_form h.hq
  have hca : ca ≤ 9223372036854775807 := by unfold maxLen at hma; exact hma
  have hcq : cq ≤ 9223372036854775807 := by unfold maxLen at hmq; exact hmq
  have hli : (r.sn.length : Int) ≤ 9223372036854775807 := by omega
  generalize hW : W.alloc (.cells #[.int .i64 r.N, .int .i64 r.next, .slice aa r.es.length ca, .slice aq r.sn.length cq] 43) = W1
  have HB := Lib.hid (show Below W.heap.size W W1 by rw [← hW]; exact box_below _ _)
  have HQ := Lib.hid ((tSlice tSn).mono _ _ _ _ (below_mem HB.out) hrq)
  have hbk : W1.heap[W.heap.size]? = some (.cells #[.int .i64 r.N, .int .i64 r.next, .slice aa r.es.length ca, .slice aq r.sn.length cq] 43 (0, 0)) := by rw [← hW]; exact heap_alloc_new _ _
  have c3 : W1.cell? ⟨W.heap.size, 3, none⟩ = some (.slice aq r.sn.length cq) := mem_cells hbk 3
  clear hma hmq hra hrq h hbk
  go_enter Tryz.func77, Tryz.ntmps77
  go_wp2_with fail
  clear hW
  go_loopw [5] (fun i wr => ∃ j : Nat, j ≤ r.sn.length ∧ i = .int .i64 j ∧ wr = W1 ∧ Hid (k ∉ (r.sn.take j).map Prod.fst)) (fun i _ => r.sn.length - (intOf i).toNat)
  case atStart => exact ⟨0, by omega, rfl, rfl, Lib.hid (by simp)⟩
  case round =>
    obtain ⟨j, hj, rfl, rfl, HT⟩ := hrel
    by_cases hlt : j < r.sn.length
    · obtain ⟨b, o, s, rfl, hat, -, -⟩ := sn_at HQ.out hlt
      have d0 : wr.cell? ⟨b, o + j * 2, none⟩ = some (.int .i64 r.sn[j].1) := hat
      have HG := Lib.hid (List.getElem?_eq_getElem hlt)
      have HTK := Lib.hid (show (r.sn.take (j + 1)).map Prod.fst = (r.sn.take j).map Prod.fst ++ [r.sn[j].1] by rw [List.take_succ_eq_append_getElem hlt, List.map_append]; rfl)
      clear hat
      generalize r.sn[j] = y at *
      obtain ⟨y, es⟩ := y
      by_cases he : y = k
      · subst he
        have hb : (y == y) = true := by simp
        go_wp2
        go_ret
        exact ⟨j, rfl, .inl ⟨j, es, HG.out, rfl⟩, HB.out⟩
      · have hb : (y == k) = false := by simp [he]
        have HN := Lib.hid (show k ∉ (r.sn.take (j + 1)).map Prod.fst by rw [HTK.out, List.mem_append]; simp; exact ⟨by have := HT.out; simpa using this, fun e => he e.symm⟩)
        go_wp2
        go_roundw
        case rel => exact ⟨j + 1, by omega, by go_num, by first | rfl | trivial, HN⟩
        case measure => simp [intOf]; omega
    · obtain rfl : j = r.sn.length := by omega
      rw [List.take_length] at HT
      go_wp2
      go_ret
      exact ⟨-1, rfl, .inr ⟨HT.out, rfl⟩, HB.out⟩
def EntsSays (l : List (Int × List Ent)) (k : Int) (es : List Ent) (c : Int) : Prop := ((k, es) ∈ l ∧ c = 0) ∨ (k ∉ l.map Prod.fst ∧ es = [] ∧ c = 8)
set_option maxRecDepth 100000 in
set_option maxHeartbeats 4000000 in
theorem refEntries_any (r : RS) (a q : Value) (W : World) (h : RsAt (mem W) r a q) (k : Int) :
    Calls Tryz.prog 50 #[rsV r a q, .int .i64 k] W fun e w' => ∃ v es c, e = .returned (.tuple #[v, .int .i64 c]) ∧ EntsSays r.sn k es c ∧ tEnts.rv (mem w') [v] es ∧ Below W.heap.size W w' := by
  have HF := Lib.hid (fun (w : World) (hb : Below W.heap.size W w) => refFind_any r a q w (h.mono (below_mem hb)) k)
  obtain ⟨aa, ca, rfl, hla, hma, hra⟩ := slice_form h.ha
  obtain ⟨aq, cq, rfl, hlq, hmq, hrq⟩ := slice_form h.hq
  have hca : ca ≤ 9223372036854775807 := by unfold maxLen at hma; exact hma
  have hcq : cq ≤ 9223372036854775807 := by unfold maxLen at hmq; exact hmq
  have hli : (r.sn.length : Int) ≤ 9223372036854775807 := by omega
  have HB := Lib.hid (box_below W (.cells #[.int .i64 r.N, .int .i64 r.next, .slice aa r.es.length ca, .slice aq r.sn.length cq] 43))
  have HBK := Lib.hid (heap_alloc_new W (.cells #[.int .i64 r.N, .int .i64 r.next, .slice aa r.es.length ca, .slice aq r.sn.length cq] 43))
  have HQ := Lib.hid hrq
  clear hma hmq hra hrq h
  go_enter Tryz.func50, Tryz.ntmps50
  go_wp2_with fail
  refine (HF.out _ HB.out).mono ?_
  rintro e w1 ⟨i, rfl, hf, hb1⟩
  have HB1 := Lib.hid (HB.out.trans (hb1.mono HB.out.size))
  have hbk := (hb1.block _ (Array.getElem?_eq_some_iff.1 HBK.out).1).trans HBK.out
  have c3 : w1.cell? ⟨W.heap.size, 3, none⟩ = some (.slice aq r.sn.length cq) := mem_cells hbk 3
  clear hb1 hbk HBK HF
  rcases hf with ⟨j, es, hj, rfl⟩ | ⟨hn, rfl⟩
  · obtain ⟨hjl, hje⟩ := List.getElem?_eq_some_iff.1 hj
    obtain ⟨b, o, s, rfl, -, hat, hrs⟩ := sn_at ((tSlice tSn).mono _ _ _ _ (below_mem HB1.out) HQ.out) hjl
    have d1 : w1.cell? ⟨b, o + j * 2 + 1, none⟩ = some s := hat
    rw [hje] at hrs
    obtain ⟨sa, sc, rfl, hsl, hsm, hrs⟩ := slice_form hrs
    have HR := Lib.hid hrs
    have HM := Lib.hid (List.mem_of_getElem? hj)
    clear hat hje hrs hsm hsl hj
    go_wp2
    go_ret2
    exact ⟨_, es, 0, rfl, .inl ⟨HM.out, rfl⟩, HR.out, HB1.out⟩
  · have HN := Lib.hid hn
    clear hn
    go_wp2
    go_ret2
    exact ⟨_, [], 8, rfl, .inr ⟨HN.out, rfl, rfl⟩, slice_nil _ _, HB1.out⟩
set_option maxRecDepth 100000 in
set_option maxHeartbeats 4000000 in
theorem refGet_any (r : RS) (a q : Value) (W : World) (h : RsAt (mem W) r a q) (hasc : Asc r.es) (g : Int) (nm key : ByteArray) (hn : nm.size ≤ maxLen) (hk : key.size ≤ maxLen) :
    Calls Tryz.prog 40 #[rsV r a q, .int .i64 g, .string nm, .string key] W fun e w' => ∃ v c, e = .returned (.tuple #[.string v, .int .i64 c]) ∧ GetSays r.N r.es g nm key v c ∧ Below W.heap.size W w' := by
  have HK := Lib.hid (fun w => refAsked_any r.N (.int .i64 r.next) a q g nm key .empty w hn hk (by unfold maxLen; decide))
  have HG1 := Lib.hid (fun (e : chk r.N g nm [key, .empty] ≠ 0) => (show GetSays r.N r.es g nm key .empty (chk r.N g nm [key, .empty]) from .inl ⟨e, rfl, rfl⟩))
  have HG2 := Lib.hid (fun (e : chk r.N g nm [key, .empty] = 0) (hn : (g, nm, key) ∉ r.es.map Ent.pl) => (show GetSays r.N r.es g nm key .empty 8 from .inr (.inl ⟨e, hn, rfl, rfl⟩)))
  have HG3 := Lib.hid (fun (e : chk r.N g nm [key, .empty] = 0) (x : Ent) (hx : x ∈ r.es) (hp : x.pl = (g, nm, key)) => (show GetSays r.N r.es g nm key x.val 0 from .inr (.inr ⟨e, x, hx, hp, rfl, rfl⟩)))
  generalize GetSays r.N r.es g nm key = GS at *
  generalize hcc : chk r.N g nm [key, .empty] = c at *
  clear hcc
  have HASC := Lib.hid hasc
  obtain ⟨aa, ca, rfl, hla, hma, hra⟩ := slice_form h.ha
  obtain ⟨aq, cq, rfl, hlq, hmq, hrq⟩ := slice_form h.hq
  have hca : ca ≤ 9223372036854775807 := by unfold maxLen at hma; exact hma
  have HB := Lib.hid (box_below W (.cells #[.int .i64 r.N, .int .i64 r.next, .slice aa r.es.length ca, .slice aq r.sn.length cq] 43))
  have HBK := Lib.hid (heap_alloc_new W (.cells #[.int .i64 r.N, .int .i64 r.next, .slice aa r.es.length ca, .slice aq r.sn.length cq] 43))
  have HA := Lib.hid (fun w' (hb : Below W.heap.size W w') => tEnts.mono _ _ _ _ (below_mem hb) hra)
  clear hma hmq hra hrq h hasc
  go_enter Tryz.func40, Tryz.ntmps40
  go_wp2_with fail
  refine (HK.out _).mono ?_
  rintro e w1 ⟨rfl, hb1⟩
  have HB1 := Lib.hid (HB.out.trans (hb1.mono HB.out.size))
  have HBK1 := Lib.hid ((hb1.block _ (Array.getElem?_eq_some_iff.1 HBK.out).1).trans HBK.out)
  have c2 : w1.cell? ⟨W.heap.size, 2, none⟩ = some (.slice aa r.es.length ca) := mem_cells HBK1.out 2
  clear hb1 HBK HK
  by_cases hc0 : c = 0
  case neg =>
    have hcb : (c == 0) = false := by simp [hc0]
    have HC0 := Lib.hid hc0
    go_wp2
    go_ret2
    exact ⟨_, _, rfl, HG1.out HC0.out, HB1.out⟩
  subst hc0
  go_wp2_with fail
  refine (refAt_any r.es (.slice aa r.es.length ca) g nm key .empty w1 (HA.out _ HB1.out)).mono ?_
  rintro e w2 ⟨i, b, rfl, hat, hb2⟩
  have HB2 := Lib.hid (HB1.out.trans (hb2.mono HB1.out.size))
  have hbk := (hb2.block _ (Array.getElem?_eq_some_iff.1 HBK1.out).1).trans HBK1.out
  clear c2
  have c2 : w2.cell? ⟨W.heap.size, 2, none⟩ = some (.slice aa r.es.length ca) := mem_cells hbk 2
  have HATP := Lib.hid hat
  clear hb2 hat hbk HBK1
  cases b with
  | false =>
    have HN := Lib.hid (HATP.out.no' HASC.out).1
    clear HATP
    go_wp2
    go_ret2
    exact ⟨_, _, rfl, HG2.out (by first | rfl | trivial) HN.out, HB2.out⟩
  | true =>
    obtain ⟨⟨x, -, hpl, hx⟩, hil, -, -⟩ := HATP.out.yes' HASC.out
    obtain ⟨hil', hxe⟩ := List.getElem?_eq_some_iff.1 hx
    obtain ⟨b, o, rfl, hat, -⟩ := ents_at (HA.out _ HB2.out) hil
    have d3 : w2.cell? ⟨b, o + i * 4 + 3, none⟩ = some (.string x.val) := by rw [← hxe]; exact hat 3 _ rfl
    have HX := Lib.hid (List.mem_of_getElem? hx)
    have HPL := Lib.hid hpl
    clear HATP hat hx hxe hpl
    go_wp2
    go_ret2
    exact ⟨_, _, rfl, HG3.out (by first | rfl | trivial) x HX.out HPL.out, HB2.out⟩
end Go.Proofs.YtbmpoecmjmmngaaGreat
/- The reference's Groups. -/
namespace Go.Proofs.YtbmpoecmjmmngaaGreat
open Go.RowKit Go.Maps

def GroupsSay (N : Nat) (l : List Ent) (a b : Int) (es : List Ent) (c : Int) : Prop :=
  (¬ (0 ≤ a ∧ a ≤ b ∧ b ≤ N) ∧ es = [] ∧ c = 7) ∨ ((0 ≤ a ∧ a ≤ b ∧ b ≤ N) ∧ es = l.filter (inGrp a b) ∧ c = 0)
section
variable {α : Type} {P : α → Bool} {l : List α} {k : Nat}
theorem filter_yes (hk : k < l.length) (e : P l[k] = true) : (l.take k).filter P ++ [l[k]] = (l.take (k + 1)).filter P := by
  rw [List.take_succ_eq_append_getElem hk, List.filter_append, List.filter_cons, e]; rfl
theorem filter_no (hk : k < l.length) (e : P l[k] = false) : (l.take (k + 1)).filter P = (l.take k).filter P := by
  rw [List.take_succ_eq_append_getElem hk, List.filter_append, List.filter_cons, e]; simp
end
set_option maxRecDepth 100000 in
set_option maxHeartbeats 8000000 in
theorem refGroups_any (r : RS) (a q : Value) (W : World) (h : RsAt (mem W) r a q) (hl : r.es.length ≤ 4000) (x y0 : Int) :
    Calls Tryz.prog 52 #[rsV r a q, .int .i64 x, .int .i64 y0] W fun e w' => ∃ v es c, e = .returned (.tuple #[v, .int .i64 c]) ∧ tEnts.rv (mem w') [v] es ∧ Below W.heap.size W w' ∧
      GroupsSay r.N r.es x y0 es c := by
  obtain ⟨aa, ca, rfl, hla, hma, hra⟩ := slice_form h.ha
  obtain ⟨aq, cq, rfl, hlq, hmq, hrq⟩ := slice_form h.hq
  have hca : ca ≤ 9223372036854775807 := by unfold maxLen at hma; exact hma
  have hcq : cq ≤ 9223372036854775807 := by unfold maxLen at hmq; exact hmq
  have HB := Lib.hid (box_below W (.cells #[.int .i64 r.N, .int .i64 r.next, .slice aa r.es.length ca, .slice aq r.sn.length cq] 43))
  have HN := Lib.hid (fun (h : ¬ (0 ≤ x ∧ x ≤ y0 ∧ y0 ≤ r.N)) => h)
  by_cases hok : 0 ≤ x ∧ x ≤ y0 ∧ y0 ≤ r.N
  case neg =>
    have HK := Lib.hid hok
    clear hma hmq hra hrq h HN
    by_cases h1 : 0 ≤ x
    · by_cases h2 : y0 ≤ r.N
      · have h3 : ¬ x ≤ y0 := fun e => hok ⟨h1, e, h2⟩
        clear hok
        go_enter Tryz.func52, Tryz.ntmps52
        go_wp2
        go_ret2
        exact ⟨_, [], 7, rfl, slice_nil _ _, HB.out, .inl ⟨HK.out, rfl, rfl⟩⟩
      · clear hok
        go_enter Tryz.func52, Tryz.ntmps52
        go_wp2
        go_ret2
        exact ⟨_, [], 7, rfl, slice_nil _ _, HB.out, .inl ⟨HK.out, rfl, rfl⟩⟩
    · clear hok
      go_enter Tryz.func52, Tryz.ntmps52
      go_wp2
      go_ret2
      exact ⟨_, [], 7, rfl, slice_nil _ _, HB.out, .inl ⟨HK.out, rfl, rfl⟩⟩
  have HK := Lib.hid hok
  obtain ⟨h1, h3, h2⟩ := hok
  have HBK := Lib.hid (heap_alloc_new W (.cells #[.int .i64 r.N, .int .i64 r.next, .slice aa r.es.length ca, .slice aq r.sn.length cq] 43))
  have HRA := Lib.hid (tEnts.mono _ _ _ _ (below_mem HB.out) hra)
  clear hma hmq hra hrq h HN
  go_enter Tryz.func52, Tryz.ntmps52
  go_wp2_with fail
  generalize W.alloc (.cells #[.int .i64 r.N, .int .i64 r.next, .slice aa r.es.length ca, .slice aq r.sn.length cq] 43) = W1 at *
  have HS1 := Lib.hid (show W.heap.size < W1.heap.size from (Array.getElem?_eq_some_iff.1 HBK.out).1)
  have HC := Lib.hid (fun (w' : World) (hb : Below W1.heap.size W1 w') => (show w'.cell? ⟨W.heap.size, 2, none⟩ = some (.slice aa r.es.length ca) from mem_cells ((hb.block _ HS1.out).trans HBK.out) 2))
  have HGS := Lib.hid (show GroupsSay r.N r.es x y0 (r.es.filter (inGrp x y0)) 0 from .inr ⟨HK.out, rfl, rfl⟩)
  have HPP := Lib.hid (fun z => (show inGrp x y0 z = (decide (x ≤ z.g) && decide (z.g < y0)) from rfl))
  generalize inGrp x y0 = P at *
  clear HBK
  go_loopw [8, 9] (fun ov i wr => ∃ k : Nat, k ≤ r.es.length ∧ i = .int .i64 k ∧ Hid (Owns tEnt wr W1.heap.size 34 ov ((r.es.take k).filter P)) ∧ Hid (Below W1.heap.size W1 wr)) (fun _ i _ => r.es.length - (intOf i).toNat)
  case atStart => exact ⟨0, by omega, rfl, Lib.hid (Owns.nil _ _ _ _), Lib.hid (Below.refl _ _)⟩
  case round =>
    obtain ⟨k, hk, rfl, HO, HBR⟩ := hrel
    have c2 := HC.out _ HBR.out
    by_cases hlt : k < r.es.length
    · have HSZ := Lib.hid HBR.out.size
      obtain ⟨b, o, rfl, hat, hok⟩ := ents_at (tEnts.mono _ _ _ _ (below_mem HBR.out) HRA.out) hlt
      have d0 : wr.cell? ⟨b, o + k * 4, none⟩ = some (.int .i64 r.es[k].g) := hat 0 _ rfl
      have d1 : wr.cell? ⟨b, o + k * 4 + 1, none⟩ = some (.string r.es[k].nm) := hat 1 _ rfl
      have d2 : wr.cell? ⟨b, o + k * 4 + 2, none⟩ = some (.string r.es[k].key) := hat 2 _ rfl
      have d3 : wr.cell? ⟨b, o + k * 4 + 3, none⟩ = some (.string r.es[k].val) := hat 3 _ rfl
      have HYO := Lib.hid hok
      have HLL := Lib.hid (show ((r.es.take k).filter P).length ≤ 4000 from Nat.le_trans (List.length_filter_le _ _) (by rw [List.length_take]; omega))
      have HYES := Lib.hid (fun (e : P r.es[k] = true) => filter_yes (P := P) hlt e)
      have HNO := Lib.hid (fun (e : P r.es[k] = false) => filter_no (P := P) hlt e)
      clear hat hok
      generalize (r.es.take k).filter P = l at *
      generalize r.es[k] = y at *
      obtain ⟨yg, y1, y2, y3⟩ := y
      simp only at d0 d1 d2 d3
      have HPY := Lib.hid (HPP.out ⟨yg, y1, y2, y3⟩)
      by_cases hp1 : x ≤ yg
      · by_cases hp2 : yg < y0
        · have HNX := Lib.hid (HYES.out (by rw [HPY.out]; simp [hp1, hp2]))
          clear HYES HNO HPY
          go_wp2_with (at_builtin; refine wpList_append_one rfl _ _ 22 rfl tEnt Tryz.underlying22 infoEnt rfl (by decide) W1.heap.size _ l rfl (HO.out.alloc _) _ _ ⟨yg, y1, y2, y3⟩ rfl [.int .i64 yg, .string y1, .string y2, .string y3] ?a2 ⟨rfl, HYO.out⟩ ?b2 ?c2 ?d2 ?e2 ?_)
          case a2 => exact fun j u hj => by match j, hj with | 0, hj => simp at hj; subst hj; simp [mem] | 1, hj => simp at hj; subst hj; simp [mem] | 2, hj => simp at hj; subst hj; simp [mem] | 3, hj => simp at hj; subst hj; simp [mem]
          case b2 => intro x hx; simp at hx; rcases hx with rfl | rfl | rfl | rfl <;> rfl
          case c2 => have := HLL.out; unfold maxLen; omega
          case d2 => have := HLL.out; omega
          case e2 => have := HSZ.out; simp; omega
          · intro v' w6 own6 hgrow _
            have HB6 := Lib.hid (show Below W1.heap.size W1 w6 from (HBR.out.alloc HBR.out.size _).grown hgrow (by have := HSZ.out; simp; omega) (fun k hk => ((HO.out).lt k hk).1))
            obtain ⟨a6, cap6, rfl, _⟩ := own6.len
            have HO6 := Lib.hid (show Owns tEnt w6 W1.heap.size 34 (.slice a6 (l ++ [(⟨yg, y1, y2, y3⟩ : Ent)]).length cap6) ((r.es.take (k + 1)).filter P) by
              rw [← HNX.out]
              exact own6)
            clear own6 hgrow HO
            go_wp2
            go_roundw
            case rel => exact ⟨k + 1, by omega, by go_num, HO6, HB6⟩
            case measure => simp [intOf]; omega
        · have HNX := Lib.hid (HNO.out (by rw [HPY.out]; simp [hp1, hp2]))
          clear HYES HNO HPY
          obtain ⟨al, cl, rfl, _⟩ := HO.out.len
          go_wp2
          go_roundw
          case rel => exact ⟨k + 1, by omega, by go_num, Lib.hid (by rw [HNX.out]; exact HO.out), HBR⟩
          case measure => simp [intOf]; omega
      · have HNX := Lib.hid (HNO.out (by rw [HPY.out]; simp [hp1]))
        clear HYES HNO HPY
        obtain ⟨al, cl, rfl, _⟩ := HO.out.len
        go_wp2
        go_roundw
        case rel => exact ⟨k + 1, by omega, by go_num, Lib.hid (by rw [HNX.out]; exact HO.out), HBR⟩
        case measure => simp [intOf]; omega
    · obtain rfl : k = r.es.length := by omega
      rw [List.take_length] at HO
      have HF := HO
      obtain ⟨al, cl, rfl, _⟩ := HF.out.len
      clear HO
      go_wp2
      go_ret2
      exact ⟨_, _, 0, rfl, HF.out.rv', HB.out.trans (HBR.out.mono HB.out.size), HGS.out⟩
end Go.Proofs.YtbmpoecmjmmngaaGreat
/- The reference's Clear. -/
namespace Go.Proofs.YtbmpoecmjmmngaaGreat
open Go.RowKit Go.Maps

def ClearSays (N : Nat) (l : List Ent) (g : Int) (nm : ByteArray) (es : List Ent) (n c : Int) : Prop :=
  (chk N g nm [.empty, .empty] ≠ 0 ∧ es = l ∧ n = 0 ∧ c = chk N g nm [.empty, .empty]) ∨ (chk N g nm [.empty, .empty] = 0 ∧ es = l.filter (fun x => !isOf g nm x) ∧ n = (l.filter (isOf g nm)).length ∧ c = 0)
set_option maxRecDepth 100000 in
set_option maxHeartbeats 16000000 in
theorem refClear_any (r : RS) (a q : Value) (M : Mem) (W : World) (hM : M.le (mem W)) (h : RsAt M r a q) (hl : r.es.length ≤ 4000) (g : Int) (nm : ByteArray) (hn : nm.size ≤ maxLen) :
    Calls Tryz.prog 43 #[rsV r a q, .int .i64 g, .string nm] W fun e W' => ∃ es n c, ClearSays r.N r.es g nm es n c ∧ Below W.heap.size W W' ∧ ∃ a', e = .returned (.tuple #[rsV { r with es := es } a' q, .int .i64 n, .int .i64 c]) ∧ RsAt (joinM M W W') { r with es := es } a' q := by
  have HM := Lib.hid hM
  have HRS := Lib.hid h
  obtain ⟨aa, ca, rfl, hla, hma, hra⟩ := slice_form h.ha
  obtain ⟨aq, cq, rfl, hlq, hmq, hrq⟩ := slice_form h.hq
  have hca : ca ≤ 9223372036854775807 := by unfold maxLen at hma; exact hma
  have hcq : cq ≤ 9223372036854775807 := by unfold maxLen at hmq; exact hmq
  have HA := Lib.hid (fun w' (hb : Below W.heap.size W w') => tEnts.mono _ _ _ _ (Mem.le_trans hM (below_mem hb)) hra)
  have HF0 := Lib.hid (Fr.start W (.int .i64 r.N) (.int .i64 r.next) (.slice aa r.es.length ca) (.slice aq r.sn.length cq))
  clear hma hmq hra hrq h hM
  have HK := Lib.hid (fun w => refAsked_any r.N (.int .i64 r.next) (.slice aa r.es.length ca) (.slice aq r.sn.length cq) g nm .empty .empty w hn (by unfold maxLen; decide) (by unfold maxLen; decide))
  have HG1 := Lib.hid (fun (e : chk r.N g nm [.empty, .empty] ≠ 0) => (show ClearSays r.N r.es g nm r.es 0 (chk r.N g nm [.empty, .empty]) from .inl ⟨e, rfl, rfl, rfl⟩))
  have HG2 := Lib.hid (fun (e : chk r.N g nm [.empty, .empty] = 0) => (show ClearSays r.N r.es g nm (r.es.filter (fun x => !isOf g nm x)) ((r.es.length : Int) - (r.es.filter (fun x => !isOf g nm x)).length) 0 from .inr ⟨e, rfl, by have := filter_lens (es := r.es) (isOf g nm); omega, rfl⟩))
  generalize ClearSays r.N r.es g nm = GS at *
  generalize hcc : chk r.N g nm [.empty, .empty] = c at *
  clear hcc
  go_enter Tryz.func43, Tryz.ntmps43
  go_wp2_with fail
  refine (HK.out _).mono ?_
  rintro e w1 ⟨rfl, hb1⟩
  have HF1 := Lib.hid (HF0.out.pure hb1)
  clear hb1 HK HF0
  have c0 : w1.cell? ⟨W.heap.size, 0, none⟩ = some (.int .i64 r.N) := HF1.out.cells.1
  have c1 : w1.cell? ⟨W.heap.size, 1, none⟩ = some (.int .i64 r.next) := HF1.out.cells.2.1
  have c2 : w1.cell? ⟨W.heap.size, 2, none⟩ = some (.slice aa r.es.length ca) := HF1.out.cells.2.2.1
  have c3 : w1.cell? ⟨W.heap.size, 3, none⟩ = some (.slice aq r.sn.length cq) := HF1.out.cells.2.2.2
  have cz : ∀ o, w1.frozen? ⟨W.heap.size, o, none⟩ = false := HF1.out.thaw
  have d0 : w1.cell? ⟨W.heap.size + 1, 0, none⟩ = some (.int .i64 0) := HF1.out.res.1
  have d1 : w1.cell? ⟨W.heap.size + 1, 1, none⟩ = some (.int .i64 0) := HF1.out.res.2.1
  have d2 : w1.cell? ⟨W.heap.size + 1, 2, none⟩ = some (.slice none 0 0) := HF1.out.res.2.2.1
  have d3 : w1.cell? ⟨W.heap.size + 1, 3, none⟩ = some (.slice none 0 0) := HF1.out.res.2.2.2.1
  have dz : ∀ o, w1.frozen? ⟨W.heap.size + 1, o, none⟩ = false := HF1.out.res.2.2.2.2
  by_cases hc0 : c = 0
  case neg =>
    have hcb : (c == 0) = false := by simp [hc0]
    have HC0 := Lib.hid hc0
    go_wp2
    have r1 := store4_block HF1.out.rs (.int .i64 r.N) (.int .i64 r.next) (.slice aa r.es.length ca) (.slice aq r.sn.length cq)
    have hBz := store4_below HF1.out.bl (Nat.le_succ _) (.int .i64 r.N) (.int .i64 r.next) (.slice aa r.es.length ca) (.slice aq r.sn.length cq)
    have hnz : (nw W w1).le (nw W (store4 w1 (W.heap.size + 1) (.int .i64 r.N) (.int .i64 r.next) (.slice aa r.es.length ca) (.slice aq r.sn.length cq))) := nw_store4 (.int .i64 r.N) (.int .i64 r.next) (.slice aa r.es.length ca) (.slice aq r.sn.length cq)
    show bodyPost _ _ _ _ _ (store4 w1 (W.heap.size + 1) (.int .i64 r.N) (.int .i64 r.next) (.slice aa r.es.length ca) (.slice aq r.sn.length cq))
    generalize store4 w1 (W.heap.size + 1) (.int .i64 r.N) (.int .i64 r.next) (.slice aa r.es.length ca) (.slice aq r.sn.length cq) = wz at r1 hBz hnz ⊢
    have g0 : wz.cell? ⟨W.heap.size + 1, 0, none⟩ = some (.int .i64 r.N) := mem_cells r1 0
    have g1 : wz.cell? ⟨W.heap.size + 1, 1, none⟩ = some (.int .i64 r.next) := mem_cells r1 1
    have g2 : wz.cell? ⟨W.heap.size + 1, 2, none⟩ = some (.slice aa r.es.length ca) := mem_cells r1 2
    have g3 : wz.cell? ⟨W.heap.size + 1, 3, none⟩ = some (.slice aq r.sn.length cq) := mem_cells r1 3
    exact bodyPost_ret (v := .tuple #[.agg #[.int .i64 r.N, .int .i64 r.next, .slice aa r.es.length ca, .slice aq r.sn.length cq], .int .i64 0, .int .i64 c]) (by simp [results, Tryz.results43, go_sem, g0, g1, g2, g3]) rfl ⟨r.es, 0, c, HG1.out HC0.out, hBz, _, rfl, HRS.out.mono (joinM_le HM.out)⟩
  subst hc0
  have HG := Lib.hid (HG2.out rfl)
  clear HG1 HG2
  have HPP := Lib.hid (fun (z : Ent) => (show (!isOf g nm z) = !((z.g == g) && (z.nm.toList == nm.toList)) from rfl))
  generalize hP : (fun (x : Ent) => !isOf g nm x) = P at *
  have HPQ := Lib.hid (fun z => (congrFun hP z).symm.trans (HPP.out z))
  clear HPP hP
  have HC := Lib.hid (fun (w' : World) (hb : Below w1.heap.size w1 w') => (show w'.cell? ⟨W.heap.size, 2, none⟩ = some (.slice aa r.es.length ca) from (HF1.out.pure hb).cells.2.2.1))
  have HRA1 := Lib.hid (HA.out _ HF1.out.bl)
  go_wp2_with fail
  clear c0 c1 c2 c3 cz d0 d1 d2 d3 dz
  go_loopw [10, 11] (fun ov i wr => ∃ k : Nat, k ≤ r.es.length ∧ i = .int .i64 k ∧ Hid (Owns tEnt wr w1.heap.size 34 ov ((r.es.take k).filter P)) ∧ Hid (Below w1.heap.size w1 wr)) (fun _ i _ => r.es.length - (intOf i).toNat)
  case atStart => exact ⟨0, by omega, rfl, Lib.hid (Owns.nil _ _ _ _), Lib.hid (Below.refl _ _)⟩
  case round =>
    obtain ⟨k, hk, rfl, HO, HBR⟩ := hrel
    have c2 := HC.out _ HBR.out
    by_cases hlt : k < r.es.length
    · have HSZ := Lib.hid HBR.out.size
      obtain ⟨b, o, rfl, hat, hok⟩ := ents_at (tEnts.mono _ _ _ _ (below_mem HBR.out) HRA1.out) hlt
      have d0 : wr.cell? ⟨b, o + k * 4, none⟩ = some (.int .i64 r.es[k].g) := hat 0 _ rfl
      have d1 : wr.cell? ⟨b, o + k * 4 + 1, none⟩ = some (.string r.es[k].nm) := hat 1 _ rfl
      have d2 : wr.cell? ⟨b, o + k * 4 + 2, none⟩ = some (.string r.es[k].key) := hat 2 _ rfl
      have d3 : wr.cell? ⟨b, o + k * 4 + 3, none⟩ = some (.string r.es[k].val) := hat 3 _ rfl
      have HYO := Lib.hid hok
      have HLL := Lib.hid (show ((r.es.take k).filter P).length ≤ 4000 from Nat.le_trans (List.length_filter_le _ _) (by rw [List.length_take]; omega))
      have HYES := Lib.hid (fun (e : P r.es[k] = true) => filter_yes (P := P) hlt e)
      have HNO := Lib.hid (fun (e : P r.es[k] = false) => filter_no (P := P) hlt e)
      clear hat hok
      generalize (r.es.take k).filter P = l at *
      generalize r.es[k] = y at *
      obtain ⟨yg, y1, y2, y3⟩ := y
      simp only at d0 d1 d2 d3
      have HPY := Lib.hid (HPQ.out ⟨yg, y1, y2, y3⟩)
      simp only at HPY
      obtain ⟨al, cl, hvl, _⟩ := HO.out.len
      subst hvl
      have HNR := Lib.hid (fun (e : P ⟨yg, y1, y2, y3⟩ = false) => (show Owns tEnt wr w1.heap.size 34 (.slice al l.length cl) ((r.es.take (k + 1)).filter P) by rw [HNO.out e]; exact HO.out))
      by_cases h1 : yg = g
      case neg =>
        have h1b : (yg == g) = false := by simp [h1]
        have HNX := Lib.hid (HYES.out (by rw [HPY.out]; simp [h1]))
        clear HYES HNO HPY HNR
        go_wp2_with (at_builtin; refine wpList_append_one rfl _ _ 22 rfl tEnt Tryz.underlying22 infoEnt rfl (by decide) w1.heap.size _ l rfl (HO.out.alloc _) _ _ ⟨yg, y1, y2, y3⟩ rfl [.int .i64 yg, .string y1, .string y2, .string y3] ?a2 ⟨rfl, HYO.out⟩ ?b2 ?c2 ?d2 ?e2 ?_)
        case a2 => exact fun j u hj => by match j, hj with | 0, hj => simp at hj; subst hj; simp [mem] | 1, hj => simp at hj; subst hj; simp [mem] | 2, hj => simp at hj; subst hj; simp [mem] | 3, hj => simp at hj; subst hj; simp [mem]
        case b2 => intro x hx; simp at hx; rcases hx with rfl | rfl | rfl | rfl <;> rfl
        case c2 => have := HLL.out; unfold maxLen; omega
        case d2 => have := HLL.out; omega
        case e2 => have := HSZ.out; simp; omega
        · intro v' w6 own6 hgrow _
          have HB6 := Lib.hid (show Below w1.heap.size w1 w6 from (HBR.out.alloc HBR.out.size _).grown hgrow (by have := HSZ.out; simp; omega) (fun k hk => ((HO.out).lt k hk).1))
          obtain ⟨a6, cap6, rfl, _⟩ := own6.len
          have HO6 := Lib.hid (show Owns tEnt w6 w1.heap.size 34 (.slice a6 (l ++ [(⟨yg, y1, y2, y3⟩ : Ent)]).length cap6) ((r.es.take (k + 1)).filter P) by
            rw [← HNX.out]
            exact own6)
          clear own6 hgrow HO
          go_wp2
          go_roundw
          case rel => exact ⟨k + 1, by omega, by go_num, HO6, HB6⟩
          case measure => simp [intOf]; omega
      subst h1
      have h1b : (yg == yg) = true := by simp
      cases h2 : (y1.toList == nm.toList)
      case false =>
        have HNX := Lib.hid (HYES.out (by rw [HPY.out]; simp [h2]))
        clear HYES HNO HPY HNR
        go_wp2_with (at_builtin; refine wpList_append_one rfl _ _ 22 rfl tEnt Tryz.underlying22 infoEnt rfl (by decide) w1.heap.size _ l rfl (HO.out.alloc _) _ _ ⟨yg, y1, y2, y3⟩ rfl [.int .i64 yg, .string y1, .string y2, .string y3] ?a2 ⟨rfl, HYO.out⟩ ?b2 ?c2 ?d2 ?e2 ?_)
        case a2 => exact fun j u hj => by match j, hj with | 0, hj => simp at hj; subst hj; simp [mem] | 1, hj => simp at hj; subst hj; simp [mem] | 2, hj => simp at hj; subst hj; simp [mem] | 3, hj => simp at hj; subst hj; simp [mem]
        case b2 => intro x hx; simp at hx; rcases hx with rfl | rfl | rfl | rfl <;> rfl
        case c2 => have := HLL.out; unfold maxLen; omega
        case d2 => have := HLL.out; omega
        case e2 => have := HSZ.out; simp; omega
        · intro v' w6 own6 hgrow _
          have HB6 := Lib.hid (show Below w1.heap.size w1 w6 from (HBR.out.alloc HBR.out.size _).grown hgrow (by have := HSZ.out; simp; omega) (fun k hk => ((HO.out).lt k hk).1))
          obtain ⟨a6, cap6, rfl, _⟩ := own6.len
          have HO6 := Lib.hid (show Owns tEnt w6 w1.heap.size 34 (.slice a6 (l ++ [(⟨yg, y1, y2, y3⟩ : Ent)]).length cap6) ((r.es.take (k + 1)).filter P) by
            rw [← HNX.out]
            exact own6)
          clear own6 hgrow HO
          go_wp2
          go_roundw
          case rel => exact ⟨k + 1, by omega, by go_num, HO6, HB6⟩
          case measure => simp [intOf]; omega
      have HNX := Lib.hid (HNR.out (by rw [HPY.out]; simp [h2]))
      clear HYES HNO HPY HNR
      go_wp2
      go_roundw
      case rel => exact ⟨k + 1, by omega, by go_num, HNX, HBR⟩
      case measure => simp [intOf]; omega
    · obtain rfl : k = r.es.length := by omega
      rw [List.take_length] at HO
      have HLF := Lib.hid (show (r.es.filter P).length ≤ 4000 from Nat.le_trans (List.length_filter_le _ _) hl)
      have HF := HO
      generalize r.es.filter P = L at *
      obtain ⟨al, cl, rfl, _⟩ := HF.out.len
      have hw := IntWalk.i64_in ((r.es.length : Int) - L.length) (by have := HLF.out; omega)
      have HR := Lib.hid (show tEnts.rv ((mem wr).on (w1.heap.size ≤ ·)) _ L from HF.out.rv (fun _ h => h) (fun _ _ _ h => h))
      have HFR := Lib.hid (HF1.out.pure HBR.out)
      have HSZ1 := Lib.hid HF1.out.sz
      clear HO HF HF1 c2
      have c0 : wr.cell? ⟨W.heap.size, 0, none⟩ = some (.int .i64 r.N) := HFR.out.cells.1
      have c1 : wr.cell? ⟨W.heap.size, 1, none⟩ = some (.int .i64 r.next) := HFR.out.cells.2.1
      have c2 : wr.cell? ⟨W.heap.size, 2, none⟩ = some (.slice aa r.es.length ca) := HFR.out.cells.2.2.1
      have c3 : wr.cell? ⟨W.heap.size, 3, none⟩ = some (.slice aq r.sn.length cq) := HFR.out.cells.2.2.2
      have cz : ∀ o, wr.frozen? ⟨W.heap.size, o, none⟩ = false := HFR.out.thaw
      have d0 : wr.cell? ⟨W.heap.size + 1, 0, none⟩ = some (.int .i64 0) := HFR.out.res.1
      have d1 : wr.cell? ⟨W.heap.size + 1, 1, none⟩ = some (.int .i64 0) := HFR.out.res.2.1
      have d2 : wr.cell? ⟨W.heap.size + 1, 2, none⟩ = some (.slice none 0 0) := HFR.out.res.2.2.1
      have d3 : wr.cell? ⟨W.heap.size + 1, 3, none⟩ = some (.slice none 0 0) := HFR.out.res.2.2.2.1
      have dz : ∀ o, wr.frozen? ⟨W.heap.size + 1, o, none⟩ = false := HFR.out.res.2.2.2.2
      go_wp2
      have HFS := Lib.hid (HFR.out.set2 (.slice al L.length cl))
      have r1 := store4_block HFS.out.rs (.int .i64 r.N) (.int .i64 r.next) (.slice al L.length cl) (.slice aq r.sn.length cq)
      have hBz := store4_below HFS.out.bl (Nat.le_succ _) (.int .i64 r.N) (.int .i64 r.next) (.slice al L.length cl) (.slice aq r.sn.length cq)
      have hnz : (nw W (wr.setCell ⟨W.heap.size, 2, none⟩ (.slice al L.length cl))).le (nw W (store4 (wr.setCell ⟨W.heap.size, 2, none⟩ (.slice al L.length cl)) (W.heap.size + 1) (.int .i64 r.N) (.int .i64 r.next) (.slice al L.length cl) (.slice aq r.sn.length cq))) := nw_store4 (.int .i64 r.N) (.int .i64 r.next) (.slice al L.length cl) (.slice aq r.sn.length cq)
      show bodyPost _ _ _ _ _ (store4 (wr.setCell ⟨W.heap.size, 2, none⟩ (.slice al L.length cl)) (W.heap.size + 1) (.int .i64 r.N) (.int .i64 r.next) (.slice al L.length cl) (.slice aq r.sn.length cq))
      generalize store4 (wr.setCell ⟨W.heap.size, 2, none⟩ (.slice al L.length cl)) (W.heap.size + 1) (.int .i64 r.N) (.int .i64 r.next) (.slice al L.length cl) (.slice aq r.sn.length cq) = wz at r1 hBz hnz ⊢
      have g0 : wz.cell? ⟨W.heap.size + 1, 0, none⟩ = some (.int .i64 r.N) := mem_cells r1 0
      have g1 : wz.cell? ⟨W.heap.size + 1, 1, none⟩ = some (.int .i64 r.next) := mem_cells r1 1
      have g2 : wz.cell? ⟨W.heap.size + 1, 2, none⟩ = some (.slice al L.length cl) := mem_cells r1 2
      have g3 : wz.cell? ⟨W.heap.size + 1, 3, none⟩ = some (.slice aq r.sn.length cq) := mem_cells r1 3
      exact bodyPost_ret (v := .tuple #[.agg #[.int .i64 r.N, .int .i64 r.next, .slice al L.length cl, .slice aq r.sn.length cq], .int .i64 ((r.es.length : Int) - L.length), .int .i64 0]) (by simp [results, Tryz.results43, go_sem, g0, g1, g2, g3]) rfl ⟨_, _, _, HG.out, hBz, _, rfl, ⟨HRS.out.hN, HRS.out.hx, tEnts.mono _ _ _ _ (Mem.le_trans (Mem.le_trans (Mem.le_trans (nw_new HSZ1.out) (nw_set (by omega))) hnz) nw_join) HR.out, (tSlice tSn).mono _ _ _ _ (joinM_le HM.out) HRS.out.hq⟩⟩
end Go.Proofs.YtbmpoecmjmmngaaGreat
/- package heap: Clear, together with the reference's entries. -/
namespace Go.Proofs.YtbmpoecmjmmngaaGreat
open Go.RowKit Go.Maps

theorem toList_inj {a b : ByteArray} (h : a.toList = b.toList) : a = b := bl_inj (by unfold bl; rw [← ByteArray.toList_eq, ← ByteArray.toList_eq]; exact h)
theorem delPS_last (h : HS) (g : Int) (nm key : ByteArray) : (delPS h g nm key).last = h.last := by unfold delPS; split <;> rfl
theorem delPS_sn (h : HS) (g : Int) (nm key : ByteArray) : (delPS h g nm key).sn = h.view.sn := by unfold delPS; split <;> rfl
/-- Behind k deletes of Clear. -/
structure ClrSt (w : World) (base p : Nat) (r : HS) (rs : RS) (u : Value) (es : List Ent) (k : Nat) (W : World) (r' : HS) : Prop where
  st : HStep w base p r W r'
  rel : Rel r'.view { rs with es := (es.take k).foldl delL rs.es }
  nn : r'.nn = r.nn
  len : r'.cur.length = r.cur.length
  kp : r'.last = r.last ∧ r'.view.sn = r.view.sn
  rv : tEnts.rv (safe W p r') [u] es
theorem safe_of_new {w W : World} {base p : Nat} {r : HS} (h : HeapInv w base p r) {α : Type} {t : Ty α} {v : List Value} {x : α} (hv : t.rv ((mem W).on (w.heap.size ≤ ·)) v x) : t.rv (safe W p r) v x :=
  t.mono _ _ _ _ (fun b o u e => by
    obtain ⟨hs, e⟩ := Mem.of_on e
    exact Mem.on_some e (fun hm => by have := h.cells_kind b hm; omega)) hv
theorem HStep.safe {w W : World} {base p : Nat} {r r' : HS} (h : HStep w base p r W r') : (Go.Proofs.YtbmpoecmjmmngaaGreat.safe w p r).le (Go.Proofs.YtbmpoecmjmmngaaGreat.safe W p r') := safe_le h.kp h.mb
set_option maxRecDepth 100000 in
set_option maxHeartbeats 8000000 in
theorem clear_any {base p : Nat} {r : HS} (rs : RS) (g : Int) (nm : ByteArray) (w : World) (hI : HeapInv w base p r) (hR : Rel r.view rs) (hg : inI64 g) (hn : nm.size ≤ maxLen) (hcl : r.cur.length ≤ 1000) (hnn : r.nn ≤ 100000) :
    Calls Tryz.prog 42 #[.pointer (some ⟨p, 0, none⟩), .int .i64 g, .string nm] w fun e w' => ∃ k c r', e = .returned (.tuple #[.int .i64 k, .int .i64 c]) ∧ HStep w base p r w' r' ∧ r'.nn = r.nn ∧ r'.cur.length = r.cur.length ∧ (r'.last = r.last ∧ r'.view.sn = r.view.sn) ∧ ∃ es, ClearSays rs.N rs.es g nm es k c ∧ Rel r'.view { rs with es := es } := by
  have hN : r.cur.length = rs.N := by rw [← hR.hN, view_len rfl]
  have HS := Lib.hid (scan_any g nm .empty .empty w hI hg hn (by unfold maxLen; decide) (by unfold maxLen; decide) hcl hnn)
  have HI := Lib.hid hI
  have HR := Lib.hid hR
  have HNN := Lib.hid hN
  clear hI hR hN
  go_enter Tryz.func42, Tryz.ntmps42
  go_wp2_with fail
  refine HS.out.mono ?_
  rintro e w1 ⟨u, es, c, rfl, hown, hb1, hsc⟩
  have HRV := Lib.hid (show tEnts.rv (safe w1 p r) [u] es from safe_of_new HI.out (hown.rv (fun _ h => h) (fun _ _ _ h => h)))
  have HST := Lib.hid (HStep.pure HI.out hb1)
  obtain ⟨au, cu, rfl, hml⟩ := hown.len
  have hcu : es.length ≤ 9223372036854775807 := by unfold maxLen at hml; exact hml
  have HSC := Lib.hid hsc
  clear hown hb1 HS hsc hml
  have HES := Lib.hid (show c = 0 → chk rs.N g nm [.empty, .empty] = 0 ∧ es = rs.es.filter (isOf g nm) from fun hc => by
    rcases HSC.out with ⟨h1, _, h3⟩ | ⟨h1, ⟨ss, hk, rfl⟩, _⟩
    · exact absurd (h3.symm.trans hc) h1
    · rw [HNN.out] at h1
      refine ⟨h1, ?_⟩
      obtain ⟨-, -, hg0, hgN⟩ := chk_ok h1
      obtain ⟨i, rfl⟩ := Int.eq_ofNat_of_zero_le hg0
      have := HR.out.es.scan (grps_at r (i := i) (by have := HNN.out; omega)) hk (inScan nm .empty .empty)
      rw [this]
      exact scan_isOf rs.es i nm)
  have HE0 := Lib.hid (show c ≠ 0 → es = [] ∧ ClearSays rs.N rs.es g nm rs.es 0 c from fun hc => by
    rcases HSC.out with ⟨h1, h2, h3⟩ | ⟨h1, _, h3⟩
    · rw [HNN.out] at h1 h3
      exact ⟨h2, .inl ⟨h1, rfl, rfl, h3⟩⟩
    · exact absurd h3 hc)
  have HBG := Lib.hid (show ∀ x ∈ es, c = 0 ∧ x.g = g ∧ x.nm = nm ∧ big x.key = false ∧ x.okE from fun x hx => by
    have hc : c = 0 := Classical.byContradiction fun hc => by rw [(HE0.out hc).1] at hx; cases hx
    have he := (HES.out hc).2
    rw [he] at hx
    obtain ⟨h1, h2⟩ := List.mem_filter.1 hx
    unfold isOf at h2
    rw [Bool.and_eq_true, beq_iff_eq, beq_iff_eq] at h2
    obtain ⟨k, hk, e⟩ := List.getElem_of_mem (he ▸ hx)
    obtain ⟨_, _, _, _, hok⟩ := ents_at HRV.out hk
    exact ⟨hc, h2.1, toList_inj h2.2, HR.out.ok x h1, e ▸ hok⟩)
  go_wp2_with fail
  go_loopw [21] (fun iv wr => ∃ (k : Nat) (r' : HS), k ≤ es.length ∧ iv = .int .i64 k ∧ Hid (ClrSt w base p r rs (.slice au es.length cu) es k wr r')) (fun iv _ => es.length - (intOf iv).toNat)
  case atStart => exact ⟨0, r, Nat.zero_le _, rfl, Lib.hid ⟨HST.out, HR.out, rfl, rfl, ⟨rfl, rfl⟩, HRV.out⟩⟩
  case round =>
    obtain ⟨k, r', hk, rfl, HC⟩ := hrel
    by_cases hlt : k < es.length
    · obtain ⟨b, o, rfl, hat, hok⟩ := ents_at (tEnts.mono _ _ _ _ (Mem.on_le _ _) HC.out.rv) hlt
      have d0 : wr.cell? ⟨b, o + k * 4, none⟩ = some (.int .i64 es[k].g) := hat 0 _ rfl
      have d1 : wr.cell? ⟨b, o + k * 4 + 1, none⟩ = some (.string es[k].nm) := hat 1 _ rfl
      have d2 : wr.cell? ⟨b, o + k * 4 + 2, none⟩ = some (.string es[k].key) := hat 2 _ rfl
      have d3 : wr.cell? ⟨b, o + k * 4 + 3, none⟩ = some (.string es[k].val) := hat 3 _ rfl
      have HB := Lib.hid (HBG.out es[k] (List.getElem_mem hlt))
      have HTK := Lib.hid (show (es.take (k + 1)).foldl delL rs.es = delL ((es.take k).foldl delL rs.es) es[k] by rw [List.take_succ_eq_append_getElem hlt, List.foldl_append]; rfl)
      clear hat hok
      generalize es[k] = y at *
      obtain ⟨yg, y1, y2, y3⟩ := y
      obtain ⟨rfl, hyg, hyn, hbg, hok⟩ := HB.out
      simp only at hyg hyn hbg
      subst hyg hyn
      have hsz := hok.2.2.1
      simp only at d0 d1 d2 d3 hsz
      have HOX := Lib.hid (fun o => HStep.pure HC.out.st.inv ((Below.refl wr.heap.size wr).alloc (Nat.le_refl _) o))
      have hcnt : r'.cnt = ((es.take k).foldl delL rs.es).length := HC.out.rel.cnt
      have hc4 : ((es.take k).foldl delL rs.es).length ≤ 4000 := HC.out.rel.le
      have HDL := Lib.hid (fun o => delete_any yg y1 y2 (wr.alloc o) (HOX.out o).inv hg hn hsz (by omega) (by omega))
      have HN2 := Lib.hid (show r'.cur.length = rs.N by have := HC.out.len; have := HNN.out; omega)
      have HRD := Lib.hid (HC.out.rel.del (g := yg) (nm := y1) (key := y2) (F := grpF r' yg) (fun h0 h1 => by
        obtain ⟨i, rfl⟩ := Int.eq_ofNat_of_zero_le h0
        have h1 : (i : Int) < rs.N := h1
        exact grps_at r' (i := i) (by have := HN2.out; omega)))
      have HCK := Lib.hid (show chk rs.N yg y1 [y2] = 0 from by
        obtain ⟨h1, h2, h3⟩ := chk_ok (HES.out rfl).1
        unfold chk
        rw [if_pos ⟨h1, by simp [hbg]⟩, if_pos h3])
      have HDF := Lib.hid (show (delR rs.N ((es.take k).foldl delL rs.es) yg y1 y2).1 = (es.take (k + 1)).foldl delL rs.es from by rw [HTK.out, delR_fst HC.out.rel.es.asc HCK.out]; rfl)
      clear hcnt hc4 hok hbg HB
      go_wp2_with fail
      refine (HDL.out _).mono ?_
      rintro e w2 ⟨rfl, r2, hst, hvw, hlen, hnn2⟩
      have HC2 := Lib.hid (show ClrSt w base p r rs (.slice (some ⟨b, o, none⟩) es.length cu) es (k + 1) w2 r2 from by
        have hs1 := HC.out.st.trans ((HOX.out _).trans hst)
        refine ⟨hs1, ?_, hnn2.trans HC.out.nn, hlen.trans HC.out.len, ⟨(congrArg PS.last hvw).trans ((delPS_last _ _ _ _).trans HC.out.kp.1), (congrArg PS.sn hvw).trans ((delPS_sn _ _ _ _).trans HC.out.kp.2)⟩, tEnts.mono _ _ _ _ (((HOX.out _).trans hst).safe) HC.out.rv⟩
        rw [hvw]
        have := HRD.out.2
        simp only [HDF.out] at this
        unfold delPS
        rw [HN2.out]
        exact this)
      clear hst hvw hlen hnn2
      go_wp2
      go_roundw
      case rel => exact ⟨k + 1, r2, by omega, by go_num, HC2⟩
      case measure => simp [intOf]; omega
    · obtain rfl : k = es.length := by omega
      have HF := Lib.hid (show ∃ L, ClearSays rs.N rs.es g nm L es.length c ∧ Rel r'.view { rs with es := L } from by
        have hr := HC.out.rel
        rw [List.take_length] at hr
        by_cases hc : c = 0
        · subst hc
          obtain ⟨h1, h2⟩ := HES.out rfl
          refine ⟨_, .inr ⟨h1, rfl, by rw [h2], rfl⟩, ?_⟩
          rw [← clear_one HR.out.es.asc, ← h2]
          exact hr
        · obtain ⟨h1, h2⟩ := HE0.out hc
          rw [h1] at hr ⊢
          exact ⟨_, h2, hr⟩)
      go_wp2
      go_ret2
      obtain ⟨L, h1, h2⟩ := HF.out
      exact ⟨_, c, r', rfl, HC.out.st, HC.out.nn, HC.out.len, HC.out.kp, L, h1, h2⟩
end Go.Proofs.YtbmpoecmjmmngaaGreat
/- Chapter 13's example. -/
namespace Go.Proofs.YtbmpoecmjmmngaaGreat
open Go.RowKit Go.Maps

abbrev nS : ByteArray := ⟨#[110]⟩
abbrev aS : ByteArray := ⟨#[97]⟩
abbrev bS : ByteArray := ⟨#[98]⟩
abbrev oneS : ByteArray := ⟨#[49]⟩
abbrev twoS : ByteArray := ⟨#[50]⟩
abbrev thrS : ByteArray := ⟨#[51]⟩
theorem lenOf {r : HS} {gs : List FMap} (h : r.view.grps = gs) : r.cur.length = gs.length := by
  rw [← h]; show r.cur.length = (r.cur.map _).length; simp
theorem grpF_of {r : HS} {gs : List FMap} (h : r.view.grps = gs) {i : Nat} {f : FMap} (hf : gs[i]? = some f) : grpF r i = f := by
  have hi : i < r.cur.length := by rw [lenOf h]; exact (List.getElem?_eq_some_iff.1 hf).1
  have := grps_at r hi
  rw [h, hf] at this
  injection this with this
  exact this.symm
theorem put0_any {base p : Nat} {r : HS} (key val : ByteArray) (w : World) (hI : HeapInv w base p r) (hl : r.cur.length = 8) (hch : chk 8 0 nS [key, val] = 0) (hnn : r.nn ≤ 1000) (hc0 : 0 ≤ r.cnt) (hc1 : r.cnt ≤ 1000) :
    Calls Tryz.prog 13 #[.pointer (some ⟨p, 0, none⟩), .int .i64 0, .string nS, .string key, .string val] w fun e w' =>
      e = .returned (.int .i64 0) ∧ ∃ r', PutStep w base p r { r.view with grps := r.view.grps.set 0 (putAt (grpF r 0) (nS, key) val), cnt := if grpF r 0 (nS, key) = none then r.cnt + 1 else r.cnt } w' r' := by
  have hsz := (chk_size hch).2
  have h1 := hsz key (by simp)
  have h2 := hsz val (by simp)
  have ha : putAns 8 (grpF r 0) r.cnt 0 nS key val = 0 := by
    unfold putAns
    rw [hch, if_neg (by decide), if_neg (by omega)]
  have h := put_any (r := r) 0 nS key val w hI (by unfold inI64; decide) (by unfold maxLen; decide) (by unfold maxLen; omega) (by unfold maxLen; omega) (by omega) hc0 (by omega)
  rw [hl, ha] at h
  have hp : r.view.put 8 (grpF r 0) 0 nS key val = { r.view with grps := r.view.grps.set 0 (putAt (grpF r 0) (nS, key) val), cnt := if grpF r 0 (nS, key) = none then r.cnt + 1 else r.cnt } := by
    unfold PS.put
    rw [show r.view.cnt = r.cnt from rfl, ha, if_pos rfl]
    rfl
  rw [hp] at h
  exact h
abbrev nullF : FMap := fun _ => none
noncomputable abbrev F1 : FMap := putAt nullF (nS, aS) oneS
noncomputable abbrev gs1 : List FMap := [F1, nullF, nullF, nullF, nullF, nullF, nullF, nullF]
theorem keys_null {ss : List Spot} (h : Keysof nullF ss) : ss = [] := by
  cases ss with
  | nil => rfl
  | cons x l => have := (h.mem x).1 List.mem_cons_self; cases this
theorem F1_same : F1 (nS, aS) = some oneS := putAt_same _ _ _
theorem F1_other {k : Spot} (e : k ≠ (nS, aS)) : F1 k = none := putAt_other _ _ e
theorem keys_F1 {ss : List Spot} (h : Keysof F1 ss) : ss = [(nS, aS)] := by
  refine Keysof.unique h ⟨by simp, fun k => ?_⟩
  by_cases e : k = (nS, aS)
  · subst e; rw [F1_same]; simp
  · rw [F1_other e]; simp [e]
theorem ents_gs1 {es : List Ent} (h : AllOf 0 gs1 es) : es = [⟨0, nS, aS, oneS⟩] := by
  obtain ⟨s0, e0, k0, ⟨s1, e1, k1, ⟨s2, e2, k2, ⟨s3, e3, k3, ⟨s4, e4, k4, ⟨s5, e5, k5, ⟨s6, e6, k6, ⟨s7, e7, k7, h8, g7⟩, g6⟩, g5⟩, g4⟩, g3⟩, g2⟩, g1⟩, g0⟩ := h
  obtain rfl := keys_F1 k0
  obtain rfl := keys_null k1
  obtain rfl := keys_null k2
  obtain rfl := keys_null k3
  obtain rfl := keys_null k4
  obtain rfl := keys_null k5
  obtain rfl := keys_null k6
  obtain rfl := keys_null k7
  obtain rfl : e7 = [] := h8
  subst g7; subst g6; subst g5; subst g4; subst g3; subst g2; subst g1; subst g0
  simp [entsOf, putAt_same, strOr]
set_option maxRecDepth 100000 in
set_option maxHeartbeats 8000000 in
theorem awake_any (w : World) :
    Calls Tryz.prog 6 #[] w fun e w' => e = .returned (.bool true) ∧ Below w.heap.size w w' := by
  have hch1 : chk 8 0 nS [aS, oneS] = 0 := by kernel_rfl
  have hch2 : chk 8 0 nS [aS, twoS] = 0 := by kernel_rfl
  have hch3 : chk 8 0 nS [bS, thrS] = 0 := by kernel_rfl
  have HC1 := Lib.hid hch1
  have HC2 := Lib.hid hch2
  have HC3 := Lib.hid hch3
  clear hch1 hch2 hch3
  have HN := Lib.hid (new_any 8 w (by decide) (by decide))
  go_enter Tryz.func6, Tryz.ntmps6
  go_wp2_with fail
  refine HN.out.mono ?_
  rintro e w1 ⟨rfl, r1, hi1, hv1, hn1, hb1⟩
  have HI1 := Lib.hid hi1
  have HV1 := Lib.hid hv1
  have HB1 := Lib.hid hb1
  have hc1 : r1.cnt = 0 := congrArg PS.cnt hv1
  have HP1 := Lib.hid (put0_any aS oneS w1 hi1 (lenOf (congrArg PS.grps hv1)) HC1.out (by omega) (by omega) (by omega))
  have hg1 : grpF r1 0 = nullF := grpF_of (congrArg PS.grps hv1) (i := 0) rfl
  have HG1 := Lib.hid hg1
  have HN1 := Lib.hid hn1
  have HCN1 := Lib.hid hc1
  clear hi1 hv1 hn1 hb1 hc1 hg1 HN
  go_wp2_with fail
  refine HP1.out.mono ?_
  rintro e w2 ⟨rfl, r2, hp2⟩
  have hv2 : r2.view = ⟨gs1, 1, 0, fun _ => none⟩ := by
    rw [hp2.vw, HG1.out, HV1.out, HCN1.out]
    rfl
  have HV2 := Lib.hid hv2
  have HS2 := Lib.hid hp2.st
  have hn2 : r2.nn ≤ 1 := by have := hp2.nn; rw [HN1.out] at this; exact this
  have HN2 := Lib.hid hn2
  have HSN2 := Lib.hid (snapshot_any [] w2 hp2.st.inv ⟨List.nodup_nil, fun k => by
    have h : (r2.snaps k).map (fun x => x.2.map fun a => (r2.g a).f) = none := congrFun (congrArg PS.sn hv2) k
    cases hs : r2.snaps k with
    | none => simp
    | some x => rw [hs] at h; cases h⟩ (by simp) (by rw [show r2.last = 0 from congrArg PS.last hv2]; decide) (by rw [show r2.last = 0 from congrArg PS.last hv2]; decide) (by omega) (by rw [lenOf (congrArg PS.grps hv2)]; decide))
  rw [show r2.last = 0 from congrArg PS.last hv2] at HSN2
  clear hp2 hv2 hn2 HP1 HG1 HV1 HN1 HCN1
  go_wp2_with fail
  refine HSN2.out.mono ?_
  rintro e w3 ⟨rfl, r3, hs3, hv3, hn3, hcur3, x3, hx3⟩
  have hv3' : r3.view = ⟨gs1, 1, 1, putAt (fun _ => none) 1 gs1⟩ := by rw [hv3, HV2.out]; rfl
  have HV3 := Lib.hid hv3'
  have HS3 := Lib.hid (HS2.out.trans hs3)
  have hn3' : r3.nn ≤ 2 := by have := HN2.out; omega
  have HN3 := Lib.hid hn3'
  have hg3 : grpF r3 0 = F1 := grpF_of (congrArg PS.grps hv3') (i := 0) rfl
  have HG3 := Lib.hid hg3
  have HCN3 := Lib.hid (show r3.cnt = 1 from congrArg PS.cnt hv3')
  have HP3 := Lib.hid (put0_any aS twoS w3 hs3.inv (lenOf (congrArg PS.grps hv3')) HC2.out (by omega) (by rw [HCN3.out]; decide) (by rw [HCN3.out]; decide))
  clear hs3 hv3 hn3 hcur3 hx3 hv3' hn3' hg3 HSN2 HS2 HV2 HN2
  go_wp2_with fail
  refine HP3.out.mono ?_
  rintro e w4 ⟨rfl, r4, hp4⟩
  have hv4 : r4.view = ⟨[putAt F1 (nS, aS) twoS, nullF, nullF, nullF, nullF, nullF, nullF, nullF], 1, 1, putAt (fun _ => none) 1 gs1⟩ := by
    rw [hp4.vw, HG3.out, HV3.out, HCN3.out, F1_same, if_neg (by simp)]
    rfl
  have HV4 := Lib.hid hv4
  have HS4 := Lib.hid (HS3.out.trans hp4.st)
  have hn4 : r4.nn ≤ 3 := by have := HN3.out; have := hp4.nn; omega
  have HN4 := Lib.hid hn4
  have HCN4 := Lib.hid (show r4.cnt = 1 from congrArg PS.cnt hv4)
  have hg4 : grpF r4 0 = putAt F1 (nS, aS) twoS := grpF_of (congrArg PS.grps hv4) (i := 0) rfl
  have HG4 := Lib.hid hg4
  have HP4 := Lib.hid (put0_any bS thrS w4 hp4.st.inv (lenOf (congrArg PS.grps hv4)) HC3.out (by omega) (by rw [HCN4.out]; decide) (by rw [HCN4.out]; decide))
  clear hp4 hv4 hn4 hg4 HP3 HG3 HCN3 HS3 HV3 HN3
  go_wp2_with fail
  refine HP4.out.mono ?_
  rintro e w5 ⟨rfl, r5, hp5⟩
  have hv5s : r5.view.sn = putAt (fun _ => none) 1 gs1 := by rw [hp5.vw]; show r4.view.sn = _; rw [HV4.out]
  have hl5 : r5.cur.length = 8 := by rw [hp5.len, lenOf (congrArg PS.grps HV4.out)]; rfl
  have HS5 := Lib.hid (HS4.out.trans hp5.st)
  have hn5 : r5.nn ≤ 4 := by have := HN4.out; have := hp5.nn; omega
  have HN5 := Lib.hid hn5
  have HSN5 := Lib.hid (show r5.view.sn 1 = some gs1 by rw [hv5s, putAt_same])
  have HL5 := Lib.hid hl5
  have HE5 := Lib.hid (stEntries_any 1 w5 hp5.st.inv (by unfold inI64; decide) (by omega) (by omega))
  clear hp5 hv5s hl5 hn5 HP4 HG4 HCN4 HS4 HV4 HN4
  go_wp2_with fail
  refine HE5.out.mono ?_
  rintro e w6 ⟨u, es, c, rfl, hse, ho, hb6, hic, _⟩
  obtain ⟨hao, rfl⟩ : AllOf 0 gs1 es ∧ c = 0 := by
    have := hse
    unfold SnapEnts at this
    rw [HSN5.out] at this
    exact this
  obtain rfl := ents_gs1 hao
  have HI6 := Lib.hid (HS5.out.trans (HStep.pure HS5.out.inv hb6))
  have hrv := ho.rv'
  obtain ⟨au, cu, rfl, hlu, hmu, _⟩ := slice_form hrv
  obtain ⟨b, o, rfl, cs, hat, hcs⟩ := slice_at hrv (k := 0) (by simp)
  obtain rfl : cs = [.int .i64 0, .string nS, .string aS, .string oneS] := hcs.1
  have hv : w6.cell? ⟨b, o + 3, none⟩ = some (.string oneS) := by have h : mem w6 b (o + 0 * tEnt.sz + 3) = _ := hat 3 _ rfl; rw [show o + 0 * tEnt.sz + 3 = o + 3 by omega] at h; exact h
  have hone : (oneS.toList == oneS.toList) = true := by simp
  have HR6 := Lib.hid (reset_any 1 w6 HI6.out.inv (by unfold inI64; decide) (by rw [HL5.out]; decide) (by rw [HL5.out]; decide) (by have := HN5.out; omega))
  simp only [List.length_cons, List.length_nil] at hlu hmu
  clear hse ho hb6 hrv hat hcs hao HE5 HS5
  go_wp2_with fail
  refine HR6.out.mono ?_
  rintro e w7 ⟨r7, hs7, _, _, _, hcase⟩
  rcases hcase with ⟨h, _⟩ | ⟨fs, es7, hfs, ha7, rfl, hv7⟩
  · rw [HSN5.out] at h; cases h
  rw [HSN5.out] at hfs
  injection hfs with hfs
  subst hfs
  obtain rfl := ents_gs1 ha7
  have HS7 := Lib.hid (HI6.out.trans hs7)
  have HCNT := Lib.hid (count_any w7 hs7.inv)
  rw [show r7.cnt = 1 from congrArg PS.cnt hv7] at HCNT
  clear hs7 ha7 hv7 HR6
  go_wp2_with fail
  refine HCNT.out.mono ?_
  rintro e w8 ⟨rfl, rfl⟩
  have HBF := Lib.hid (HB1.out.trans ((HS7.out.below HI1.out)))
  go_wp2
  go_ret
  exact ⟨rfl, HBF.out⟩
end Go.Proofs.YtbmpoecmjmmngaaGreat
/- Acts of chapter 13's laws; many. -/
namespace Go.Proofs.YtbmpoecmjmmngaaGreat
open Go.RowKit Go.Maps

structure HAct where
  k : Int
  g : Int
  n : Int
  nm : ByteArray
  key : ByteArray
  val : ByteArray
deriving Inhabited
def HAct.okA (x : HAct) : Prop := (0 ≤ x.k ∧ x.k ≤ 255) ∧ inI64 x.g ∧ inI64 x.n ∧ x.nm.size ≤ maxLen ∧ x.key.size ≤ maxLen ∧ x.val.size ≤ maxLen
abbrev HAct.cs (x : HAct) : List Value := [.int .u8 x.k, .int .i64 x.g, .int .i64 x.n, .string x.nm, .string x.key, .string x.val]
def tAct : Ty HAct := ⟨6, fun _ cs x => cs = x.cs ∧ x.okA, fun _ _ _ h => by rw [h.1]; rfl, fun _ _ _ _ _ h => h⟩
abbrev tActs : Ty (List HAct) := tSlice tAct
theorem tAct_flat : tAct.flat := fun _ _ _ _ h => h
def manyA (x : HAct) : Bool := decide (100 < x.nm.size) || decide (200 < x.key.size) || decide (200 < x.val.size)
def manyOf (l : List HAct) : Bool := l.any manyA || decide (60 < l.length)
theorem acts_at {m : Mem} {xs : List HAct} {a : Option Addr} {n cap : Nat} (h : tActs.rv m [.slice a n cap] xs) {k : Nat} (hk : k < xs.length) :
    ∃ b o, a = some ⟨b, o, none⟩ ∧ (∀ j v, xs[k].cs[j]? = some v → m b (o + k * 6 + j) = some v) ∧ xs[k].okA := by
  obtain ⟨b, o, rfl, cs, hat, rfl, hok⟩ := slice_at h hk
  exact ⟨b, o, rfl, hat, hok⟩
set_option maxRecDepth 100000 in
set_option maxHeartbeats 4000000 in
theorem many_any (l : List HAct) (v : Value) (w : World) (hv : tActs.rv (mem w) [v] l) :
    Calls Tryz.prog 16 #[v] w fun e w' => e = .returned (.bool (manyOf l)) ∧ Below w.heap.size w w' := by
  obtain ⟨a, cap, rfl, hlc, hm, hv⟩ := slice_form hv
  have hcap : cap ≤ 9223372036854775807 := by unfold maxLen at hm; exact hm
  clear hm
  go_enter Tryz.func16, Tryz.ntmps16
  go_wp2
  go_loop [3] (fun i => ∃ k : Nat, k ≤ l.length ∧ i = .int .i64 k ∧ Hid (∀ x ∈ l.take k, manyA x = false)) (fun i => l.length - (intOf i).toNat)
  case atStart => exact ⟨0, by omega, rfl, Lib.hid (by simp)⟩
  case round =>
    obtain ⟨k, hk, rfl, HT⟩ := hrel
    by_cases hlt : k < l.length
    · obtain ⟨b, o, rfl, hat, hok⟩ := acts_at hv hlt
      have HX := Lib.hid (show manyA l[k] = true → manyOf l = true from fun h => by
        unfold manyOf
        rw [show l.any manyA = true from List.any_eq_true.2 ⟨_, List.getElem_mem hlt, h⟩]; rfl)
      have HN := Lib.hid (show manyA l[k] = false → ∀ x ∈ l.take (k + 1), manyA x = false from fun h => mem_take_snoc hlt HT.out h)
      have c3 : w.cell? ⟨b, o + k * 6 + 3, none⟩ = some (.string l[k].nm) := hat 3 _ rfl
      have c4 : w.cell? ⟨b, o + k * 6 + 4, none⟩ = some (.string l[k].key) := hat 4 _ rfl
      have c5 : w.cell? ⟨b, o + k * 6 + 5, none⟩ = some (.string l[k].val) := hat 5 _ rfl
      obtain ⟨_, _, _, s3, s4, s5⟩ := hok
      unfold maxLen at s3 s4 s5
      clear hat HT hv
      generalize hx : l[k] = x at *
      clear hx
      by_cases h1 : (100 : Int) < x.nm.size
      · have HM := Lib.hid (HX.out (by unfold manyA; rw [decide_eq_true (show 100 < x.nm.size by omega)]; rfl))
        clear HX HN
        go_wp2
        go_ret
        exact ⟨by rw [HM.out] <;> rfl, Below.refl _ _⟩
      · by_cases h2 : (200 : Int) < x.key.size
        · have HM := Lib.hid (HX.out (by unfold manyA; rw [decide_eq_true (show 200 < x.key.size by omega)]; simp))
          clear HX HN
          go_wp2
          go_ret
          exact ⟨by rw [HM.out] <;> rfl, Below.refl _ _⟩
        · by_cases h3 : (200 : Int) < x.val.size
          · have HM := Lib.hid (HX.out (by unfold manyA; rw [decide_eq_true (show 200 < x.val.size by omega)]; simp))
            clear HX HN
            go_wp2
            go_ret
            exact ⟨by rw [HM.out] <;> rfl, Below.refl _ _⟩
          · have HM := Lib.hid (HN.out (by unfold manyA; rw [decide_eq_false (show ¬ 100 < x.nm.size by omega), decide_eq_false (show ¬ 200 < x.key.size by omega), decide_eq_false (show ¬ 200 < x.val.size by omega)]; rfl))
            clear HX HN
            go_wp2
            go_round
            case rel => exact ⟨k + 1, by omega, by go_num, HM⟩
            case measure => simp [intOf]; omega
    · obtain rfl : k = l.length := by omega
      have HA := Lib.hid (show l.any manyA = false from List.any_eq_false.2 fun x hx => by have := HT.out x (by rw [List.take_length]; exact hx); simp [this])
      clear HT hv
      by_cases h6 : (60 : Int) < l.length
      · have HM := Lib.hid (show manyOf l = true by unfold manyOf; rw [decide_eq_true (show 60 < l.length by omega)]; simp)
        go_wp2
        go_ret
        exact ⟨by rw [HM.out] <;> rfl, Below.refl _ _⟩
      · have HM := Lib.hid (show manyOf l = false by unfold manyOf; rw [decide_eq_false (show ¬ 60 < l.length by omega), HA.out]; rfl)
        go_wp2
        go_ret
        exact ⟨by rw [HM.out] <;> rfl, Below.refl _ _⟩
end Go.Proofs.YtbmpoecmjmmngaaGreat
/- The state of package heap and the reference's side by side, between acts and within one. -/
namespace Go.Proofs.YtbmpoecmjmmngaaGreat
open Go.RowKit Go.Maps

structure HRun (base p N : Nat) (M : Mem) (W : World) (h : HS) (r : RS) (a q : Value) : Prop where
  inv : HeapInv W base p h
  mem : M.le (safe W p h)
  rel : Rel h.view r
  rat : RsAt M r a q
  n1 : 1 ≤ r.N
  n128 : r.N ≤ 128
  nn : h.nn ≤ N
  last : h.last ≤ N
/-- What is kept of snapshots over an act. -/
def SnKept (x : HAct) (h h' : HS) : Prop := ∀ k fs, h.view.sn k = some fs → ¬ (x.k % 10 = 6 ∧ x.n = k) → h'.view.sn k = some fs
/-- What stays from a world and a state on. -/
structure Kept (base p : Nat) (o : World × HS) (W : World) (h : HS) : Prop where
  bs : base ≤ o.1.heap.size
  bl : Below base o.1 W
  kp : Keeps (mutB p o.2) o.1 W
  mb : ∀ k, mutB p h k → mutB p o.2 k ∨ o.1.heap.size ≤ k
structure KeptM (base p : Nat) (o : World × HS × Mem) (M : Mem) (W : World) (h : HS) : Prop where
  kt : Kept base p (o.1, o.2.1) W h
  nw : ∀ b x v, b < o.1.heap.size → M b x = some v → o.2.2 b x = some v
def DoesOut (base p N : Nat) (M : Mem) (W : World) (h : HS) (x : HAct) (e : Ending) (W' : World) : Prop :=
  ∃ h' r' a' q' M', e = .returned (.tuple #[rsV r' a' q', .bool true]) ∧ HRun base p (N + 1) M' W' h' r' a' q' ∧ M.le M' ∧ KeptM base p (W, h, M) M' W' h' ∧ SnKept x h h'
@[reducible] def rsZ : Obj := .cells #[.int .i64 0, .int .i64 0, .slice none 0 0, .slice none 0 0] 43
/-- Within an act: the result's cell is apart. -/
structure HMid (base p N : Nat) (M : Mem) (R : Nat) (o : World × HS × Mem) (W : World) (h : HS) (r : RS) : Prop where
  inv : HeapInv W base p h
  mem : M.le ((safe W p h).on (· ≠ R))
  rel : Rel h.view r
  n1 : 1 ≤ r.N
  n128 : r.N ≤ 128
  nn : h.nn ≤ N
  last : h.last ≤ N
  hR : W.heap[R]? = some rsZ
  nR : ¬ mutB p h R
  kt : KeptM base p o M W h
theorem Kept.pure {base p : Nat} {o : World × HS} {W W' : World} {h : HS} (c : Kept base p o W h) (hb : Below W.heap.size W W') : Kept base p o W' h :=
  ⟨c.bs, c.bl.trans (hb.mono (Nat.le_trans c.bs c.kp.size)), c.kp.trans ((below_keeps hb).wide (fun k h1 h2 => by omega)), c.mb⟩
theorem Kept.step {base p : Nat} {o : World × HS} {W W' : World} {h h' : HS} (c : Kept base p o W h) (i : HeapInv W base p h) (s : HStep W base p h W' h') : Kept base p o W' h' := by
  have hsz := c.kp.size
  refine ⟨c.bs, c.bl.trans (s.below i), ⟨s.kp.os.trans c.kp.os, s.kp.tape.trans c.kp.tape, s.kp.output.trans c.kp.output, Nat.le_trans hsz s.kp.size, fun k hk hn => ?_⟩, fun k hk => ?_⟩
  · refine (s.kp.block k (by omega) fun hm => ?_).trans (c.kp.block k hk hn)
    rcases c.mb k hm with e | e
    · exact hn e
    · omega
  · rcases s.mb k hk with e | e
    · exact c.mb k e
    · exact .inr (by omega)
theorem Kept.trans {base p : Nat} {o : World × HS} {W W' : World} {h h' : HS} (c : Kept base p o W h) (d : Kept base p (W, h) W' h') : Kept base p o W' h' := by
  have hsz := c.kp.size
  have hd := d.kp.size
  refine ⟨c.bs, c.bl.trans d.bl, ⟨d.kp.os.trans c.kp.os, d.kp.tape.trans c.kp.tape, d.kp.output.trans c.kp.output, Nat.le_trans hsz hd, fun k hk hn => ?_⟩, fun k hk => ?_⟩
  · refine (d.kp.block k (Nat.lt_of_lt_of_le hk hsz) fun hm => ?_).trans (c.kp.block k hk hn)
    rcases c.mb k hm with e | e
    · exact hn e
    · omega
  · rcases d.mb k hk with e | e
    · exact c.mb k e
    · have e : W.heap.size ≤ k := e
      exact .inr (by omega)
theorem ptrs_apart {m : Mem} {R : Nat} {u : Value} {l : List Nat} (hR : ∀ o a, m R o ≠ some (ptrTo a)) (h : tPtrs.rv m [u] l) : tPtrs.rv (m.on (· ≠ R)) [u] l := by
  obtain ⟨a, cap, e, h1, h2, h3⟩ := h
  refine ⟨a, cap, e, h1, h2, fun hp => ?_⟩
  obtain ⟨b, o, ea, hat⟩ := h3 hp
  have hb : b ≠ R := fun e => by
    obtain ⟨cs, hc, hr⟩ := hat 0 hp
    have hr : cs = [ptrTo l[0]] := hr
    subst hr
    exact hR _ _ (e ▸ hc 0 _ rfl)
  refine ⟨b, o, ea, fun k hk => ?_⟩
  obtain ⟨cs, hc, hr⟩ := hat k hk
  exact ⟨cs, fun j v hj => Mem.on_some (hc j v hj) hb, hr⟩
section
variable {base p N R : Nat} {M M' : Mem} {w0 W W' W2 : World} {o : World × HS × Mem} {h h' : HS} {r r' : RS} {a q : Value}
theorem HRun.len (c : HRun base p N M W h r a q) : h.cur.length = r.N := by rw [← c.rel.hN, view_len rfl]
theorem HMid.len (c : HMid base p N M R o W h r) : h.cur.length = r.N := by rw [← c.rel.hN, view_len rfl]
theorem HMid.le (c : HMid base p N M R o W h r) : M.le (Go.Proofs.YtbmpoecmjmmngaaGreat.mem W) := Mem.le_trans c.mem (Mem.le_trans (Mem.on_le _ _) (Mem.on_le _ _))
theorem HRun.le (c : HRun base p N M W h r a q) : M.le (Go.Proofs.YtbmpoecmjmmngaaGreat.mem W) := Mem.le_trans c.mem (Mem.on_le _ _)
theorem HMid.cnt (c : HMid base p N M R o W h r) : h.cnt = r.es.length ∧ r.es.length ≤ 4000 := ⟨c.rel.cnt, c.rel.le⟩
theorem HMid.grp (c : HMid base p N M R o W h r) {g : Int} (h0 : 0 ≤ g) (hN : g < r.N) : h.view.grps[g.toNat]? = some (grpF h g) := by
  obtain ⟨i, rfl⟩ := Int.eq_ofNat_of_zero_le h0
  exact grps_at h (i := i) (by have := c.len; omega)
/-- The beginning of an act: boxes are made, the last of them is the result's. -/
theorem HRun.start (c : HRun base p N M W h r a q) (hb : Below W.heap.size W W') (hR : W'.heap[R]? = some rsZ) (hl : W.heap.size ≤ R) :
    ∃ M1, HMid base p N M1 R (W, h, M) W' h r ∧ M.le M1 ∧ ((Go.Proofs.YtbmpoecmjmmngaaGreat.mem W').on (fun b => W.heap.size ≤ b ∧ b ≠ R)).le M1 ∧ RsAt M1 r a q := by
  have hk := c.inv.cells_kind
  refine ⟨(joinM M W W').on (· ≠ R), ⟨c.inv.pure hb, fun b o v e => ?_, c.rel, c.n1, c.n128, c.nn, c.last, hR, fun hm => by have := hk R hm; omega, ⟨⟨c.inv.bw, hb.mono c.inv.bw, (below_keeps hb).wide (fun k h1 h2 => by omega), fun k e => .inl e⟩, fun b x v hlt e => ?_⟩⟩, fun b o v e => ?_, fun b o v e => ?_, ?_⟩
  · obtain ⟨hne, e⟩ := Mem.of_on e
    refine Mem.on_some ?_ hne
    unfold joinM at e
    split at e
    · exact Mem.on_some e (fun hm => by have := hk b hm; omega)
    · exact safe_le ((below_keeps hb).wide (fun k h1 h2 => by omega)) (fun k hm => .inl hm) _ _ _ (c.mem _ _ _ e)
  · obtain ⟨_, e⟩ := Mem.of_on e
    have hlt : b < W.heap.size := hlt
    unfold joinM at e
    rw [if_neg (by omega)] at e
    exact e
  · have hlt := mem_lt (c.le _ _ _ e)
    exact Mem.on_some (joinM_le c.le _ _ _ e) (by omega)
  · obtain ⟨⟨h1, h2⟩, e⟩ := Mem.of_on e
    exact Mem.on_some (joinM_new _ _ _ (Mem.on_some e h1)) h2
  · refine c.rat.mono (fun b o v e => ?_)
    have hlt := mem_lt (c.le _ _ _ e)
    exact Mem.on_some (joinM_le c.le _ _ _ e) (by omega)
theorem HMid.pure0 (c : HMid base p N M R o W h r) (hb : Below W.heap.size W W') : HMid base p N M R o W' h r := by
  have hk := c.inv.cells_kind
  have hRl := (Array.getElem?_eq_some_iff.1 c.hR).1
  refine ⟨c.inv.pure hb, fun b o v e => ?_, c.rel, c.n1, c.n128, c.nn, c.last, (hb.block _ hRl).trans c.hR, c.nR, ⟨c.kt.kt.pure hb, c.kt.nw⟩⟩
  obtain ⟨hne, e⟩ := Mem.of_on (c.mem _ _ _ e)
  exact Mem.on_some (safe_le ((below_keeps hb).wide (fun k h1 h2 => by omega)) (fun k hm => .inl hm) _ _ _ e) hne
/-- A pure call: what it makes may be kept. -/
theorem HMid.grow (c : HMid base p N M R o W h r) (hb : Below W.heap.size W W') : HMid base p N (joinM M W W') R o W' h r := by
  have hk := c.inv.cells_kind
  have hRl := (Array.getElem?_eq_some_iff.1 c.hR).1
  have c' := c.pure0 hb
  refine ⟨c'.inv, fun b o v e => ?_, c.rel, c.n1, c.n128, c.nn, c.last, c'.hR, c.nR, ⟨c'.kt.kt, fun b x v hlt e => ?_⟩⟩
  unfold joinM at e
  split at e
  · exact Mem.on_some (Mem.on_some e (fun hm => by have := hk b hm; omega)) (by omega)
  · exact c'.mem _ _ _ e
  · have := c.kt.kt.kp.size
    have hlt : b < o.1.heap.size := hlt
    have this : o.1.heap.size ≤ W.heap.size := this
    unfold joinM at e
    rw [if_neg (by omega)] at e
    exact c.kt.nw b x v hlt e
/-- A step of the heap, with one of the reference's state. -/
theorem HMid.step (c : HMid base p N M R o W h r) (s : HStep W base p h W' h') (hr : Rel h'.view r') (hN : r'.N = r.N) (hn : h'.nn ≤ N + 1) (hl : h'.last ≤ N + 1) : HMid base p (N + 1) M R o W' h' r' := by
  have hRl := (Array.getElem?_eq_some_iff.1 c.hR).1
  refine ⟨s.inv, fun b o v e => ?_, hr, hN ▸ c.n1, hN ▸ c.n128, hn, hl, (s.kp.block R hRl c.nR).trans c.hR, fun hm => ?_, ⟨c.kt.kt.step c.inv s, c.kt.nw⟩⟩
  · obtain ⟨hne, e⟩ := Mem.of_on (c.mem _ _ _ e)
    exact Mem.on_some (safe_le s.kp s.mb _ _ _ e) hne
  · rcases s.mb R hm with e | e
    · exact c.nR e
    · omega
theorem HMid.more (c : HMid base p N M R o W h r) : HMid base p (N + 1) M R o W h r := ⟨c.inv, c.mem, c.rel, c.n1, c.n128, Nat.le_succ_of_le c.nn, by have := c.last; omega, c.hR, c.nR, c.kt⟩
theorem HMid.cells (c : HMid base p N M R o W h r) : ∀ o, W.frozen? ⟨R, o, none⟩ = false := frozen_cells c.hR
/-- The end of an act: the result's cell is written. -/
theorem HMid.finish (c : HMid base p N M R o W h r) (hk : Keeps (· = R) W W2) (hb : o.1.heap.size ≤ R) (hr : RsAt M r a q) : HRun base p N M W2 h r a q ∧ KeptM base p o M W2 h := by
  have hmk := c.inv.cells_kind
  have hat : ∀ k, mutB p h k → W2.heap[k]? = W.heap[k]? := fun k hm => hk.block k (hmk k hm) (fun e => c.nR (e ▸ hm))
  have hi := c.inv
  have hsz := hk.size
  have hsafe : ((safe W p h).on (· ≠ R)).le (safe W2 p h) := fun b o v e => by
    obtain ⟨hne, e⟩ := Mem.of_on e
    obtain ⟨hm, e⟩ := Mem.of_on e
    exact Mem.on_some ((mem_of_block (hk.block b (mem_lt e) hne) o).trans e) hm
  have hz : ∀ o x, (safe W p h) R o ≠ some (ptrTo x) := fun o x e => by
    have e1 := (Mem.of_on e).2
    have e2 := mem_cells c.hR o
    rw [show Go.Proofs.YtbmpoecmjmmngaaGreat.mem W R o = W.cell? ⟨R, o, none⟩ from rfl] at e1
    have e1 := e2.symm.trans e1
    match o, e1 with
    | 0, e1 => simp at e1
    | 1, e1 => simp at e1
    | 2, e1 => simp at e1
    | 3, e1 => simp at e1
    | o + 4, e1 => simp at e1
  refine ⟨⟨⟨(hat p (.inl rfl)).trans hi.hb, hi.cu.at (fun k e => hat k (.inr (.inr (.inl e)))), hi.sn.at (hat _ (.inr (.inl rfl))),
    fun k x e => let ⟨h1, h2⟩ := hi.sr k x e; ⟨tPtrs.mono _ _ _ _ hsafe (ptrs_apart hz h1), h2⟩,
    fun a ha => let ⟨h1, h2⟩ := hi.gb a ha; ⟨(hat a (.inr (.inr (.inr ⟨a, ha, .inl rfl⟩)))).trans h1, h2.at (hat _ (.inr (.inr (.inr ⟨a, ha, .inr rfl⟩))))⟩,
    hi.inj, hi.smb, hi.sh, hi.nd, hi.ge, Nat.le_trans hi.bw hsz⟩, Mem.le_trans c.mem hsafe, c.rel, hr, c.n1, c.n128, c.nn, c.last⟩, ?_⟩
  have kt := c.kt.kt
  have hks : o.1.heap.size ≤ W.heap.size := kt.kp.size
  refine ⟨⟨kt.bs, kt.bl.trans (hk.below hi.bw (fun k e => e ▸ Nat.le_trans kt.bs hb)), ⟨hk.os.trans kt.kp.os, hk.tape.trans kt.kp.tape, hk.output.trans kt.kp.output, Nat.le_trans kt.kp.size hk.size, fun k h1 h2 => ?_⟩, kt.mb⟩, c.kt.nw⟩
  have h1 : k < o.1.heap.size := h1
  exact (hk.block k (by omega) (fun e => by omega)).trans (kt.kp.block k h1 h2)
end
end Go.Proofs.YtbmpoecmjmmngaaGreat
