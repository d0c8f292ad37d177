/- HeapKeeps, plainly: what Get answers behind Restore and Put. -/
import Derived.Test.YtbmpoecmjmmngaaHRest
import Derived.Test.YtbmpoecmjmmngaaHGet
namespace Go.Proofs.Ytbmpoecmjmmngaa
open Go.RowKit Go.Maps

theorem fold_not {k : Place} : ∀ (l : List Ent) (f : Place → Option ByteArray), k ∉ l.map Ent.pl → l.foldl (fun f e => putAt f e.pl e.val) f k = f k
  | [], _, _ => rfl
  | y :: l, f, h => by
    rw [List.map_cons, List.mem_cons, not_or] at h
    rw [List.foldl_cons, fold_not l _ h.2]
    unfold putAt
    rw [if_neg h.1]
theorem fold_mem {x : Ent} : ∀ (l : List Ent) (f : Place → Option ByteArray), (l.map Ent.pl).Nodup → x ∈ l → l.foldl (fun f e => putAt f e.pl e.val) f x.pl = some x.val
  | y :: l, f, hn, hx => by
    rw [List.map_cons, List.nodup_cons] at hn
    rw [List.foldl_cons]
    rcases List.mem_cons.1 hx with rfl | h
    · rw [fold_not _ _ hn.1]
      unfold putAt
      rw [if_pos rfl]
    · exact fold_mem l _ hn.2 h
theorem placesF_mem {l : List Ent} (hn : (l.map Ent.pl).Nodup) {x : Ent} (hx : x ∈ l) : placesF l x.pl = some x.val := fold_mem l _ hn hx
theorem restAns_ok {n : Int} {l : List Ent} (h : restAns n l = 0) : (∀ x ∈ l, validE x = true ∧ x.g < n) ∧ (1 ≤ n ∧ n ≤ 128) ∧ (l.map Ent.pl).Nodup := by
  unfold restAns at h
  split at h
  · cases h
  next h1 =>
  split at h
  · cases h
  next h2 =>
  split at h
  · cases h
  next h3 =>
  split at h
  · next h4 =>
    have h1' : l.all validE = true := by simpa using h1
    have h3' : l.any (fun x => decide (n ≤ x.g)) = false := by simpa using h3
    refine ⟨fun x hx => ⟨List.all_eq_true.1 h1' x hx, ?_⟩, by omega, h4⟩
    have := List.any_eq_false.1 h3' x hx
    simp at this
    exact this
  · cases h
theorem chk_one {N : Nat} {g : Int} {nm k v : ByteArray} (h : chk N g nm [k, v] = 0) : chk N g nm [k] = 0 := by
  obtain ⟨h1, h2, h3⟩ := chk_ok h
  unfold chk
  rw [if_pos ⟨h1, by simp at h2 ⊢; exact h2.1⟩, if_pos h3]
theorem chk_of {N : Nat} {x : Ent} (h : validE x = true) (hg : x.g < N) : chk N x.g x.nm [x.key, x.val] = 0 := by
  unfold validE at h
  simp only [Bool.and_eq_true, decide_eq_true_eq, Bool.not_eq_true'] at h
  unfold chk
  rw [if_pos ⟨h.2.1, by simp [h.2.2]⟩, if_pos ⟨h.1.1, hg⟩]
theorem grpF_put {r r' : HS} {N : Nat} (hN : r.cur.length = N) {x : Ent} (ha : putAns N (grpF r x.g) r.cnt x.g x.nm x.key x.val = 0) (h' : r'.view = r.view.put N (grpF r x.g) x.g x.nm x.key x.val) {i : Nat} (hi : i < N) :
    grpF r' i = if (i : Int) = x.g then putAt (grpF r x.g) (x.nm, x.key) x.val else grpF r i := by
  unfold PS.put at h'
  rw [show r.view.cnt = r.cnt from rfl, if_pos ha] at h'
  have hl : r'.cur.length = N := by rw [view_len h', List.length_set, ← view_len rfl]; exact hN
  have h1 := grps_at r' (i := i) (by omega)
  have h2 := grps_at r (i := i) (by omega)
  have hc : chk N x.g x.nm [x.key, x.val] = 0 := by
    unfold putAns at ha
    split at ha
    · next h => exact absurd ha h
    · next h => exact Classical.not_not.1 h
  obtain ⟨_, _, h0, h3⟩ := chk_ok hc
  rw [h'] at h1
  show _ = _
  have h1 : (r.view.grps.set x.g.toNat (putAt (grpF r x.g) (x.nm, x.key) x.val))[i]? = some (grpF r' i) := h1
  rw [List.getElem?_set] at h1
  by_cases e : (i : Int) = x.g
  · rw [if_pos e]
    rw [if_pos (show x.g.toNat = i by omega)] at h1
    split at h1
    · injection h1 with h1; exact h1.symm
    · cases h1
  · rw [if_neg e]
    rw [if_neg (show ¬ x.g.toNat = i by omega), h2] at h1
    injection h1 with h1; exact h1.symm
theorem getAns_some {N : Nat} {F : FMap} {g : Int} {nm key : ByteArray} {s : ByteArray} (hc : chk N g nm [key] = 0) (h : F (nm, key) = some s) : getAns N F g nm key = (s, 0) := by
  unfold getAns
  rw [if_pos hc, h]
  rfl
/-- The law, plainly. -/
theorem keeps_get {r r' : HS} {n : Int} {l : List Ent} {x : Ent} (hr : restAns n l = 0) (hv : r.view = restPS n.toNat l) (ha : putAns n.toNat (grpF r x.g) r.cnt x.g x.nm x.key x.val = 0)
    (h' : r'.view = r.view.put n.toNat (grpF r x.g) x.g x.nm x.key x.val) :
    getAns n.toNat (grpF r' x.g) x.g x.nm x.key = (x.val, 0) ∧ ∀ y ∈ l, ∃ s, getAns n.toNat (grpF r' y.g) y.g y.nm y.key = (s, 0) ∧ (y.pl ≠ x.pl → s = y.val) := by
  obtain ⟨hall, hn, hnd⟩ := restAns_ok hr
  have hN : r.cur.length = n.toNat := (view_len hv).trans (restPS_len _ _)
  have hc : chk n.toNat x.g x.nm [x.key, x.val] = 0 := by
    unfold putAns at ha
    split at ha
    · next h => exact absurd ha h
    · next h => exact Classical.not_not.1 h
  obtain ⟨_, _, h0, h3⟩ := chk_ok hc
  refine ⟨?_, fun y hy => ?_⟩
  · refine getAns_some (chk_one hc) ?_
    obtain ⟨i, hi⟩ := Int.eq_ofNat_of_zero_le h0
    have := grpF_put hN ha h' (i := i) (by omega)
    rw [← hi] at this
    rw [this, if_pos rfl]
    unfold putAt
    rw [if_pos rfl]
  · obtain ⟨hy1, hy2⟩ := hall y hy
    have hcy := chk_of (N := n.toNat) hy1 (by omega)
    obtain ⟨_, _, hy0, hy3⟩ := chk_ok hcy
    obtain ⟨i, hi⟩ := Int.eq_ofNat_of_zero_le hy0
    have hgp := grpF_put hN ha h' (i := i) (by omega)
    have hgv := grpF_view hv (i := i) (by omega)
    rw [← hi] at hgp hgv
    have hmem : grpF r y.g (y.nm, y.key) = some y.val := by
      rw [hgv]
      exact placesF_mem hnd hy
    by_cases e : y.g = x.g
    · rw [if_pos e] at hgp
      by_cases e2 : (y.nm, y.key) = (x.nm, x.key)
      · refine ⟨x.val, getAns_some (chk_one hcy) (by rw [hgp]; unfold putAt; rw [if_pos e2]), fun h => absurd ?_ h⟩
        simp only [Prod.mk.injEq] at e2
        unfold Ent.pl
        rw [e, e2.1, e2.2]
      · refine ⟨y.val, getAns_some (chk_one hcy) (by rw [hgp]; unfold putAt; rw [if_neg e2, ← e]; exact hmem), fun _ => rfl⟩
    · rw [if_neg e] at hgp
      exact ⟨y.val, getAns_some (chk_one hcy) (by rw [hgp]; exact hmem), fun _ => rfl⟩
end Go.Proofs.Ytbmpoecmjmmngaa
