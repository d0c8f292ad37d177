/- maps.Keys at spots: the iterator's contract. -/
import Derived.Test.YtbmpoecmjmmngaaRangeW
import Derived.Test.YtbmpoecmjmmngaaHeapA
import Derived.Sort.MapsRangeIn
import Derived.Sort.KeysCollected
import Derived.Shelf.Abstract
import Derived.WalkKit
import Derived.OwnWalkIn
import Derived.TacticsInMore
import Derived.LoopNIn
import Derived.LoopIn
import Derived.RegionIn
namespace Go.Proofs.Ytbmpoecmjmmngaa
open Go.RowKit Go.Shelf Go.Maps Go.Sort
attribute [local go_sem] Oper.semAt_some

/-- What has come of a map's keys. -/
def Col (D : DataW Value) (left : Lit → Bool) (ss : List Spot) : Prop :=
  ss.Nodup ∧ (∀ x ∈ ss, okSpot x) ∧ ∀ x, okSpot x → (x ∈ ss ↔ (has D (lkSpot x) = true ∧ left (lkSpot x) = false))
theorem Col.start (D : DataW Value) : Col D (has D) [] := ⟨List.nodup_nil, by simp, fun x _ => by cases has D (lkSpot x) <;> simp⟩
theorem lkSpot_str {x : Spot} (hx : okSpot x) : lkSpot x = .string (keyBytes [.string x.1.data.toList, .string x.2.data.toList]) := by unfold lkSpot; rw [if_pos hx]
theorem sameKey_spot {x y : Spot} (hx : okSpot x) (hy : okSpot y) : (lkSpot y).sameKey (lkSpot x) = decide (y = x) := by
  by_cases h : y = x
  · subst h
    rw [lkSpot_str hx]; simp [Lit.sameKey]
  · have : lkSpot y ≠ lkSpot x := fun e => h (lkSpot_inj hx y e)
    rw [lkSpot_str hx, lkSpot_str hy] at this ⊢
    have h2 : ¬ keyBytes [.string y.1.data.toList, .string y.2.data.toList] = keyBytes [.string x.1.data.toList, .string x.2.data.toList] := fun e => this (by rw [e])
    simp [Lit.sameKey, h, h2]
theorem Col.step {D : DataW Value} {left : Lit → Bool} {ss : List Spot} (h : Col D left ss) {x : Spot} (hx : okSpot x) {y : DataW Value} (hlk : left (lkSpot x) = true) (hat : ∀ zd, D.atKey (lkSpot x) zd = y) :
    Col D (fun z => left z && !z.sameKey (lkSpot x)) (ss ++ [x]) := by
  have hhas : has D (lkSpot x) = true := has_true_of_atKey hat
  have hnew : x ∉ ss := fun hm => by have := ((h.2.2 x hx).1 hm).2; rw [hlk] at this; cases this
  refine ⟨List.nodup_append.2 ⟨h.1, by simp, fun a ha b hb => by simp at hb; subst hb; exact fun e => hnew (e ▸ ha)⟩, fun z hz => ?_, fun z hz => ?_⟩
  · rcases List.mem_append.1 hz with e | e
    · exact h.2.1 z e
    · simp at e; subst e; exact hx
  · by_cases e : z = x
    · subst e; simp [hhas, sameKey_spot hx hx]
    · simp [h.2.2 z hz, e, sameKey_spot hx hz]
open Classical in
theorem nodup_le {β : Type} : ∀ {l m : List β}, l.Nodup → (∀ x ∈ l, x ∈ m) → l.length ≤ m.length
  | [], _, _, _ => Nat.zero_le _
  | x :: l, m, hn, hs => by
    rw [List.nodup_cons] at hn
    have hx : x ∈ m := hs x List.mem_cons_self
    have := nodup_le (l := l) (m := m.erase x) hn.2 (fun y hy => (List.mem_erase_of_ne (fun e => by subst e; exact hn.1 hy)).2 (hs y (List.mem_cons_of_mem _ hy)))
    rw [List.length_erase_of_mem hx] at this
    have h1 : 0 < m.length := List.length_pos_of_mem hx
    simp only [List.length_cons]
    omega
theorem Col.room {D : DataW Value} {left : Lit → Bool} {ss : List Spot} {w : World} {b n : Nat} (hown : w.ownsMap Try.prog 71 rawE b n D) (h : Col D left ss) : ss.length ≤ n := by
  refine Nat.le_trans ?_ hown.size_le
  obtain ⟨es, hD, _⟩ := hown.keysOf
  subst hD
  have h1 : (ss.map lkSpot).length ≤ (es.map (·.1)).length := by
    refine nodup_le ?_ ?_
    · refine List.pairwise_map.2 (h.1.imp_of_mem fun {p q} hp hq hne e => hne ?_)
      exact lkSpot_inj (h.2.1 q hq) p e
    · intro l hl
      obtain ⟨x, hx, rfl⟩ := List.mem_map.1 hl
      have hh := ((h.2.2 x (h.2.1 x hx)).1 hx).1
      rw [show has (DataW.map es) (lkSpot x) = es.any (fun p => p.1.sameKey (lkSpot x)) from rfl, List.any_eq_true] at hh
      obtain ⟨p, hp, hs⟩ := hh
      refine List.mem_map.2 ⟨p, hp, ?_⟩
      rw [lkSpot_str (h.2.1 x hx)] at hs ⊢
      generalize p.1 = q at hs
      cases q <;> simp [Lit.sameKey] at hs
      rw [hs]
  simp only [List.length_map] at h1
  exact h1
/-- A map's keys, in some order. -/
def AllKeys (f : FMap) (ss : List Spot) : Prop := ss.Nodup ∧ (∀ k, k ∈ ss ↔ (f k).isSome = true) ∧ ∀ x ∈ ss, okSpot x
theorem Col.done {D : DataW Value} {left : Lit → Bool} {ss : List Spot} {w : World} {b n : Nat} {f : FMap} (hown : w.ownsMap Try.prog 71 rawE b n D) {m : Mem} (hs : MapSays lkSpot vStr m D f) (h : Col D left ss) (hl : ∀ kl, left kl = false) : AllKeys f ss := by
  refine ⟨h.1, fun k => ?_, h.2.1⟩
  by_cases hk : okSpot k
  · rw [h.2.2 k hk, hl]
    cases hf : f k with
    | none => rw [hs.1 k hf]; simp
    | some a => rw [(hs.2.1 k a hf).1]; simp
  · constructor
    · intro hm; exact absurd (h.2.1 k hm) hk
    · intro hf
      obtain ⟨a, ha⟩ := Option.isSome_iff_exists.1 hf
      have hh := (hs.2.1 k a ha).1
      obtain ⟨es, hD, hko⟩ := hown.keysOf
      subst hD
      rw [show has (DataW.map es) (lkSpot k) = es.any (fun p => p.1.sameKey (lkSpot k)) from rfl, List.any_eq_true] at hh
      obtain ⟨p, hp, hsk⟩ := hh
      obtain ⟨v, hv⟩ := hko p hp
      obtain ⟨x, _, e, hx⟩ := keyOf_spot_inv hv
      rw [e, lkSpot_str hx] at hsk
      unfold lkSpot at hsk
      rw [if_neg hk] at hsk
      simp [Lit.sameKey] at hsk

set_option maxRecDepth 100000 in
set_option maxHeartbeats 4000000 in
theorem keysS_gives (B b n : Nat) (f : FMap) (w : World) (hB : w.cell? ⟨B, 0, none⟩ = some (.map (some b))) (hf : GMap w b n f) :
    GivesW Try.prog 85 #[.pointer (some ⟨B, 0, none⟩)] (fun x => #[spotV x]) (fun pre x => pre.length < n ∧ okSpot x) (AllKeys f) w := by
  intro l J W hW hJ hY h0
  have hB1 : W.cell? ⟨B, 0, none⟩ = some (.map (some b)) := below_mem hW _ _ _ hB
  obtain ⟨D, hown, hsays⟩ := hf.below hW
  have HS := Lib.hid hsays
  have HO := Lib.hid hown
  have HY := Lib.hid hY
  have HJ := Lib.hid hJ
  have H0 := Lib.hid h0
  clear hY hJ h0 hB hf hsays hW
  refine callsIn_of_wp Try.func85 rfl trivial ?_ rfl
  simp only [Try.ntmps85, List.size_toArray, List.length_cons, List.length_nil, Nat.reduceAdd, Nat.reduceSub, Array.replicate_succ, Array.replicate_zero, List.push_toArray, List.append_toArray, List.nil_append, List.cons_append]
  gi_wp2_with (first
    | (gi_at_range; refine wpListIn_range_own _ rfl _ 73 rfl 71 9 keyS Try.underlying73 _ b n _ rfl hown ?_; intro w0 hrg0 hg0 hs0)
    | gi_in)
  gi_loopw [3] (fun _ wr => ∃ (left : Lit → Bool) (cnt : Nat) (ss : List Spot), wr.ranges Try.prog 71 rawE b W.heap.size n D left cnt ∧ Col D left ss ∧ Hid (J ss wr))
    (fun _ wr => wr.rangeLeft b W.heap.size)
  case atStart =>
    exact ⟨_, _, [], hrg0, Col.start D, Lib.hid (HJ.out [] W w0 none H0.out hg0 (fun r e => by cases e))⟩
  case round =>
    clear hrg0 hg0 hs0 H0 hown
    obtain ⟨left, cnt, ss, hrg, hC, HJs⟩ := hrel
    gi_wp2_with (first
      | (gi_at_next; refine wpListIn_next_ranges _ rfl _ rfl 71 keyS rawE spotV id (fun key kl hk => by obtain ⟨x, hx, _⟩ := keyOf_spot_inv hk; exact ⟨x, hx⟩) (fun v _ _ => ⟨v, rfl⟩) b W.heap.size n _ _ _ rfl hrg ?_ ?_)
      | gi_in)
    · intro hc0 hl0
      gi_wp2
      go_end0
      exact ⟨⟨_, rfl⟩, ss, hC.done HO.out HS.out hl0, HJs.out⟩
    · intro x1 x2 c kl yd yp w2 cnt2 hkey hlk hv hat hrg2 hlt hg2 hs2 hen
      obtain ⟨x, hx⟩ : ∃ x : Spot, x = (x1, x2) := ⟨_, rfl⟩
      rw [← hx] at hkey
      obtain ⟨x', ex, rfl, hok⟩ := keyOf_spot_inv hkey
      obtain rfl : x = x' := spotV_inj ex
      have HC2 := Lib.hid (hC.step hok hlk hat)
      have hroom : ss.length < n := by have := HC2.out.room HO.out; rw [List.length_append] at this; simp at this; omega
      have hJ2 : J ss w2 := HJ.out ss wr w2 (some W.heap.size) HJs.out hg2 (fun r e => by cases e; exact ⟨Nat.le_refl _, hrg.iter_walk⟩)
      have HJ3 := Lib.hid (fun o => HJ.out ss w2 (w2.alloc o) none hJ2 ⟨rfl, rfl, rfl, by simp, fun k hk _ => Below.heap_alloc _ _ _ hk⟩ (fun r e => by cases e))
      have HR3 := Lib.hid (fun o => hrg2.of_walks (KeepsWalks.alloc w2 o))
      have HL := Lib.hid (show w2.rangeLeft b W.heap.size < wr.rangeLeft b W.heap.size by rw [hrg2.left_eq, hrg.left_eq]; exact hlt)
      have HY3 := Lib.hid (fun o => HY.out ss x (w2.alloc o) ⟨hroom, hok⟩ (HJ3.out o))
      clear hs2 hJ2 hC hkey hlk hv hat hg2 hlt hrg ex HJs
      subst hx
      obtain ⟨fn, tmps, assign, body, hy, hR⟩ := HY3.out (.cells #[.string x1, .string x2] 71)
      gi_wp2
      refine ⟨rfl, hR.mono ?_⟩
      rintro e W3 ⟨rfl, hJ3, hk3⟩
      have HR4 := Lib.hid ((HR3.out _).of_walks hk3)
      have HJ4 := Lib.hid hJ3
      have HL2 := Lib.hid (show W3.rangeLeft b W.heap.size < wr.rangeLeft b W.heap.size by have := HL.out; rw [HR4.out.left_eq]; rw [hrg2.left_eq] at this; exact this)
      clear hJ3 hk3 hy hR hrg2 HR3 HJ3 HL
      gi_wp2
      go_roundw
      case rel => exact ⟨_, cnt2, ss ++ [(x1, x2)], HR4.out, HC2.out, HJ4⟩
      case measure => exact HL2.out
end Go.Proofs.Ytbmpoecmjmmngaa
