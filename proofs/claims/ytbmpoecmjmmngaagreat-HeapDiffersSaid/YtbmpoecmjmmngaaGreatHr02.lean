/- Part 2 of the texts that the law's proof stands on, merged. -/
import Derived.Sort.MapsRangeIn
import Derived.Sort.KeysCollected
import Derived.Shelf.Abstract
import Derived.WalkKit
import Derived.OwnWalkIn
import Derived.TacticsInMore
import Derived.LoopNIn
import Derived.LoopIn
import Derived.RegionIn
import Derived.Deep.RegionHeld3
import Derived.Shelf.SlSortCmp.NoneTotal
import Derived.OrdersIn
import Derived.OrdersHeld
import Derived.RangeFuncSeq
import Derived.Lib.SlKeysI
import Derived.Test.YtbmpoecmjmmngaaGreatHr01
set_option linter.unusedVariables false
set_option linter.unusedSimpArgs false
/- maps.Keys at spots: the iterator's contract. -/
namespace Go.Proofs.YtbmpoecmjmmngaaGreat
open Go.RowKit Go.Shelf Go.Maps Go.Sort
attribute [local go_sem] Oper.semAt_some

/-- What has come of a map's keys. -/
def Col (D : DataW Value) (left : Lit → Bool) (ss : List Spot) : Prop :=
  ss.Nodup ∧ (∀ x ∈ ss, okSpot x) ∧ ∀ x, okSpot x → (x ∈ ss ↔ (has D (lkSpot x) = true ∧ left (lkSpot x) = false))
theorem Col.start (D : DataW Value) : Col D (has D) [] := ⟨List.nodup_nil, by simp, fun x _ => by cases has D (lkSpot x) <;> simp⟩
theorem lkSpot_str {x : Spot} (hx : okSpot x) : lkSpot x = .string (keyBytes [.string x.1.data.toList, .string x.2.data.toList]) := by unfold lkSpot; rw [if_pos hx]
theorem sameKey_spot {x y : Spot} (hx : okSpot x) (hy : okSpot y) : (lkSpot y).sameKey (lkSpot x) = decide (y = x) := by
  by_cases h : y = x
  · subst h
    rw [lkSpot_str hx]; simp [Lit.sameKey]
  · have : lkSpot y ≠ lkSpot x := fun e => h (lkSpot_inj hx y e)
    rw [lkSpot_str hx, lkSpot_str hy] at this ⊢
    have h2 : ¬ keyBytes [.string y.1.data.toList, .string y.2.data.toList] = keyBytes [.string x.1.data.toList, .string x.2.data.toList] := fun e => this (by rw [e])
    simp [Lit.sameKey, h, h2]
theorem Col.step {D : DataW Value} {left : Lit → Bool} {ss : List Spot} (h : Col D left ss) {x : Spot} (hx : okSpot x) {y : DataW Value} (hlk : left (lkSpot x) = true) (hat : ∀ zd, D.atKey (lkSpot x) zd = y) :
    Col D (fun z => left z && !z.sameKey (lkSpot x)) (ss ++ [x]) := by
  have hhas : has D (lkSpot x) = true := has_true_of_atKey hat
  have hnew : x ∉ ss := fun hm => by have := ((h.2.2 x hx).1 hm).2; rw [hlk] at this; cases this
  refine ⟨List.nodup_append.2 ⟨h.1, by simp, fun a ha b hb => by simp at hb; subst hb; exact fun e => hnew (e ▸ ha)⟩, fun z hz => ?_, fun z hz => ?_⟩
  · rcases List.mem_append.1 hz with e | e
    · exact h.2.1 z e
    · simp at e; subst e; exact hx
  · by_cases e : z = x
    · subst e; simp [hhas, sameKey_spot hx hx]
    · simp [h.2.2 z hz, e, sameKey_spot hx hz]
open Classical in
theorem nodup_le {β : Type} : ∀ {l m : List β}, l.Nodup → (∀ x ∈ l, x ∈ m) → l.length ≤ m.length
  | [], _, _, _ => Nat.zero_le _
  | x :: l, m, hn, hs => by
    rw [List.nodup_cons] at hn
    have hx : x ∈ m := hs x List.mem_cons_self
    have := nodup_le (l := l) (m := m.erase x) hn.2 (fun y hy => (List.mem_erase_of_ne (fun e => by subst e; exact hn.1 hy)).2 (hs y (List.mem_cons_of_mem _ hy)))
    rw [List.length_erase_of_mem hx] at this
    have h1 : 0 < m.length := List.length_pos_of_mem hx
    simp only [List.length_cons]
    omega
theorem Col.room {D : DataW Value} {left : Lit → Bool} {ss : List Spot} {w : World} {b n : Nat} (hown : w.ownsMap Tryz.prog 77 rawE b n D) (h : Col D left ss) : ss.length ≤ n := by
  refine Nat.le_trans ?_ hown.size_le
  obtain ⟨es, hD, _⟩ := hown.keysOf
  subst hD
  have h1 : (ss.map lkSpot).length ≤ (es.map (·.1)).length := by
    refine nodup_le ?_ ?_
    · refine List.pairwise_map.2 (h.1.imp_of_mem fun {p q} hp hq hne e => hne ?_)
      exact lkSpot_inj (h.2.1 q hq) p e
    · intro l hl
      obtain ⟨x, hx, rfl⟩ := List.mem_map.1 hl
      have hh := ((h.2.2 x (h.2.1 x hx)).1 hx).1
      rw [show has (DataW.map es) (lkSpot x) = es.any (fun p => p.1.sameKey (lkSpot x)) from rfl, List.any_eq_true] at hh
      obtain ⟨p, hp, hs⟩ := hh
      refine List.mem_map.2 ⟨p, hp, ?_⟩
      rw [lkSpot_str (h.2.1 x hx)] at hs ⊢
      generalize p.1 = q at hs
      cases q <;> simp [Lit.sameKey] at hs
      rw [hs]
  simp only [List.length_map] at h1
  exact h1
/-- A map's keys, in some order. -/
def AllKeys (f : FMap) (ss : List Spot) : Prop := ss.Nodup ∧ (∀ k, k ∈ ss ↔ (f k).isSome = true) ∧ ∀ x ∈ ss, okSpot x
theorem Col.done {D : DataW Value} {left : Lit → Bool} {ss : List Spot} {w : World} {b n : Nat} {f : FMap} (hown : w.ownsMap Tryz.prog 77 rawE b n D) {m : Mem} (hs : MapSays lkSpot vStr m D f) (h : Col D left ss) (hl : ∀ kl, left kl = false) : AllKeys f ss := by
  refine ⟨h.1, fun k => ?_, h.2.1⟩
  by_cases hk : okSpot k
  · rw [h.2.2 k hk, hl]
    cases hf : f k with
    | none => rw [hs.1 k hf]; simp
    | some a => rw [(hs.2.1 k a hf).1]; simp
  · constructor
    · intro hm; exact absurd (h.2.1 k hm) hk
    · intro hf
      obtain ⟨a, ha⟩ := Option.isSome_iff_exists.1 hf
      have hh := (hs.2.1 k a ha).1
      obtain ⟨es, hD, hko⟩ := hown.keysOf
      subst hD
      rw [show has (DataW.map es) (lkSpot k) = es.any (fun p => p.1.sameKey (lkSpot k)) from rfl, List.any_eq_true] at hh
      obtain ⟨p, hp, hsk⟩ := hh
      obtain ⟨v, hv⟩ := hko p hp
      obtain ⟨x, _, e, hx⟩ := keyOf_spot_inv hv
      rw [e, lkSpot_str hx] at hsk
      unfold lkSpot at hsk
      rw [if_neg hk] at hsk
      simp [Lit.sameKey] at hsk

set_option maxRecDepth 100000 in
set_option maxHeartbeats 4000000 in
theorem keysS_gives (B b n : Nat) (f : FMap) (w : World) (hB : w.cell? ⟨B, 0, none⟩ = some (.map (some b))) (hf : GMap w b n f) :
    GivesW Tryz.prog 119 #[.pointer (some ⟨B, 0, none⟩)] (fun x => #[spotV x]) (fun pre x => pre.length < n ∧ okSpot x) (AllKeys f) w := by
  intro l J W hW hJ hY h0
  have hB1 : W.cell? ⟨B, 0, none⟩ = some (.map (some b)) := below_mem hW _ _ _ hB
  obtain ⟨D, hown, hsays⟩ := hf.below hW
  have HS := Lib.hid hsays
  have HO := Lib.hid hown
  have HY := Lib.hid hY
  have HJ := Lib.hid hJ
  have H0 := Lib.hid h0
  clear hY hJ h0 hB hf hsays hW
  refine callsIn_of_wp Tryz.func119 rfl trivial ?_ rfl
  simp only [Tryz.ntmps119, List.size_toArray, List.length_cons, List.length_nil, Nat.reduceAdd, Nat.reduceSub, Array.replicate_succ, Array.replicate_zero, List.push_toArray, List.append_toArray, List.nil_append, List.cons_append]
  gi_wp2_with (first
    | (gi_at_range; refine wpListIn_range_own _ rfl _ 74 rfl 77 9 keyS Tryz.underlying74 _ b n _ rfl hown ?_; intro w0 hrg0 hg0 hs0)
    | gi_in)
  gi_loopw [3] (fun _ wr => ∃ (left : Lit → Bool) (cnt : Nat) (ss : List Spot), wr.ranges Tryz.prog 77 rawE b W.heap.size n D left cnt ∧ Col D left ss ∧ Hid (J ss wr))
    (fun _ wr => wr.rangeLeft b W.heap.size)
  case atStart =>
    exact ⟨_, _, [], hrg0, Col.start D, Lib.hid (HJ.out [] W w0 none H0.out hg0 (fun r e => by cases e))⟩
  case round =>
    clear hrg0 hg0 hs0 H0 hown
    obtain ⟨left, cnt, ss, hrg, hC, HJs⟩ := hrel
    gi_wp2_with (first
      | (gi_at_next; refine wpListIn_next_ranges _ rfl _ rfl 77 keyS rawE spotV id (fun key kl hk => by obtain ⟨x, hx, _⟩ := keyOf_spot_inv hk; exact ⟨x, hx⟩) (fun v _ _ => ⟨v, rfl⟩) b W.heap.size n _ _ _ rfl hrg ?_ ?_)
      | gi_in)
    · intro hc0 hl0
      gi_wp2
      go_end0
      exact ⟨⟨_, rfl⟩, ss, hC.done HO.out HS.out hl0, HJs.out⟩
    · intro x1 x2 c kl yd yp w2 cnt2 hkey hlk hv hat hrg2 hlt hg2 hs2 hen
      obtain ⟨x, hx⟩ : ∃ x : Spot, x = (x1, x2) := ⟨_, rfl⟩
      rw [← hx] at hkey
      obtain ⟨x', ex, rfl, hok⟩ := keyOf_spot_inv hkey
      obtain rfl : x = x' := spotV_inj ex
      have HC2 := Lib.hid (hC.step hok hlk hat)
      have hroom : ss.length < n := by have := HC2.out.room HO.out; rw [List.length_append] at this; simp at this; omega
      have hJ2 : J ss w2 := HJ.out ss wr w2 (some W.heap.size) HJs.out hg2 (fun r e => by cases e; exact ⟨Nat.le_refl _, hrg.iter_walk⟩)
      have HJ3 := Lib.hid (fun o => HJ.out ss w2 (w2.alloc o) none hJ2 ⟨rfl, rfl, rfl, by simp, fun k hk _ => Below.heap_alloc _ _ _ hk⟩ (fun r e => by cases e))
      have HR3 := Lib.hid (fun o => hrg2.of_walks (KeepsWalks.alloc w2 o))
      have HL := Lib.hid (show w2.rangeLeft b W.heap.size < wr.rangeLeft b W.heap.size by rw [hrg2.left_eq, hrg.left_eq]; exact hlt)
      have HY3 := Lib.hid (fun o => HY.out ss x (w2.alloc o) ⟨hroom, hok⟩ (HJ3.out o))
      clear hs2 hJ2 hC hkey hlk hv hat hg2 hlt hrg ex HJs
      subst hx
      obtain ⟨fn, tmps, assign, body, hy, hR⟩ := HY3.out (.cells #[.string x1, .string x2] 77)
      gi_wp2
      refine ⟨rfl, hR.mono ?_⟩
      rintro e W3 ⟨rfl, hJ3, hk3⟩
      have HR4 := Lib.hid ((HR3.out _).of_walks hk3)
      have HJ4 := Lib.hid hJ3
      have HL2 := Lib.hid (show W3.rangeLeft b W.heap.size < wr.rangeLeft b W.heap.size by have := HL.out; rw [HR4.out.left_eq]; rw [hrg2.left_eq] at this; exact this)
      clear hJ3 hk3 hy hR hrg2 HR3 HJ3 HL
      gi_wp2
      go_roundw
      case rel => exact ⟨_, cnt2, ss ++ [(x1, x2)], HR4.out, HC2.out, HJ4⟩
      case measure => exact HL2.out
end Go.Proofs.YtbmpoecmjmmngaaGreat
/- cmp.Compare[string]. -/
namespace Go.Proofs.YtbmpoecmjmmngaaGreat
open Go.RowKit

set_option maxHeartbeats 400000 in
theorem nanStr_any (s : ByteArray) (w : World) :
    Calls Tryz.prog 98 #[.string s] w fun e w' => e = .returned (.bool false) ∧ w = w' := by
  go_enter Tryz.func98, Tryz.ntmps98
  go_wp2
  go_ret
  exact ⟨by simp, rfl⟩

set_option maxHeartbeats 400000 in
theorem cmpStr_any (s t : ByteArray) (w : World) :
    Calls Tryz.prog 67 #[.string s, .string t] w fun e w' => e = .returned (.int .i64 (cmpBytes s.toList t.toList)) ∧ w = w' := by
  have HL := Lib.hid (bytesLess_cmp s.toList t.toList)
  have HG := Lib.hid (bytesGtr_cmp s.toList t.toList)
  have hr := cmpBytes_good.range s.toList t.toList
  generalize cmpBytes s.toList t.toList = c at *
  go_enter Tryz.func67, Tryz.ntmps67
  go_wp2_with (go_at_call 98; refine (nanStr_any _ _).mono ?_; rintro e w' ⟨rfl, rfl⟩)
  · have h : Op.bytesLess s.toList t.toList = true := by assumption
    have hl := HL.out
    rw [h] at hl
    have : c = -1 := by have := of_decide_eq_true hl.symm; omega
    subst this
    go_ret
    exact ⟨rfl, rfl⟩
  · have h1 : Op.bytesLess s.toList t.toList = false := by assumption
    have h2 : (!s.toList == t.toList) = true := by assumption
    have hg := HG.out
    rw [h1, Bool.false_or, h2] at hg
    have : c = 1 := by have := of_decide_eq_true hg.symm; omega
    subst this
    go_ret
    exact ⟨rfl, rfl⟩
  · have h1 : Op.bytesLess s.toList t.toList = false := by assumption
    have h2 : (!s.toList == t.toList) = false := by assumption
    have hl := HL.out
    have hg := HG.out
    rw [h1] at hl
    rw [h1, Bool.false_or, h2] at hg
    have : c = 0 := by have := of_decide_eq_false hl.symm; have := of_decide_eq_false hg.symm; omega
    subst this
    go_ret
    exact ⟨rfl, rfl⟩

end Go.Proofs.YtbmpoecmjmmngaaGreat
/- The order of spots, walked: cmp.Or, the closure of sorted, slices.SortFunc at spots. -/
namespace Go.Proofs.YtbmpoecmjmmngaaGreat
open Go.RowKit Go.Sort

def orI (a b : Int) : Int := if a ≠ 0 then a else b
set_option maxHeartbeats 1000000 in
theorem cmpOr_any (a b : Int) (blk c : Nat) (w : World) (h0 : w.cell? ⟨blk, 0, none⟩ = some (.int .i64 a)) (h1 : w.cell? ⟨blk, 1, none⟩ = some (.int .i64 b)) :
    Calls Tryz.prog 106 #[.slice (some ⟨blk, 0, none⟩) 2 c] w fun e w' => e = .returned (.int .i64 (orI a b)) ∧ w = w' := by
  by_cases ha : a = 0
  · subst ha
    by_cases hb : b = 0
    · subst hb
      rw [show orI 0 0 = 0 from rfl]
      go_enter Tryz.func106, Tryz.ntmps106
      go_wp2
      go_loop [8] (fun i => ∃ k : Nat, k ≤ 2 ∧ i = .int .i64 k) (fun i => 2 - (intOf i).toNat)
      case atStart => exact ⟨0, by omega, rfl⟩
      case round =>
        obtain ⟨k, hk, rfl⟩ := hrel
        match k, hk with
        | 0, _ =>
          go_wp2
          go_round
          case rel => exact ⟨1, by omega, by go_num⟩
          case measure => simp [intOf]
        | 1, _ =>
          go_wp2
          go_round
          case rel => exact ⟨2, by omega, by go_num⟩
          case measure => simp [intOf]
        | 2, _ =>
          go_wp2
          go_ret
          exact ⟨rfl, rfl⟩
    · have hb' : (b != 0) = true := by simp [hb]
      rw [show orI 0 b = b from rfl]
      have HB := Lib.hid hb
      clear hb
      go_enter Tryz.func106, Tryz.ntmps106
      go_wp2
      go_loop [8] (fun i => ∃ k : Nat, k ≤ 1 ∧ i = .int .i64 k) (fun i => 2 - (intOf i).toNat)
      case atStart => exact ⟨0, by omega, rfl⟩
      case round =>
        obtain ⟨k, hk, rfl⟩ := hrel
        match k, hk with
        | 0, _ =>
          go_wp2
          go_round
          case rel => exact ⟨1, by omega, by go_num⟩
          case measure => simp [intOf]
        | 1, _ =>
          go_wp2
          go_ret
          exact ⟨rfl, rfl⟩
  · have ha' : (a != 0) = true := by simp [ha]
    rw [show orI a b = a from if_pos ha]
    clear ha
    go_enter Tryz.func106, Tryz.ntmps106
    go_wp2
    go_loop [8] (fun i => i = .int .i64 0) (fun i => 2 - (intOf i).toNat)
    case atStart => rfl
    case round =>
      subst hrel
      go_wp2
      go_ret
      exact ⟨rfl, rfl⟩
def cmpS (s t : ByteArray) : Int := cmpBytes s.toList t.toList
theorem cmpS_any (s t : ByteArray) (w : World) :
    Calls Tryz.prog 67 #[.string s, .string t] w fun e w' => e = .returned (.int .i64 (cmpS s t)) ∧ w = w' := cmpStr_any s t w
theorem drew_grow (w : World) (os : Array Obj) : (grow w os).drew = grow w.drew os := rfl
theorem grow_drewN1 (w : World) (os : Array Obj) : ∃ q os', grow w.drew os = grow (w.drewN q) os' := ⟨1, os, rfl⟩
set_option maxRecDepth 100000 in
set_option maxHeartbeats 4000000 in
theorem spotCmp_any (x y : Spot) (W : World) :
    Calls Tryz.prog 105 #[spotV x, spotV y] W fun e w' => e = .returned (.int .i64 (spotC x y)) ∧ ∃ q os, w' = grow (W.drewN q) os := by
  obtain ⟨x1, x2⟩ := x
  obtain ⟨y1, y2⟩ := y
  have HE := Lib.hid (show spotC (x1, x2) (y1, y2) = orI (cmpS x1 y1) (cmpS x2 y2) from rfl)
  have HG := Lib.hid (fun (o1 o2 o3 : Obj) => (show ∃ q os, (((W.alloc o1).alloc o2).drew.alloc o3) = grow (W.drewN q) os from ⟨1, #[o1] ++ #[o2] ++ #[o3], by rw [alloc_eq_grow, alloc_eq_grow, alloc_eq_grow, drew_grow, drew_grow, grow_grow, grow_grow]; rfl⟩))
  have HN := Lib.hid (fun (o1 o2 : Obj) (cs : Array Value) (T : TypeId) (f : Nat × Nat) (o : Nat) => (show (((W.alloc o1).alloc o2).drew.alloc (.cells cs T f)).cell? ⟨W.heap.size + 1 + 1, o, none⟩ = cs[o]? from by
    have := mem_cells_new ((W.alloc o1).alloc o2).drew cs T f o
    rw [show ((W.alloc o1).alloc o2).drew.heap.size = W.heap.size + 1 + 1 from by show ((W.alloc o1).alloc o2).heap.size = _; simp] at this
    exact this))
  go_enter Tryz.func105, Tryz.ntmps105
  go_wp2_with fail
  go_region_held3 (fun w' => w'.cell? ⟨W.heap.size, 0, none⟩ = some (.string x1) ∧ w'.cell? ⟨W.heap.size, 1, none⟩ = some (.string x2) ∧ w'.cell? ⟨W.heap.size + 1, 0, none⟩ = some (.string y1) ∧ w'.cell? ⟨W.heap.size + 1, 1, none⟩ = some (.string y2))
    (go_keep)
    ((first
      | (go_at_call 67; refine (cmpS_any _ _ _).mono ?_; rintro e w2 ⟨rfl, rfl⟩)
      | (go_at_call 106; refine (cmpOr_any (cmpS x1 y1) (cmpS x2 y2) _ _ _ (HN.out _ _ _ _ _ 0) (HN.out _ _ _ _ _ 1)).mono ?_; rintro e w2 ⟨rfl, rfl⟩)))
  all_goals
    go_wp2
    go_ret
    exact ⟨by rw [HE.out] <;> rfl, HG.out _ _ _⟩
end Go.Proofs.YtbmpoecmjmmngaaGreat
/- slices.SortFunc, Collect, SortedFunc at spots: a map's keys, ascending. -/
namespace Go.Proofs.YtbmpoecmjmmngaaGreat
open Go.RowKit Go.Shelf Go.Maps Go.Sort

theorem swoSpot : SWO (ltOf spotC) := by
  have g := spotC_good
  refine ⟨fun x => ?_, fun x y z h1 h2 => ?_, fun x y z h1 h2 => ?_⟩ <;> unfold ltOf at *
  · rw [g.refl]; rfl
  · simp only [decide_eq_true_eq] at *
    exact g.lt_trans h1 h2
  · simp only [decide_eq_false_iff_not, Int.not_lt] at *
    have a1 := g.anti x y
    have a2 := g.anti y z
    have a3 := g.anti x z
    have := (g.trans z y x (by omega) (by omega)).1
    omega
def encSpot (x : Spot) : List Value := [.string x.1, .string x.2]
theorem aggSpot (w : World) : (isAgg (Tryz.sort118_ren.t 24)).run Tryz.prog w = .ok true w := Tryz.isAgg77 w
theorem sizeSpot (w : World) : (Go.sizeOf (Tryz.sort118_ren.t 24)).run Tryz.prog w = .ok 2 w := Tryz.sizeOf77 w
theorem cmpLays (blk off size : Nat) (w : World) : CmpLays Tryz.prog 105 #[] encSpot 2 spotC blk off size w :=
  fun _ _ _ _ x y => spotCmp_any x y _
instance : Inhabited Spot := ⟨(⟨#[]⟩, ⟨#[]⟩)⟩
theorem sortWorld_keeps (w : World) (blk off m : Nat) (d : Array Spot) (os : Array Obj) : Keeps (fun k => k = blk) w (sortWorldK encSpot 2 w blk off m d os) := by
  refine ⟨rfl, rfl, rfl, ?_, fun k hk hne => ?_⟩
  · show w.heap.size ≤ ((w.heap.modify blk _) ++ os).size
    simp
  · show ((w.heap.modify blk _) ++ os)[k]? = w.heap[k]?
    rw [Array.getElem?_append_left (by simpa using hk), Array.getElem?_modify, if_neg (fun e => hne e.symm)]
theorem holds_rv {w : World} {blk off : Nat} {d : Array Spot} {cap : Nat} (h : HoldsK encSpot 2 w blk off d) (hc : d.size ≤ cap) (hm : cap ≤ maxLen) {S : Nat → Prop} (hS : S blk) : tSpots.rv ((mem w).on S) [.slice (some ⟨blk, off, none⟩) d.size cap] d.toList := by
  refine ⟨some ⟨blk, off, none⟩, cap, by simp, by simpa using hc, hm, fun _ => ⟨blk, off, rfl, fun k hk => ⟨encSpot d.toList[k], fun j u hj => ?_, rfl⟩⟩⟩
  have hk' : k < d.size := by simpa using hk
  have hj2 : j < 2 := by
    have := (List.getElem?_eq_some_iff.1 hj).1
    simpa [encSpot] using this
  have := (h.cell hk' hj2).1
  refine Mem.on_some ?_ hS
  show w.cell? ⟨blk, off + k * 2 + j, none⟩ = some u
  rw [this]
  congr 1
  rw [getElem!_pos d k hk']
  rw [show d.toList[k] = d[k] by simp] at hj
  rw [List.getElem!_eq_getElem?_getD, hj]
  rfl
theorem owns_holds {w : World} {B blk cap : Nat} {o : Nat} {ss : List Spot} (h : Owns tSpot w B 77 (.slice (some ⟨blk, o, none⟩) ss.length cap) ss) : o = 0 ∧ B ≤ blk ∧ blk < w.heap.size ∧ HoldsK encSpot 2 w blk 0 ss.toArray := by
  have hrv := h.rv'
  obtain ⟨css, g1, ⟨g2, g3⟩, g4, g5⟩ := h
  rcases g3 with ⟨g3, _⟩ | ⟨g, cap', cur, e, hB, hg, _⟩
  · cases g3
  · injection e with e1 e2 e3
    injection e1 with e1
    injection e1 with e1 e4 e5
    subst e1; subst e4
    refine ⟨rfl, hB, (Array.getElem?_eq_some_iff.1 hg).1, fun t ht => ?_⟩
    have ht' : t < ss.length * 2 := by simpa using ht
    have hk : t / 2 < ss.length := by omega
    obtain ⟨b', o', e', cs, hat, hcs⟩ := slice_at hrv hk
    injection e' with e1
    injection e1 with e1 e4 e5
    subst e1; subst e4
    have hc := hat (t % 2) ((encSpot ss[t / 2])[t % 2]!) (by
      have h2 : t % 2 < 2 := Nat.mod_lt _ (by omega)
      rw [show cs = encSpot ss[t / 2] from hcs, List.getElem!_eq_getElem?_getD, List.getElem?_eq_getElem (show t % 2 < (encSpot ss[t / 2]).length from h2)]
      rfl)
    have he : 0 + t / 2 * tSpot.sz + t % 2 = 0 + t := by show 0 + t / 2 * 2 + t % 2 = _; omega
    rw [he] at hc
    refine ⟨?_, frozen_cells hg _⟩
    rw [get_flatK _ _ _ _ (by simpa using ht')]
    have hx : (ss.toArray)[t / 2]! = ss[t / 2] := by rw [getElem!_pos ss.toArray (t / 2) (by simpa using hk)]; simp
    rw [hx]
    exact hc
set_option maxRecDepth 100000 in
set_option maxHeartbeats 2000000 in
theorem sortSpots_any (base : Nat) (v : Value) (ss : List Spot) (w : World) (h : Owns tSpot w base 77 v ss) (hn : ss.length ≤ 1000000000) :
    Calls Tryz.prog 118 #[v, .func (.func 105) #[] #[]] w fun e w' => e = .returned (.tuple #[]) ∧
      ∃ tt, tt.Perm ss ∧ tt.Pairwise (fun a b => spotC a b ≤ 0) ∧ tSpots.rv ((mem w').on (base ≤ ·)) [v] tt ∧ Keeps (fun k => base ≤ k) w w' ∧ ∀ k, v.ownBlock = some k → ∃ cur, w'.heap[k]? = some (.cells cur 77 (0, 0)) := by
  obtain ⟨au, cu, rfl, hlc, hmc, _⟩ := slice_form h.rv'
  cases au with
  | none =>
    have h0 : ss = [] := by
      obtain ⟨css, h1, ⟨h2, h3⟩, h4, h5⟩ := h
      rcases h3 with ⟨e, h3⟩ | ⟨g, cap, cur, e, _⟩
      · injection e with _ e _
        exact List.eq_nil_of_length_eq_zero e
      · injection e with e; cases e
    subst h0
    refine (AnyF.slices_SortFunc_none (P := Tryz.prog) (ρ := Tryz.sort118_ren) { Tryz.sort118 with } none cu _ w).mono ?_
    rintro e w' ⟨rfl, rfl⟩
    obtain ⟨css, h1, ⟨h2, h3⟩, h4, h5⟩ := h
    rcases h3 with ⟨e, h3⟩ | ⟨g, cap, cur, e, _⟩
    · injection e with _ _ e
      subst e
      exact ⟨rfl, [], List.Perm.refl _, List.Pairwise.nil, slice_nil _ _, Keeps.refl _ _, fun k e => (by cases e)⟩
    · injection e with e; cases e
  | some a =>
    obtain ⟨blk, o, sp⟩ := a
    have hsp : sp = none := by
      obtain ⟨css, h1, ⟨h2, h3⟩, h4, h5⟩ := h
      rcases h3 with ⟨e, h3⟩ | ⟨g, cap, cur, e, _⟩
      · injection e with e; cases e
      · injection e with e; injection e with e; injection e
    subst hsp
    obtain ⟨rfl, hB, hlt, hH⟩ := owns_holds h
    refine (AnyQ.slices_SortFunc (P := Tryz.prog) (ρ := Tryz.sort118_ren) Tryz.sort118 2 aggSpot sizeSpot encSpot (fun _ => rfl) (fun x v hv => by simp [encSpot] at hv; rcases hv with rfl | rfl <;> rfl) spotC swoSpot
      105 #[] blk 0 cu ss.toArray w (fun _ _ => rfl) (cmpLays _ _ _ _) hH hlt (by simp; omega)).mono ?_
    rintro e w' ⟨rfl, d, n, os, ⟨hsz, _, hp⟩, hsrt, rfl⟩
    have hszl : d.size = ss.length := by simpa using hsz
    have hperm : d.toList.Perm ss := by
      have e1 : d.extract 0 ss.toArray.size = d := by rw [List.size_toArray, ← hszl]; simp
      rw [e1] at hp
      simpa using hp
    refine ⟨rfl, d.toList, hperm, ?_, ?_, (sortWorld_keeps _ _ _ _ _ _).wide (fun k _ e => by subst e; exact hB), fun k e => ?_⟩
    · rw [List.pairwise_iff_getElem]
      intro i j hi hj hij
      have hj' : j < d.size := by simpa using hj
      have hi' : i < d.size := by omega
      have := hsrt i j (Nat.zero_le _) hij (by simp; omega)
      rw [getElem!_pos d j hj', getElem!_pos d i hi'] at this
      unfold ltOf at this
      simp only [decide_eq_false_iff_not, Int.not_lt] at this
      have ha := spotC_good.anti d[i] d[j]
      simp only [Array.getElem_toList]
      omega
    · have hh : HoldsK encSpot 2 (sortWorldK encSpot 2 w blk 0 n d os) blk 0 d := holdsK_grow _ _ _ os blk 0 d (by show blk < (w.heap.modify blk _).size; simpa using hlt) (holdsK_putRowK _ _ _ _ _ _ d (holdsK_ahead _ _ _ n _ _ _ hH) hsz)
      have := holds_rv (cap := cu) hh (by omega) hmc (S := (base ≤ ·)) hB
      rw [hszl] at this
      exact this
    · obtain rfl : blk = k := by injection e
      obtain ⟨css, _, ⟨_, h3⟩, _⟩ := h
      rcases h3 with ⟨e, _⟩ | ⟨g, cap, cur, e, _, hg, _⟩
      · injection e with e; cases e
      · injection e with e1
        injection e1 with e1
        injection e1 with e1
        subst e1
        refine ⟨putCells id 0 (flatK encSpot 2 d) cur, ?_⟩
        show ((w.heap.modify blk _) ++ os)[blk]? = _
        rw [Array.getElem?_append_left (by simpa using hlt), Array.getElem?_modify, if_pos rfl, hg]
        rfl
/-- A map's keys, ascending: SortedFunc over Keys. -/
theorem Keysof.of {f : FMap} {ss tt : List Spot} (h : AllKeys f ss) (hp : tt.Perm ss) (hs : tt.Pairwise (fun a b => spotC a b ≤ 0)) : Keysof f tt := by
  refine ⟨?_, fun k => (hp.mem_iff).trans (h.2.1 k)⟩
  have hn : tt.Nodup := hp.nodup_iff.2 h.1
  refine (hs.and hn).imp fun {a b} h => ?_
  have := spotC_good.range a b
  by_cases h0 : spotC a b = 0
  · exact absurd (spotC_eq h0) h.2
  · omega
set_option maxRecDepth 100000 in
set_option maxHeartbeats 2000000 in
theorem sortedSpots_any (B b n : Nat) (f : FMap) (w : World) (hB : w.cell? ⟨B, 0, none⟩ = some (.map (some b))) (hf : GMap w b n f) (hn : n ≤ 1000000000) :
    Calls Tryz.prog 103 #[.func (.func 119) #[] #[.pointer (some ⟨B, 0, none⟩)], .func (.func 105) #[] #[]] w
      fun e w' => ∃ v ss, e = .returned v ∧ Keysof f ss ∧ (∀ x ∈ ss, okSpot x) ∧ ss.length ≤ n ∧ tSpots.rv ((mem w').on (w.heap.size ≤ ·)) [v] ss ∧ Below w.heap.size w w' ∧ (∀ k, v.ownBlock = some k → ∃ cur, w'.heap[k]? = some (.cells cur 77 (0, 0))) := by
  have HK := Lib.hid (fun wr (h : Below w.heap.size w wr) => appendSeqS_any 119 #[.pointer (some ⟨B, 0, none⟩)] (fun pre x => pre.length < n ∧ okSpot x) (AllKeys f) n wr (fun _ _ => rfl)
    (keysS_gives B b n f wr (below_mem h _ _ _ hB) (hf.below h)) (fun _ _ h => h.1) hn)
  have HC := Lib.hid (fun wr (h : Below w.heap.size w wr) => (show Calls Tryz.prog 117 #[.func (.func 119) #[] #[.pointer (some ⟨B, 0, none⟩)]] wr
      fun e w' => ∃ v ss, e = .returned v ∧ AllKeys f ss ∧ Owns tSpot w' wr.heap.size 77 v ss ∧ Below wr.heap.size wr w' from by
    go_enter Tryz.func117, Tryz.ntmps117
    go_wp2_with fail
    refine (HK.out _ h).mono ?_
    rintro e w1 ⟨v, ss, rfl, h1, h2, h3⟩
    obtain ⟨a1, c1, rfl, _⟩ := h2.len
    go_wp2
    go_ret
    exact ⟨_, ss, rfl, h1, h2, h3⟩))
  have HD := Lib.hid (show ∀ ss, AllKeys f ss → ss.length ≤ n from fun ss h => by
    obtain ⟨D, hown, hs⟩ := hf
    have : Col D (fun _ => false) ss := ⟨h.1, h.2.2, fun x hx => by
      rw [h.2.1 x]
      cases hfx : f x with
      | none => rw [hs.1 x hfx]; simp
      | some a => rw [(hs.2.1 x a hfx).1]; simp⟩
    exact this.room hown)
  clear hB hf HK
  go_enter Tryz.func103, Tryz.ntmps103
  go_wp2_with fail
  refine (HC.out _ (Below.refl _ _)).mono ?_
  rintro e w1 ⟨v, ss, rfl, h1, h2, h3⟩
  have hlen := HD.out ss h1
  have HS := Lib.hid (sortSpots_any _ _ _ _ h2 (by omega))
  have H1 := Lib.hid h1
  have H3 := Lib.hid h3
  obtain ⟨a1, c1, rfl, hml⟩ := h2.len
  clear h1 h2 h3 HC HD
  go_wp2_with fail
  refine HS.out.mono ?_
  rintro e w2 ⟨rfl, tt, hp, hs, hrv, hk, hty⟩
  have HTY := Lib.hid hty
  clear hty
  have HR := Lib.hid hrv
  have HF := Lib.hid (Keysof.of H1.out hp hs)
  have HO := Lib.hid (show ∀ x ∈ tt, okSpot x from fun x hx => H1.out.2.2 x (hp.mem_iff.1 hx))
  have hl2 := hp.length_eq
  have HB := Lib.hid (Keeps.belowStep H3.out hk (fun k h => h) H3.out.size)
  clear hp hs hrv hk H1 H3 HS
  go_wp2
  go_ret
  exact ⟨_, tt, rfl, HF.out, HO.out, by omega, HR.out, HB.out, HTY.out⟩
end Go.Proofs.YtbmpoecmjmmngaaGreat
/- A range over a function whose iterator only makes blocks of its own; the rounds change no block of the kinds `ok` (so the iterator's own rows stay); no round leaves early. -/
namespace Go.Proofs.YtbmpoecmjmmngaaGreat
open Go.RowKit

/-- The blocks of the kinds ok stay. -/
structure KeepsB (ok : Obj → Bool) (W W' : World) : Prop where
  size : W.heap.size ≤ W'.heap.size
  same : ∀ (k : Nat) (o : Obj), W.heap[k]? = some o → ok o = true → W'.heap[k]? = some o
theorem KeepsB.refl (ok : Obj → Bool) (W : World) : KeepsB ok W W := ⟨Nat.le_refl _, fun _ _ h _ => h⟩
theorem KeepsB.trans {ok : Obj → Bool} {A B C : World} (h : KeepsB ok A B) (k : KeepsB ok B C) : KeepsB ok A C := ⟨Nat.le_trans h.size k.size, fun j o e g => k.same j o (h.same j o e g) g⟩
theorem Keeps.kinds {ok : Obj → Bool} {F : Nat → Prop} {W W' : World} (h : Keeps F W W') (hF : ∀ (k : Nat) (o : Obj), F k → W.heap[k]? = some o → ok o = false) : KeepsB ok W W' :=
  ⟨h.size, fun k o e g => (h.block k (Array.getElem?_eq_some_iff.1 e).1 (fun hk => by rw [hF k o hk e] at g; cases g)).trans e⟩
theorem KeepsB.putObj {ok : Obj → Bool} {W : World} {l : Nat} {o : Obj} (o' : Obj) (h : W.heap[l]? = some o) (hn : ok o = false) : KeepsB ok W (W.putObj l o') :=
  Keeps.kinds (F := fun k => k = l) (Keeps.put rfl) (fun k u e hu => by subst e; rw [h] at hu; cases hu; exact hn)
/-- The iterator hands elements in turn, each as the values Enc, so that Stp holds of those before and this one, and Fin of all at last. -/
def GivesB (ok : Obj → Bool) {α : Type} (P : Program) (gf : Nat) (lb : Array Value) (Enc : α → Array Value) (Stp : List α → α → Prop) (Fin : List α → Prop) (w : World) : Prop :=
  ∀ (l : Nat) (J : List α → World → Prop) (W : World), Below w.heap.size w W → (∀ s A B, J s A → Below A.heap.size A B → J s B) →
    (∀ pre x W1, Stp pre x → J pre W1 → YieldAt Fence.wide 0 P l (Enc x) W1 fun e W' => e = .returned (.bool true) ∧ J (pre ++ [x]) W' ∧ KeepsB ok W1 W') →
    J [] W → CallsIn Fence.wide 0 P gf (#[.func (.yield l) #[] #[]] ++ lb) W fun e W' => (∃ v, e = .returned v) ∧ ∃ xs, Fin xs ∧ J xs W'
/-- How a round ends. -/
def roundEndB (ok : Obj → Bool) {α : Type} (I : List α → World → Prop) (s : List α) (W : World) : Exit → Act → World → Prop
  | .normal, _, W' => KeepsOthers W W' ∧ KeepsB ok W W' ∧ I s W'
  | _, _, _ => False

theorem wp_rangeB (ok : Obj → Bool) (hok : ∀ r, ok (.loop r) = false) {α : Type} {P : Program} {g : Operand} {ps : Array Tmp} {assign body : Code} {Q : Exit → Act → World → Prop} {a : Act} {w : World} {gf : Nat} {lb : Array Value}
    (hg : a.eval g = .func (.func gf) #[] lb) (eg : ∀ args w, (callFunc gf args).run P w = .ok (.enter gf args) w)
    {Enc : α → Array Value} {Stp : List α → α → Prop} {Fin : List α → Prop} {w0 : World} (hseq : GivesB ok P gf lb Enc Stp Fin w0) (hb0 : Below w0.heap.size w0 w)
    (hps : ∀ x, (Enc x).size = ps.size)
    (I : List α → World → Prop) (hI : ∀ s A B, I s A → Keeps (fun k => w.heap.size ≤ k ∧ NotCells A k) A B → I s B) (h0 : I [] w)
    (hround : ∀ (l : Nat) (pre : List α) (x : α) (W1 : World), Stp pre x → I pre W1 → w.heap.size ≤ W1.heap.size →
      assign.wpIn (Fence.wide.inRound l) 0 P (Exit.then (fun a₂ W2 => Keeps (fun _ => False) W1 W2 ∧ ∀ W3, Keeps (fun k => w.heap.size ≤ k ∧ NotCells W2 k) W2 W3 → body.wpIn (Fence.wide.inRound l) 0 P (roundEndB ok I (pre ++ [x]) W3) a₂ W3) (fun _ _ _ => False))
        { tmps := (ps.zip (Enc x)).foldl (fun t (p, v) => t.setIfInBounds p v) a.tmps, defers := [] } W1)
    (hdone : ∀ (D : Nat) (W : World) (xs : List α), Fin xs → w.heap.size ≤ D → I xs W → W.heap[D]? = some (.deferred (some [])) → Q .normal { a with defers := { target := .collected D, args := #[] } :: a.defers } W) :
    (Code.rangeFunc g ps assign body).wp P Q a w := by
  refine (wpIn_wide (n := 0)).1 (wpIn_rangeFunc (F := Fence.wide) ?_)
  intro fn hfn
  generalize hrec : (fun (st : LoopState) (pe : Option Code) => ({ state := st, pending := pe, fn := fn, tmps := a.tmps, params := ps, assign := assign, body := body, defers := w.heap.size } : Loop)) = rec
  have hr : ∀ st pe, rec st pe = { state := st, pending := pe, fn := fn, tmps := a.tmps, params := ps, assign := assign, body := body, defers := w.heap.size } := fun st pe => by rw [← hrec]
  have hst : ∀ st pe st' pe', ({ rec st pe with state := st', pending := pe' } : Loop) = rec st' pe' := fun st pe st' pe' => by rw [hr, hr]
  have hbusy : ∀ st pe st', ({ rec st pe with state := st' } : Loop) = rec st' pe := fun st pe st' => by rw [hr, hr]
  generalize hW1 : (w.alloc (.deferred (some []))).alloc (.loop (rec .ready none)) = W1
  have hD1 : W1.heap[w.heap.size]? = some (.deferred (some [])) := by
    rw [← hW1]; exact (Below.heap_alloc _ _ _ (by simp)).trans (World.alloc_heap_new w _)
  have hL1 : W1.heap[w.heap.size + 1]? = some (.loop (rec .ready none)) := by
    rw [← hW1]; have := World.alloc_heap_new (w.alloc (.deferred (some []))) (.loop (rec .ready none)); rwa [World.size_alloc] at this
  have hk1 : Keeps (fun _ => False) w W1 := by rw [← hW1]; exact ((Keeps.refl _ w).alloc _).alloc _
  have hb1 : Below w0.heap.size w0 W1 := hb0.trans (hk1.below hb0.size (fun _ h => h.elim))
  refine ⟨w.heap.size + 1, [{ target := .collected w.heap.size, args := #[] }], W1, { target := .fn (.func gf) lb, args := #[.func (.yield (w.heap.size + 1)) #[] #[]] }, W1, gf,
    #[.func (.yield (w.heap.size + 1)) #[] #[]] ++ lb, W1, ?_, ?_, fun _ _ => trivial, ?_, fun h => (by cases h), ?_⟩
  · rw [← hW1, hr]; exact run_enterLoop_outer _ _ _ _ _
  · simp only [resolve, hg]
    simp [go_sem]
  · simp [invoke, go_sem, eg]
  · refine (hseq (w.heap.size + 1) (fun pre W => I pre W ∧ W.heap[w.heap.size + 1]? = some (.loop (rec .ready none)) ∧ W.heap[w.heap.size]? = some (.deferred (some []))) W1 hb1 ?_ ?_
      ⟨hI _ _ _ h0 (hk1.wide (fun _ _ h => h.elim)), hL1, hD1⟩).mono ?_
    · rintro s A B ⟨hi, hl, hd⟩ hb
      exact ⟨hI _ _ _ hi ((below_keeps hb).wide (fun k h1 h2 => by omega)), (hb.block _ (Array.getElem?_eq_some_iff.1 hl).1).trans hl, (hb.block _ (Array.getElem?_eq_some_iff.1 hd).1).trans hd⟩
    · rintro pre x W hx ⟨hi, hl, hd⟩
      have hlt := (Array.getElem?_eq_some_iff.1 hl).1
      have hy := run_yield (P := P) (args := Enc x) hl (by rw [hr]; exact hps x)
      rw [hr] at hy
      refine ⟨fn, _, assign, body, hy, roundIn_of_wpIn hfn (wpIn_mono (hround _ pre x W hx hi (by omega)) ?_)⟩
      rintro e a1 Wa hp
      cases e with
      | ret => exact hp.elim
      | exit id => exact hp.elim
      | goto t => exact hp.elim
      | panic ch => exact hp.elim
      | outgrown => exact hp.elim
      | normal =>
      obtain ⟨hka, hpb⟩ := hp
      have hla : Wa.heap[w.heap.size + 1]? = some (.loop (rec .ready none)) := (hka.block _ hlt (fun h => h)).trans hl
      have hda : Wa.heap[w.heap.size]? = some (.deferred (some [])) := (hka.block _ (by omega) (fun h => h)).trans hd
      have hlta := (Array.getElem?_eq_some_iff.1 hla).1
      refine ⟨_, run_beginRound hla (by rw [hr]), ?_⟩
      rw [hbusy]
      generalize hW2 : Wa.putObj (w.heap.size + 1) (.loop (rec .busy none)) = W2
      have hp2 : KeepsB ok W W2 := by rw [← hW2]; exact (Keeps.kinds hka (fun _ _ h => h.elim)).trans (KeepsB.putObj _ hla (hok _))
      have hl2 : W2.heap[w.heap.size + 1]? = some (.loop (rec .busy none)) := by rw [← hW2]; exact World.putObj_heap_same hlta
      have hd2 : W2.heap[w.heap.size]? = some (.deferred (some [])) := by rw [← hW2]; exact (World.putObj_heap_other (by omega)).trans hda
      refine wpIn_mono (hpb W2 (by rw [← hW2]; exact Keeps.put ⟨by omega, _, hla, rfl⟩)) ?_
      rintro e a3 W3 hp
      cases e with
      | normal =>
        obtain ⟨hk3, hw3, hi3⟩ := hp
        have hl3 := hk3.same _ _ hl2 rfl
        have hd3 := hk3.same _ _ hd2 rfl
        have hlt3 := (Array.getElem?_eq_some_iff.1 hl3).1
        refine ⟨_, _, run_endRound none hl3, ⟨rfl, ⟨hI _ _ _ hi3 (Keeps.put ⟨by omega, _, hl3, rfl⟩), ?_, ?_⟩, (hp2.trans hw3).trans (KeepsB.putObj _ hl3 (hok _))⟩⟩
        · rw [hst]; exact World.putObj_heap_same hlt3
        · exact (World.putObj_heap_other (by omega)).trans hd3
      | ret => exact hp.elim
      | exit id => exact hp.elim
      | goto t => exact hp.elim
      | panic ch => exact hp.elim
      | outgrown => exact hp.elim
    · rintro e W2 ⟨⟨v, rfl⟩, xs, hfin, hi, hl, hd⟩
      have he := run_endLoop (P := P) hl (by rw [hr]; simp)
      rw [hr] at he
      exact ⟨none, _, he, hdone _ _ xs hfin (Nat.le_refl _) (hI _ _ _ hi (Keeps.put ⟨by omega, _, hl, rfl⟩)) ((World.putObj_heap_other (by omega)).trans hd)⟩
end Go.Proofs.YtbmpoecmjmmngaaGreat
/- A region that draws its order, inside a fence: what only reads may be taken first, where a condition S holds behind each operation. -/
namespace Go.Proofs.YtbmpoecmjmmngaaGreat

section
variable {F : Fence} {n : Nat} {P : Program} {ops : Array Oper} {Q : Exit → Act → World → Prop} {md : Region.Mode} {S : World → Prop}
/-- It yields v in every world that meets S, and is about to make no call. -/
def YieldsS (P : Program) (ops : Array Oper) (S : World → Prop) (o : Oper) (v : Value) (a : Act) : Prop := YieldsIf P ops S o v a ∧ ∀ w, o.about P w a.eval = none
theorem YieldsS.same {o : Oper} {v : Value} {a a' : Act} (hy : YieldsS P ops S o v a) (he : execOp a'.eval o = execOp a.eval o)
    (hw : Region.wanted o (yielded ops a'.tmps) = Region.wanted o (yielded ops a.tmps)) (hb : ∀ w, o.about P w a'.eval = o.about P w a.eval) : YieldsS P ops S o v a' :=
  ⟨hy.1.of_same he hw, fun w => (hb w).trans (hy.2 w)⟩
theorem YieldsS.run {i : Nat} {o : Oper} {v : Value} {a : Act} (hro : F.round = none) (hi : ops[i]? = some o) (hy : YieldsS P ops S o v a) {K : Act → World → Prop} {w : World} (hS : S w) (h : K (a.put o.dst v) w) : wpOpIn F n P ops Q i K a w := by
  unfold wpOpIn
  simp only [hi]
  have hab : ∀ f, o.about P w a.eval = some f → F.fn f := fun f hf => by rw [hy.2 w] at hf; cases hf
  rcases hy.1 with ⟨hw, hv⟩ | ⟨hw, rfl⟩
  · simp only [hw, if_true, Oper.wpIn, hro, Oper.semAt_none, hv w hS, Oper.uponIn]
    exact ⟨hab, h⟩
  · simp only [hw, Bool.false_eq_true, if_false]
    exact ⟨hab, h⟩
theorem wpOpIn_putS {j : Nat} {oi oj : Oper} {v : Value} (hro : F.round = none) (hj : ops[j]? = some oj) (hap : oi.apart ops oj = true) (hsi : ∀ cs b, oi.op ≠ .select cs b) (hsj : ∀ cs b, oj.op ≠ .select cs b)
    (hQ : ∀ c a w, Q (.panic c) (a.put oi.dst v) w → Q (.panic c) a w) {K : Act → World → Prop} {a : Act} {w : World} (hy : YieldsS P ops S oi v a) (h : wpOpIn F n P ops Q j K (a.put oi.dst v) w) :
    wpOpIn F n P ops Q j (fun a' w' => YieldsS P ops S oi v a' ∧ K (a'.put oi.dst v) w') a w := by
  obtain ⟨h1, h2, h3⟩ := Oper.apart_spec hap
  have keep : ∀ (b : Act), YieldsS P ops S oi v b → ∀ u, YieldsS P ops S oi v (b.put oj.dst u) := fun b hb u =>
    hb.same (execOp_put oi hsi b oj.dst u h3) (wanted_put oi b oj.dst u h3) (fun w => about_put oi w b oj.dst u h3)
  have keepD : ∀ d, YieldsS P ops S oi v { a with defers := d :: a.defers } := fun d => hy.same rfl rfl (fun _ => rfl)
  unfold wpOpIn at *
  simp only [hj] at *
  rw [wanted_put oj a oi.dst v h1, about_put oj w a oi.dst v h1] at h
  by_cases hw : Region.wanted oj (yielded ops a.tmps) = true
  · simp only [hw, if_true] at h ⊢
    unfold Oper.wpIn at *
    rw [about_put oj w a oi.dst v h1, hro, Oper.semAt_none, execOp_put oj hsj a oi.dst v h1] at h
    obtain ⟨h0, h⟩ := h
    refine ⟨h0, ?_⟩
    clear h0
    rw [hro, Oper.semAt_none]
    generalize (execOp a.eval oj).run P w = r at *
    cases r with
    | ok x w' =>
      cases x <;> simp only [Oper.uponIn] at h ⊢
      case value u => exact ⟨keep a hy u, by rw [← Act.put_comm a v u h2]; exact h⟩
      case skip => exact ⟨keep a hy _, by rw [← Act.put_comm a v undef h2]; exact h⟩
      case defer d =>
        refine ⟨keep _ (keepD d) _, ?_⟩
        rw [← Act.put_comm _ v undef h2, ← Act.put_defers]
        exact h
      case enter f args =>
        refine ⟨h.1, h.2.mono fun e w'' he => ?_⟩
        cases e with
        | returned u => exact ⟨keep a hy u, by rw [← Act.put_comm a v u h2]; exact he⟩
        | panicked c => exact hQ _ _ _ he
        | outgrown => exact he
      case row row args => exact ⟨h.1, h.2.mono fun u w'' he => ⟨keep a hy u, by rw [← Act.put_comm a v u h2]; exact he⟩⟩
      case round l f tmps assign body =>
        refine ⟨h.1, h.2.mono fun e w'' he => ?_⟩
        cases e with
        | returned u => exact ⟨keep a hy u, by rw [← Act.put_comm a v u h2]; exact he⟩
        | panicked c => exact hQ _ _ _ he
        | outgrown => exact he
    | halt x w' =>
      cases x <;> simp only [Oper.uponIn] at h ⊢
      case panic u => exact hQ _ _ _ h
  · simp only [hw] at h ⊢
    exact ⟨h.1, keep a hy _, by rw [← Act.put_comm a v undef h2]; exact h.2⟩
/-- Whatever comes up next, S holds behind it. -/
def wpAnyS (F : Fence) (n : Nat) (P : Program) (md : Region.Mode) (ops : Array Oper) (Q : Exit → Act → World → Prop) (S : World → Prop) : Nat → Array Bool → Act → World → Prop
  | 0, listed, a, w => Region.ready md ops listed = [] ∧ Q .normal a w
  | k + 1, listed, a, w => (Region.ready md ops listed = [] → Q .normal a w) ∧
      ∀ i ∈ Region.ready md ops listed, wpOpIn F n P ops Q i (fun a' w' => S w' ∧ wpAnyS F n P md ops Q S k (listed.setIfInBounds i true) a' w') a w
theorem wpAnyS.any : ∀ (k : Nat) (listed : Array Bool) (a : Act) (w : World), wpAnyS F n P md ops Q S k listed a w → wpAnyIn F n P md ops Q k listed a w
  | 0, _, _, _, h => h
  | k + 1, _, _, _, h => ⟨h.1, fun i hi => wpOpIn_mono (fun a' w' h' => wpAnyS.any k _ a' w' h'.2) (h.2 i hi)⟩
theorem wpAnyS_first {i : Nat} {oi : Oper} {v : Value} (hro : F.round = none) (hi : ops[i]? = some oi) (hsel : ∀ (j : Nat) (o : Oper) cs b, ops[j]? = some o → o.op ≠ .select cs b) (hQ : ∀ c a w, Q (.panic c) (a.put oi.dst v) w → Q (.panic c) a w) :
    ∀ (k : Nat) (listed : Array Bool) (a : Act) (w : World),
      (∀ j oj, ops[j]? = some oj → j ≠ i → listed.getD j true = false → (∀ e ∈ oj.after, Region.binds md e = true → e.on ≠ i) → oi.apart ops oj = true) →
      i ∈ Region.ready md ops listed → YieldsS P ops S oi v a → S w →
      wpAnyS F n P md ops Q S k (listed.setIfInBounds i true) (a.put oi.dst v) w → wpAnyS F n P md ops Q S (k + 1) listed a w
  | 0, listed, a, w, _, hr, hy, hS, H => by
    refine ⟨fun h => (by rw [h] at hr; cases hr), fun j hj => ?_⟩
    by_cases hji : j = i
    · subst hji; exact hy.run hro hi hS ⟨hS, H⟩
    · have := ready_mono hj hji
      rw [H.1] at this
      cases this
  | k + 1, listed, a, w, hfree, hr, hy, hS, H => by
    refine ⟨fun h => (by rw [h] at hr; cases hr), fun j hj => ?_⟩
    by_cases hji : j = i
    · subst hji; exact hy.run hro hi hS ⟨hS, H⟩
    obtain ⟨hjun, oj, hoj, hall⟩ := mem_ready.1 hj
    have hnot : ∀ e ∈ oj.after, Region.binds md e = true → e.on ≠ i := fun e he hb heq => by
      have h1 := hall e he hb
      have h0 := (mem_ready.1 hr).1
      rw [heq] at h1
      rcases Nat.lt_or_ge i listed.size with h' | h'
      · simp [h'] at h0 h1; rw [h0] at h1; cases h1
      · simp [Array.getElem?_eq_none h'] at h1
    have h2 := wpOpIn_putS hro hoj (hfree j oj hoj hji hjun hnot) (fun cs b => hsel i oi cs b hi) (fun cs b => hsel j oj cs b hoj) hQ hy (H.2 j (ready_mono hj hji))
    have hfree' : ∀ m om, ops[m]? = some om → m ≠ i → (listed.setIfInBounds j true).getD m true = false → (∀ e ∈ om.after, Region.binds md e = true → e.on ≠ i) → oi.apart ops om = true := fun m om hm hmi hun hno => by
      refine hfree m om hm hmi ?_ hno
      by_cases hjm : j = m
      · subst hjm; exact hjun
      · rw [getD_set_ne true hjm] at hun; exact hun
    refine wpOpIn_mono (fun a' w' h3 => ⟨h3.2.1, wpAnyS_first hro hi hsel hQ k (listed.setIfInBounds j true) a' w' hfree' (ready_mono hr (Ne.symm hji)) h3.1 h3.2.1 ?_⟩) h2
    rw [Array.setIfInBounds_comm _ _ hji]
    exact h3.2.2
/-- Take number i first; its value goes into temporary d. -/
theorem wpAnyS_take {k : Nat} {listed : Array Bool} {tm : Array Value} {df : List Deferred} {w : World} (i d : Nat) {oi : Oper} {v : Value} (hro : F.round = none) (hi : ops[i]? = some oi) (hd : oi.dst = some d) (hs : Region.noSelect ops = true) (hf : Region.free md ops listed i = true)
    (hr : (Region.ready md ops listed).contains i = true) (hQ : ∀ c a w, Q (.panic c) (a.put oi.dst v) w → Q (.panic c) a w) (hy : YieldsS P ops S oi v { tmps := tm, defers := df }) (hS : S w)
    (h : wpAnyS F n P md ops Q S k (listed.setIfInBounds i true) { tmps := tm.setIfInBounds d v, defers := df } w) : wpAnyS F n P md ops Q S (k + 1) listed { tmps := tm, defers := df } w :=
  wpAnyS_first hro hi (Region.noSelect_spec hs) hQ k listed _ w (Region.free_spec hi hf) (by simpa using hr) hy hS (by rw [hd]; exact h)
/-- One operation alone may come up. -/
theorem wpAnyS_one {k : Nat} {listed : Array Bool} {a : Act} {w : World} (i : Nat) (hr : Region.ready md ops listed = [i]) (h : wpOpIn F n P ops Q i (fun a' w' => S w' ∧ wpAnyS F n P md ops Q S k (listed.setIfInBounds i true) a' w') a w) :
    wpAnyS F n P md ops Q S (k + 1) listed a w :=
  ⟨fun h0 => (by rw [hr] at h0; cases h0), fun j hj => (by rw [hr] at hj; simp at hj; subst hj; exact h)⟩
/-- The one operation that may come up hands a value over to the loop's body. -/
theorem wpAnyS_yield {k : Nat} {listed : Array Bool} {tm : Array Value} {df : List Deferred} {w : World} (i d : Nat) {o : Oper} {s x : Operand} {T : Array TypeId} {l : Nat} {v u : Value} {R : World → Prop} (hro : F.round = none) (hd : F.depth = none) (hi : ops[i]? = some o)
    (hr : Region.ready md ops listed = [i]) (hg : o.guard = none) (hdst : o.dst = some d) (hop : o.op = .call { callee := .value s, args := #[x], argTypes := T }) (hs : ({ tmps := tm, defers := df } : Act).eval s = .func (.yield l) #[] #[]) (hx : ({ tmps := tm, defers := df } : Act).eval x = v)
    (hy : YieldAt F (n - 1) P l #[v] w fun e w' => e = .returned u ∧ R w') (h : ∀ w', R w' → S w' ∧ wpAnyS F n P md ops Q S k (listed.setIfInBounds i true) { tmps := tm.setIfInBounds d u, defers := df } w') : wpAnyS F n P md ops Q S (k + 1) listed { tmps := tm, defers := df } w := by
  refine wpAnyS_one i hr ?_
  obtain ⟨fn, tmps, assign, body, hyr, hR⟩ := hy
  unfold wpOpIn
  rw [hi]
  simp only
  rw [if_pos (by unfold Region.wanted; rw [hg])]
  unfold Oper.wpIn
  refine ⟨fun f hf => ?_, ?_⟩
  · unfold Oper.about at hf
    rw [hop] at hf
    simp [resolve, hs, hx, Deferred.ofValue, Sem.run_bind, Sem.run_pure, Result.andThen, Target.leads] at hf
  · have hrun : (execOp ({ tmps := tm, defers := df } : Act).eval o).run P w = .ok (.round l fn tmps assign body) w := by
      unfold execOp
      rw [hop]
      simp only [resolve, hs, hx]
      simp [invoke, Result.andThen, hyr, Sem.run_bind, hx, Deferred.ofValue, Sem.run_pure]
    rw [hro, Oper.semAt_none, hrun]
    simp only [Oper.uponIn]
    refine ⟨fun h => (by rw [hd] at h; cases h), hR.mono ?_⟩
    rintro e w' ⟨rfl, hw'⟩
    have := h w' hw'
    rw [hdst]
    exact this
theorem wpAnyS_done {listed : Array Bool} {a : Act} {w : World} (hr : Region.ready md ops listed = []) (h : Q .normal a w) : ∀ k, wpAnyS F n P md ops Q S k listed a w
  | 0 => ⟨hr, h⟩
  | _ + 1 => ⟨fun _ => h, by rw [hr]; simp⟩
theorem wpIn_regionS (S : World → Prop) {id : Nat} {a : Act} {w : World} (hm : P.follows .mixedOrders = true) (h : wpAnyS F n P .any ops Q S ops.size (Array.replicate ops.size false) a { w with drawn := w.drawn + 1 }) : (Code.region id ops true).wpIn F n P Q a w :=
  wpIn_region_any hm (wpAnyS.any _ _ _ _ h)
end
end Go.Proofs.YtbmpoecmjmmngaaGreat
/- package heap: the iterator over a group's entries. -/
namespace Go.Proofs.YtbmpoecmjmmngaaGreat
open Go.RowKit Go.Shelf Go.Maps Go.Sort
attribute [local go_sem] Oper.semAt_some

/-- An entry. -/
structure Ent where
  g : Int
  nm : ByteArray
  key : ByteArray
  val : ByteArray
deriving Inhabited
def Ent.okE (x : Ent) : Prop := inI64 x.g ∧ x.nm.size ≤ maxLen ∧ x.key.size ≤ maxLen ∧ x.val.size ≤ maxLen
def tEnt : Ty Ent := ⟨4, fun _ cs x => cs = [.int .i64 x.g, .string x.nm, .string x.key, .string x.val] ∧ x.okE, fun _ _ _ h => by rw [h.1]; rfl, fun _ _ _ _ _ h => h⟩
theorem tEnt_flat : tEnt.flat := fun _ _ _ _ h => h
abbrev tEnts : Ty (List Ent) := tSlice tEnt
abbrev Ent.v (x : Ent) : Value := .agg #[.int .i64 x.g, .string x.nm, .string x.key, .string x.val]
/-- A group's entries. -/
def entsOf (n : Int) (ss : List Spot) (f : FMap) : List Ent := ss.map fun k => ⟨n, k.1, k.2, strOr (f k)⟩
/-- Blocks that no round changes: those but the entries' and their rows' own. -/
def okB : Obj → Bool
  | .cells _ t _ => t != 22 && t != 34
  | .map .. => true
  | _ => false
theorem okB_loop (r : Loop) : okB (.loop r) = false := rfl
theorem keysCall_any (b : Nat) (w : World) :
    Calls Tryz.prog 104 #[.map (some b)] w fun e w' =>
      e = .returned (.func (.func 119) #[] #[.pointer (some ⟨w.heap.size, 0, none⟩)]) ∧ w' = w.alloc (.cells #[.map (some b)] 74) := by
  go_enter Tryz.func104, Tryz.ntmps104
  go_wp2
  go_ret
  exact ⟨rfl, rfl⟩
/-- What the iterator reads stands in blocks of the kinds ok. -/
structure ItAt (W : World) (bg bn a mb n : Nat) (sh : Bool) (num : Int) (f : FMap) : Prop where
  bg : W.heap[bg]? = some (.cells #[ptrTo a] 85 (0, 0))
  bn : W.heap[bn]? = some (.cells #[.int .i64 num] 3 (0, 0))
  ba : W.heap[a]? = some (.cells #[.map (some mb), .bool sh] 84 (0, 0))
  gm : GMap W mb n f
theorem ItAt.keeps {W W' : World} {bg bn a mb n : Nat} {sh : Bool} {num : Int} {f : FMap} (h : ItAt W bg bn a mb n sh num f) (hk : KeepsB okB W W') : ItAt W' bg bn a mb n sh num f := by
  obtain ⟨es, c, hm⟩ := h.gm.obj
  exact ⟨hk.same _ _ h.bg rfl, hk.same _ _ h.bn rfl, hk.same _ _ h.ba rfl, h.gm.at ((hk.same _ _ hm rfl).trans hm.symm)⟩
theorem keepsB_below {W W' : World} (h : Below W.heap.size W W') : KeepsB okB W W' := ⟨h.size, fun k o e _ => (h.block k (Array.getElem?_eq_some_iff.1 e).1).trans e⟩

set_option maxRecDepth 100000 in
set_option maxHeartbeats 8000000 in
theorem sorted1_gives (bg bn a mb n : Nat) (sh : Bool) (num : Int) (f : FMap) (w : World) (hI : ItAt w bg bn a mb n sh num f) (hn : n ≤ 1000000000) (hnum : inI64 num) :
    GivesB okB Tryz.prog 102 #[.pointer (some ⟨bg, 0, none⟩), .pointer (some ⟨bn, 0, none⟩)] (fun x => #[x.v])
      (fun pre x => (∃ ss post, Keysof f ss ∧ entsOf num ss f = pre ++ x :: post) ∧ pre.length < n ∧ x.okE) (fun ys => ∃ ss, Keysof f ss ∧ ys = entsOf num ss f) w := by
  intro l J W hW hJ hY h0
  have hI := hI.keeps (keepsB_below hW)
  have HY := Lib.hid hY
  have HJ := Lib.hid hJ
  have H0 := Lib.hid h0
  have HI := Lib.hid hI
  have c1 : W.cell? ⟨bg, 0, none⟩ = some (ptrTo a) := mem_cells hI.bg 0
  have c2 : W.cell? ⟨a, 0, none⟩ = some (.map (some mb)) := mem_cells hI.ba 0
  have HS := Lib.hid (fun (o : Obj) (hc : (W.alloc o).cell? ⟨W.heap.size, 0, none⟩ = some (.map (some mb))) => sortedSpots_any W.heap.size mb n f (W.alloc o) hc (hI.gm.alloc o) hn)
  clear hY hJ h0 hI
  refine callsIn_of_wp Tryz.func102 rfl trivial ?_ rfl
  simp only [Tryz.ntmps102, List.size_toArray, List.length_cons, List.length_nil, Nat.reduceAdd, Nat.reduceSub, Array.replicate_succ, Array.replicate_zero, List.push_toArray, List.append_toArray, List.nil_append, List.cons_append]
  gi_wp2
  refine ⟨trivial, rfl, ((callsIn_wide (n := 0)).2 (keysCall_any _ _)).mono ?_⟩
  rintro e w1 ⟨rfl, rfl⟩
  gi_wp2
  refine ⟨trivial, rfl, ((callsIn_wide (n := 0)).2 (HS.out _ (mem_cells_new W _ _ (0, 0) 0))).mono ?_⟩
  rintro e w2 ⟨v, ss, rfl, hks, hok, hsl, hrv, hb2, hty⟩
  have HB2 := Lib.hid (((Below.refl W.heap.size W).alloc (Nat.le_refl _) _).trans (hb2.mono (by simp)))
  have HKS := Lib.hid hks
  have HOK := Lib.hid hok
  have HRV := Lib.hid (tSpots.mono _ _ _ _ (Mem.on_le _ _) hrv)
  obtain ⟨au, cu, rfl, hlc, hmc, _⟩ := slice_form hrv
  have HTY := Lib.hid hty
  have hcu : cu ≤ 9223372036854775807 := by unfold maxLen at hmc; exact hmc
  clear hks hok hrv hb2 hty hmc HS c1 c2
  gi_wp2
  gi_loopw [15] (fun iv wr => ∃ k : Nat, k ≤ ss.length ∧ iv = .int .i64 k ∧ Hid (J ((entsOf num ss f).take k) wr) ∧ Hid (KeepsB okB w2 wr)) (fun iv _ => ss.length - (intOf iv).toNat)
  case atStart => exact ⟨0, Nat.zero_le _, rfl, Lib.hid (by rw [List.take_zero]; exact HJ.out _ _ _ H0.out HB2.out), Lib.hid (KeepsB.refl _ _)⟩
  case round =>
    obtain ⟨k, hk, rfl, HJk, HK⟩ := hrel
    by_cases hlt : k < ss.length
    · obtain ⟨b, o, rfl, cs, hat, hcs⟩ := slice_at HRV.out hlt
      have hcs : cs = [.string ss[k].1, .string ss[k].2] := hcs
      subst hcs
      obtain ⟨cur, hbk⟩ := HTY.out b rfl
      have hbk' : wr.heap[b]? = w2.heap[b]? := (HK.out.same b _ hbk rfl).trans hbk.symm
      have s0 : wr.cell? ⟨b, o + k * 2, none⟩ = some (.string ss[k].1) := (mem_of_block hbk' _).trans (hat 0 _ rfl)
      have s1 : wr.cell? ⟨b, o + k * 2 + 1, none⟩ = some (.string ss[k].2) := (mem_of_block hbk' _).trans (hat 1 _ rfl)
      have HIr := Lib.hid (HI.out.keeps (((keepsB_below HB2.out)).trans HK.out))
      have hokk := HOK.out ss[k] (List.getElem_mem hlt)
      clear hat hbk hbk'
      generalize hx : ss[k] = x at *
      obtain ⟨x1, x2⟩ := x
      have HX := Lib.hid hx
      clear hx
      gi_wp2
      generalize hW3 : wr.alloc (.cells #[.string x1, .string x2] 77) = W3
      have HV := Lib.hid (show W3.heap[wr.heap.size]? = some (.cells #[.string x1, .string x2] 77 (0, 0)) by rw [← hW3]; exact heap_alloc_new wr _)
      have HB3 := Lib.hid (show Below wr.heap.size wr W3 by rw [← hW3]; exact (Below.refl _ _).alloc (Nat.le_refl _) _)
      generalize hvb : wr.heap.size = vb at HV
      clear hW3
      have HS1 := Lib.hid (show ∀ w' : World, ItAt w' bg bn a mb n sh num f → w'.heap[vb]? = some (.cells #[.string x1, .string x2] 77 (0, 0)) →
        (fun w' : World => w'.cell? ⟨bn, 0, none⟩ = some (.int .i64 num) ∧ w'.cell? ⟨vb, 0, none⟩ = some (.string x1) ∧ w'.cell? ⟨vb, 1, none⟩ = some (.string x2) ∧ w'.cell? ⟨bg, 0, none⟩ = some (ptrTo a) ∧ w'.cell? ⟨a, 0, none⟩ = some (.map (some mb)) ∧
          (Instr.lookup 74 (.map (some mb)) (.agg #[.string x1, .string x2]) false).run Tryz.prog w' = .ok (.string (strOr (f (x1, x2)))) w') w' from fun w' h hv =>
        ⟨mem_cells h.bn 0, mem_cells hv 0, mem_cells hv 1, mem_cells h.bg 0, mem_cells h.ba 0, h.gm.look hokk⟩)
      refine wpIn_regionS (fun w' : World => w'.cell? ⟨bn, 0, none⟩ = some (.int .i64 num) ∧ w'.cell? ⟨vb, 0, none⟩ = some (.string x1) ∧ w'.cell? ⟨vb, 1, none⟩ = some (.string x2) ∧ w'.cell? ⟨bg, 0, none⟩ = some (ptrTo a) ∧ w'.cell? ⟨a, 0, none⟩ = some (.map (some mb)) ∧
          (Instr.lookup 74 (.map (some mb)) (.agg #[.string x1, .string x2]) false).run Tryz.prog w' = .ok (.string (strOr (f (x1, x2)))) w') (by kernel_rfl) ?_
      have HI3 := Lib.hid (HIr.out.keeps (keepsB_below HB3.out))
      have HS0 := HS1.out W3.drew (HI3.out.keeps ⟨Nat.le_refl _, fun _ _ h _ => h⟩) HV.out
      refine wpAnyS_take 0 19 (v := .func (.yield l) #[] #[]) rfl rfl rfl (by kernel_rfl) (by kernel_rfl) (by kernel_rfl) (fun _ _ _ h => h) ⟨.inl ⟨by rfl, ?r0⟩, fun _ => rfl⟩ HS0 ?n0
      case r0 => intro w' hS; obtain ⟨q1, q2, q3, q4, q5, q6⟩ := hS; go_simp
      simp only [List.setIfInBounds_toArray, List.set_cons_zero, List.set_cons_succ]
      refine wpAnyS_take 1 20 (v := .int .i64 num) rfl rfl rfl (by kernel_rfl) (by kernel_rfl) (by kernel_rfl) (fun _ _ _ h => h) ⟨.inl ⟨by rfl, ?r1⟩, fun _ => rfl⟩ HS0 ?n1
      case r1 => intro w' hS; obtain ⟨q1, q2, q3, q4, q5, q6⟩ := hS; go_simp
      simp only [List.setIfInBounds_toArray, List.set_cons_zero, List.set_cons_succ]
      refine wpAnyS_take 2 21 (v := .pointer (some ⟨vb, 0, none⟩)) rfl rfl rfl (by kernel_rfl) (by kernel_rfl) (by kernel_rfl) (fun _ _ _ h => h) ⟨.inl ⟨by rfl, ?r2⟩, fun _ => rfl⟩ HS0 ?n2
      case r2 => intro w' hS; obtain ⟨q1, q2, q3, q4, q5, q6⟩ := hS; go_simp
      simp only [List.setIfInBounds_toArray, List.set_cons_zero, List.set_cons_succ]
      refine wpAnyS_take 3 22 (v := .string x1) rfl rfl rfl (by kernel_rfl) (by kernel_rfl) (by kernel_rfl) (fun _ _ _ h => h) ⟨.inl ⟨by rfl, ?r3⟩, fun _ => rfl⟩ HS0 ?n3
      case r3 => intro w' hS; obtain ⟨q1, q2, q3, q4, q5, q6⟩ := hS; go_simp
      simp only [List.setIfInBounds_toArray, List.set_cons_zero, List.set_cons_succ]
      refine wpAnyS_take 4 23 (v := .pointer (some ⟨vb, 1, none⟩)) rfl rfl rfl (by kernel_rfl) (by kernel_rfl) (by kernel_rfl) (fun _ _ _ h => h) ⟨.inl ⟨by rfl, ?r4⟩, fun _ => rfl⟩ HS0 ?n4
      case r4 => intro w' hS; obtain ⟨q1, q2, q3, q4, q5, q6⟩ := hS; go_simp
      simp only [List.setIfInBounds_toArray, List.set_cons_zero, List.set_cons_succ]
      refine wpAnyS_take 5 24 (v := .string x2) rfl rfl rfl (by kernel_rfl) (by kernel_rfl) (by kernel_rfl) (fun _ _ _ h => h) ⟨.inl ⟨by rfl, ?r5⟩, fun _ => rfl⟩ HS0 ?n5
      case r5 => intro w' hS; obtain ⟨q1, q2, q3, q4, q5, q6⟩ := hS; go_simp
      simp only [List.setIfInBounds_toArray, List.set_cons_zero, List.set_cons_succ]
      refine wpAnyS_take 6 25 (v := ptrTo a) rfl rfl rfl (by kernel_rfl) (by kernel_rfl) (by kernel_rfl) (fun _ _ _ h => h) ⟨.inl ⟨by rfl, ?r6⟩, fun _ => rfl⟩ HS0 ?n6
      case r6 => intro w' hS; obtain ⟨q1, q2, q3, q4, q5, q6⟩ := hS; go_simp
      simp only [List.setIfInBounds_toArray, List.set_cons_zero, List.set_cons_succ]
      refine wpAnyS_take 7 26 (v := ptrTo a) rfl rfl rfl (by kernel_rfl) (by kernel_rfl) (by kernel_rfl) (fun _ _ _ h => h) ⟨.inl ⟨by rfl, ?r7⟩, fun _ => rfl⟩ HS0 ?n7
      case r7 => intro w' hS; obtain ⟨q1, q2, q3, q4, q5, q6⟩ := hS; go_simp
      simp only [List.setIfInBounds_toArray, List.set_cons_zero, List.set_cons_succ]
      refine wpAnyS_take 8 27 (v := .pointer (some ⟨a, 0, none⟩)) rfl rfl rfl (by kernel_rfl) (by kernel_rfl) (by kernel_rfl) (fun _ _ _ h => h) ⟨.inl ⟨by rfl, ?r8⟩, fun _ => rfl⟩ HS0 ?n8
      case r8 => intro w' hS; obtain ⟨q1, q2, q3, q4, q5, q6⟩ := hS; go_simp
      simp only [List.setIfInBounds_toArray, List.set_cons_zero, List.set_cons_succ]
      refine wpAnyS_take 9 28 (v := .map (some mb)) rfl rfl rfl (by kernel_rfl) (by kernel_rfl) (by kernel_rfl) (fun _ _ _ h => h) ⟨.inl ⟨by rfl, ?r9⟩, fun _ => rfl⟩ HS0 ?n9
      case r9 => intro w' hS; obtain ⟨q1, q2, q3, q4, q5, q6⟩ := hS; go_simp
      simp only [List.setIfInBounds_toArray, List.set_cons_zero, List.set_cons_succ]
      refine wpAnyS_take 10 29 (v := .agg #[.string x1, .string x2]) rfl rfl rfl (by kernel_rfl) (by kernel_rfl) (by kernel_rfl) (fun _ _ _ h => h) ⟨.inl ⟨by rfl, ?r10⟩, fun _ => rfl⟩ HS0 ?n10
      case r10 => intro w' hS; obtain ⟨q1, q2, q3, q4, q5, q6⟩ := hS; go_simp
      simp only [List.setIfInBounds_toArray, List.set_cons_zero, List.set_cons_succ]
      refine wpAnyS_take 11 30 (v := .string (strOr (f (x1, x2)))) rfl rfl rfl (by kernel_rfl) (by kernel_rfl) (by kernel_rfl) (fun _ _ _ h => h) ⟨.inl ⟨by rfl, ?r11⟩, fun _ => rfl⟩ HS0 ?n11
      case r11 => intro w' hS; obtain ⟨q1, q2, q3, q4, q5, q6⟩ := hS; go_simp
      simp only [List.setIfInBounds_toArray, List.set_cons_zero, List.set_cons_succ]
      refine wpAnyS_take 12 31 (v := .agg #[.int .i64 num, .string x1, .string x2, .string (strOr (f (x1, x2)))]) rfl rfl rfl (by kernel_rfl) (by kernel_rfl) (by kernel_rfl) (fun _ _ _ h => h) ⟨.inl ⟨by rfl, ?r12⟩, fun _ => rfl⟩ HS0 ?n12
      case r12 => intro w' hS; obtain ⟨q1, q2, q3, q4, q5, q6⟩ := hS; go_simp
      simp only [List.setIfInBounds_toArray, List.set_cons_zero, List.set_cons_succ]
      have hke : k < (entsOf num ss f).length := by unfold entsOf; simpa using hlt
      have hxe : (entsOf num ss f)[k] = ⟨num, x1, x2, strOr (f (x1, x2))⟩ := by
        have h1 : (entsOf num ss f)[k] = ⟨num, ss[k].1, ss[k].2, strOr (f ss[k])⟩ := by simp [entsOf]
        rw [h1, HX.out]
      have hoke : Ent.okE ⟨num, x1, x2, strOr (f (x1, x2))⟩ := ⟨hnum, hokk.1, hokk.2, by
        show (strOr (f (x1, x2))).size ≤ _
        cases hf : f (x1, x2) with
        | none => exact Nat.zero_le _
        | some v => exact HI.out.gm.val hf⟩
      have hsplit : entsOf num ss f = (entsOf num ss f).take k ++ ⟨num, x1, x2, strOr (f (x1, x2))⟩ :: (entsOf num ss f).drop (k + 1) := by
        conv => lhs; rw [← List.take_append_drop k (entsOf num ss f), List.drop_eq_getElem_cons hke, hxe]
      have hpre : ((entsOf num ss f).take k).length < n := by rw [List.length_take]; omega
      have hy := HY.out ((entsOf num ss f).take k) ⟨num, x1, x2, strOr (f (x1, x2))⟩ W3.drew ⟨⟨ss, _, HKS.out, hsplit⟩, hpre, hoke⟩ (HJ.out _ _ _ HJk.out HB3.out.drew)
      have HT := Lib.hid (show (entsOf num ss f).take (k + 1) = (entsOf num ss f).take k ++ [⟨num, x1, x2, strOr (f (x1, x2))⟩] by rw [List.take_succ_eq_append_getElem hke, hxe])
      clear hsplit hxe hoke hpre
      refine wpAnyS_yield 13 32 (l := l) (v := .agg #[.int .i64 num, .string x1, .string x2, .string (strOr (f (x1, x2)))]) (u := .bool true) (R := fun W' => J ((entsOf num ss f).take k ++ [⟨num, x1, x2, strOr (f (x1, x2))⟩]) W' ∧ KeepsB okB W3.drew W') rfl rfl rfl ?e1 rfl rfl rfl ?e2 ?e3 ?e4 ?e5
      case e1 => kernel_rfl
      case e2 => kernel_rfl
      case e3 => kernel_rfl
      case e4 => exact hy
      rintro w5 ⟨hJ5, hk5⟩
      have HI5 := Lib.hid (HI3.out.keeps (W' := w5) ((show KeepsB okB W3 W3.drew from ⟨Nat.le_refl _, fun _ _ h _ => h⟩).trans hk5))
      have HV5 := Lib.hid (hk5.same vb _ HV.out rfl)
      have HS5 := HS1.out w5 HI5.out HV5.out
      have HJ5 := Lib.hid (show J ((entsOf num ss f).take (k + 1)) w5 by rw [HT.out]; exact hJ5)
      have HK5 := Lib.hid (HK.out.trans ((keepsB_below (HB3.out.drew)).trans hk5))
      clear hJ5 hk5 HS0
      refine ⟨HS5, ?_⟩
      simp only [List.setIfInBounds_toArray, List.set_cons_zero, List.set_cons_succ]
      refine wpAnyS_take 14 33 (v := .bool false) rfl rfl rfl (by kernel_rfl) (by kernel_rfl) (by kernel_rfl) (fun _ _ _ h => h) ⟨.inl ⟨by rfl, ?r14⟩, fun _ => rfl⟩ HS5 ?n14
      case r14 => intro w' hS; go_simp
      simp only [List.setIfInBounds_toArray, List.set_cons_zero, List.set_cons_succ]
      refine wpAnyS_done (by kernel_rfl) ?_ _
      clear HS5 HS1 HI HI3 HI5 HV HV5 HX HOK HTY HRV HKS HY HJ H0 HB2 HB3 hy HT HIr
      simp only [Exit.then]
      go_at_K
      gi_wp2
      go_roundw
      case rel => exact ⟨k + 1, by omega, by go_num, HJ5, HK5⟩
      case measure => simp [intOf]; omega
    · obtain rfl : k = ss.length := by omega
      have HF := Lib.hid (show J (entsOf num ss f) wr from by have := HJk.out; rwa [List.take_of_length_le (by unfold entsOf; simp)] at this)
      clear HJk
      gi_wp2
      go_end0
      exact ⟨⟨_, rfl⟩, _, ⟨ss, HKS.out, rfl⟩, HF.out⟩
end Go.Proofs.YtbmpoecmjmmngaaGreat
/- slices.AppendSeq at entries, onto a row of the call's own. -/
namespace Go.Proofs.YtbmpoecmjmmngaaGreat
open Go.RowKit Go.Shelf
attribute [local go_sem] Oper.semAt_some

theorem infoEnt : (Tryz.prog.info? 34).map (fun i => (i.zero, i.size, i.bytes)) = some (some (.agg #[.int .i64 0, .string .empty, .string .empty, .string .empty]), tEnt.sz, 56) := by kernel_rfl
/-- What the variable of AppendSeq holds while elements come. -/
structure AppEKept (w : World) (B : Nat) (v0 : Value) (xs ps : List Ent) (W : World) : Prop where
  ex : ∃ u, W.heap[w.heap.size]? = some (.cells #[u] 22 (0, 0)) ∧ Owns tEnt W B 34 u (xs ++ ps) ∧ (u.ownBlock = v0.ownBlock ∨ ∀ k, u.ownBlock = some k → w.heap.size < k)
  kp : Keeps (fun k => some k = v0.ownBlock) w W
theorem AppEKept.keeps {w A C : World} {B : Nat} {v0 : Value} {xs ps : List Ent} {F : Nat → Prop} (h : AppEKept w B v0 xs ps A) (hk : Keeps F A C) (hF : ∀ k, F k → w.heap.size < k) (hC : ∀ k o, A.heap[k]? = some o → o.isCells = true → ¬ F k) : AppEKept w B v0 xs ps C := by
  obtain ⟨⟨u, c, o, hb⟩, hk0⟩ := h
  refine ⟨⟨u, (hk.block _ (Array.getElem?_eq_some_iff.1 c).1 (fun h => by have := hF _ h; omega)).trans c, o.keepsC tEnt_flat hk (fun k o' _ => hC k o'), hb⟩, ⟨hk.os.trans hk0.os, hk.tape.trans hk0.tape, hk.output.trans hk0.output, Nat.le_trans hk0.size hk.size, fun k h1 h2 => ?_⟩⟩
  exact (hk.block k (Nat.lt_of_lt_of_le h1 hk0.size) (fun h => by have := hF _ h; omega)).trans (hk0.block k h1 h2)
theorem owns_kind {α : Type} {t : Ty α} {w : World} {B : Nat} {e : TypeId} {v : Value} {xs : List α} (h : Owns t w B e v xs) : ∀ (j : Nat) o, v.ownBlock = some j → w.heap[j]? = some o → ∃ c, o = .cells c e (0, 0) := by
  intro j o hj ho
  obtain ⟨css, h1, ⟨h2, h3⟩, h4, h5⟩ := h
  rcases h3 with ⟨rfl, _⟩ | ⟨g, cap, cur, rfl, hg, hh, r⟩
  · cases hj
  · cases hj; rw [hh] at ho; cases ho; exact ⟨_, rfl⟩

set_option maxRecDepth 100000 in
set_option maxHeartbeats 8000000 in
theorem appendSeqE_any (gf : Nat) (lb : Array Value) (Stp : List Ent → Ent → Prop) (Fin : List Ent → Prop) (n B : Nat) (v0 : Value) (xs : List Ent) (w : World) (eg : ∀ args w, (callFunc gf args).run Tryz.prog w = .ok (.enter gf args) w)
    (hown : Owns tEnt w B 34 v0 xs) (hB : B ≤ w.heap.size)
    (hseq : GivesB okB Tryz.prog gf lb (fun x => #[x.v]) Stp Fin w) (hst : ∀ pre x, Stp pre x → pre.length < n ∧ x.okE) (hn : xs.length + n ≤ 1000000000) :
    Calls Tryz.prog 73 #[v0, .func (.func gf) #[] lb] w fun e w' => ∃ v ps, e = .returned v ∧ Fin ps ∧ Owns tEnt w' B 34 v (xs ++ ps) ∧ Keeps (fun k => some k = v0.ownBlock) w w' ∧ (v.ownBlock = v0.ownBlock ∨ ∀ k, v.ownBlock = some k → w.heap.size ≤ k) := by
  obtain ⟨a0, k0, rfl, _⟩ := hown.len
  have HL0 := Lib.hid (hown.lt)
  refine (callsIn_wide (n := 0)).1 (callsIn_of_wp_marks Tryz.func73 rfl trivial ?_ rfl)
  simp only [Tryz.ntmps73, List.size_toArray, List.length_cons, List.length_nil, Nat.reduceAdd, Nat.reduceSub, Array.replicate_succ, Array.replicate_zero, List.push_toArray, List.append_toArray, List.nil_append, List.cons_append]
  have HO := Lib.hid hown
  have HST := Lib.hid hst
  have HSQ := Lib.hid hseq
  have HEG := Lib.hid eg
  have hn1 : xs.length ≤ 1000000000 := by omega
  clear hst hseq eg hown
  generalize hv0 : Value.slice a0 xs.length k0 = v0 at *
  have HB1 := Lib.hid (show Below w.heap.size w (w.alloc (.cells #[v0] 22)) from (Below.refl _ _).alloc (Nat.le_refl _) _)
  have B0 := Lib.hid (show (w.alloc (.cells #[v0] 22)).heap[w.heap.size]? = some (.cells #[v0] 22 (0, 0)) from heap_alloc_new w _)
  subst hv0
  gi_wp2
  refine (wpIn_wide (n := 0)).2 (wp_rangeB okB okB_loop (gf := gf) (lb := lb) (by first | rfl | simp) HEG.out HSQ.out HB1.out (fun x => rfl) (fun pre W => AppEKept w B (.slice a0 xs.length k0) xs pre W) ?closed ?start ?round ?done)
  case closed =>
    intro pre A C hI hk
    refine hI.keeps hk (fun k h => ?_) (fun k o h2 h3 h => ?_)
    · have := h.1; simp at this; omega
    · obtain ⟨_, o', ho, hc⟩ := h
      rw [h2] at ho; cases ho; rw [h3] at hc; cases hc
  case start => exact ⟨⟨_, B0.out, by rw [List.append_nil]; exact HO.out.alloc _, .inl rfl⟩, (Keeps.refl _ w).alloc _⟩
  case round =>
    rintro l pre x W1 hx hI hsz1
    obtain ⟨hpl, hxok⟩ := HST.out _ _ hx
    clear hx HST HSQ
    obtain ⟨xg, x1, x2, x3⟩ := x
    have HXO := Lib.hid hxok
    clear hxok
    gi_wp2
    refine ⟨(Keeps.refl _ _).alloc _, fun W3 hk => ?_⟩
    have hV1 : (W1.alloc (.cells #[.int .i64 xg, .string x1, .string x2, .string x3] 34)).heap[W1.heap.size]? = some (.cells #[.int .i64 xg, .string x1, .string x2, .string x3] 34 (0, 0)) := heap_alloc_new W1 _
    have hI2 : AppEKept w B (.slice a0 xs.length k0) xs pre (W1.alloc (.cells #[.int .i64 xg, .string x1, .string x2, .string x3] 34)) := hI.keeps (F := fun _ => False) ((Keeps.refl _ _).alloc _) (fun k h => h.elim) (fun k o _ _ h => h.elim)
    have hI3 := hI2.keeps hk (fun k h => by have := h.1; simp at this; omega) (fun k o h2 h3 h => by
      obtain ⟨_, o', ho, hc⟩ := h
      rw [h2] at ho; cases ho; rw [h3] at hc; cases hc)
    have hV3 : W3.heap[W1.heap.size]? = some (.cells #[.int .i64 xg, .string x1, .string x2, .string x3] 34 (0, 0)) := (hk.block _ (by simp) (fun h => by
      obtain ⟨_, o', ho, hc⟩ := h
      rw [hV1] at ho; cases ho; cases hc)).trans hV1
    have v0 : W3.cell? ⟨W1.heap.size, 0, none⟩ = some (.int .i64 xg) := mem_cells hV3 0
    have v1 : W3.cell? ⟨W1.heap.size, 1, none⟩ = some (.string x1) := mem_cells hV3 1
    have v2 : W3.cell? ⟨W1.heap.size, 2, none⟩ = some (.string x2) := mem_cells hV3 2
    have v3 : W3.cell? ⟨W1.heap.size, 3, none⟩ = some (.string x3) := mem_cells hV3 3
    clear hk hI2 hI hV1 hV3
    obtain ⟨⟨u, c3, o3, hub⟩, hK3⟩ := hI3
    have HUB := Lib.hid hub
    have HK3 := Lib.hid hK3
    have hql : (xs ++ pre).length ≤ 1000000000 ∧ (xs ++ pre).length < 1000000000 := by rw [List.length_append]; omega
    have HAP := Lib.hid (show xs ++ (pre ++ [⟨xg, x1, x2, x3⟩]) = (xs ++ pre) ++ [(⟨xg, x1, x2, x3⟩ : Ent)] by rw [List.append_assoc])
    generalize xs ++ pre = qs at *
    obtain ⟨au, cu, rfl, hml⟩ := o3.len
    have c5 : W3.cell? ⟨w.heap.size, 0, none⟩ = some (.slice au qs.length cu) := mem_cells c3 0
    have f5 : W3.frozen? ⟨w.heap.size, 0, none⟩ = false := frozen_cells c3 0
    have HC3 := Lib.hid c3
    have HCU3 := Lib.hid (owns_kind o3)
    have O4 := Lib.hid o3
    have HLU := Lib.hid (o3.lt)
    have hlt5 : w.heap.size < W3.heap.size := mem_lt c5
    have hbase3 : B ≤ W3.heap.size := by omega
    clear c3 o3 hml hub hK3
    gi_wp2_with (gi_at_builtin; refine wpListIn_append_one rfl _ _ 22 rfl tEnt Tryz.underlying22 infoEnt rfl (by decide) B _ qs rfl (O4.out.alloc _) _ _ (⟨xg, x1, x2, x3⟩ : Ent) rfl [.int .i64 xg, .string x1, .string x2, .string x3] ?a2 ⟨rfl, HXO.out⟩ ?b2 ?c2 ?d2 ?e2 ?_)
    case a2 => exact fun j u hj => by match j, hj with | 0, hj => simp at hj; subst hj; simp [mem] | 1, hj => simp at hj; subst hj; simp [mem] | 2, hj => simp at hj; subst hj; simp [mem] | 3, hj => simp at hj; subst hj; simp [mem]
    case b2 => intro x hx; simp at hx; rcases hx with rfl | rfl | rfl | rfl <;> rfl
    case c2 => unfold maxLen; omega
    case d2 => omega
    case e2 => simp; omega
    intro v' W6 own6 hgrow hblk
    obtain ⟨a6, cap6, rfl, _⟩ := own6.len
    have hne6 : some w.heap.size ≠ (Value.slice au qs.length cu).ownBlock := fun h => by
      rcases HUB.out with e | e
      · have := (HL0.out _ (e ▸ h.symm)).2; omega
      · have := e _ h.symm; omega
    have i6 : W6.heap[w.heap.size]? = some (.cells #[.slice au qs.length cu] 22 (0, 0)) := (hgrow.block w.heap.size (by simp; omega) hne6).trans ((Below.heap_alloc _ _ _ (by omega)).trans HC3.out)
    have k6 : W6.cell? ⟨w.heap.size, 0, none⟩ = some (.slice au qs.length cu) := mem_cells i6 0
    have l6 : W6.frozen? ⟨w.heap.size, 0, none⟩ = false := frozen_cells i6 0
    have KG := Lib.hid (show Keeps (fun k => k = w.heap.size ∨ some k = (Value.slice au qs.length cu).ownBlock ∨ W3.heap.size ≤ k) W3 W6 from
      ((Keeps.refl _ W3).alloc _).trans ((grown_keeps hgrow).wide (fun k _ h => .inr (.inl h))))
    have I6 := Lib.hid i6
    have O6 := Lib.hid own6
    have HBK := Lib.hid (show (Value.slice a6 (qs ++ [(⟨xg, x1, x2, x3⟩ : Ent)]).length cap6).ownBlock = (Value.slice a0 xs.length k0).ownBlock ∨ ∀ k, (Value.slice a6 (qs ++ [(⟨xg, x1, x2, x3⟩ : Ent)]).length cap6).ownBlock = some k → w.heap.size < k from by
      rcases hblk with e | e
      · rcases HUB.out with g | g
        · exact .inl (e.trans g)
        · exact .inr (fun k h => g k (e ▸ h))
      · exact .inr (fun k h => by have := e k h; omega))
    clear i6 own6 hgrow hblk hne6
    gi_wp2
    have O7 := O6.out
    have HBK7 := HBK.out
    simp only [List.length_append, List.length_cons, List.length_nil, Nat.zero_add] at O7 HBK7
    generalize (Value.slice a6 (qs.length + 1) cap6) = v' at O7 HBK7
    have hset : Keeps (fun k => k = w.heap.size) W6 (W6.setCell ⟨w.heap.size, 0, none⟩ v') := (Keeps.refl (fun k => k = w.heap.size) W6).setCell (p := ⟨w.heap.size, 0, none⟩) (fun _ => rfl) _
    have KH : Keeps (fun k => k = w.heap.size ∨ some k = (Value.slice au qs.length cu).ownBlock ∨ W3.heap.size ≤ k) W3 (W6.setCell ⟨w.heap.size, 0, none⟩ v') := KG.out.trans (hset.wide (fun k _ h => .inl h))
    refine ⟨others_of_keeps KH (fun k o h1 h2 => ?_), Keeps.kinds KH (fun k o h1 h2 => ?_), ⟨⟨v', ?_, ?_, HBK7⟩, ?_⟩⟩
    · rcases h1 with h1 | h1 | h1
      · subst h1; rw [HC3.out] at h2; cases h2; rfl
      · obtain ⟨c, rfl⟩ := HCU3.out k o h1.symm h2; rfl
      · have := (Array.getElem?_eq_some_iff.1 h2).1; omega
    · rcases h1 with h1 | h1 | h1
      · subst h1; rw [HC3.out] at h2; cases h2; rfl
      · obtain ⟨c, rfl⟩ := HCU3.out k o h1.symm h2; rfl
      · have := (Array.getElem?_eq_some_iff.1 h2).1; omega
    · exact setC_block I6.out
    · rw [HAP.out]
      exact O7.keepsFlat tEnt_flat hset (fun k e h => by
        subst h
        rcases HBK7 with g | g
        · have := (HL0.out _ (g ▸ e)).2; omega
        · have := g _ e; omega)
    · refine ⟨KH.os.trans HK3.out.os, KH.tape.trans HK3.out.tape, KH.output.trans HK3.out.output, Nat.le_trans HK3.out.size KH.size, fun k h1 h2 => (KH.block k (by omega) (fun h => ?_)).trans (HK3.out.block k h1 h2)⟩
      rcases h with h | h | h
      · omega
      · rcases HUB.out with g | g
        · exact h2 (h.trans g)
        · have := g k h.symm; omega
      · omega
  case done =>
    intro D W ps hfin hDl hI hD
    obtain ⟨⟨u, c, o4, hub⟩, hK⟩ := hI
    obtain ⟨au, cu, rfl, hml⟩ := o4.len
    have c4 : W.cell? ⟨w.heap.size, 0, none⟩ = some (.slice au (xs ++ ps).length cu) := mem_cells c 0
    have O4 := Lib.hid o4
    have HK := Lib.hid hK
    have HD := Lib.hid hD
    have HUB := Lib.hid hub
    have hwD : w.heap.size < D := by simp at hDl; omega
    generalize (Value.slice au (xs ++ ps).length cu) = u at *
    clear o4 hK hD c HSQ B0 HST hub
    gi_wp2
    refine coll_end rfl rfl HD.out (fun WF hk => ⟨_, ps, rfl, hfin, ?_, ⟨hk.os.trans HK.out.os, hk.tape.trans HK.out.tape, hk.output.trans HK.out.output, Nat.le_trans HK.out.size hk.size, fun k h1 h2 => (hk.block k (Nat.lt_of_lt_of_le h1 HK.out.size) (fun h => by omega)).trans (HK.out.block k h1 h2)⟩, ?_⟩)
    · exact O4.out.keepsC tEnt_flat hk (fun k o h1 h2 h3 h => by subst h; rw [HD.out] at h2; cases h2; cases h3)
    · rcases HUB.out with g | g
      · exact .inl g
      · exact .inr (fun k h => by have := g k h; omega)
end Go.Proofs.YtbmpoecmjmmngaaGreat
/- package heap: the entries of groups. -/
namespace Go.Proofs.YtbmpoecmjmmngaaGreat
open Go.RowKit Go.Maps

/-- The entries of groups, the first one's number being n. -/
def AllOf : Int → List FMap → List Ent → Prop
  | _, [], es => es = []
  | n, f :: fs, es => ∃ ss es', Keysof f ss ∧ AllOf (n + 1) fs es' ∧ es = entsOf n ss f ++ es'
theorem AllOf.one : ∀ {n : Int} {fs : List FMap} {es es' : List Ent}, AllOf n fs es → AllOf n fs es' → es = es'
  | _, [], _, _, h, h' => by rw [show _ = [] from h, show _ = [] from h']
  | n, f :: fs, _, _, ⟨ss, es, h1, h2, e⟩, ⟨tt, es', g1, g2, e'⟩ => by rw [e, e', h1.unique g1, AllOf.one h2 g2]
theorem AllOf.snoc : ∀ {n : Int} {fs : List FMap} {es : List Ent} {f : FMap} {ss : List Spot}, AllOf n fs es → Keysof f ss → AllOf n (fs ++ [f]) (es ++ entsOf (n + fs.length) ss f)
  | n, [], es, f, ss, h, hk => by
    obtain rfl : es = [] := h
    exact ⟨ss, [], hk, rfl, by simp⟩
  | n, g :: fs, _, f, ss, ⟨tt, es, h1, h2, e⟩, hk => by
    subst e
    refine ⟨tt, _, h1, AllOf.snoc h2 hk, ?_⟩
    rw [List.append_assoc, show n + 1 + (fs.length : Int) = n + ((g :: fs).length : Int) by simp; omega]
/-- A group in memory. -/
def GrpB (w : World) (n a : Nat) (x : G) : Prop := w.heap[a]? = some (.cells (gCells x) 84 (0, 0)) ∧ GMap w x.mb n x.f
theorem GrpB.below {w w' : World} {n a : Nat} {x : G} (h : GrpB w n a x) (hb : Below w.heap.size w w') : GrpB w' n a x := ⟨(hb.block _ (Array.getElem?_eq_some_iff.1 h.1).1).trans h.1, h.2.below hb⟩
theorem sorted_any (a : Nat) (num : Int) (w : World) :
    Calls Tryz.prog 74 #[ptrTo a, .int .i64 num] w fun e w' => e = .returned (.func (.func 102) #[] #[.pointer (some ⟨w.heap.size, 0, none⟩), .pointer (some ⟨w.heap.size + 1, 0, none⟩)]) ∧
      w'.heap[w.heap.size]? = some (.cells #[ptrTo a] 85 (0, 0)) ∧ w'.heap[w.heap.size + 1]? = some (.cells #[.int .i64 num] 3 (0, 0)) ∧ Below w.heap.size w w' := by
  have hb : ∀ o o', Below w.heap.size w ((w.alloc o).alloc o') := fun o o' => ((Below.refl _ _).alloc (Nat.le_refl _) o).alloc (by simp) o'
  have h1 : ∀ o o', ((w.alloc o).alloc o').heap[w.heap.size]? = some o := fun o o' => (Below.heap_alloc _ _ _ (by simp)).trans (heap_alloc_new w o)
  have h2 : ∀ o o', ((w.alloc o).alloc o').heap[w.heap.size + 1]? = some o' := fun o o' => by
    have := heap_alloc_new (w.alloc o) o'
    rwa [World.size_alloc] at this
  go_enter Tryz.func74, Tryz.ntmps74
  go_wp2
  go_ret
  exact ⟨rfl, h1 _ _, h2 _ _, hb _ _⟩
theorem entsOf_len (n : Int) (ss : List Spot) (f : FMap) : (entsOf n ss f).length = ss.length := by simp [entsOf]
theorem Keysof.small {W : World} {b n : Nat} {f : FMap} {ss : List Spot} (h : GMap W b n f) (hk : Keysof f ss) : ss.length ≤ n := by
  obtain ⟨D, hown, hs⟩ := h
  have hok : ∀ x ∈ ss, okSpot x := fun x hx => by
    obtain ⟨a, ha⟩ := Option.isSome_iff_exists.1 ((hk.mem x).1 hx)
    have hh := (hs.2.1 x a ha).1
    obtain ⟨es, hD, hko⟩ := hown.keysOf
    subst hD
    rw [show has (DataW.map es) (lkSpot x) = es.any (fun p => p.1.sameKey (lkSpot x)) from rfl, List.any_eq_true] at hh
    obtain ⟨p, hp, hsk⟩ := hh
    obtain ⟨v, hv⟩ := hko p hp
    obtain ⟨y, _, e, hy⟩ := keyOf_spot_inv hv
    by_cases hx' : okSpot x
    · exact hx'
    · rw [e, lkSpot_str hy] at hsk
      unfold lkSpot at hsk
      rw [if_neg hx'] at hsk
      simp [Lit.sameKey] at hsk
  have hn : ss.Nodup := hk.up.imp fun {a b} h e => by subst e; have := spotC_good.refl a; omega
  have : Col D (fun _ => false) ss := ⟨hn, hok, fun x hx => by
    rw [hk.mem x]
    cases hfx : f x with
    | none => rw [hs.1 x hfx]; simp
    | some a => rw [(hs.2.1 x a hfx).1]; simp⟩
  exact this.room hown
set_option maxRecDepth 100000 in
set_option maxHeartbeats 8000000 in
theorem entries_any (l : List Nat) (g : Nat → G) (n : Nat) (num : Int) (v : Value) (w : World) (hl : tPtrs.rv (mem w) [v] l) (hg : ∀ a ∈ l, GrpB w n a (g a)) (hll : l.length ≤ 1000) (hn : n ≤ 100000) (h0 : 0 ≤ num) (h1 : num ≤ 1000000) :
    Calls Tryz.prog 36 #[v, .int .i64 num] w fun e w' => ∃ u es, e = .returned u ∧ AllOf num (l.map fun a => (g a).f) es ∧ Owns tEnt w' w.heap.size 34 u es ∧ Below w.heap.size w w' ∧ es.length ≤ l.length * n := by
  obtain ⟨a0, cap0, rfl, hlc, hmc, _⟩ := slice_form hl
  have hcap : cap0 ≤ 9223372036854775807 := by unfold maxLen at hmc; exact hmc
  have HL := Lib.hid hl
  have HG := Lib.hid hg
  clear hl hg hmc
  go_enter Tryz.func36, Tryz.ntmps36
  go_wp2
  go_loopw [5, 10] (fun ov iv wr => ∃ (k : Nat) (es : List Ent), k ≤ l.length ∧ iv = .int .i64 k ∧ es.length ≤ k * n ∧ Hid (AllOf num ((l.take k).map fun a => (g a).f) es) ∧ Hid (Owns tEnt wr w.heap.size 34 ov es) ∧ Hid (Below w.heap.size w wr)) (fun _ iv _ => l.length - (intOf iv).toNat)
  case atStart => exact ⟨0, [], Nat.zero_le _, rfl, by simp, Lib.hid rfl, Lib.hid (Owns.nil _ _ _ _), Lib.hid (Below.refl _ _)⟩
  case round =>
    obtain ⟨k, es, hk, rfl, hes, HA, HO, HB⟩ := hrel
    by_cases hlt : k < l.length
    · obtain ⟨b, o, rfl, cs, hat, hcs⟩ := slice_at HL.out hlt
      have hcs : cs = [ptrTo l[k]] := hcs
      subst hcs
      have c0 : wr.cell? ⟨b, o + k, none⟩ = some (ptrTo l[k]) := below_mem HB.out _ _ _ (by have := hat 0 _ rfl; rw [show o + k * tPtr.sz + 0 = o + k by show o + k * 1 + 0 = _; omega] at this; exact this)
      have HGK := Lib.hid ((HG.out _ (List.getElem_mem hlt)).below HB.out)
      have HT := Lib.hid (show ((l.take (k + 1)).map fun a => (g a).f) = ((l.take k).map fun a => (g a).f) ++ [(g l[k]).f] by rw [List.take_succ_eq_append_getElem hlt, List.map_append]; rfl)
      have hm2 : (k + 1) * n ≤ 1000 * 100000 := Nat.mul_le_mul (by omega) hn
      rw [Nat.add_mul, Nat.one_mul] at hm2
      clear hat
      generalize l[k] = a at *
      obtain ⟨au, cu, rfl, _⟩ := HO.out.len
      have hi : num + (k : Int) ≤ 9223372036854775807 := by omega
      have hi2 : -9223372036854775808 ≤ num + (k : Int) := by omega
      go_wp2_with fail
      refine (sorted_any a (num + k) wr).mono ?_
      rintro e w1 ⟨rfl, b1, b2, hb1⟩
      have HIT := Lib.hid (show ItAt w1 wr.heap.size (wr.heap.size + 1) a (g a).mb n (g a).sh (num + k) (g a).f from ⟨b1, b2, (HGK.out.below hb1).1, (HGK.out.below hb1).2⟩)
      have HO1 := Lib.hid (HO.out.keeps hb1)
      have HB1 := Lib.hid (pure_trans HB.out hb1)
      have hsz1 := hb1.size
      have hwz : w.heap.size ≤ wr.heap.size := HB.out.size
      clear b1 b2 hb1 c0
      have HAP := Lib.hid (appendSeqE_any 102 #[.pointer (some ⟨wr.heap.size, 0, none⟩), .pointer (some ⟨wr.heap.size + 1, 0, none⟩)]
        (fun pre x => (∃ ss post, Keysof (g a).f ss ∧ entsOf (num + k) ss (g a).f = pre ++ x :: post) ∧ pre.length < n ∧ x.okE) (fun ys => ∃ ss, Keysof (g a).f ss ∧ ys = entsOf (num + k) ss (g a).f) n w.heap.size _ es w1 (fun _ _ => rfl)
        HO1.out (by omega) (sorted1_gives _ _ _ _ _ _ _ _ w1 HIT.out (by omega) (by unfold inI64; omega)) (fun _ _ h => ⟨h.2.1, h.2.2⟩) (by omega))
      have HLT := Lib.hid HO1.out.lt
      go_wp2_with fail
      refine HAP.out.mono ?_
      rintro e w2 ⟨v2, ps, rfl, ⟨ss, hks, rfl⟩, hown2, hk2, _⟩
      have hsl : ss.length ≤ n := Keysof.small HIT.out.gm hks
      have HA2 := Lib.hid (show AllOf num ((l.take (k + 1)).map fun a => (g a).f) (es ++ entsOf (num + k) ss (g a).f) by
        rw [HT.out]
        have := HA.out.snoc hks
        rwa [List.length_map, List.length_take, Nat.min_eq_left hk] at this)
      have HO2 := Lib.hid hown2
      have HB2 := Lib.hid (Keeps.belowStep HB1.out hk2 (fun k h => (HLT.out k h.symm).1) HB1.out.size)
      have hl2 : (es ++ entsOf (num + k) ss (g a).f).length ≤ (k + 1) * n := by rw [List.length_append, entsOf_len, Nat.add_mul, Nat.one_mul]; omega
      clear hown2 hk2 hks HAP HLT HIT HA HO HO1 HB HB1 HT HGK
      obtain ⟨a2, c2, rfl, _⟩ := HO2.out.len
      go_wp2
      go_roundw
      case rel => exact ⟨k + 1, _, by omega, by go_num, hl2, HA2, Lib.hid (by have := HO2.out; rw [List.length_append] at this; exact this), HB2⟩
      case measure => simp [intOf]; omega
    · obtain rfl : k = l.length := by omega
      have HF := Lib.hid (show AllOf num (l.map fun a => (g a).f) es by have := HA.out; rwa [List.take_length] at this)
      obtain ⟨au, cu, rfl, _⟩ := HO.out.len
      clear HA
      go_wp2
      go_ret
      exact ⟨_, es, rfl, HF.out, HO.out, HB.out, hes⟩
end Go.Proofs.YtbmpoecmjmmngaaGreat
/- package heap: New. -/
namespace Go.Proofs.YtbmpoecmjmmngaaGreat
open Go.RowKit Go.Maps

theorem infoPtr : (Tryz.prog.info? 85).map (fun i => (i.zero, i.size, i.bytes)) = some (some (.pointer none), tPtr.sz, 8) := by kernel_rfl
/-- What stands there while groups are made. -/
structure NewAt (w wr : World) (cv : Value) (cur : List Nat) : Prop where
  hb : wr.heap[w.heap.size + 1]? = some (.cells #[cv, .int .i64 0, .map (some w.heap.size), .int .i64 0] 81 (0, 0))
  sm : SMap wr w.heap.size 0 (fun _ => none)
  ow : Owns tPtr wr (w.heap.size + 2) 85 cv cur
  gb : ∀ a ∈ cur, w.heap.size + 3 ≤ a ∧ wr.heap[a]? = some (.cells #[.map (some (a - 1)), .bool false] 84 (0, 0)) ∧ GMap wr (a - 1) 0 (fun _ => none)
  nd : cur.Nodup
  bl : Below w.heap.size w wr
theorem ow_kind {α : Type} {t : Ty α} {w : World} {B : Nat} {e : TypeId} {v : Value} {xs : List α} (h : Owns t w B e v xs) : ∀ (j : Nat), v.ownBlock = some j → ∃ c, w.heap[j]? = some (.cells c e (0, 0)) := by
  intro j hj
  obtain ⟨css, h1, ⟨h2, h3⟩, h4, h5⟩ := h
  rcases h3 with ⟨rfl, _⟩ | ⟨g, cap, cur, rfl, hg, hh, r⟩
  · cases hj
  · cases hj; exact ⟨_, hh⟩
theorem NewAt.add {w wr : World} {cv : Value} {cur : List Nat} (h : NewAt w wr cv cur) (o3 : Obj) {v' : Value} {W6 : World} (hown : Owns tPtr W6 (w.heap.size + 2) 85 v' (cur ++ [wr.heap.size + 1]))
    (hg : (((wr.alloc (.map #[] 0)).alloc (.cells #[.map (some wr.heap.size), .bool false] 84)).alloc o3).grownBy W6 cv.ownBlock) :
    W6.heap[w.heap.size + 1]? = some (.cells #[cv, .int .i64 0, .map (some w.heap.size), .int .i64 0] 81 (0, 0)) ∧ NewAt w (W6.setCell ⟨w.heap.size + 1, 0, none⟩ v') v' (cur ++ [wr.heap.size + 1]) := by
  have hsz : w.heap.size + 1 < wr.heap.size := (Array.getElem?_eq_some_iff.1 h.hb).1
  have hcvb : ∀ k, cv.ownBlock = some k → w.heap.size + 2 ≤ k ∧ k < wr.heap.size := h.ow.lt
  have hX : ∀ k, k < wr.heap.size → (((wr.alloc (.map #[] 0)).alloc (.cells #[.map (some wr.heap.size), .bool false] 84)).alloc o3).heap[k]? = wr.heap[k]? := fun k hk =>
    (Below.heap_alloc _ _ _ (by simp <;> omega)).trans ((Below.heap_alloc _ _ _ (by simp <;> omega)).trans (Below.heap_alloc _ _ _ hk))
  have h6 : ∀ k, k < wr.heap.size → cv.ownBlock ≠ some k → W6.heap[k]? = wr.heap[k]? := fun k hk hne => (hg.block k (by simp <;> omega) (fun e => hne e.symm)).trans (hX k hk)
  have hM : W6.heap[wr.heap.size]? = some (.map #[] 0) := (hg.block _ (by simp <;> omega) (fun e => by have := (hcvb _ e.symm).2; omega)).trans ((Below.heap_alloc _ _ _ (by simp <;> omega)).trans ((Below.heap_alloc _ _ _ (by simp)).trans (heap_alloc_new wr _)))
  have hA : W6.heap[wr.heap.size + 1]? = some (.cells #[.map (some wr.heap.size), .bool false] 84 (0, 0)) := (hg.block _ (by simp <;> omega) (fun e => by have := (hcvb _ e.symm).2; omega)).trans ((Below.heap_alloc _ _ _ (by simp)).trans (by
    have := heap_alloc_new (wr.alloc (.map #[] 0)) (.cells #[.map (some wr.heap.size), .bool false] 84)
    rwa [World.size_alloc] at this))
  have hP : W6.heap[w.heap.size + 1]? = _ := (h6 _ hsz (fun e => by have := (hcvb _ e).1; omega)).trans h.hb
  have hset : ∀ k, k ≠ w.heap.size + 1 → (W6.setCell ⟨w.heap.size + 1, 0, none⟩ v').heap[k]? = W6.heap[k]? := fun k hk => set_block_other hk
  refine ⟨hP, set_block hP, h.sm.at ((hset _ (by omega)).trans (h6 _ (by omega) (fun e => by have := (hcvb _ e).1; omega))), hown.keepsFlat tPtr_flat ((Keeps.refl (fun k => k = w.heap.size + 1) _).setCell (p := ⟨w.heap.size + 1, 0, none⟩) (fun _ => rfl) _) (fun k e h2 => by have := (hown.lt k e).1; omega), fun a ha => ?_, ?_, ?_⟩
  · rcases List.mem_append.1 ha with ha | ha
    · obtain ⟨g1, g2, g3⟩ := h.gb a ha
      have hal : a < wr.heap.size := (Array.getElem?_eq_some_iff.1 g2).1
      have hnc : cv.ownBlock ≠ some a := fun e => by
        obtain ⟨c, hc⟩ := ow_kind h.ow _ e
        rw [hc] at g2
        exact absurd (by injection g2 with g2; injection g2) (show ¬ ((85 : TypeId) = 84) by decide)
      have hnm : cv.ownBlock ≠ some (a - 1) := fun e => by
        obtain ⟨es, c, hm⟩ := g3.obj
        obtain ⟨c, hc⟩ := ow_kind h.ow _ e
        rw [hc] at hm; cases hm
      exact ⟨g1, (hset _ (by omega)).trans ((h6 a hal hnc).trans g2), g3.at ((hset _ (by omega)).trans (h6 _ (by omega) hnm))⟩
    · simp at ha
      subst ha
      refine ⟨by omega, ?_, ?_⟩
      · rw [show wr.heap.size + 1 - 1 = wr.heap.size by omega]
        exact (hset _ (by omega)).trans hA
      · rw [show wr.heap.size + 1 - 1 = wr.heap.size by omega]
        exact GMap.at (W := wr.alloc (.map #[] 0)) (MapOf.made wr) ((hset _ (by omega)).trans (hM.trans (heap_alloc_new wr _).symm))
  · refine List.nodup_append.2 ⟨h.nd, by simp, fun a ha b hb => ?_⟩
    simp at hb
    subst hb
    have := (Array.getElem?_eq_some_iff.1 (h.gb a ha).2.1).1
    omega
  · have hb3 : Below w.heap.size w (((wr.alloc (.map #[] 0)).alloc (.cells #[.map (some wr.heap.size), .bool false] 84)).alloc o3) := ((h.bl.alloc h.bl.size _).alloc (by simp <;> omega) _).alloc (by simp <;> omega) _
    have hb6 := hb3.grown hg (by simp <;> omega) (fun k e => by have := (hcvb k e).1; omega)
    exact Keeps.belowStep hb6 ((Keeps.refl (fun k => k = w.heap.size + 1) _).setCell (p := ⟨w.heap.size + 1, 0, none⟩) (fun _ => rfl) _) (fun k h => by omega) hb6.size
def HS.new (w : World) (cv : Value) (cur : List Nat) : HS := ⟨cv, cur, 0, 0, w.heap.size, 0, fun _ => none, fun a => ⟨a - 1, false, fun _ => none⟩⟩
theorem NewAt.inv {w wr : World} {cv : Value} {cur : List Nat} (h : NewAt w wr cv cur) (h0 : cur ≠ []) : HeapInv wr w.heap.size (w.heap.size + 1) (HS.new w cv cur) := by
  have hu : ∀ a, used (HS.new w cv cur) a → a ∈ cur := fun a ha => by
    rcases ha with ha | ⟨k, x, e, _⟩
    · exact ha
    · cases e
  have hpr : PRow wr cv cur := by
    obtain ⟨css, h1, ⟨h2, h3⟩, h4, h5⟩ := h.ow
    rcases h3 with ⟨_, h3⟩ | ⟨g, cap, arr, e, hg, hh, h6, h7, h8, h9⟩
    · exact absurd (List.eq_nil_of_length_eq_zero h3) h0
    · refine ⟨g, 0, cap, arr, e, h6, h7, hh, by have h8' : arr.size = cap * 1 := h8; omega, fun i hi => ?_⟩
      have hc : css[i]'(by omega) = [ptrTo cur[i]] := h5 i (by omega) hi
      have := take_cell (off := 0) (j := 0) (v := ptrTo cur[i]) (by rw [List.drop_zero]; exact h9) h1 h4 (k := i) (by omega) (by rw [hc]; rfl)
      rw [show 0 + (i * tPtr.sz + 0) = 0 + i by show 0 + (i * 1 + 0) = _; omega] at this
      simpa using this
  refine ⟨h.hb, hpr, h.sm, fun k x e => (by cases e), fun a ha => (h.gb a (hu a ha)).2, fun a b ha hb e => ?_, fun a ha e => ?_, fun k x a e => (by cases e), h.nd, ?_, h.bl.size⟩
  · have h1 := (h.gb a (hu a ha)).1
    have h2 := (h.gb b (hu b hb)).1
    have e : a - 1 = b - 1 := e
    omega
  · have h1 := (h.gb a (hu a ha)).1
    have e : a - 1 = w.heap.size := e
    omega
  · rintro k (rfl | rfl | e | ⟨a, ha, rfl | rfl⟩)
    · omega
    · exact Nat.le_refl _
    · have := (h.ow.lt k e).1; omega
    · have := (h.gb _ (hu _ ha)).1; omega
    · have h1 := (h.gb a (hu a ha)).1
      show w.heap.size ≤ a - 1
      omega
theorem view_new (w : World) (cv : Value) (cur : List Nat) : (HS.new w cv cur).view = ⟨List.replicate cur.length (fun _ => none), 0, 0, fun _ => none⟩ := by
  unfold HS.view HS.new
  simp [List.map_const']
set_option maxHeartbeats 1000000 in
theorem new_bad (n : Int) (w : World) (hn : n < 1 ∨ 128 < n) :
    Calls Tryz.prog 17 #[.int .i64 n] w fun e w' => e = .returned (.tuple #[.pointer none, .int .i64 7]) ∧ Below w.heap.size w w' := by
  by_cases h : n < 1
  · go_enter Tryz.func17, Tryz.ntmps17
    go_wp2
    go_ret2
    exact ⟨rfl, Below.refl _ _⟩
  · have h2 : 128 < n := by omega
    go_enter Tryz.func17, Tryz.ntmps17
    go_wp2
    go_ret2
    exact ⟨rfl, Below.refl _ _⟩
set_option maxRecDepth 100000 in
set_option maxHeartbeats 4000000 in
theorem new_any (n : Nat) (w : World) (h1 : 1 ≤ n) (h128 : n ≤ 128) :
    Calls Tryz.prog 17 #[.int .i64 n] w fun e w' => e = .returned (.tuple #[.pointer (some ⟨w.heap.size + 1, 0, none⟩), .int .i64 0]) ∧ ∃ r, HeapInv w' w.heap.size (w.heap.size + 1) r ∧ r.view = ⟨List.replicate n (fun _ => none), 0, 0, fun _ => none⟩ ∧ r.nn = 0 ∧ Below w.heap.size w w' := by
  have h1i : ¬ (n : Int) < 1 := by omega
  have h2i : ¬ (128 : Int) < n := by omega
  have HN0 := Lib.hid (show NewAt w ((w.alloc (.map #[] 0)).alloc (.cells #[.slice none 0 0, .int .i64 0, .map (some w.heap.size), .int .i64 0] 81)) (.slice none 0 0) [] from by
    refine ⟨?_, ?_, Owns.nil _ _ _ _, fun a h => absurd h (by simp), List.nodup_nil, ((Below.refl _ _).alloc (Nat.le_refl _) _).alloc (by simp) _⟩
    · have := heap_alloc_new (w.alloc (.map #[] 0)) (.cells #[.slice none 0 0, .int .i64 0, .map (some w.heap.size), .int .i64 0] 81)
      rwa [World.size_alloc] at this
    · exact (MapOf.made w).alloc _)
  have hmm := @run_makeMap Tryz.prog
  go_enter Tryz.func17, Tryz.ntmps17
  go_wp2
  go_loopw [15] (fun iv wr => ∃ (k : Nat) (cur : List Nat) (cv : Value), k ≤ n ∧ iv = .int .i64 k ∧ cur.length = k ∧ Hid (NewAt w wr cv cur)) (fun iv _ => n - (intOf iv).toNat)
  case atStart => exact ⟨0, [], _, Nat.zero_le _, rfl, rfl, HN0⟩
  case round =>
    clear HN0
    obtain ⟨k, cur, cv, hk, rfl, hlen, HN⟩ := hrel
    by_cases hlt : k < n
    · have hlti : (k : Int) < n := by omega
      obtain ⟨au, cu, rfl, _⟩ := HN.out.ow.len
      rw [hlen] at HN
      have c0 : wr.cell? ⟨w.heap.size + 1, 0, none⟩ = some (.slice au k cu) := mem_cells HN.out.hb 0
      have hsz : w.heap.size + 1 < wr.heap.size := mem_lt c0
      have HO := Lib.hid HN.out.ow
      go_wp2_with (at_builtin; refine wpList_append_one rfl _ _ 78 rfl tPtr Tryz.underlying78 infoPtr rfl (by decide) (w.heap.size + 2) _ cur rfl (((HO.out.alloc _).alloc _).alloc _) _ _ (wr.heap.size + 1) rfl [ptrTo (wr.heap.size + 1)] ?c1 rfl ?c2 ?c3 ?c4 ?c5 ?_)
      case c1 => exact fun j u hj => by
                  match j, hj with
                  | 0, hj =>
                    simp at hj; subst hj
                    have := mem_cells_new ((wr.alloc (.map #[] 0)).alloc (.cells #[.map (some wr.heap.size), .bool false] 84)) #[ptrTo (wr.heap.size + 1)] 85 (0, 0) 0
                    rw [World.size_alloc, World.size_alloc] at this
                    exact this
      case c2 => intro x hx; simp at hx; subst hx; rfl
      case c3 => unfold maxLen; omega
      case c4 => omega
      case c5 => simp; omega
      intro v' W6 own6 hgrow hblk
      obtain ⟨hP, HN6⟩ := NewAt.add HN.out _ own6 hgrow
      have HN6 := Lib.hid HN6
      have k6 : W6.cell? ⟨w.heap.size + 1, 0, none⟩ = some (.slice au k cu) := mem_cells hP 0
      have l6 : W6.frozen? ⟨w.heap.size + 1, 0, none⟩ = false := frozen_cells hP 0
      obtain ⟨a6, cap6, rfl, _⟩ := own6.len
      have hl6 : (cur ++ [wr.heap.size + 1]).length = k + 1 := by rw [List.length_append, hlen]; rfl
      rw [hl6] at HN6
      clear own6 hgrow hblk hP HN HO c0
      go_wp2
      go_roundw
      case rel => exact ⟨k + 1, _, _, by omega, by go_num, hl6, HN6⟩
      case measure => simp [intOf]; omega
    · obtain rfl : k = n := by omega
      have HF := Lib.hid (HN.out.inv (by intro e; rw [e] at hlen; simp at hlen; omega))
      have HVW := Lib.hid (view_new w cv cur)
      rw [hlen] at HVW
      have HB := Lib.hid HN.out.bl
      clear HN
      go_wp2
      go_ret2
      exact ⟨rfl, _, HF.out, HVW.out, rfl, HB.out⟩
end Go.Proofs.YtbmpoecmjmmngaaGreat
/- package heap: slices.Clone at groups, share, Snapshot, snapshot, Entries, Reset, Count. -/
namespace Go.Proofs.YtbmpoecmjmmngaaGreat
open Go.RowKit Go.Maps

theorem tPtr_one : ∀ m cs x, tPtr.rv m cs x → ∀ u ∈ cs, u.oneCell' = true := fun m cs x h u hu => by
  obtain rfl : cs = [ptrTo x] := h
  simp at hu; subst hu; rfl
set_option maxRecDepth 100000 in
set_option maxHeartbeats 1000000 in
theorem clonePtr_any (l : List Nat) (ad : Addr) (cap0 : Nat) (w : World) (hv : tPtrs.rv (mem w) [.slice (some ad) l.length cap0] l) (hl : l.length ≤ 1000000) :
    Calls Tryz.prog 58 #[.slice (some ad) l.length cap0] w fun e w' => ∃ x, e = .returned x ∧ Owns tPtr w' w.heap.size 85 x l ∧ Below w.heap.size w w' := by
  have hb0 : ∀ o, Below w.heap.size w (w.alloc o) := fun o => (Below.refl _ _).alloc (Nat.le_refl _) o
  have hown : ∀ T, T = 85 → Owns tPtr (w.alloc (.cells #[] T)) w.heap.size 85 (.slice (some ⟨w.heap.size, 0, none⟩) 0 0) [] := fun T hT => by
    subst hT
    exact ⟨[], rfl, World.ownsRow_lit w #[] 0 (Nat.le_refl _) (Nat.zero_le _) (by simp), fun c h => absurd h (by simp), fun k h => absurd h (by simp)⟩
  have HV := Lib.hid (fun o => (tPtrs.mono _ _ _ _ (below_mem (hb0 o)) hv : tPtrs.rv (mem (w.alloc o)) _ l))
  clear hv
  have hq := fun w => Lib.run_eql_slice_nil (P := Tryz.prog) w 78 _ (some ad) l.length cap0 0 0 Tryz.underlying78
  go_enter Tryz.func58, Tryz.ntmps58
  go_wp2_with (at_builtin; refine wpList_append_flat rfl _ _ 78 rfl tPtr_flat tPtr_one Tryz.underlying78 infoPtr rfl (by decide) w.heap.size _ [] l rfl (hown _ rfl) _ _ _ rfl rfl (HV.out _) ?c1 ?c2 ?c3 ?_)
  case c1 => simp; unfold maxLen; omega
  case c2 => simp; omega
  case c3 => simp
  intro v' w2 hown' hgrow
  have hB : Below w.heap.size w w2 := (hb0 _).grown hgrow (by simp) (fun k hk => by simp [Value.ownBlock] at hk; omega)
  clear hgrow
  obtain ⟨a2, c2, rfl, _⟩ := hown'.len
  go_wp2
  go_ret
  exact ⟨_, rfl, by simpa using hown', hB⟩
set_option maxHeartbeats 400000 in
theorem share_any (a : Nat) (x : G) (w : World) (h : w.heap[a]? = some (.cells (gCells x) 84 (0, 0))) :
    Calls Tryz.prog 57 #[ptrTo a] w fun e w' => (∃ v, e = .returned v) ∧ w' = w.setCell ⟨a, 1, none⟩ (.bool true) := by
  have c1 : w.cell? ⟨a, 1, none⟩ = some (.bool x.sh) := mem_cells h 1
  have f1 : w.frozen? ⟨a, 1, none⟩ = false := frozen_cells h 1
  clear h
  go_enter Tryz.func57, Tryz.ntmps57
  go_wp2
  go_end0
  exact ⟨⟨_, rfl⟩, rfl⟩
/-- Which snapshots there are. -/
def SnapKeys (r : HS) (ks : List Int) : Prop := ks.Nodup ∧ ∀ k, k ∈ ks ↔ (r.snaps k).isSome = true
theorem SMap.card {W : World} {b n : Nat} {f : Int → Option (Value × List Nat)} {D : DataW Value} (hown : W.ownsMap Tryz.prog 3 rawE b n D) (hs : MapSays intKey vRow (mem W) D f) {ks : List Int} (hn : ks.Nodup) (hk : ∀ k, k ∈ ks ↔ (f k).isSome = true) : Maps.size D = ks.length := by
  obtain ⟨es, hD, hpw⟩ := hown.tidy keyK
  have hko : ∀ p ∈ es, ∃ x, p.1 = .int .i64 x := fun p hp => by
    obtain ⟨es', hD', hko⟩ := hown.keysOf
    obtain rfl : es = es' := by rw [hD] at hD'; simpa using hD'
    obtain ⟨v, hv⟩ := hko p hp
    obtain ⟨x, _, hx, _⟩ := Maps.keyOf_i64 Tryz.underlying3 hv
    exact ⟨x, hx⟩
  have hh : ∀ k, k ∈ ks ↔ intKey k ∈ es.map (·.1) := fun k => by
    rw [hk]
    have h1 : Maps.has D (intKey k) = (f k).isSome := by
      cases hf : f k with
      | none => exact hs.1 k hf
      | some a => exact (hs.2.1 k a hf).1
    rw [← h1]
    subst hD
    rw [has_eq, List.any_eq_true, List.mem_map]
    constructor
    · rintro ⟨p, hp', hsk⟩
      obtain ⟨a, ha⟩ := hko p hp'
      refine ⟨p, hp', ?_⟩
      rw [ha] at hsk ⊢
      simpa [Lit.sameKey, intKey] using hsk
    · rintro ⟨p, hp', e⟩
      exact ⟨p, hp', by rw [e]; simp [Lit.sameKey, intKey]⟩
  have hd : (es.map (·.1)).Nodup := List.pairwise_map.2 (hpw.imp fun h => h)
  have h1 : (ks.map intKey).length ≤ (es.map (·.1)).length := nodup_le (List.pairwise_map.2 (hn.imp fun h e => h (intKey_inj _ _ e))) (fun l hl => by
    obtain ⟨k, hk', rfl⟩ := List.mem_map.1 hl
    exact (hh k).1 hk')
  have h2 : (es.map (·.1)).length ≤ (ks.map intKey).length := nodup_le hd (fun l hl => by
    obtain ⟨p, hp, rfl⟩ := List.mem_map.1 hl
    obtain ⟨a, ha⟩ := hko p hp
    rw [ha]
    exact List.mem_map.2 ⟨a, (hh a).2 (List.mem_map.2 ⟨p, hp, ha⟩), rfl⟩)
  subst hD
  show es.length = _
  simp only [List.length_map] at h1 h2
  omega
/-- A step that changes nothing that is told. -/
structure SameStep (W : World) (base p : Nat) (r : HS) (W' : World) (r' : HS) : Prop where
  st : HStep W base p r W' r'
  vw : r'.view = r.view
  cur : r'.cur = r.cur
  nn : r'.nn = r.nn
  cv : r'.cv = r.cv
  sm : r'.sm = r.sm
  sn : r'.snaps = r.snaps
  cn : r'.cnt = r.cnt ∧ r'.last = r.last
theorem SameStep.refl {W : World} {base p : Nat} {r : HS} (h : HeapInv W base p r) : SameStep W base p r W r := ⟨HStep.pure h (Below.refl _ _), rfl, rfl, rfl, rfl, rfl, rfl, rfl, rfl⟩
theorem SameStep.mark {W W' : World} {base p : Nat} {r r' : HS} (h : SameStep W base p r W' r') {a : Nat} (ha : a ∈ r.cur) : SameStep W base p r (W'.setCell ⟨a, 1, none⟩ (.bool true)) (r'.withG a { r'.g a with sh := true }) :=
  ⟨h.st.trans (h.st.inv.mark (.inl (by rw [h.cur]; exact ha))), (view_mark r' a).trans h.vw, h.cur, h.nn, h.cv, h.sm, h.sn, h.cn⟩
set_option maxRecDepth 100000 in
set_option maxHeartbeats 8000000 in
theorem snapshot_any {base p : Nat} {r : HS} (ks : List Int) (w : World) (hI : HeapInv w base p r) (hks : SnapKeys r ks) (h20 : ks.length ≠ 20) (hl0 : 0 ≤ r.last) (hl1 : r.last ≤ 1000000) (hnn : r.nn ≤ 1000000) (hcl : r.cur.length ≤ 1000) :
    Calls Tryz.prog 22 #[.pointer (some ⟨p, 0, none⟩)] w fun e w' =>
      e = .returned (.tuple #[.int .i64 (r.last + 1), .int .i64 0]) ∧ ∃ r', HStep w base p r w' r' ∧ r'.view = { r.view with last := r.last + 1, sn := putAt r.view.sn (r.last + 1) r.view.grps } ∧ r'.nn = r.nn + 1 ∧ r'.cur = r.cur ∧ ∃ x, r'.snaps = putAt r.snaps (r.last + 1) x := by
  have HI := Lib.hid hI
  have HKS := Lib.hid hks
  obtain ⟨b', off', cap', arr, hcv, hlc, hmx, -, -⟩ := hI.cu
  have c0 : w.cell? ⟨p, 0, none⟩ = some (.slice (some ⟨b', off', none⟩) r.cur.length cap') := by have := mem_cells hI.hb 0; rw [show (hCells r)[0]? = some r.cv from rfl, hcv] at this; exact this
  have c2 : w.cell? ⟨p, 2, none⟩ = some (.map (some r.sm)) := mem_cells hI.hb 2
  have hlen : (Builtin.len_ #[79] 3 #[.map (some r.sm)]).run Tryz.prog w = .ok (.int .i64 ks.length) w := by
    obtain ⟨D, hown, hs⟩ := hI.sn
    have := hown.len Tryz.underlying79 3
    rwa [SMap.card hown hs hks.1 hks.2] at this
  have h20i : ((ks.length : Int) == 20) = false := by simp; omega
  have hmx' : cap' ≤ 9223372036854775807 := by unfold maxLen at hmx; exact hmx
  have HCV := Lib.hid hcv
  clear hI hcv hmx hks
  obtain ⟨sm, hsm⟩ : ∃ sm, sm = r.sm := ⟨_, rfl⟩
  rw [← hsm] at c2 hlen
  have HSM := Lib.hid hsm
  clear hsm
  obtain ⟨N, hN⟩ : ∃ N, N = r.cur.length := ⟨_, rfl⟩
  have HNL := Lib.hid hN
  rw [← hN] at c0 hlc hcl
  clear hN
  go_enter Tryz.func22, Tryz.ntmps22
  go_wp2
  go_loopw [22] (fun iv wr => ∃ (k : Nat) (r1 : HS), k ≤ N ∧ iv = .int .i64 k ∧ Hid (SameStep w base p r wr r1) ∧ Hid (∀ a ∈ r.cur.take k, (r1.g a).sh = true)) (fun iv _ => N - (intOf iv).toNat)
  case atStart => exact ⟨0, r, Nat.zero_le _, rfl, Lib.hid (SameStep.refl HI.out), Lib.hid (by simp)⟩
  case round =>
    obtain ⟨k, r1, hk, rfl, HS1, HSH⟩ := hrel
    by_cases hlt : k < N
    · have hltr : k < r.cur.length := by rw [← HNL.out]; exact hlt
      have HC := Lib.hid (show wr.cell? ⟨b', off' + k, none⟩ = some (ptrTo r.cur[k]) from by
        obtain ⟨b2, o2, c2, arr2, e, _, _, hh, _, hel⟩ := HS1.out.st.inv.cu
        rw [HS1.out.cv, HCV.out] at e
        injection e with e1
        injection e1 with e1
        injection e1 with e1 e2
        subst e1; subst e2
        have h3 := hel k (by rw [HS1.out.cur]; exact hltr)
        have h4 := mem_cells hh (off' + k)
        rw [h3] at h4
        rw [show r1.cur[k]'(by rw [HS1.out.cur]; exact hltr) = r.cur[k] from by congr 1; exact HS1.out.cur] at h4
        exact h4)
      have c5 := HC.out
      have HGB := Lib.hid ((HS1.out.st.inv.gb r.cur[k] (.inl (by rw [HS1.out.cur]; exact List.getElem_mem hltr))).1)
      have HM := Lib.hid (HS1.out.mark (List.getElem_mem hltr))
      have HSH2 := Lib.hid (show ∀ a ∈ r.cur.take (k + 1), ((r1.withG r.cur[k] { r1.g r.cur[k] with sh := true }).g a).sh = true from fun a ha => by
        by_cases e : a = r.cur[k]
        · rw [e, withG_same]
        · rw [withG_other _ _ e]
          rw [List.take_succ_eq_append_getElem hltr] at ha
          rcases List.mem_append.1 ha with ha | ha
          · exact HSH.out a ha
          · simp at ha; exact absurd ha e)
      clear HC HS1 HSH
      generalize r.cur[k] = a at *
      go_wp2_with fail
      refine (share_any a (r1.g a) wr HGB.out).mono ?_
      rintro e w2 ⟨⟨v, rfl⟩, rfl⟩
      go_wp2
      go_roundw
      case rel => exact ⟨k + 1, _, by omega, by go_num, HM, HSH2⟩
      case measure => simp [intOf]; omega
    · obtain rfl : k = N := by omega
      have HSA := Lib.hid (show ∀ a ∈ r.cur, (r1.g a).sh = true from fun a ha => HSH.out a (by rw [List.take_of_length_le (by rw [← HNL.out]; omega)]; exact ha))
      have c7 : wr.cell? ⟨p, 3, none⟩ = some (.int .i64 r.last) := by have := mem_cells HS1.out.st.inv.hb 3; rw [show (hCells r1)[3]? = some (.int .i64 r1.last) from rfl, HS1.out.cn.2] at this; exact this
      have f7 : wr.frozen? ⟨p, 3, none⟩ = false := frozen_cells HS1.out.st.inv.hb 3
      have HST2 := Lib.hid (HS1.out.st.trans (HStep.own (W' := wr.setCell ⟨p, 3, none⟩ (.int .i64 (r.last + 1))) HS1.out.st.inv ((Keeps.refl (fun k => k = p) _).setCell (p := ⟨p, 3, none⟩) (fun _ => rfl) _) r1.cnt (r.last + 1) (set_block HS1.out.st.inv.hb)))
      obtain ⟨r2, hr2⟩ : ∃ r2, r2 = ({ r1 with cnt := r1.cnt, last := r.last + 1 } : HS) := ⟨_, rfl⟩
      rw [← hr2] at HST2
      have HV2 := Lib.hid (show r2.view = { r.view with last := r.last + 1 } by rw [hr2]; show ({ r1.view with last := r.last + 1 } : PS) = _; rw [HS1.out.vw])
      have HE2 := Lib.hid (show r2.cur = r.cur ∧ r2.nn = r.nn ∧ r2.cv = r.cv ∧ r2.sm = r.sm ∧ r2.snaps = r.snaps ∧ (∀ a ∈ r2.cur, (r2.g a).sh = true) by rw [hr2]; exact ⟨HS1.out.cur, HS1.out.nn, HS1.out.cv, HS1.out.sm, HS1.out.sn, fun a ha => HSA.out a (by rw [← HS1.out.cur]; exact ha)⟩)
      clear hr2 HS1 HSH HSA hlen c0 c2
      have hi1 : -9223372036854775808 ≤ r.last + 1 := by omega
      have hi2 : r.last + 1 ≤ 9223372036854775807 := by omega
      go_wp2_with fail
      generalize wr.setCell ⟨p, 3, none⟩ (.int .i64 (r.last + 1)) = W3 at *
      have HI3 := Lib.hid HST2.out.inv
      have hr2l : r2.last = r.last + 1 := by have := congrArg PS.last HV2.out; exact this
      have d0 : W3.cell? ⟨p, 0, none⟩ = some (.slice (some ⟨b', off', none⟩) k cap') := by have := mem_cells HI3.out.hb 0; rw [show (hCells r2)[0]? = some r2.cv from rfl, HE2.out.2.2.1, HCV.out, ← HNL.out] at this; exact this
      have d2 : W3.cell? ⟨p, 2, none⟩ = some (.map (some sm)) := by have := mem_cells HI3.out.hb 2; rw [show (hCells r2)[2]? = some (.map (some r2.sm)) from rfl, HE2.out.2.2.2.1, ← HSM.out] at this; exact this
      have d3 : W3.cell? ⟨p, 3, none⟩ = some (.int .i64 (r.last + 1)) := by have := mem_cells HI3.out.hb 3; rw [show (hCells r2)[3]? = some (.int .i64 r2.last) from rfl, hr2l] at this; exact this
      have HCL := Lib.hid (show Calls Tryz.prog 58 #[.slice (some ⟨b', off', none⟩) k cap'] W3.drew fun e w' => ∃ x, e = .returned x ∧ Owns tPtr w' W3.heap.size 85 x r.cur ∧ Below W3.heap.size W3 w' from by
        have h := HI3.out.cu.rv
        rw [HE2.out.2.2.1, HCV.out, HE2.out.1] at h
        have := clonePtr_any r.cur ⟨b', off', none⟩ cap' W3.drew h (by rw [← HNL.out]; omega)
        rw [← HNL.out] at this
        exact this.mono fun e w' h => h.elim fun x g => ⟨x, g.1, g.2.1, (show Below W3.heap.size W3 W3.drew from ⟨rfl, rfl, rfl, Nat.le_refl _, fun _ _ => rfl⟩).trans g.2.2⟩)
      have HPUT := Lib.hid (fun (w5 : World) (x : Value) (hb5 : Below W3.heap.size W3 w5) => (show ∃ W6, (Instr.mapUpdate 79 (.map (some sm)) (.int .i64 (r.last + 1)) x).run Tryz.prog w5 = .ok () W6 ∧ SMap W6 sm (r.nn + 1) (putAt r.snaps (r.last + 1) (x, r.cur)) ∧ w5.grownBy W6 (some sm) from by
        have h := HI3.out.sn.below (w' := w5) hb5
        rw [HE2.out.2.2.2.1, ← HSM.out, HE2.out.2.1, HE2.out.2.2.2.2.1] at h
        exact SMap.put h (by unfold maxLen; omega) (by unfold inI64; omega) (x, r.cur)))
      have hps : p ≠ sm := by have := HI3.out.apart.1; rw [HE2.out.2.2.2.1, ← HSM.out] at this; exact this
      have hpl : p < W3.heap.size := mem_lt d0
      go_region_held3 (fun w' => w'.cell? ⟨p, 0, none⟩ = some (.slice (some ⟨b', off', none⟩) k cap') ∧ w'.cell? ⟨p, 2, none⟩ = some (.map (some sm)) ∧ w'.cell? ⟨p, 3, none⟩ = some (.int .i64 (r.last + 1)))
        (first | exact ⟨by assumption, by assumption, by assumption⟩ | go_keep)
        ((first | (go_at_call 58; refine HCL.out.mono ?_; rintro e w5 ⟨x, rfl, hox, hb5⟩; have HOX := Lib.hid hox; obtain ⟨ax, cx, rfl, _⟩ := hox.len; clear hox; obtain ⟨W6, hrun6, hg6, hgr6⟩ := HPUT.out w5 (.slice ax r.cur.length cx) hb5; have e0 : w5.cell? ⟨p, 0, none⟩ = some (.slice (some ⟨b', off', none⟩) k cap') := below_mem hb5 _ _ _ d0; have e2 : w5.cell? ⟨p, 2, none⟩ = some (.map (some sm)) := below_mem hb5 _ _ _ d2; have e3 : w5.cell? ⟨p, 3, none⟩ = some (.int .i64 (r.last + 1)) := below_mem hb5 _ _ _ d3; have hbk : W6.heap[p]? = w5.heap[p]? := hgr6.block p (mem_lt e0) (fun h => hps (by injection h)); have g0 : W6.cell? ⟨p, 0, none⟩ = some (.slice (some ⟨b', off', none⟩) k cap') := (mem_of_block hbk 0).trans e0; have g2 : W6.cell? ⟨p, 2, none⟩ = some (.map (some sm)) := (mem_of_block hbk 2).trans e2; have g3 : W6.cell? ⟨p, 3, none⟩ = some (.int .i64 (r.last + 1)) := (mem_of_block hbk 3).trans e3; have HG6 := Lib.hid hg6; have HGR6 := Lib.hid hgr6; have HB5 := Lib.hid hb5; clear hg6 hgr6 hb5)))
      generalize (Value.slice ax r.cur.length cx) = x at *
      have HST6 := Lib.hid (HI3.out.snap (W' := W6) (k0 := r.last + 1) (v := x) HB5.out (by rw [HE2.out.1]; exact HOX.out.rv (fun b h => h) (fun k cs hk hr => tPtr_flat _ _ _ _ hr)) HE2.out.2.2.2.2.2 (by rw [HE2.out.2.2.2.1, ← HSM.out, HE2.out.2.1, HE2.out.2.2.2.2.1, HE2.out.1]; exact HG6.out) (by rw [HE2.out.2.2.2.1, ← HSM.out]; exact HGR6.out))
      have HVF := Lib.hid (view_snap r2 (r.last + 1) x (r2.nn + 1))
      clear HPUT HCL HOX hrun6 e0 e2 e3 d0 d2 d3 HG6 HGR6 HB5
      simp only [Exit.then]
      go_at_K
      go_wp2
      go_ret2
      refine ⟨rfl, _, HST2.out.trans HST6.out, ?_, by show r2.nn + 1 = _; rw [HE2.out.2.1], HE2.out.1, x, r2.cur, by show putAt r2.snaps _ _ = _; rw [HE2.out.2.2.2.2.1]⟩
      rw [HVF.out, HV2.out]
end Go.Proofs.YtbmpoecmjmmngaaGreat
/- package heap: snapshot, Entries, Reset, Count. -/
namespace Go.Proofs.YtbmpoecmjmmngaaGreat
open Go.RowKit Go.Maps

def rowOr' (x : Option (Value × List Nat)) : Value := rowOr x
set_option maxRecDepth 100000 in
set_option maxHeartbeats 2000000 in
theorem snapOf_any {base p : Nat} {r : HS} (k : Int) (w : World) (hI : HeapInv w base p r) (hk : inI64 k) :
    Calls Tryz.prog 59 #[.pointer (some ⟨p, 0, none⟩), .int .i64 k] w fun e w' => e = .returned (.tuple #[rowOr (r.snaps k), .int .i64 (if (r.snaps k).isSome = true then 0 else 8)]) ∧ w' = w := by
  have c2 : w.cell? ⟨p, 2, none⟩ = some (.map (some r.sm)) := mem_cells hI.hb 2
  have hl := hI.sn.lookOk hk
  have HF := Lib.hid (fun x (e : r.snaps k = some x) => slice_form (hI.sr k x e).1)
  clear hI
  cases hs : r.snaps k with
  | none =>
    rw [hs] at hl
    have hl' : (Instr.lookup 79 (.map (some r.sm)) (.int .i64 k) true).run Tryz.prog w = .ok (.tuple #[.slice none 0 0, .bool false]) w := hl
    clear hl HF hs
    go_enter Tryz.func59, Tryz.ntmps59
    go_wp2
    go_ret2
    exact ⟨rfl, rfl⟩
  | some x =>
    rw [hs] at hl
    obtain ⟨a, c, hx, _⟩ := HF.out x hs
    have hl' : (Instr.lookup 79 (.map (some r.sm)) (.int .i64 k) true).run Tryz.prog w = .ok (.tuple #[.slice a x.2.length c, .bool true]) w := by rw [← hx]; exact hl
    have HX := Lib.hid (show rowOr (some x) = .slice a x.2.length c from hx)
    rw [HX.out]
    clear hl HF hs hx
    go_enter Tryz.func59, Tryz.ntmps59
    go_wp2
    go_ret2
    exact ⟨rfl, rfl⟩
/-- What a snapshot's entries are, with the error. -/
def SnapEnts (s : PS) (k : Int) (es : List Ent) (c : Int) : Prop := match s.sn k with
  | none => es = [] ∧ c = 8
  | some fs => AllOf 0 fs es ∧ c = 0
theorem view_sn {r : HS} {k : Int} {x : Value × List Nat} (h : r.snaps k = some x) : r.view.sn k = some (x.2.map fun a => (r.g a).f) := by
  show (r.snaps k).map _ = _
  rw [h]; rfl
theorem view_sn0 {r : HS} {k : Int} (h : r.snaps k = none) : r.view.sn k = none := by
  show (r.snaps k).map _ = _
  rw [h]; rfl
theorem HeapInv.grpB {w : World} {base p : Nat} {r : HS} (h : HeapInv w base p r) {a : Nat} (ha : used r a) : GrpB w r.nn a (r.g a) := h.gb a ha
set_option maxRecDepth 100000 in
set_option maxHeartbeats 2000000 in
theorem stEntries_any {base p : Nat} {r : HS} (k : Int) (w : World) (hI : HeapInv w base p r) (hk : inI64 k) (hcl : r.cur.length ≤ 1000) (hnn : r.nn ≤ 100000) :
    Calls Tryz.prog 23 #[.pointer (some ⟨p, 0, none⟩), .int .i64 k] w fun e w' => ∃ u es c, e = .returned (.tuple #[u, .int .i64 c]) ∧ SnapEnts r.view k es c ∧ Owns tEnt w' w.heap.size 34 u es ∧ Below w.heap.size w w' ∧ inI64 c ∧ es.length ≤ r.cur.length * r.nn := by
  have HS := Lib.hid (snapOf_any k w hI hk)
  cases hs : r.snaps k with
  | none =>
    rw [hs] at HS
    have HE := Lib.hid (entries_any [] r.g r.nn 0 (.slice none 0 0) w (slice_nil _ _) (fun a h => absurd h (by simp)) (by simp) hnn (Int.le_refl _) (by decide))
    have HV := Lib.hid (view_sn0 hs)
    clear hs hI
    go_enter Tryz.func23, Tryz.ntmps23
    go_wp2_with fail
    refine HS.out.mono ?_
    rintro e w1 ⟨rfl, rfl⟩
    simp only [rowOr]
    go_wp2_with fail
    refine HE.out.mono ?_
    rintro e w2 ⟨u, es, rfl, ha, ho, hb, hl⟩
    obtain ⟨au, cu, rfl, _⟩ := ho.len
    have HO := Lib.hid ho
    have HA := Lib.hid ha
    clear ho ha HE HS
    go_wp2
    go_ret2
    obtain rfl : es = [] := HA.out
    exact ⟨_, [], 8, rfl, by unfold SnapEnts; rw [HV.out]; exact ⟨rfl, rfl⟩, HO.out, hb, by unfold inI64; decide, Nat.zero_le _⟩
  | some x =>
    obtain ⟨h1, h2, h3⟩ := hI.sr k x hs
    have HE := Lib.hid (entries_any x.2 r.g r.nn 0 x.1 w (tPtrs.mono _ _ _ _ (Mem.on_le _ _) h1) (fun a ha => hI.grpB (.inr ⟨k, x, hs, ha⟩)) (by omega) hnn (Int.le_refl _) (by decide))
    have HV := Lib.hid (view_sn hs)
    have HL := Lib.hid h3
    rw [hs] at HS
    obtain ⟨a, c, hx, _⟩ := slice_form h1
    have HS : Hid (Calls Tryz.prog 59 #[.pointer (some ⟨p, 0, none⟩), .int .i64 k] w fun e w' => e = .returned (.tuple #[.slice a x.2.length c, .int .i64 0]) ∧ w' = w) := by
      have := HS
      rw [show rowOr (some x) = .slice a x.2.length c from hx] at this
      exact this
    rw [hx] at HE
    clear hs hI h1 h2 h3 hx
    go_enter Tryz.func23, Tryz.ntmps23
    go_wp2_with fail
    refine HS.out.mono ?_
    rintro e w1 ⟨rfl, rfl⟩
    go_wp2_with fail
    refine HE.out.mono ?_
    rintro e w2 ⟨u, es, rfl, ha, ho, hb, hl⟩
    obtain ⟨au, cu, rfl, _⟩ := ho.len
    have HO := Lib.hid ho
    have HA := Lib.hid ha
    clear ho ha HE HS
    go_wp2
    go_ret2
    exact ⟨_, es, 0, rfl, by unfold SnapEnts; rw [HV.out]; exact ⟨HA.out, rfl⟩, HO.out, hb, by unfold inI64; decide, by rw [← HL.out]; exact hl⟩
set_option maxHeartbeats 400000 in
theorem count_any {base p : Nat} {r : HS} (w : World) (hI : HeapInv w base p r) :
    Calls Tryz.prog 25 #[.pointer (some ⟨p, 0, none⟩)] w fun e w' => e = .returned (.int .i64 r.cnt) ∧ w' = w := by
  have c1 : w.cell? ⟨p, 1, none⟩ = some (.int .i64 r.cnt) := mem_cells hI.hb 1
  clear hI
  go_enter Tryz.func25, Tryz.ntmps25
  go_wp2
  go_ret
  exact ⟨rfl, rfl⟩
set_option maxRecDepth 100000 in
set_option maxHeartbeats 4000000 in
theorem reset_any {base p : Nat} {r : HS} (k : Int) (w : World) (hI : HeapInv w base p r) (hk : inI64 k) (hcl : r.cur.length ≤ 1000) (hc0 : 0 < r.cur.length) (hnn : r.nn ≤ 100000) :
    Calls Tryz.prog 24 #[.pointer (some ⟨p, 0, none⟩), .int .i64 k] w fun e w' => ∃ r', HStep w base p r w' r' ∧ r'.nn = r.nn ∧ r'.cur.length = r.cur.length ∧ r'.snaps = r.snaps ∧
      ((r.view.sn k = none ∧ e = .returned (.int .i64 8) ∧ r'.view = r.view) ∨ ∃ fs es, r.view.sn k = some fs ∧ AllOf 0 fs es ∧ e = .returned (.int .i64 0) ∧ r'.view = { r.view with grps := fs, cnt := es.length }) := by
  have HS := Lib.hid (snapOf_any k w hI hk)
  have HI := Lib.hid hI
  cases hs : r.snaps k with
  | none =>
    rw [hs] at HS
    have HV := Lib.hid (view_sn0 hs)
    have HF := Lib.hid (HStep.pure hI (Below.refl _ _))
    clear hs hI
    go_enter Tryz.func24, Tryz.ntmps24
    go_wp2_with fail
    refine HS.out.mono ?_
    rintro e w1 ⟨rfl, rfl⟩
    simp only [rowOr]
    go_wp2
    go_ret
    exact ⟨r, HF.out, rfl, rfl, rfl, .inl ⟨HV.out, rfl, rfl⟩⟩
  | some x =>
    obtain ⟨h1, h2, h3⟩ := hI.sr k x hs
    have HV := Lib.hid (view_sn hs)
    have HSS := Lib.hid hs
    have HL := Lib.hid h3
    rw [hs] at HS
    have hrw := tPtrs.mono _ _ _ _ (Mem.on_le _ _) h1
    obtain ⟨a, c, hx, _⟩ := slice_form h1
    have HS : Hid (Calls Tryz.prog 59 #[.pointer (some ⟨p, 0, none⟩), .int .i64 k] w fun e w' => e = .returned (.tuple #[.slice a x.2.length c, .int .i64 0]) ∧ w' = w) := by
      have := HS
      rw [show rowOr (some x) = .slice a x.2.length c from hx] at this
      exact this
    have HX := Lib.hid hx
    rw [hx] at hrw
    obtain ⟨ad, rfl⟩ : ∃ ad, a = some ad := by
      obtain ⟨b, o, e, _⟩ := slice_at hrw (k := 0) (by omega)
      exact ⟨_, e⟩
    have HCL := Lib.hid (clonePtr_any x.2 ad c w hrw (by omega))
    have hx0 : x.2 ≠ [] := fun e => by rw [e] at h3; simp at h3; omega
    have HX0 := Lib.hid hx0
    clear hs hI h1 h2 hx hrw hx0 h3
    go_enter Tryz.func24, Tryz.ntmps24
    go_wp2_with fail
    refine HS.out.mono ?_
    rintro e w1 ⟨rfl, rfl⟩
    go_wp2_with fail
    refine HCL.out.mono ?_
    rintro e w2 ⟨v, rfl, hov, hb2⟩
    have HI2 := Lib.hid (HI.out.pure hb2)
    have c0 : w2.cell? ⟨p, 0, none⟩ = some r.cv := mem_cells HI2.out.hb 0
    have f0 : w2.frozen? ⟨p, 0, none⟩ = false := frozen_cells HI2.out.hb 0
    have HPR := Lib.hid (show PRow w2 v x.2 from by
      obtain ⟨css, g1, ⟨g2, g3⟩, g4, g5⟩ := hov
      refine PRow.of ⟨css, g1, fun k h h' => tPtr_flat _ _ _ _ (g5 k h h'), ?_⟩ HX0.out
      rcases g3 with ⟨e, g3⟩ | ⟨g, cap, cur, e, hg, hh, g6, g7, g8, g9⟩
      · exact .inl ⟨e, List.eq_nil_of_length_eq_zero g3⟩
      · exact .inr ⟨g, 0, cap, cur, e, hh, g6, g7, by rw [g8]; omega, by rw [List.drop_zero]; exact g9⟩)
    have HRS := Lib.hid (HI.out.reset HSS.out hb2 HPR.out (fun k e => (hov.lt k e).1))
    obtain ⟨av, cv', rfl, _⟩ := hov.len
    clear hov HCL HS hb2 HPR
    go_wp2_with fail
    generalize (Value.slice av x.2.length cv') = v at *
    generalize w2.setCell ⟨p, 0, none⟩ v = W3 at *
    have HE := Lib.hid (entries_any x.2 r.g r.nn 0 x.1 W3 (tPtrs.mono _ _ _ _ (Mem.on_le _ _) ((HRS.out.inv.sr k x HSS.out).1)) (fun a ha => HRS.out.inv.gb a (.inr ⟨k, x, HSS.out, ha⟩)) (by rw [HL.out]; exact hcl) hnn (Int.le_refl _) (by decide))
    rw [HX.out] at HE
    refine HE.out.mono ?_
    rintro e w4 ⟨u, es, rfl, ha, ho, hb4, hl⟩
    have HI4 := Lib.hid (HRS.out.trans (HStep.pure HRS.out.inv hb4))
    have c1 : w4.cell? ⟨p, 1, none⟩ = some (.int .i64 r.cnt) := mem_cells HI4.out.inv.hb 1
    have f1 : w4.frozen? ⟨p, 1, none⟩ = false := frozen_cells HI4.out.inv.hb 1
    have HST := Lib.hid (HI4.out.trans (HStep.own (W' := w4.setCell ⟨p, 1, none⟩ (.int .i64 es.length)) HI4.out.inv ((Keeps.refl (fun k => k = p) _).setCell (p := ⟨p, 1, none⟩) (fun _ => rfl) _) es.length r.last (set_block HI4.out.inv.hb)))
    obtain ⟨au, cu, rfl, hml⟩ := ho.len
    have HA := Lib.hid ha
    clear ho ha HE c0 f0
    go_wp2
    go_ret
    exact ⟨_, HST.out, rfl, HL.out, rfl, .inr ⟨_, es, HV.out, HA.out, rfl, rfl⟩⟩
end Go.Proofs.YtbmpoecmjmmngaaGreat
