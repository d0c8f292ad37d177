/- Part 1 of the texts that the law's proof stands on, merged. -/
import Derived.Sort.MapsRangeIn
import Derived.Sort.KeysCollected
import Derived.Shelf.Abstract
import Derived.WalkKit
import Derived.OwnWalkIn
import Derived.TacticsInMore
import Derived.LoopNIn
import Derived.LoopIn
import Derived.RegionIn
import Derived.Shelf.SlSortCmp.WholeK
import Derived.Ground.SlsfProg
import Derived.Test.YtafeaeaildfohaaGreatDoorProg
import Derived.Deep.RegionHeld3
import Derived.Shelf.SlSortCmp.NoneTotal
import Derived.Lib.Strings
import Derived.StillTactics
import Derived.RangeFuncKeeps
import Derived.RangeFuncLeaves
import Derived.Test.YtafeaeaildfohaaGreatDoorRt00
set_option linter.unusedVariables false
set_option linter.unusedSimpArgs false
/- maps.Keys at facts (XHKeys, turned): the iterator's contract. -/
namespace Go.Proofs.YtafeaeaildfohaaGreatDoor
open Go.RowKit Go.Shelf Go.Maps Go.Sort
attribute [local go_sem] Oper.semAt_some

/-- What has come of a map's keys. -/
def Col (D : DataW Value) (left : Lit → Bool) (ss : List Fct) : Prop :=
  ss.Nodup ∧ (∀ x ∈ ss, okF x) ∧ ∀ x, okF x → (x ∈ ss ↔ (has D (lkF x) = true ∧ left (lkF x) = false))
theorem Col.start (D : DataW Value) : Col D (has D) [] := ⟨List.nodup_nil, by simp, fun x _ => by cases has D (lkF x) <;> simp⟩
theorem lkF_str {x : Fct} (hx : okF x) : lkF x = .string (keyBytes [.string x.n.data.toList, .string x.a.data.toList, .string x.b.data.toList]) := by unfold lkF; rw [if_pos hx]
theorem sameKey_fct {x y : Fct} (hx : okF x) (hy : okF y) : (lkF y).sameKey (lkF x) = decide (y = x) := by
  by_cases h : y = x
  · subst h
    rw [lkF_str hx]; simp [Lit.sameKey]
  · have : lkF y ≠ lkF x := fun e => h (lkF_inj hx y e)
    rw [lkF_str hx, lkF_str hy] at this ⊢
    have h2 : ¬ keyBytes [.string y.n.data.toList, .string y.a.data.toList, .string y.b.data.toList] = keyBytes [.string x.n.data.toList, .string x.a.data.toList, .string x.b.data.toList] := fun e => this (by rw [e])
    simp [Lit.sameKey, h, h2]
theorem Col.step {D : DataW Value} {left : Lit → Bool} {ss : List Fct} (h : Col D left ss) {x : Fct} (hx : okF x) {y : DataW Value} (hlk : left (lkF x) = true) (hat : ∀ zd, D.atKey (lkF x) zd = y) :
    Col D (fun z => left z && !z.sameKey (lkF x)) (ss ++ [x]) := by
  have hhas : has D (lkF x) = true := has_true_of_atKey hat
  have hnew : x ∉ ss := fun hm => by have := ((h.2.2 x hx).1 hm).2; rw [hlk] at this; cases this
  refine ⟨List.nodup_append.2 ⟨h.1, by simp, fun a ha b hb => by simp at hb; subst hb; exact fun e => hnew (e ▸ ha)⟩, fun z hz => ?_, fun z hz => ?_⟩
  · rcases List.mem_append.1 hz with e | e
    · exact h.2.1 z e
    · simp at e; subst e; exact hx
  · by_cases e : z = x
    · subst e; simp [hhas, sameKey_fct hx hx]
    · simp [h.2.2 z hz, e, sameKey_fct hx hz]
open Classical in
theorem nodup_le {β : Type} : ∀ {l m : List β}, l.Nodup → (∀ x ∈ l, x ∈ m) → l.length ≤ m.length
  | [], _, _, _ => Nat.zero_le _
  | x :: l, m, hn, hs => by
    rw [List.nodup_cons] at hn
    have hx : x ∈ m := hs x List.mem_cons_self
    have := nodup_le (l := l) (m := m.erase x) hn.2 (fun y hy => (List.mem_erase_of_ne (fun e => by subst e; exact hn.1 hy)).2 (hs y (List.mem_cons_of_mem _ hy)))
    rw [List.length_erase_of_mem hx] at this
    have h1 : 0 < m.length := List.length_pos_of_mem hx
    simp only [List.length_cons]
    omega
theorem Col.room {D : DataW Value} {left : Lit → Bool} {ss : List Fct} {w : World} {b n : Nat} (hown : w.ownsMap Tryz.prog 43 rawE b n D) (h : Col D left ss) : ss.length ≤ n := by
  refine Nat.le_trans ?_ hown.size_le
  obtain ⟨es, hD, _⟩ := hown.keysOf
  subst hD
  have h1 : (ss.map lkF).length ≤ (es.map (·.1)).length := by
    refine nodup_le ?_ ?_
    · refine List.pairwise_map.2 (h.1.imp_of_mem fun {p q} hp hq hne e => hne ?_)
      exact lkF_inj (h.2.1 q hq) p e
    · intro l hl
      obtain ⟨x, hx, rfl⟩ := List.mem_map.1 hl
      have hh := ((h.2.2 x (h.2.1 x hx)).1 hx).1
      rw [show has (DataW.map es) (lkF x) = es.any (fun p => p.1.sameKey (lkF x)) from rfl, List.any_eq_true] at hh
      obtain ⟨p, hp, hs⟩ := hh
      refine List.mem_map.2 ⟨p, hp, ?_⟩
      rw [lkF_str (h.2.1 x hx)] at hs ⊢
      generalize p.1 = q at hs
      cases q <;> simp [Lit.sameKey] at hs
      rw [hs]
  simp only [List.length_map] at h1
  exact h1
/-- A map's keys, in some order. -/
def AllKeys (f : (Fct → Option Int)) (ss : List Fct) : Prop := ss.Nodup ∧ (∀ k, k ∈ ss ↔ (f k).isSome = true) ∧ ∀ x ∈ ss, okF x
theorem Col.done {D : DataW Value} {left : Lit → Bool} {ss : List Fct} {w : World} {b n : Nat} {f : (Fct → Option Int)} (hown : w.ownsMap Tryz.prog 43 rawE b n D) {m : Mem} (hs : MapSays lkF vInt m D f) (h : Col D left ss) (hl : ∀ kl, left kl = false) : AllKeys f ss := by
  refine ⟨h.1, fun k => ?_, h.2.1⟩
  by_cases hk : okF k
  · rw [h.2.2 k hk, hl]
    cases hf : f k with
    | none => rw [hs.1 k hf]; simp
    | some a => rw [(hs.2.1 k a hf).1]; simp
  · constructor
    · intro hm; exact absurd (h.2.1 k hm) hk
    · intro hf
      obtain ⟨a, ha⟩ := Option.isSome_iff_exists.1 hf
      have hh := (hs.2.1 k a ha).1
      obtain ⟨es, hD, hko⟩ := hown.keysOf
      subst hD
      rw [show has (DataW.map es) (lkF k) = es.any (fun p => p.1.sameKey (lkF k)) from rfl, List.any_eq_true] at hh
      obtain ⟨p, hp, hsk⟩ := hh
      obtain ⟨v, hv⟩ := hko p hp
      obtain ⟨x, _, e, hx⟩ := keyOf_fct_inv hv
      rw [e, lkF_str hx] at hsk
      unfold lkF at hsk
      rw [if_neg hk] at hsk
      simp [Lit.sameKey] at hsk

set_option maxRecDepth 100000 in
set_option maxHeartbeats 4000000 in
theorem keysS_gives (B b n : Nat) (f : (Fct → Option Int)) (w : World) (hB : w.cell? ⟨B, 0, none⟩ = some (.map (some b))) (hf : FM w b n f) :
    GivesW Tryz.prog 78 #[.pointer (some ⟨B, 0, none⟩)] (fun x => #[Fct.v x]) (fun pre x => pre.length < n ∧ okF x) (AllKeys f) w := by
  intro l J W hW hJ hY h0
  have hB1 : W.cell? ⟨B, 0, none⟩ = some (.map (some b)) := below_mem hW _ _ _ hB
  obtain ⟨D, hown, hsays⟩ := hf.below hW
  have HS := Lib.hid hsays
  have HO := Lib.hid hown
  have HY := Lib.hid hY
  have HJ := Lib.hid hJ
  have H0 := Lib.hid h0
  clear hY hJ h0 hB hf hsays hW
  refine callsIn_of_wp Tryz.func78 rfl trivial ?_ rfl
  simp only [Tryz.ntmps78, List.size_toArray, List.length_cons, List.length_nil, Nat.reduceAdd, Nat.reduceSub, Array.replicate_succ, Array.replicate_zero, List.push_toArray, List.append_toArray, List.nil_append, List.cons_append]
  gi_wp2_with (first
    | (gi_at_range; refine wpListIn_range_own _ rfl _ 63 rfl 43 3 keyF Tryz.underlying63 _ b n _ rfl hown ?_; intro w0 hrg0 hg0 hs0)
    | gi_in)
  gi_loopw [3] (fun _ wr => ∃ (left : Lit → Bool) (cnt : Nat) (ss : List Fct), wr.ranges Tryz.prog 43 rawE b W.heap.size n D left cnt ∧ Col D left ss ∧ Hid (J ss wr))
    (fun _ wr => wr.rangeLeft b W.heap.size)
  case atStart =>
    exact ⟨_, _, [], hrg0, Col.start D, Lib.hid (HJ.out [] W w0 none H0.out hg0 (fun r e => by cases e))⟩
  case round =>
    clear hrg0 hg0 hs0 H0 hown
    obtain ⟨left, cnt, ss, hrg, hC, HJs⟩ := hrel
    gi_wp2_with (first
      | (gi_at_next; refine wpListIn_next_ranges _ rfl _ rfl 43 keyF rawE Fct.v id (fun key kl hk => by obtain ⟨x, hx, _⟩ := keyOf_fct_inv hk; exact ⟨x, hx⟩) (fun v _ _ => ⟨v, rfl⟩) b W.heap.size n _ _ _ rfl hrg ?_ ?_)
      | gi_in)
    · intro hc0 hl0
      gi_wp2
      go_end0
      exact ⟨⟨_, rfl⟩, ss, hC.done HO.out HS.out hl0, HJs.out⟩
    · intro x0 c kl yd yp w2 cnt2 hkey hlk hv hat hrg2 hlt hg2 hs2 hen
      obtain ⟨x1, x2, x3⟩ := x0
      obtain ⟨x, hx⟩ : ∃ x : Fct, x = ⟨x1, x2, x3⟩ := ⟨_, rfl⟩
      rw [← hx] at hkey
      obtain ⟨x', ex, rfl, hok⟩ := keyOf_fct_inv hkey
      obtain rfl : x = x' := fctV_inj ex
      have HC2 := Lib.hid (hC.step hok hlk hat)
      have hroom : ss.length < n := by have := HC2.out.room HO.out; rw [List.length_append] at this; simp at this; omega
      have hJ2 : J ss w2 := HJ.out ss wr w2 (some W.heap.size) HJs.out hg2 (fun r e => by cases e; exact ⟨Nat.le_refl _, hrg.iter_walk⟩)
      have HJ3 := Lib.hid (fun o => HJ.out ss w2 (w2.alloc o) none hJ2 ⟨rfl, rfl, rfl, by simp, fun k hk _ => Below.heap_alloc _ _ _ hk⟩ (fun r e => by cases e))
      have HR3 := Lib.hid (fun o => hrg2.of_walks (KeepsWalks.alloc w2 o))
      have HL := Lib.hid (show w2.rangeLeft b W.heap.size < wr.rangeLeft b W.heap.size by rw [hrg2.left_eq, hrg.left_eq]; exact hlt)
      have HY3 := Lib.hid (fun o => HY.out ss x (w2.alloc o) ⟨hroom, hok⟩ (HJ3.out o))
      clear hs2 hJ2 hC hkey hlk hv hat hg2 hlt hrg ex HJs
      subst hx
      obtain ⟨fn, tmps, assign, body, hy, hR⟩ := HY3.out (.cells #[.string x1, .string x2, .string x3] 43)
      gi_wp2
      refine ⟨rfl, hR.mono ?_⟩
      rintro e W3 ⟨rfl, hJ3, hk3⟩
      have HR4 := Lib.hid ((HR3.out _).of_walks hk3)
      have HJ4 := Lib.hid hJ3
      have HL2 := Lib.hid (show W3.rangeLeft b W.heap.size < wr.rangeLeft b W.heap.size by have := HL.out; rw [HR4.out.left_eq]; rw [hrg2.left_eq] at this; exact this)
      clear hJ3 hk3 hy hR hrg2 HR3 HJ3 HL
      gi_wp2
      go_roundw
      case rel => exact ⟨_, cnt2, ss ++ [⟨x1, x2, x3⟩], HR4.out, HC2.out, HJ4⟩
      case measure => exact HL2.out
end Go.Proofs.YtafeaeaildfohaaGreatDoor
/-
  DERIVED: THE SHELF's CONTRACTS AT THIS DUMP, IN PLAIN WORDS (tools/lay-plain.mjs out of 'TryShelfV3.lean', which tools/lay-shelf.mjs wrote): THE SAME DECLARATIONS UNDER THE SAME NAMES: 'import', 'namespace', 'open', 'def', 'theorem' AND NOTHING ELSE: no command of the shelf's: FOR A HAND-IN. Each laying: the table of numbers ('.._ren') and one theorem, a field a fact of the dump's own or the kernel's comparison; each contract: ONE APPLICATION.
-/
namespace Go.Proofs
open Go.Shelf
def Tryz.sort77_ren : Go.Shelf.Ren := ⟨fun | 6 => 77 | 15 => 64 | 14 => 101 | 28 => 93 | 29 => 94 | 20 => 114 | 21 => 115 | 22 => 116 | 23 => 117 | 24 => 118 | 25 => 119 | 26 => 120 | 27 => 121 | 46 => 123 | 47 => 108 | 48 => 109 | 49 => 124 | 50 => 125 | 57 => 126 | n => n, fun | 22 => 39 | 24 => 43 | 25 => 89 | 3 => 3 | 39 => 104 | 0 => 0 | 53 => 128 | 55 => 130 | 4 => 4 | 46 => 122 | 45 => 121 | 50 => 84 | 5 => 5 | 9 => 9 | 66 => 141 | 70 => 145 | 76 => 158 | 77 => 159 | n => n, fun | n => n⟩
theorem Tryz.sort77 : Go.Proofs.SlLaysF0.n6 Tryz.prog Tryz.sort77_ren := {
  mixed := by kernel_rfl
  f6 := ⟨Tryz.f77.name, by decide, Tryz.func77.trans (congrArg some (by kernel_rfl))⟩
  f14 := ⟨Tryz.f101.name, by decide, Tryz.func101.trans (congrArg some (by kernel_rfl))⟩
  f15 := Tryz.func64.trans (congrArg some (by kernel_rfl))
  f20 := ⟨Tryz.f114.name, by decide, Tryz.func114.trans (congrArg some (by kernel_rfl))⟩
  f21 := ⟨Tryz.f115.name, by decide, Tryz.func115.trans (congrArg some (by kernel_rfl))⟩
  f22 := ⟨Tryz.f116.name, by decide, Tryz.func116.trans (congrArg some (by kernel_rfl))⟩
  f23 := ⟨Tryz.f117.name, by decide, Tryz.func117.trans (congrArg some (by kernel_rfl))⟩
  f24 := ⟨Tryz.f118.name, by decide, Tryz.func118.trans (congrArg some (by kernel_rfl))⟩
  f25 := ⟨Tryz.f119.name, by decide, Tryz.func119.trans (congrArg some (by kernel_rfl))⟩
  f26 := ⟨Tryz.f120.name, by decide, Tryz.func120.trans (congrArg some (by kernel_rfl))⟩
  f27 := ⟨Tryz.f121.name, by decide, Tryz.func121.trans (congrArg some (by kernel_rfl))⟩
  f28 := Tryz.func93.trans (congrArg some (by kernel_rfl))
  f29 := Tryz.func94.trans (congrArg some (by kernel_rfl))
  f46 := ⟨Tryz.f123.name, by decide, Tryz.func123.trans (congrArg some (by kernel_rfl))⟩
  f47 := Tryz.func108.trans (congrArg some (by kernel_rfl))
  f48 := Tryz.func109.trans (congrArg some (by kernel_rfl))
  f49 := ⟨Tryz.f124.name, by decide, Tryz.func124.trans (congrArg some (by kernel_rfl))⟩
  f50 := ⟨Tryz.f125.name, by decide, Tryz.func125.trans (congrArg some (by kernel_rfl))⟩
  f57 := ⟨Tryz.f126.name, by decide, Tryz.func126.trans (congrArg some (by kernel_rfl))⟩
  t0 := Tryz.underlying0
  a0 := Tryz.isAgg0
  z0 := Tryz.sizeOf0
  v0 := Tryz.zeroValue0
  t3 := Tryz.underlying3
  a3 := Tryz.isAgg3
  z3 := Tryz.sizeOf3
  v3 := Tryz.zeroValue3
  t4 := Tryz.underlying4
  a4 := Tryz.isAgg4
  z4 := Tryz.sizeOf4
  v4 := Tryz.zeroValue4
  t5 := Tryz.underlying5
  a5 := Tryz.isAgg5
  z5 := Tryz.sizeOf5
  v5 := Tryz.zeroValue5
  t9 := Tryz.underlying9
  a9 := Tryz.isAgg9
  z9 := Tryz.sizeOf9
  v9 := Tryz.zeroValue9
  t22 := Tryz.underlying39
  a22 := Tryz.isAgg39
  z22 := Tryz.sizeOf39
  v22 := Tryz.zeroValue39
  t25 := Tryz.underlying89
  a25 := Tryz.isAgg89
  z25 := Tryz.sizeOf89
  v25 := Tryz.zeroValue89
  t39 := Tryz.underlying104
  a39 := Tryz.isAgg104
  z39 := Tryz.sizeOf104
  v39 := Tryz.zeroValue104
  t45 := Tryz.underlying121
  a45 := Tryz.isAgg121
  z45 := Tryz.sizeOf121
  v45 := Tryz.zeroValue121
  t46 := Tryz.underlying122
  a46 := Tryz.isAgg122
  z46 := Tryz.sizeOf122
  v46 := Tryz.zeroValue122
  t50 := Tryz.underlying84
  a50 := Tryz.isAgg84
  z50 := Tryz.sizeOf84
  v50 := Tryz.zeroValue84
  t53 := Tryz.underlying128
  a53 := Tryz.isAgg128
  z53 := Tryz.sizeOf128
  v53 := Tryz.zeroValue128
  t55 := Tryz.underlying130
  a55 := Tryz.isAgg130
  z55 := Tryz.sizeOf130
  v55 := Tryz.zeroValue130
  t66 := Tryz.underlying141
  a66 := Tryz.isAgg141
  z66 := Tryz.sizeOf141
  v66 := Tryz.zeroValue141
  t70 := Tryz.underlying145
  a70 := Tryz.isAgg145
  z70 := Tryz.sizeOf145
  v70 := Tryz.zeroValue145
  t76 := Tryz.underlying158
  a76 := Tryz.isAgg158
  z76 := Tryz.sizeOf158
  v76 := Tryz.zeroValue158
  t77 := Tryz.underlying159
  a77 := Tryz.isAgg159
  z77 := Tryz.sizeOf159
  v77 := Tryz.zeroValue159 }
end Go.Proofs
/- cmp.Compare[string]. -/
namespace Go.Proofs.YtafeaeaildfohaaGreatDoor
open Go.RowKit

set_option maxHeartbeats 400000 in
theorem nanStr_any (s : ByteArray) (w : World) :
    Calls Tryz.prog 102 #[.string s] w fun e w' => e = .returned (.bool false) ∧ w = w' := by
  go_enter Tryz.func102, Tryz.ntmps102
  go_wp2
  go_ret
  exact ⟨by simp, rfl⟩

set_option maxHeartbeats 400000 in
theorem cmpStr_any (s t : ByteArray) (w : World) :
    Calls Tryz.prog 80 #[.string s, .string t] w fun e w' => e = .returned (.int .i64 (cmpBytes s.toList t.toList)) ∧ w = w' := by
  have HL := Lib.hid (bytesLess_cmp s.toList t.toList)
  have HG := Lib.hid (bytesGtr_cmp s.toList t.toList)
  have hr := cmpBytes_good.range s.toList t.toList
  generalize cmpBytes s.toList t.toList = c at *
  go_enter Tryz.func80, Tryz.ntmps80
  go_wp2_with (go_at_call 102; refine (nanStr_any _ _).mono ?_; rintro e w' ⟨rfl, rfl⟩)
  · have h : Op.bytesLess s.toList t.toList = true := by assumption
    have hl := HL.out
    rw [h] at hl
    have : c = -1 := by have := of_decide_eq_true hl.symm; omega
    subst this
    go_ret
    exact ⟨rfl, rfl⟩
  · have h1 : Op.bytesLess s.toList t.toList = false := by assumption
    have h2 : (!s.toList == t.toList) = true := by assumption
    have hg := HG.out
    rw [h1, Bool.false_or, h2] at hg
    have : c = 1 := by have := of_decide_eq_true hg.symm; omega
    subst this
    go_ret
    exact ⟨rfl, rfl⟩
  · have h1 : Op.bytesLess s.toList t.toList = false := by assumption
    have h2 : (!s.toList == t.toList) = false := by assumption
    have hl := HL.out
    have hg := HG.out
    rw [h1] at hl
    rw [h1, Bool.false_or, h2] at hg
    have : c = 0 := by have := of_decide_eq_false hl.symm; have := of_decide_eq_false hg.symm; omega
    subst this
    go_ret
    exact ⟨rfl, rfl⟩

end Go.Proofs.YtafeaeaildfohaaGreatDoor
/- The order of facts, walked: cmp.Or at three, ring.compare. -/
namespace Go.Proofs.YtafeaeaildfohaaGreatDoor
open Go.RowKit Go.Sort

def orI3 (a b c : Int) : Int := if a ≠ 0 then a else if b ≠ 0 then b else c
set_option maxHeartbeats 1000000 in
theorem cmpOr_any (a b c : Int) (blk cap : Nat) (w : World) (h0 : w.cell? ⟨blk, 0, none⟩ = some (.int .i64 a)) (h1 : w.cell? ⟨blk, 1, none⟩ = some (.int .i64 b)) (h2 : w.cell? ⟨blk, 2, none⟩ = some (.int .i64 c)) :
    Calls Tryz.prog 79 #[.slice (some ⟨blk, 0, none⟩) 3 cap] w fun e w' => e = .returned (.int .i64 (orI3 a b c)) ∧ w = w' := by
  by_cases ha : a = 0
  · subst ha
    by_cases hb : b = 0
    · subst hb
      by_cases hc : c = 0
      · subst hc
        rw [show orI3 0 0 0 = 0 from rfl]
        go_enter Tryz.func79, Tryz.ntmps79
        go_wp2
        go_loop [8] (fun i => ∃ k : Nat, k ≤ 3 ∧ i = .int .i64 k) (fun i => 3 - (intOf i).toNat)
        case atStart => exact ⟨0, by omega, rfl⟩
        case round =>
          obtain ⟨k, hk, rfl⟩ := hrel
          match k, hk with
          | 0, _ =>
            go_wp2
            go_round
            case rel => exact ⟨1, by omega, by go_num⟩
            case measure => simp [intOf]
          | 1, _ =>
            go_wp2
            go_round
            case rel => exact ⟨2, by omega, by go_num⟩
            case measure => simp [intOf]
          | 2, _ =>
            go_wp2
            go_round
            case rel => exact ⟨3, by omega, by go_num⟩
            case measure => simp [intOf]
          | 3, _ =>
            go_wp2
            go_ret
            exact ⟨rfl, rfl⟩
      · have hc' : (c != 0) = true := by simp [hc]
        rw [show orI3 0 0 c = c from rfl]
        clear hc
        go_enter Tryz.func79, Tryz.ntmps79
        go_wp2
        go_loop [8] (fun i => ∃ k : Nat, k ≤ 2 ∧ i = .int .i64 k) (fun i => 3 - (intOf i).toNat)
        case atStart => exact ⟨0, by omega, rfl⟩
        case round =>
          obtain ⟨k, hk, rfl⟩ := hrel
          match k, hk with
          | 0, _ =>
            go_wp2
            go_round
            case rel => exact ⟨1, by omega, by go_num⟩
            case measure => simp [intOf]
          | 1, _ =>
            go_wp2
            go_round
            case rel => exact ⟨2, by omega, by go_num⟩
            case measure => simp [intOf]
          | 2, _ =>
            go_wp2
            go_ret
            exact ⟨rfl, rfl⟩
    · have hb' : (b != 0) = true := by simp [hb]
      rw [show orI3 0 b c = b from by unfold orI3; simp [hb]]
      clear hb
      go_enter Tryz.func79, Tryz.ntmps79
      go_wp2
      go_loop [8] (fun i => ∃ k : Nat, k ≤ 1 ∧ i = .int .i64 k) (fun i => 3 - (intOf i).toNat)
      case atStart => exact ⟨0, by omega, rfl⟩
      case round =>
        obtain ⟨k, hk, rfl⟩ := hrel
        match k, hk with
        | 0, _ =>
          go_wp2
          go_round
          case rel => exact ⟨1, by omega, by go_num⟩
          case measure => simp [intOf]
        | 1, _ =>
          go_wp2
          go_ret
          exact ⟨rfl, rfl⟩
  · have ha' : (a != 0) = true := by simp [ha]
    rw [show orI3 a b c = a from if_pos ha]
    clear ha
    go_enter Tryz.func79, Tryz.ntmps79
    go_wp2
    go_loop [8] (fun i => i = .int .i64 0) (fun i => 3 - (intOf i).toNat)
    case atStart => rfl
    case round =>
      subst hrel
      go_wp2
      go_ret
      exact ⟨rfl, rfl⟩
def cmpS (s t : ByteArray) : Int := cmpBytes s.toList t.toList
theorem cmpS_any (s t : ByteArray) (w : World) :
    Calls Tryz.prog 80 #[.string s, .string t] w fun e w' => e = .returned (.int .i64 (cmpS s t)) ∧ w = w' := cmpStr_any s t w
theorem drew_grow (w : World) (os : Array Obj) : (grow w os).drew = grow w.drew os := rfl
set_option maxRecDepth 100000 in
set_option maxHeartbeats 4000000 in
theorem fctCmp_any (x y : Fct) (W : World) :
    Calls Tryz.prog 56 #[x.v, y.v] W fun e w' => e = .returned (.int .i64 (fctC x y)) ∧ ∃ q os, w' = grow (W.drewN q) os := by
  obtain ⟨x1, x2, x3⟩ := x
  obtain ⟨y1, y2, y3⟩ := y
  have HE := Lib.hid (show fctC ⟨x1, x2, x3⟩ ⟨y1, y2, y3⟩ = orI3 (cmpS x1 y1) (cmpS x2 y2) (cmpS x3 y3) from rfl)
  have HG := Lib.hid (fun (o1 o2 o3 : Obj) => (show ∃ q os, (((W.alloc o1).alloc o2).drew.alloc o3) = grow (W.drewN q) os from ⟨1, #[o1] ++ #[o2] ++ #[o3], by rw [alloc_eq_grow, alloc_eq_grow, alloc_eq_grow, drew_grow, drew_grow, grow_grow, grow_grow]; rfl⟩))
  have HN := Lib.hid (fun (o1 o2 : Obj) (cs : Array Value) (T : TypeId) (f : Nat × Nat) (o : Nat) => (show (((W.alloc o1).alloc o2).drew.alloc (.cells cs T f)).cell? ⟨W.heap.size + 1 + 1, o, none⟩ = cs[o]? from by
    have := mem_cells_new ((W.alloc o1).alloc o2).drew cs T f o
    rw [show ((W.alloc o1).alloc o2).drew.heap.size = W.heap.size + 1 + 1 from by show ((W.alloc o1).alloc o2).heap.size = _; simp] at this
    exact this))
  go_enter Tryz.func56, Tryz.ntmps56
  go_wp2_with fail
  go_region_held3 (fun w' => w'.cell? ⟨W.heap.size, 0, none⟩ = some (.string x1) ∧ w'.cell? ⟨W.heap.size, 1, none⟩ = some (.string x2) ∧ w'.cell? ⟨W.heap.size, 2, none⟩ = some (.string x3) ∧ w'.cell? ⟨W.heap.size + 1, 0, none⟩ = some (.string y1) ∧ w'.cell? ⟨W.heap.size + 1, 1, none⟩ = some (.string y2) ∧ w'.cell? ⟨W.heap.size + 1, 2, none⟩ = some (.string y3))
    (go_keep)
    ((first
      | (go_at_call 80; refine (cmpS_any _ _ _).mono ?_; rintro e w2 ⟨rfl, rfl⟩)
      | (go_at_call 79; refine (cmpOr_any (cmpS x1 y1) (cmpS x2 y2) (cmpS x3 y3) _ _ _ (HN.out _ _ _ _ _ 0) (HN.out _ _ _ _ _ 1) (HN.out _ _ _ _ _ 2)).mono ?_; rintro e w2 ⟨rfl, rfl⟩)))
  all_goals
    go_wp2
    go_ret
    exact ⟨by rw [HE.out] <;> rfl, HG.out _ _ _⟩
end Go.Proofs.YtafeaeaildfohaaGreatDoor
/- slices.SortFunc, Collect, SortedFunc at facts (XHSort, turned): a map's keys, ascending. -/
namespace Go.Proofs.YtafeaeaildfohaaGreatDoor
open Go.RowKit Go.Shelf Go.Maps Go.Sort

theorem swoFct : SWO (ltOf fctC) := by
  have g := fctC_good
  refine ⟨fun x => ?_, fun x y z h1 h2 => ?_, fun x y z h1 h2 => ?_⟩ <;> unfold ltOf at *
  · rw [g.refl]; rfl
  · simp only [decide_eq_true_eq] at *
    exact g.lt_trans h1 h2
  · simp only [decide_eq_false_iff_not, Int.not_lt] at *
    have a1 := g.anti x y
    have a2 := g.anti y z
    have a3 := g.anti x z
    have := (g.trans z y x (by omega) (by omega)).1
    omega
def encFct (x : Fct) : List Value := [.string x.n, .string x.a, .string x.b]
theorem aggFct (w : World) : (isAgg (Tryz.sort77_ren.t 24)).run Tryz.prog w = .ok true w := Tryz.isAgg43 w
theorem sizeFct (w : World) : (Go.sizeOf (Tryz.sort77_ren.t 24)).run Tryz.prog w = .ok 3 w := Tryz.sizeOf43 w
theorem cmpLays (blk off size : Nat) (w : World) : CmpLays Tryz.prog 56 #[] encFct 3 fctC blk off size w :=
  fun _ _ _ _ x y => fctCmp_any x y _
theorem sortWorld_keeps (w : World) (blk off m : Nat) (d : Array Fct) (os : Array Obj) : Keeps (fun k => k = blk) w (sortWorldK encFct 3 w blk off m d os) := by
  refine ⟨rfl, rfl, rfl, ?_, fun k hk hne => ?_⟩
  · show w.heap.size ≤ ((w.heap.modify blk _) ++ os).size
    simp
  · show ((w.heap.modify blk _) ++ os)[k]? = w.heap[k]?
    rw [Array.getElem?_append_left (by simpa using hk), Array.getElem?_modify, if_neg (fun e => hne e.symm)]
theorem holds_rv {w : World} {blk off : Nat} {d : Array Fct} {cap : Nat} (h : HoldsK encFct 3 w blk off d) (hc : d.size ≤ cap) (hm : cap ≤ maxLen) {S : Nat → Prop} (hS : S blk) (hok : ∀ x ∈ d.toList, okF x) : tFcts.rv ((mem w).on S) [.slice (some ⟨blk, off, none⟩) d.size cap] d.toList := by
  refine ⟨some ⟨blk, off, none⟩, cap, by simp, by simpa using hc, hm, fun _ => ⟨blk, off, rfl, fun k hk => ⟨encFct d.toList[k], fun j u hj => ?_, rfl, hok _ (List.getElem_mem hk)⟩⟩⟩
  have hk' : k < d.size := by simpa using hk
  have hj2 : j < 3 := by
    have := (List.getElem?_eq_some_iff.1 hj).1
    simpa [encFct] using this
  have := (h.cell hk' hj2).1
  refine Mem.on_some ?_ hS
  show w.cell? ⟨blk, off + k * 3 + j, none⟩ = some u
  rw [this]
  congr 1
  rw [getElem!_pos d k hk']
  rw [show d.toList[k] = d[k] by simp] at hj
  rw [List.getElem!_eq_getElem?_getD, hj]
  rfl
theorem owns_holds {w : World} {B blk cap : Nat} {o : Nat} {ss : List Fct} (h : Owns tFct w B 43 (.slice (some ⟨blk, o, none⟩) ss.length cap) ss) : o = 0 ∧ B ≤ blk ∧ blk < w.heap.size ∧ HoldsK encFct 3 w blk 0 ss.toArray := by
  have hrv := h.rv'
  obtain ⟨css, g1, ⟨g2, g3⟩, g4, g5⟩ := h
  rcases g3 with ⟨g3, _⟩ | ⟨g, cap', cur, e, hB, hg, _⟩
  · cases g3
  · injection e with e1 e2 e3
    injection e1 with e1
    injection e1 with e1 e4 e5
    subst e1; subst e4
    refine ⟨rfl, hB, (Array.getElem?_eq_some_iff.1 hg).1, fun t ht => ?_⟩
    have ht' : t < ss.length * 3 := by simpa using ht
    have hk : t / 3 < ss.length := by omega
    obtain ⟨b', o', e', cs, hat, hcs⟩ := slice_at hrv hk
    injection e' with e1
    injection e1 with e1 e4 e5
    subst e1; subst e4
    have hc := hat (t % 3) ((encFct ss[t / 3])[t % 3]!) (by
      have h2 : t % 3 < 3 := Nat.mod_lt _ (by omega)
      rw [show cs = encFct ss[t / 3] from hcs.1, List.getElem!_eq_getElem?_getD, List.getElem?_eq_getElem (show t % 3 < (encFct ss[t / 3]).length from h2)]
      rfl)
    have he : 0 + t / 3 * tFct.sz + t % 3 = 0 + t := by show 0 + t / 3 * 3 + t % 3 = _; omega
    rw [he] at hc
    refine ⟨?_, frozen_cells hg _⟩
    rw [get_flatK _ _ _ _ (by simpa using ht')]
    have hx : (ss.toArray)[t / 3]! = ss[t / 3] := by rw [getElem!_pos ss.toArray (t / 3) (by simpa using hk)]; simp
    rw [hx]
    exact hc
theorem owns_ok {w : World} {B : Nat} {e : TypeId} {v : Value} {ss : List Fct} (h : Owns tFct w B e v ss) : ∀ x ∈ ss, okF x := by
  intro x hx
  obtain ⟨k, hk, rfl⟩ := List.mem_iff_getElem.1 hx
  obtain ⟨a, c, rfl, -, -, hr⟩ := slice_form h.rv'
  obtain ⟨b, o, -, cs, -, -, hok⟩ := slice_at hr hk
  exact hok
set_option maxRecDepth 100000 in
set_option maxHeartbeats 2000000 in
theorem sortFcts_any (base : Nat) (v : Value) (ss : List Fct) (w : World) (h : Owns tFct w base 43 v ss) (hn : ss.length ≤ 1000000000) :
    Calls Tryz.prog 77 #[v, .func (.func 56) #[] #[]] w fun e w' => e = .returned (.tuple #[]) ∧
      ∃ tt, tt.Perm ss ∧ tt.Pairwise (fun a b => fctC a b ≤ 0) ∧ tFcts.rv ((mem w').on (base ≤ ·)) [v] tt ∧ Keeps (fun k => base ≤ k) w w' ∧ ∀ k, v.ownBlock = some k → ∃ cur, w'.heap[k]? = some (.cells cur 43 (0, 0)) := by
  have hoks := owns_ok h
  obtain ⟨au, cu, rfl, hlc, hmc, _⟩ := slice_form h.rv'
  cases au with
  | none =>
    have h0 : ss = [] := by
      obtain ⟨css, h1, ⟨h2, h3⟩, h4, h5⟩ := h
      rcases h3 with ⟨e, h3⟩ | ⟨g, cap, cur, e, _⟩
      · injection e with _ e _
        exact List.eq_nil_of_length_eq_zero e
      · injection e with e; cases e
    subst h0
    refine (AnyF.slices_SortFunc_none (P := Tryz.prog) (ρ := Tryz.sort77_ren) { Tryz.sort77 with } none cu _ w).mono ?_
    rintro e w' ⟨rfl, rfl⟩
    obtain ⟨css, h1, ⟨h2, h3⟩, h4, h5⟩ := h
    rcases h3 with ⟨e, h3⟩ | ⟨g, cap, cur, e, _⟩
    · injection e with _ _ e
      subst e
      exact ⟨rfl, [], List.Perm.refl _, List.Pairwise.nil, slice_nil _ _, Keeps.refl _ _, fun k e => (by cases e)⟩
    · injection e with e; cases e
  | some a =>
    obtain ⟨blk, o, sp⟩ := a
    have hsp : sp = none := by
      obtain ⟨css, h1, ⟨h2, h3⟩, h4, h5⟩ := h
      rcases h3 with ⟨e, h3⟩ | ⟨g, cap, cur, e, _⟩
      · injection e with e; cases e
      · injection e with e; injection e with e; injection e
    subst hsp
    obtain ⟨rfl, hB, hlt, hH⟩ := owns_holds h
    refine (AnyQ.slices_SortFunc (P := Tryz.prog) (ρ := Tryz.sort77_ren) Tryz.sort77 3 aggFct sizeFct encFct (fun _ => rfl) (fun x v hv => by simp [encFct] at hv; rcases hv with rfl | rfl | rfl <;> rfl) fctC swoFct
      56 #[] blk 0 cu ss.toArray w (fun _ _ => rfl) (cmpLays _ _ _ _) hH hlt (by simp; omega)).mono ?_
    rintro e w' ⟨rfl, d, n, os, ⟨hsz, _, hp⟩, hsrt, rfl⟩
    have hszl : d.size = ss.length := by simpa using hsz
    have hperm : d.toList.Perm ss := by
      have e1 : d.extract 0 ss.toArray.size = d := by rw [List.size_toArray, ← hszl]; simp
      rw [e1] at hp
      simpa using hp
    refine ⟨rfl, d.toList, hperm, ?_, ?_, (sortWorld_keeps _ _ _ _ _ _).wide (fun k _ e => by subst e; exact hB), fun k e => ?_⟩
    · rw [List.pairwise_iff_getElem]
      intro i j hi hj hij
      have hj' : j < d.size := by simpa using hj
      have hi' : i < d.size := by omega
      have := hsrt i j (Nat.zero_le _) hij (by simp; omega)
      rw [getElem!_pos d j hj', getElem!_pos d i hi'] at this
      unfold ltOf at this
      simp only [decide_eq_false_iff_not, Int.not_lt] at this
      have ha := fctC_good.anti d[i] d[j]
      simp only [Array.getElem_toList]
      omega
    · have hh : HoldsK encFct 3 (sortWorldK encFct 3 w blk 0 n d os) blk 0 d := holdsK_grow _ _ _ os blk 0 d (by show blk < (w.heap.modify blk _).size; simpa using hlt) (holdsK_putRowK _ _ _ _ _ _ d (holdsK_ahead _ _ _ n _ _ _ hH) hsz)
      have := holds_rv (cap := cu) hh (by omega) hmc (S := (base ≤ ·)) hB (fun x hx => hoks x (hperm.mem_iff.1 hx))
      rw [hszl] at this
      exact this
    · obtain rfl : blk = k := by injection e
      obtain ⟨css, _, ⟨_, h3⟩, _⟩ := h
      rcases h3 with ⟨e, _⟩ | ⟨g, cap, cur, e, _, hg, _⟩
      · injection e with e; cases e
      · injection e with e1
        injection e1 with e1
        injection e1 with e1
        subst e1
        refine ⟨putCells id 0 (flatK encFct 3 d) cur, ?_⟩
        show ((w.heap.modify blk _) ++ os)[blk]? = _
        rw [Array.getElem?_append_left (by simpa using hlt), Array.getElem?_modify, if_pos rfl, hg]
        rfl
/-- The keys of a map, ascending. -/
structure KeysF (f : Fct → Option Int) (ss : List Fct) : Prop where
  up : Asc ss
  mem : ∀ k, k ∈ ss ↔ (f k).isSome = true
theorem KeysF.of {f : (Fct → Option Int)} {ss tt : List Fct} (h : AllKeys f ss) (hp : tt.Perm ss) (hs : tt.Pairwise (fun a b => fctC a b ≤ 0)) : KeysF f tt := by
  refine ⟨?_, fun k => (hp.mem_iff).trans (h.2.1 k)⟩
  have hn : tt.Nodup := hp.nodup_iff.2 h.1
  refine (hs.and hn).imp fun {a b} h => ?_
  have := fctC_good.range a b
  by_cases h0 : fctC a b = 0
  · exact absurd (fctC_eq h0) h.2
  · omega
set_option maxRecDepth 100000 in
set_option maxHeartbeats 2000000 in
theorem sortedFcts_any (B b n : Nat) (f : (Fct → Option Int)) (w : World) (hB : w.cell? ⟨B, 0, none⟩ = some (.map (some b))) (hf : FM w b n f) (hn : n ≤ 1000000000) :
    Calls Tryz.prog 54 #[.func (.func 78) #[] #[.pointer (some ⟨B, 0, none⟩)], .func (.func 56) #[] #[]] w
      fun e w' => ∃ v ss, e = .returned v ∧ KeysF f ss ∧ (∀ x ∈ ss, okF x) ∧ ss.length ≤ n ∧ tFcts.rv ((mem w').on (w.heap.size ≤ ·)) [v] ss ∧ Below w.heap.size w w' ∧ (∀ k, v.ownBlock = some k → ∃ cur, w'.heap[k]? = some (.cells cur 43 (0, 0))) := by
  have HK := Lib.hid (fun wr (h : Below w.heap.size w wr) => appendSeqS_any 78 #[.pointer (some ⟨B, 0, none⟩)] (fun pre x => pre.length < n ∧ okF x) (AllKeys f) n wr (fun _ _ => rfl)
    (keysS_gives B b n f wr (below_mem h _ _ _ hB) (hf.below h)) (fun _ _ h => h) hn)
  have HC := Lib.hid (fun wr (h : Below w.heap.size w wr) => (show Calls Tryz.prog 76 #[.func (.func 78) #[] #[.pointer (some ⟨B, 0, none⟩)]] wr
      fun e w' => ∃ v ss, e = .returned v ∧ AllKeys f ss ∧ Owns tFct w' wr.heap.size 43 v ss ∧ Below wr.heap.size wr w' from by
    go_enter Tryz.func76, Tryz.ntmps76
    go_wp2_with fail
    refine (HK.out _ h).mono ?_
    rintro e w1 ⟨v, ss, rfl, h1, h2, h3⟩
    obtain ⟨a1, c1, rfl, _⟩ := h2.len
    go_wp2
    go_ret
    exact ⟨_, ss, rfl, h1, h2, h3⟩))
  have HD := Lib.hid (show ∀ ss, AllKeys f ss → ss.length ≤ n from fun ss h => by
    obtain ⟨D, hown, hs⟩ := hf
    have : Col D (fun _ => false) ss := ⟨h.1, h.2.2, fun x hx => by
      rw [h.2.1 x]
      cases hfx : f x with
      | none => rw [hs.1 x hfx]; simp
      | some a => rw [(hs.2.1 x a hfx).1]; simp⟩
    exact this.room hown)
  clear hB hf HK
  go_enter Tryz.func54, Tryz.ntmps54
  go_wp2_with fail
  refine (HC.out _ (Below.refl _ _)).mono ?_
  rintro e w1 ⟨v, ss, rfl, h1, h2, h3⟩
  have hlen := HD.out ss h1
  have HS := Lib.hid (sortFcts_any _ _ _ _ h2 (by omega))
  have H1 := Lib.hid h1
  have H3 := Lib.hid h3
  obtain ⟨a1, c1, rfl, hml⟩ := h2.len
  clear h1 h2 h3 HC HD
  go_wp2_with fail
  refine HS.out.mono ?_
  rintro e w2 ⟨rfl, tt, hp, hs, hrv, hk, hty⟩
  have HTY := Lib.hid hty
  clear hty
  have HR := Lib.hid hrv
  have HF := Lib.hid (KeysF.of H1.out hp hs)
  have HO := Lib.hid (show ∀ x ∈ tt, okF x from fun x hx => H1.out.2.2 x (hp.mem_iff.1 hx))
  have hl2 := hp.length_eq
  have HB := Lib.hid (Keeps.belowStep H3.out hk (fun k h => h) H3.out.size)
  clear hp hs hrv hk H1 H3 HS
  go_wp2
  go_ret
  exact ⟨_, tt, rfl, HF.out, HO.out, by omega, HR.out, HB.out, HTY.out⟩
end Go.Proofs.YtafeaeaildfohaaGreatDoor
/- Maps from texts to texts and to slices: what look-ups, stores and deletes do, av runs. -/
namespace Go.Proofs.YtafeaeaildfohaaGreatDoor
open Go.RowKit Go.Maps

def vStr : VR ByteArray := ⟨fun _ v x => v = .string x ∧ x.size ≤ maxLen, fun _ _ _ _ _ h => h⟩
def vRaw : VR Value := ⟨fun _ v x => v = x, fun _ _ _ _ _ h => h⟩
theorem keyStr : Keyed Tryz.prog 9 := string_keyed Tryz.underlying9
theorem keyStr_ex : ∀ v l, keyOf Tryz.prog 9 v = some l → (∃ x, l = strKey x) ∧ ∃ s, l = .string s := keyStr_exP Tryz.underlying9
@[reducible] def BM (W : World) (b n : Nat) (f : ByteArray → Option ByteArray) : Prop := MapOf Tryz.prog 9 strKey vStr W b n f
@[reducible] def IM (W : World) (b n : Nat) (f : ByteArray → Option Value) : Prop := MapOf Tryz.prog 9 strKey vRaw W b n f
theorem mapOf_at {κ α : Type} {P : Program} {k : TypeId} {lk : κ → Lit} {vr : VR α} (hv : ∀ m m' v x, vr.rel m v x → vr.rel m' v x) {W W' : World} {b n : Nat} {f : κ → Option α} (h : MapOf P k lk vr W b n f) (hb : W'.heap[b]? = W.heap[b]?) : MapOf P k lk vr W' b n f := by
  obtain ⟨D, ⟨es, clock, hh, r⟩, g1, g2, g3⟩ := h
  exact ⟨D, ⟨es, clock, by rw [hb]; exact hh, r⟩, g1, fun x c e => by obtain ⟨a1, u, a2, a3⟩ := g2 x c e; exact ⟨a1, u, a2, hv _ _ _ _ a3⟩, g3⟩
theorem BM.at {W W' : World} {b n : Nat} {f : ByteArray → Option ByteArray} (h : BM W b n f) (hb : W'.heap[b]? = W.heap[b]?) : BM W' b n f := mapOf_at (fun _ _ _ _ h => h) h hb
theorem IM.at {W W' : World} {b n : Nat} {f : ByteArray → Option Value} (h : IM W b n f) (hb : W'.heap[b]? = W.heap[b]?) : IM W' b n f := mapOf_at (fun _ _ _ _ h => h) h hb
theorem zeroStr (W : World) : (zeroValue 9).run Tryz.prog W = .ok (.string .empty) W := Tryz.zeroValue9 W
theorem zeroFacts (W : World) : (zeroValue 39).run Tryz.prog W = .ok (.slice none 0 0) W := Tryz.zeroValue39 W
open Classical in
noncomputable def delAt {κ α : Type} (f : κ → Option α) (x : κ) : κ → Option α := fun y => if y = x then none else f y
theorem delAt_same {κ α : Type} (f : κ → Option α) (x : κ) : delAt f x x = none := by simp [delAt]
theorem delAt_other {κ α : Type} (f : κ → Option α) {x y : κ} (h : y ≠ x) : delAt f x y = f y := by simp [delAt, h]
theorem turned_grown {w w' : World} {b : Nat} (h : w.mapTurned w' b) : w.grownBy w' (some b) := by
  obtain ⟨es, c, es', c', hb, rfl⟩ := h
  exact ⟨rfl, rfl, rfl, by simp [ChangeMaps.setBlock], fun i _ hi => ChangeMaps.heap_setBlock_other hb _ (fun e => hi (by rw [e]))⟩
section
variable {W : World} {b n : Nat}
theorem BM.lookOk {f : ByteArray → Option ByteArray} (h : BM W b n f) {x : ByteArray} (hx : x.size ≤ maxLen) : (Instr.lookup 82 (.map (some b)) (.string x) true).run Tryz.prog W = .ok (.tuple #[.string (strD (f x)), .bool (f x).isSome]) W := by
  obtain ⟨v, h1, h2, h3⟩ := MapOf.lookOk h keyStr Tryz.underlying82 (zeroStr W) (keyOf_str Tryz.underlying9 hx)
  rw [h1]
  cases hf : f x with
  | none => rw [h2 hf]; rfl
  | some a => rw [show v = .string a from (h3 a hf).1]; rfl
theorem BM.look {f : ByteArray → Option ByteArray} (h : BM W b n f) {x : ByteArray} (hx : x.size ≤ maxLen) : (Instr.lookup 82 (.map (some b)) (.string x) false).run Tryz.prog W = .ok (.string (strD (f x))) W := by
  obtain ⟨v, h1, h2, h3⟩ := MapOf.look h keyStr Tryz.underlying82 (zeroStr W) (keyOf_str Tryz.underlying9 hx)
  rw [h1]
  cases hf : f x with
  | none => rw [h2 hf]; rfl
  | some a => rw [show v = .string a from (h3 a hf).1]; rfl
theorem BM.put {f : ByteArray → Option ByteArray} (h : BM W b n f) (hn : n < maxLen) {x : ByteArray} (hx : x.size ≤ maxLen) {s : ByteArray} (hs : s.size ≤ maxLen) :
    ∃ W', (Instr.mapUpdate 82 (.map (some b)) (.string x) (.string s)).run Tryz.prog W = .ok () W' ∧ BM W' b (n + 1) (putAt f x s) ∧ W.grownBy W' (some b) := by
  obtain ⟨D, hown, hsy⟩ := h
  obtain ⟨W', hrun, ho, hgr⟩ := hown.update keyStr Tryz.underlying82 hn (keyOf_str Tryz.underlying9 hx) (R := rawE) (val := .string s) (d := .held (.string s)) (ps := []) rfl
  have hle := grown_mem hown hgr
  exact ⟨W', hrun, ⟨_, ho, hsy.put hle hown.isMap strKey_inj (keyStr.key (keyOf_str Tryz.underlying9 hx)) ⟨rfl, hs⟩⟩, hgr⟩
theorem BM.drop {f : ByteArray → Option ByteArray} (h : BM W b n f) {x : ByteArray} (hx : x.size ≤ maxLen) (ty : TypeId) :
    ∃ W', (Builtin.delete_ #[82, 9] ty #[.map (some b), .string x]).run Tryz.prog W = .ok (.tuple #[]) W' ∧ BM W' b n (delAt f x) ∧ W.grownBy W' (some b) := by
  obtain ⟨D, hown, h1, h2, h3⟩ := h
  obtain ⟨W', hrun, ho, ht⟩ := hown.drop keyStr Tryz.underlying82 (keyOf_str Tryz.underlying9 hx) ty
  refine ⟨W', hrun, ⟨_, ho, fun z hy => ?_, fun z c hy => ?_, fun l hl => ?_⟩, turned_grown ht⟩
  · by_cases e : z = x
    · subst e; exact has_del_same
    · rw [delAt_other _ e] at hy
      rw [has_del_other (fun e' => e (strKey_inj _ _ e'))]; exact h1 z hy
  · by_cases e : z = x
    · subst e; rw [delAt_same] at hy; cases hy
    · rw [delAt_other _ e] at hy
      obtain ⟨g, u, g1, g2⟩ := h2 z c hy
      have hne : strKey z ≠ strKey x := fun e' => e (strKey_inj _ _ e')
      exact ⟨by rw [has_del_other hne]; exact g, u, fun q => by rw [atKey_del_other hne]; exact g1 q, g2⟩
  · by_cases e : l = strKey x
    · exact ⟨_, e⟩
    · rw [has_del_other e] at hl; exact h3 l hl
def sliceOr : Option Value → Value
  | none => .slice none 0 0
  | some v => v
theorem IM.look {f : ByteArray → Option Value} (h : IM W b n f) {x : ByteArray} (hx : x.size ≤ maxLen) : (Instr.lookup 77 (.map (some b)) (.string x) false).run Tryz.prog W = .ok (sliceOr (f x)) W := by
  obtain ⟨v, h1, h2, h3⟩ := MapOf.look h keyStr Tryz.underlying77 (zeroFacts W) (keyOf_str Tryz.underlying9 hx)
  rw [h1]
  cases hf : f x with
  | none => rw [h2 hf]; rfl
  | some a => rw [show v = a from h3 a hf]; rfl
theorem IM.put {f : ByteArray → Option Value} (h : IM W b n f) (hn : n < maxLen) {x : ByteArray} (hx : x.size ≤ maxLen) (v : Value) :
    ∃ W', (Instr.mapUpdate 77 (.map (some b)) (.string x) v).run Tryz.prog W = .ok () W' ∧ IM W' b (n + 1) (putAt f x v) ∧ W.grownBy W' (some b) := by
  obtain ⟨D, hown, hsy⟩ := h
  obtain ⟨W', hrun, ho, hgr⟩ := hown.update keyStr Tryz.underlying77 hn (keyOf_str Tryz.underlying9 hx) (R := rawE) (val := v) (d := .held v) (ps := []) rfl
  have hle := grown_mem hown hgr
  exact ⟨W', hrun, ⟨_, ho, hsy.put hle hown.isMap strKey_inj (keyStr.key (keyOf_str Tryz.underlying9 hx)) rfl⟩, hgr⟩
/-- The values of variables in a map. -/
def BMB (W : World) (b : Nat) (av : Bnd) : Prop := BM W b av.length (lkB av) ∧ (av.map Prod.fst).Nodup
theorem lkB_some {av : Bnd} {k : ByteArray} : k ∈ av.map Prod.fst ↔ (lkB av k).isSome = true := by
  induction av with
  | nil => simp [lkB]
  | cons p av ih =>
    simp only [lkB, List.map_cons, List.mem_cons]
    split
    · next h => simp [h]
    · next h =>
      rw [← ih]
      constructor
      · rintro (e | e)
        · exact absurd e.symm h
        · exact e
      · exact .inr
theorem BM.exactB {av : Bnd} (h : BM W b n (lkB av)) (hn : (av.map Prod.fst).Nodup) : BMB W b av := by
  refine ⟨?_, hn⟩
  have := MapOf.exact h keyStr (av.map Prod.fst) hn (fun x => lkB_some) (fun x y _ _ e => strKey_inj _ _ e) keyStr_ex
  rwa [List.length_map] at this
theorem BMB.lookOk {av : Bnd} (h : BMB W b av) {x : ByteArray} (hx : x.size ≤ maxLen) : (Instr.lookup 82 (.map (some b)) (.string x) true).run Tryz.prog W = .ok (.tuple #[.string (strD (lkB av x)), .bool (lkB av x).isSome]) W := h.1.lookOk hx
theorem BMB.look {av : Bnd} (h : BMB W b av) {x : ByteArray} (hx : x.size ≤ maxLen) : (Instr.lookup 82 (.map (some b)) (.string x) false).run Tryz.prog W = .ok (.string (strD (lkB av x))) W := h.1.look hx
theorem BMB.put {av : Bnd} (h : BMB W b av) (hl : av.length < 1000) {x : ByteArray} (hx : x.size ≤ maxLen) {s : ByteArray} (hs : s.size ≤ maxLen) (hnew : lkB av x = none) :
    ∃ W', (Instr.mapUpdate 82 (.map (some b)) (.string x) (.string s)).run Tryz.prog W = .ok () W' ∧ BMB W' b (av ++ [(x, s)]) ∧ W.grownBy W' (some b) := by
  obtain ⟨W', h1, h2, h3⟩ := h.1.put (by unfold maxLen; omega) hx hs
  refine ⟨W', h1, BM.exactB (n := av.length + 1) ?_ ?_, h3⟩
  · refine (funext fun k => ?_ : putAt (lkB av) x s = lkB (av ++ [(x, s)])) ▸ h2
    rw [lkB_snoc]
    by_cases e : k = x
    · subst e; rw [putAt_same, hnew]; simp
    · rw [putAt_other _ _ e]
      cases lkB av k with
      | some a => rfl
      | none => simp [Ne.symm e]
  · rw [List.map_append]
    refine List.nodup_append.2 ⟨h.2, by simp, fun a ha c hc e => ?_⟩
    simp at hc
    subst hc; subst e
    have := lkB_some.1 ha
    rw [hnew] at this
    cases this
theorem BMB.drop {av : Bnd} {x s : ByteArray} (h : BMB W b (av ++ [(x, s)])) (hx : x.size ≤ maxLen) (ty : TypeId) :
    ∃ W', (Builtin.delete_ #[82, 9] ty #[.map (some b), .string x]).run Tryz.prog W = .ok (.tuple #[]) W' ∧ BMB W' b av ∧ W.grownBy W' (some b) := by
  obtain ⟨W', h1, h2, h3⟩ := h.1.drop hx ty
  have hn := h.2
  rw [List.map_append] at hn
  obtain ⟨hn1, _, hn2⟩ := List.nodup_append.1 hn
  have hxn : lkB av x = none := by
    cases hl : lkB av x with
    | none => rfl
    | some a => exact absurd rfl (hn2 x (lkB_some.2 (by rw [hl]; rfl)) x (by simp))
  refine ⟨W', h1, BM.exactB (n := (av ++ [(x, s)]).length) ?_ hn1, h3⟩
  refine (funext fun k => ?_ : delAt (lkB (av ++ [(x, s)])) x = lkB av) ▸ h2
  by_cases e : k = x
  · subst e; rw [delAt_same, hxn]
  · rw [delAt_other _ e, lkB_snoc]
    cases lkB av k with
    | some a => rfl
    | none => simp [Ne.symm e]
/-- One of the variables at the end taken away. -/
theorem BMB.dropMid {av ad : Bnd} {x s : ByteArray} (h : BMB W b (av ++ (x, s) :: ad)) (hx : x.size ≤ maxLen) (ty : TypeId) :
    ∃ W', (Builtin.delete_ #[82, 9] ty #[.map (some b), .string x]).run Tryz.prog W = .ok (.tuple #[]) W' ∧ BMB W' b (av ++ ad) ∧ W.grownBy W' (some b) := by
  obtain ⟨W', h1, h2, h3⟩ := h.1.drop hx ty
  have hn := h.2
  have hlk : ∀ (l m : Bnd) (k : ByteArray), lkB (l ++ m) k = match lkB l k with | some w => some w | none => lkB m k := fun l m k => by
    induction l with
    | nil => rfl
    | cons p l ih =>
      simp only [List.cons_append, lkB]
      by_cases hp : p.1 = k
      · rw [if_pos hp, if_pos hp]
      · rw [if_neg hp, if_neg hp]; exact ih
  rw [List.map_append, List.map_cons] at hn
  obtain ⟨hn1, hn2, hn3⟩ := List.nodup_append.1 hn
  rw [List.nodup_cons] at hn2
  have hxa : lkB av x = none := by
    cases hl : lkB av x with
    | none => rfl
    | some a => exact absurd rfl (hn3 x (lkB_some.2 (by rw [hl]; rfl)) x List.mem_cons_self)
  have hxd : lkB ad x = none := by
    cases hl : lkB ad x with
    | none => rfl
    | some a => exact absurd (lkB_some.2 (by rw [hl]; rfl)) hn2.1
  refine ⟨W', h1, BM.exactB (n := (av ++ (x, s) :: ad).length) ?_ ?_, h3⟩
  · refine (funext fun k => ?_ : delAt (lkB (av ++ (x, s) :: ad)) x = lkB (av ++ ad)) ▸ h2
    by_cases e : k = x
    · subst e; rw [delAt_same, hlk, hxa, hxd]
    · rw [delAt_other _ e, hlk, hlk]
      cases lkB av k with
      | some a => rfl
      | none => simp [lkB, Ne.symm e]
  · rw [List.map_append]
    exact List.nodup_append.2 ⟨hn1, hn2.2, fun a ha c hc => hn3 a ha c (List.mem_cons_of_mem _ hc)⟩
theorem BMB.memLe {W W' : World} {av : Bnd} (h : BMB W b av) (hk : Keeps (fun q => q = b) W W') : (mem W).le (mem W') := fun i o v e => by
  obtain ⟨D, hown, _⟩ := h.1
  have hne : i ≠ b := fun e' => by subst e'; rw [mapBlock_mem hown o] at e; cases e
  exact (mem_of_block (hk.block i (mem_lt e) hne) o).trans e
theorem BMB.at {W W' : World} {b : Nat} {av : Bnd} (h : BMB W b av) (hb : W'.heap[b]? = W.heap[b]?) : BMB W' b av := ⟨h.1.at hb, h.2⟩
end
end Go.Proofs.YtafeaeaildfohaaGreatDoor
/- ring.name, row.Name of the reference. -/
namespace Go.Proofs.YtafeaeaildfohaaGreatDoor
open Go.RowKit
def idxOf {α : Type} (p : α → Bool) (l : List α) : Int := match l.findIdx? p with | none => -1 | some i => i
theorem idxOf_any {α : Type} (p : α → Bool) (l : List α) : decide (0 ≤ idxOf p l) = l.any p := by
  unfold idxOf
  cases h : l.findIdx? p with
  | none =>
    rw [List.findIdx?_eq_none_iff] at h
    have : l.any p = false := by simpa using h
    rw [this]; rfl
  | some i =>
    rw [List.findIdx?_eq_some_iff_getElem] at h
    obtain ⟨h1, h2, _⟩ := h
    have : l.any p = true := List.any_eq_true.2 ⟨l[i], List.getElem_mem h1, h2⟩
    rw [this]; simp
theorem idxOf_none {α : Type} {p : α → Bool} {l : List α} (h : ∀ x ∈ l, p x = false) : idxOf p l = -1 := by
  unfold idxOf
  rw [List.findIdx?_eq_none_iff.2 (by simpa using h)]
theorem idxOf_at {α : Type} {p : α → Bool} {l : List α} {k : Nat} (hk : k < l.length) (hp : p l[k] = true) (h : ∀ x ∈ l.take k, p x = false) : idxOf p l = k := by
  unfold idxOf
  have : l.findIdx? p = some k := by
    rw [List.findIdx?_eq_some_iff_getElem]
    refine ⟨hk, hp, fun j hj => ?_⟩
    have := h l[j] (List.mem_take_iff_getElem.2 ⟨j, by omega, rfl⟩)
    simp [this]
  rw [this]

theorem mem_take_snoc {α : Type} {l : List α} {k : Nat} (hk : k < l.length) {q : α → Prop} (h : ∀ x ∈ l.take k, q x) (hx : q l[k]) : ∀ x ∈ l.take (k + 1), q x := fun x hm => by
  rw [List.take_succ_eq_append_getElem hk] at hm
  rcases List.mem_append.1 hm with hm | hm
  · exact h x hm
  · simp at hm; subst hm; exact hx

set_option maxHeartbeats 400000 in
theorem refRowWithin_any (n lo hi : Int) (w : World) :
    Calls Tryz.prog 106 #[.int .i64 n, .int .i64 lo, .int .i64 hi] w fun e w' => e = .returned (.bool (decide (lo ≤ n ∧ n ≤ hi))) ∧ w = w' := by
  by_cases h1 : lo ≤ n <;> by_cases h2 : n ≤ hi
  all_goals
    go_enter Tryz.func106, Tryz.ntmps106
    go_wp2
    go_ret
    exact ⟨by simp [*], rfl⟩

def lowC (c : Int) : Bool := decide (97 ≤ c ∧ c ≤ 122)
def nameOk (i : Nat) (c : Int) : Bool := lowC c || (decide (i ≠ 0) && (decide (48 ≤ c ∧ c ≤ 57) || decide (c = 95)))
def byteAt (s : ByteArray) (i : Nat) : Int := (s.data.toList.getD i 0).toNat
def isName (s : ByteArray) : Bool := (List.range s.size).all (fun i => nameOk i (byteAt s i)) && decide (1 ≤ s.size ∧ s.size ≤ 16)
theorem isName_all {s : ByteArray} (h : ∀ i, i < s.size → nameOk i (byteAt s i) = true) : isName s = decide (1 ≤ (s.size : Int) ∧ (s.size : Int) ≤ 16) := by
  unfold isName
  have : (List.range s.size).all (fun i => nameOk i (byteAt s i)) = true := by rw [List.all_eq_true]; intro i hi; exact h i (by simpa using hi)
  rw [this, Bool.true_and]
  congr 1
  apply propext; omega
theorem isName_bad {s : ByteArray} {i : Nat} (hi : i < s.size) (h : nameOk i (byteAt s i) = false) : isName s = false := by
  unfold isName
  have : (List.range s.size).all (fun i => nameOk i (byteAt s i)) = false := by rw [List.all_eq_false]; exact ⟨i, by simpa using hi, by simp [h]⟩
  rw [this]; rfl
theorem isName_size {s : ByteArray} (h : isName s = true) : 1 ≤ s.size ∧ s.size ≤ 16 := by
  unfold isName at h
  rw [Bool.and_eq_true] at h
  simpa using h.2
theorem byteAt_get (s : ByteArray) (k : Nat) (h : k < s.size) : ((s[k]).toNat : Int) = byteAt s k := by
  unfold byteAt
  have h' : k < s.data.toList.length := h
  rw [List.getD_eq_getElem?_getD, List.getElem?_eq_getElem h', Option.getD_some]
  rfl

set_option maxHeartbeats 2000000 in
theorem ringName_any (s : ByteArray) (w : World) (hs : s.size ≤ maxLen) :
    Calls Tryz.prog 70 #[.string s] w fun e w' => e = .returned (.bool (isName s)) ∧ w = w' := by
  unfold maxLen at hs
  go_enter Tryz.func70, Tryz.ntmps70
  go_wp2
  go_loop [7] (fun i => ∃ k : Nat, k ≤ s.size ∧ i = .int .i64 k ∧ Hid (∀ i, i < k → nameOk i (byteAt s i) = true)) (fun i => s.size - (intOf i).toNat)
  case atStart => exact ⟨0, by omega, rfl, Lib.hid (fun i hi => absurd hi (by omega))⟩
  case round =>
    obtain ⟨k, hk, rfl, HT⟩ := hrel
    by_cases hlt : k < s.size
    · have HB := Lib.hid (byteAt_get s k hlt)
      have HN := Lib.hid (show nameOk k (byteAt s k) = true → ∀ i, i < k + 1 → nameOk i (byteAt s i) = true from fun h i hi => by
        by_cases e : i = k
        · subst e; exact h
        · exact HT.out i (by omega))
      have HX := Lib.hid (fun h => isName_bad (s := s) (i := k) hlt h)
      have hb1 : 0 ≤ ((s[k]).toNat : Int) := by omega
      have hb2 : ((s[k]).toNat : Int) ≤ 255 := by have := (s[k]).toNat_lt; omega
      have HD := Lib.hid (show nameOk k (byteAt s k) = (lowC (s[k]).toNat || (decide (k ≠ 0) && (decide (48 ≤ ((s[k]).toNat : Int) ∧ ((s[k]).toNat : Int) ≤ 57) || decide (((s[k]).toNat : Int) = 95)))) by rw [HB.out]; rfl)
      clear HT HB
      generalize nameOk k (byteAt s k) = r at HD HN HX
      have hsp : (((s[k]).toNat : Int) < 97 ∧ ¬ 122 < ((s[k]).toNat : Int)) ∨ (¬ ((s[k]).toNat : Int) < 97 ∧ 122 < ((s[k]).toNat : Int)) ∨ (¬ ((s[k]).toNat : Int) < 97 ∧ ¬ 122 < ((s[k]).toNat : Int)) := by omega
      rcases hsp with ⟨hA, hB⟩ | ⟨hA, hB⟩ | ⟨hA, hB⟩
      rotate_left 2
      · have HR := Lib.hid (show r = true by rw [HD.out]; unfold lowC; simp; left; omega)
        go_wp2
        go_round
        case rel => exact ⟨k + 1, by omega, by go_num, Lib.hid (HN.out HR.out)⟩
        case measure => simp [intOf]; omega
      all_goals
        have e1 : lowC (s[k]).toNat = false := by unfold lowC; simp; omega
        by_cases h0 : k = 0
        · have HR := Lib.hid (show r = false by rw [HD.out, e1]; simp [h0])
          have e0 : ((k : Int) == 0) = true := by simp [h0]
          clear h0
          go_wp2
          go_ret
          exact ⟨by rw [HX.out HR.out] <;> rfl, rfl⟩
        · have e0 : ((k : Int) == 0) = false := by simp; omega
          by_cases h3 : ((s[k]).toNat : Int) = 95
          · have HR := Lib.hid (show r = true by rw [HD.out]; simp [h0, h3])
            have e3 : (((s[k]).toNat : Int) != 95) = false := by simp [h3]
            by_cases h4 : ((s[k]).toNat : Int) < 48
            · exfalso; omega
            · by_cases h5 : 57 < ((s[k]).toNat : Int)
              · clear h3 h0
                go_wp2
                go_round
                case rel => exact ⟨k + 1, by omega, by go_num, Lib.hid (HN.out HR.out)⟩
                case measure => simp [intOf]; omega
              · exfalso; omega
          · have e3 : (((s[k]).toNat : Int) != 95) = true := by simp [h3]
            by_cases h4 : ((s[k]).toNat : Int) < 48
            · have HR := Lib.hid (show r = false by rw [HD.out, e1]; simp [h3]; omega)
              clear h3 h0
              go_wp2
              go_ret
              exact ⟨by rw [HX.out HR.out] <;> rfl, rfl⟩
            · by_cases h5 : 57 < ((s[k]).toNat : Int)
              · have HR := Lib.hid (show r = false by rw [HD.out, e1]; simp [h3]; omega)
                clear h3 h0
                go_wp2
                go_ret
                exact ⟨by rw [HX.out HR.out] <;> rfl, rfl⟩
              · have HR := Lib.hid (show r = true by rw [HD.out]; simp [h0]; omega)
                clear h3 h0
                go_wp2
                go_round
                case rel => exact ⟨k + 1, by omega, by go_num, Lib.hid (HN.out HR.out)⟩
                case measure => simp [intOf]; omega
    · obtain rfl : k = s.size := by omega
      have HA := Lib.hid (isName_all HT.out)
      clear HT
      by_cases hz : s.toList = []
      · have h0 : s.size = 0 := by rw [Lib.toList_data] at hz; show s.data.size = 0; rw [← Array.length_toList, hz]; rfl
        have HR := Lib.hid (show isName s = false by rw [HA.out, h0]; rfl)
        go_wp2
        go_ret
        exact ⟨by rw [HR.out] <;> rfl, rfl⟩
      · have hsz : 1 ≤ s.size := by
          rcases Nat.eq_zero_or_pos s.size with h | h
          · exact absurd (by rw [Lib.toList_data]; exact List.eq_nil_of_length_eq_zero (by rw [Array.length_toList]; exact h)) hz
          · exact h
        by_cases hle : (s.size : Int) ≤ 16
        · have HR := Lib.hid (show isName s = true by rw [HA.out, decide_eq_true ⟨by omega, hle⟩])
          go_wp2
          go_ret
          exact ⟨by rw [HR.out]; simp [hle]; try exact hz, rfl⟩
        · have HR := Lib.hid (show isName s = false by rw [HA.out, decide_eq_false (fun h => hle h.2)])
          go_wp2
          go_ret
          exact ⟨by rw [HR.out]; simp [hle]; try exact hz, rfl⟩
set_option maxHeartbeats 400000 in
theorem small_any (c : Int) (w : World) (h0 : 0 ≤ c) (h1 : c ≤ 255) :
    Calls Tryz.prog 105 #[.int .u8 c] w fun e w' => e = .returned (.bool (lowC c)) ∧ w = w' := by
  have HL := Lib.hid (show lowC c = decide (97 ≤ c ∧ c ≤ 122) from rfl)
  by_cases a : 97 ≤ c <;> by_cases b : c ≤ 122
  all_goals
    have HR := Lib.hid (show lowC c = decide (97 ≤ c ∧ c ≤ 122) from rfl)
    go_enter Tryz.func105, Tryz.ntmps105
    go_wp2
    go_ret
    exact ⟨by rw [HR.out]; simp [*], rfl⟩

set_option maxHeartbeats 1000000 in
theorem refName_any (s : ByteArray) (w : World) (hs : s.size ≤ maxLen) :
    Calls Tryz.prog 83 #[.string s] w fun e w' => e = .returned (.bool (isName s)) ∧ w = w' := by
  unfold maxLen at hs
  go_enter Tryz.func83, Tryz.ntmps83
  go_wp2
  go_loop [3] (fun i => ∃ k : Nat, k ≤ s.size ∧ i = .int .i64 k ∧ Hid (∀ i, i < k → nameOk i (byteAt s i) = true)) (fun i => s.size - (intOf i).toNat)
  case atStart => exact ⟨0, by omega, rfl, Lib.hid (fun i hi => absurd hi (by omega))⟩
  case round =>
    obtain ⟨k, hk, rfl, HT⟩ := hrel
    by_cases hlt : k < s.size
    · have HB := Lib.hid (byteAt_get s k hlt)
      have HN := Lib.hid (show nameOk k (byteAt s k) = true → ∀ i, i < k + 1 → nameOk i (byteAt s i) = true from fun h i hi => by
        by_cases e : i = k
        · subst e; exact h
        · exact HT.out i (by omega))
      have HX := Lib.hid (fun h => isName_bad (s := s) (i := k) hlt h)
      have hb1 : 0 ≤ ((s[k]).toNat : Int) := by omega
      have hb2 : ((s[k]).toNat : Int) ≤ 255 := by have := (s[k]).toNat_lt; omega
      have HD := Lib.hid (show nameOk k (byteAt s k) = (lowC (s[k]).toNat || (decide (k ≠ 0) && (decide (48 ≤ ((s[k]).toNat : Int) ∧ ((s[k]).toNat : Int) ≤ 57) || decide (((s[k]).toNat : Int) = 95)))) by rw [HB.out]; rfl)
      have HS := Lib.hid (fun w => small_any ((s[k]).toNat : Int) w hb1 hb2)
      clear HT HB
      generalize nameOk k (byteAt s k) = r at HD HN HX
      generalize lowC (s[k]).toNat = q at HD HS
      cases q
      · by_cases h0 : k = 0
        · have HR := Lib.hid (show r = false by rw [HD.out]; simp [h0])
          have e0 : ((k : Int) == 0) = true := by simp [h0]
          clear h0
          go_wp2_with (go_at_call 105; refine (HS.out _).mono ?_; rintro e w' ⟨rfl, rfl⟩)
          go_ret
          exact ⟨by rw [HX.out HR.out]; rfl, rfl⟩
        · have e0 : ((k : Int) == 0) = false := by simp; omega
          by_cases h3 : ((s[k]).toNat : Int) = 95
          · have HR := Lib.hid (show r = true by rw [HD.out]; simp [h0, h3])
            have e3 : (((s[k]).toNat : Int) != 95) = false := by simp [h3]
            clear h3 h0
            go_wp2_with (go_at_call 105; refine (HS.out _).mono ?_; rintro e w' ⟨rfl, rfl⟩)
            go_round
            case rel => exact ⟨k + 1, by omega, by go_num, Lib.hid (HN.out HR.out)⟩
            case measure => simp [intOf]; omega
          · have e3 : (((s[k]).toNat : Int) != 95) = true := by simp [h3]
            by_cases h4 : ((s[k]).toNat : Int) < 48
            · have HR := Lib.hid (show r = false by rw [HD.out]; simp [h3]; omega)
              clear h3 h0
              go_wp2_with (go_at_call 105; refine (HS.out _).mono ?_; rintro e w' ⟨rfl, rfl⟩)
              go_ret
              exact ⟨by rw [HX.out HR.out]; rfl, rfl⟩
            · by_cases h5 : 57 < ((s[k]).toNat : Int)
              · have HR := Lib.hid (show r = false by rw [HD.out]; simp [h3]; omega)
                clear h3 h0
                go_wp2_with (go_at_call 105; refine (HS.out _).mono ?_; rintro e w' ⟨rfl, rfl⟩)
                go_ret
                exact ⟨by rw [HX.out HR.out]; rfl, rfl⟩
              · have HR := Lib.hid (show r = true by rw [HD.out]; simp [h0]; omega)
                clear h3 h0
                go_wp2_with (go_at_call 105; refine (HS.out _).mono ?_; rintro e w' ⟨rfl, rfl⟩)
                go_round
                case rel => exact ⟨k + 1, by omega, by go_num, Lib.hid (HN.out HR.out)⟩
                case measure => simp [intOf]; omega
      · have HR := Lib.hid (show r = true by rw [HD.out]; rfl)
        go_wp2_with (go_at_call 105; refine (HS.out _).mono ?_; rintro e w' ⟨rfl, rfl⟩)
        go_round
        case rel => exact ⟨k + 1, by omega, by go_num, Lib.hid (HN.out HR.out)⟩
        case measure => simp [intOf]; omega
    · obtain rfl : k = s.size := by omega
      have HA := Lib.hid (isName_all HT.out)
      go_wp2_with (go_at_call 106; refine (refRowWithin_any _ _ _ _).mono ?_; rintro e w' ⟨rfl, rfl⟩)
      go_ret
      exact ⟨by rw [HA.out, Bool.decide_and]; rfl, rfl⟩

abbrev tStrs : Ty (List ByteArray) := tSlice tStr
theorem str_cell {m : Mem} {xs : List ByteArray} {a : Option Addr} {n cap : Nat} (h : tStrs.rv m [.slice a n cap] xs) {k : Nat} (hk : k < xs.length) :
    ∃ b o, a = some ⟨b, o, none⟩ ∧ m b (o + k) = some (.string xs[k]) ∧ xs[k].size ≤ maxLen := by
  obtain ⟨b, o, rfl, hat⟩ := slice_at h hk
  have e : k * tStr.sz = k := Nat.mul_one k
  rw [e] at hat
  obtain ⟨cs, h1, rfl, h3⟩ := hat
  exact ⟨b, o, rfl, h1 0 _ rfl, h3⟩
end Go.Proofs.YtafeaeaildfohaaGreatDoor
/- Facts, atoms, rules: readings; IndexFunc and ContainsFunc at each (printed by gen_rfct.py). -/
namespace Go.Proofs.YtafeaeaildfohaaGreatDoor
open Go.RowKit Go.Maps

abbrev Fct.cs (x : Fct) : List Value := [.string x.n, .string x.a, .string x.b]
abbrev Rul.v (x : Rul) (v : Value) : Value := .agg #[.string x.hd.n, .string x.hd.a, .string x.hd.b, v]
theorem fcts_at {m : Mem} {xs : List Fct} {a : Option Addr} {n cap : Nat} (h : tFcts.rv m [.slice a n cap] xs) {k : Nat} (hk : k < xs.length) :
    ∃ b o, a = some ⟨b, o, none⟩ ∧ (m b (o + k * 3) = some (.string xs[k].n) ∧ m b (o + k * 3 + 1) = some (.string xs[k].a) ∧ m b (o + k * 3 + 2) = some (.string xs[k].b)) ∧ okF xs[k] := by
  obtain ⟨b, o, rfl, cs, hat, rfl, hok⟩ := slice_at h hk
  exact ⟨b, o, rfl, ⟨hat 0 _ rfl, hat 1 _ rfl, hat 2 _ rfl⟩, hok⟩
def tRul : Ty Rul := ⟨4, fun m cs x => ∃ v, cs = [.string x.hd.n, .string x.hd.a, .string x.hd.b, v] ∧ okF x.hd ∧ tFcts.rv m [v] x.bd,
  fun _ _ _ h => by obtain ⟨v, rfl, _⟩ := h; rfl,
  fun m m' cs x hm h => by obtain ⟨v, e, i, r⟩ := h; exact ⟨v, e, i, tFcts.mono _ _ _ _ hm r⟩⟩
abbrev tRuls : Ty (List Rul) := tSlice tRul
theorem ruls_at {m : Mem} {xs : List Rul} {a : Option Addr} {n cap : Nat} (h : tRuls.rv m [.slice a n cap] xs) {k : Nat} (hk : k < xs.length) :
    ∃ b o v, a = some ⟨b, o, none⟩ ∧ (m b (o + k * 4) = some (.string xs[k].hd.n) ∧ m b (o + k * 4 + 1) = some (.string xs[k].hd.a) ∧ m b (o + k * 4 + 2) = some (.string xs[k].hd.b) ∧ m b (o + k * 4 + 3) = some v) ∧ okF xs[k].hd ∧ tFcts.rv m [v] xs[k].bd := by
  obtain ⟨b, o, rfl, cs, hat, v, rfl, hok, hr⟩ := slice_at h hk
  exact ⟨b, o, v, rfl, ⟨hat 0 _ rfl, hat 1 _ rfl, hat 2 _ rfl, hat 3 _ rfl⟩, hok, hr⟩
set_option maxRecDepth 100000 in
theorem reads_fct : Reads Tryz.prog 43 tFct := fun H enc w n cs d h => by
  obtain ⟨xs, n', _, _, hl, hx, hg⟩ := DataW.trod_struct Tryz.underlying43 h
  rw [show Tryz.prog.cellsOf 43 = 3 from by kernel_rfl] at hl
  have g0 := hg 0 _ rfl
  obtain ⟨x0, r0⟩ := field_read (reads_str Tryz.underlying9) 0 1 rfl rfl (by kernel_rfl) g0 (by rw [hx]; decide)
  have g1 := hg 1 _ rfl
  obtain ⟨x1, r1⟩ := field_read (reads_str Tryz.underlying9) 1 1 rfl rfl (by kernel_rfl) g1 (by rw [hx]; decide)
  have g2 := hg 2 _ rfl
  obtain ⟨x2, r2⟩ := field_read (reads_str Tryz.underlying9) 2 1 rfl rfl (by kernel_rfl) g2 (by rw [hx]; decide)
  match cs, hl with
  | [c0, c1, c2], _ =>
    obtain ⟨e0, i0⟩ := r0
    obtain ⟨e1, i1⟩ := r1
    obtain ⟨e2, i2⟩ := r2
    simp at e0 e1 e2
    exact ⟨⟨x0, x1, x2⟩, by rw [e0, e1, e2], i0, i1, i2⟩
theorem reads_fcts : Reads Tryz.prog 39 tFcts := reads_slice Tryz.underlying39 (by kernel_rfl) (by decide) reads_fct
set_option maxRecDepth 100000 in
theorem reads_atm : Reads Tryz.prog 25 tFct := fun H enc w n cs d h => by
  obtain ⟨xs, n', _, _, hl, hx, hg⟩ := DataW.trod_struct Tryz.underlying25 h
  rw [show Tryz.prog.cellsOf 25 = 3 from by kernel_rfl] at hl
  have g0 := hg 0 _ rfl
  obtain ⟨x0, r0⟩ := field_read (reads_str Tryz.underlying9) 0 1 rfl rfl (by kernel_rfl) g0 (by rw [hx]; decide)
  have g1 := hg 1 _ rfl
  obtain ⟨x1, r1⟩ := field_read (reads_str Tryz.underlying9) 1 1 rfl rfl (by kernel_rfl) g1 (by rw [hx]; decide)
  have g2 := hg 2 _ rfl
  obtain ⟨x2, r2⟩ := field_read (reads_str Tryz.underlying9) 2 1 rfl rfl (by kernel_rfl) g2 (by rw [hx]; decide)
  match cs, hl with
  | [c0, c1, c2], _ =>
    obtain ⟨e0, i0⟩ := r0
    obtain ⟨e1, i1⟩ := r1
    obtain ⟨e2, i2⟩ := r2
    simp at e0 e1 e2
    exact ⟨⟨x0, x1, x2⟩, by rw [e0, e1, e2], i0, i1, i2⟩
theorem reads_atms : Reads Tryz.prog 26 tFcts := reads_slice Tryz.underlying26 (by kernel_rfl) (by decide) reads_atm
set_option maxRecDepth 100000 in
theorem reads_rul : Reads Tryz.prog 28 tRul := fun H enc w n cs d h => by
  obtain ⟨xs, n', _, _, hl, hx, hg⟩ := DataW.trod_struct Tryz.underlying28 h
  rw [show Tryz.prog.cellsOf 28 = 4 from by kernel_rfl] at hl
  have g0 := hg 0 _ rfl
  obtain ⟨x0, r0⟩ := field_read reads_atm 0 3 rfl rfl (by kernel_rfl) g0 (by rw [hx]; decide)
  have g1 := hg 1 _ rfl
  obtain ⟨x1, r1⟩ := field_read reads_atms 3 1 rfl rfl (by kernel_rfl) g1 (by rw [hx]; decide)
  match cs, hl with
  | [c0, c1, c2, c3], _ =>
    obtain ⟨e0, i0⟩ := r0
    simp at e0 r1
    obtain ⟨e0, e1, e2⟩ := e0
    exact ⟨⟨x0, x1⟩, c3, by rw [e0, e1, e2], i0, r1⟩
theorem reads_ruls : Reads Tryz.prog 22 tRuls := reads_slice Tryz.underlying22 (by kernel_rfl) (by decide) reads_rul
set_option maxHeartbeats 1000000 in
theorem indexFuncFct (Fn : FuncId) (capt : Array Value) (p : Fct → Bool) (xs : List Fct) (v : Value) (w : World) (hv : tFcts.rv (mem w) [v] xs)
    (hcf : ∀ args w, Sem.run Tryz.prog (callFunc Fn args) w = .ok (.enter Fn args) w)
    (hf : ∀ x : Fct, okF x → ∀ wr, Below w.heap.size w wr → Calls Tryz.prog Fn (#[x.v] ++ capt) wr fun e w' => e = .returned (.bool (p x)) ∧ Below wr.heap.size wr w') :
    Calls Tryz.prog 72 #[v, .func (.func Fn) #[] capt] w fun e w' => e = .returned (.int .i64 (idxOf p xs)) ∧ Below w.heap.size w w' := by
  obtain ⟨a, cap, rfl, hl, hm, hv⟩ := slice_form hv
  have hcap : cap ≤ 9223372036854775807 := by unfold maxLen at hm; exact hm
  clear hm
  have HF := Lib.hid hf
  clear hf
  go_enter Tryz.func72, Tryz.ntmps72
  go_wp2
  go_loopw [8] (fun i wr => ∃ k : Nat, k ≤ xs.length ∧ i = .int .i64 k ∧ Hid (∀ x ∈ xs.take k, p x = false) ∧ Below w.heap.size w wr) (fun i _ => xs.length - (intOf i).toNat)
  case atStart => exact ⟨0, by omega, rfl, Lib.hid (by simp), Below.refl _ _⟩
  case round =>
    obtain ⟨k, hk, rfl, HT, hB⟩ := hrel
    by_cases hlt : k < xs.length
    · obtain ⟨b, o, rfl, ⟨q0, q1, q2⟩, hin⟩ := fcts_at (tFcts.mono _ _ _ _ (below_mem hB) hv) hlt
      have c0 : wr.cell? ⟨b, o + k * 3, none⟩ = some (.string xs[k].n) := q0
      have c1 : wr.cell? ⟨b, o + k * 3 + 1, none⟩ = some (.string xs[k].a) := q1
      have c2 : wr.cell? ⟨b, o + k * 3 + 2, none⟩ = some (.string xs[k].b) := q2
      have hcall := HF.out xs[k] hin wr hB
      clear q0 q1 q2
      have HI := Lib.hid (show p xs[k] = true → idxOf p xs = k from fun h => idxOf_at hlt h HT.out)
      have HN := Lib.hid (show p xs[k] = false → ∀ x ∈ xs.take (k + 1), p x = false from fun h => mem_take_snoc hlt HT.out h)
      clear hv HF HT
      generalize xs[k] = x at *
      generalize hpx : p x = r at hcall HI HN
      clear hpx
      have HC := Lib.hid hcall
      clear hcall
      go_wp2_with fail
      refine HC.out.mono ?_
      rintro e w1 ⟨rfl, hB1⟩
      have hB2 := pure_trans hB hB1
      clear HC hB hB1 c0 c1 c2
      cases r
      · go_wp2
        go_roundw
        case rel => exact ⟨k + 1, by omega, by go_num, Lib.hid (HN.out (by trivial)), hB2⟩
        case measure => simp [intOf]; omega
      · go_wp2
        go_ret
        exact ⟨by rw [HI.out (by trivial)]; rfl, hB2⟩
    · obtain rfl : k = xs.length := by omega
      have HX := Lib.hid (idxOf_none (p := p) (l := xs) (fun x hx => HT.out x (by rw [List.take_length]; exact hx)))
      go_wp2
      go_ret
      exact ⟨by rw [HX.out]; rfl, hB⟩
set_option maxHeartbeats 1000000 in
theorem containsFuncFct (Fn : FuncId) (capt : Array Value) (p : Fct → Bool) (xs : List Fct) (v : Value) (w : World) (hv : tFcts.rv (mem w) [v] xs)
    (hcf : ∀ args w, Sem.run Tryz.prog (callFunc Fn args) w = .ok (.enter Fn args) w)
    (hf : ∀ x : Fct, okF x → ∀ wr, Below w.heap.size w wr → Calls Tryz.prog Fn (#[x.v] ++ capt) wr fun e w' => e = .returned (.bool (p x)) ∧ Below wr.heap.size wr w') :
    Calls Tryz.prog 48 #[v, .func (.func Fn) #[] capt] w fun e w' => e = .returned (.bool (xs.any p)) ∧ Below w.heap.size w w' := by
  have H := Lib.hid (indexFuncFct Fn capt p xs v w hv hcf hf)
  have HA := Lib.hid (idxOf_any p xs)
  clear hcf hf hv
  generalize idxOf p xs = i at H HA
  go_enter Tryz.func48, Tryz.ntmps48
  go_wp2_with fail
  refine H.out.mono ?_
  rintro e w1 ⟨rfl, hB⟩
  go_wp2
  go_ret
  exact ⟨by rw [← HA.out]; rfl, hB⟩
set_option maxHeartbeats 1000000 in
theorem indexFuncAtm (Fn : FuncId) (capt : Array Value) (p : Fct → Bool) (xs : List Fct) (v : Value) (w : World) (hv : tFcts.rv (mem w) [v] xs)
    (hcf : ∀ args w, Sem.run Tryz.prog (callFunc Fn args) w = .ok (.enter Fn args) w)
    (hf : ∀ x : Fct, okF x → ∀ wr, Below w.heap.size w wr → Calls Tryz.prog Fn (#[x.v] ++ capt) wr fun e w' => e = .returned (.bool (p x)) ∧ Below wr.heap.size wr w') :
    Calls Tryz.prog 71 #[v, .func (.func Fn) #[] capt] w fun e w' => e = .returned (.int .i64 (idxOf p xs)) ∧ Below w.heap.size w w' := by
  obtain ⟨a, cap, rfl, hl, hm, hv⟩ := slice_form hv
  have hcap : cap ≤ 9223372036854775807 := by unfold maxLen at hm; exact hm
  clear hm
  have HF := Lib.hid hf
  clear hf
  go_enter Tryz.func71, Tryz.ntmps71
  go_wp2
  go_loopw [8] (fun i wr => ∃ k : Nat, k ≤ xs.length ∧ i = .int .i64 k ∧ Hid (∀ x ∈ xs.take k, p x = false) ∧ Below w.heap.size w wr) (fun i _ => xs.length - (intOf i).toNat)
  case atStart => exact ⟨0, by omega, rfl, Lib.hid (by simp), Below.refl _ _⟩
  case round =>
    obtain ⟨k, hk, rfl, HT, hB⟩ := hrel
    by_cases hlt : k < xs.length
    · obtain ⟨b, o, rfl, ⟨q0, q1, q2⟩, hin⟩ := fcts_at (tFcts.mono _ _ _ _ (below_mem hB) hv) hlt
      have c0 : wr.cell? ⟨b, o + k * 3, none⟩ = some (.string xs[k].n) := q0
      have c1 : wr.cell? ⟨b, o + k * 3 + 1, none⟩ = some (.string xs[k].a) := q1
      have c2 : wr.cell? ⟨b, o + k * 3 + 2, none⟩ = some (.string xs[k].b) := q2
      have hcall := HF.out xs[k] hin wr hB
      clear q0 q1 q2
      have HI := Lib.hid (show p xs[k] = true → idxOf p xs = k from fun h => idxOf_at hlt h HT.out)
      have HN := Lib.hid (show p xs[k] = false → ∀ x ∈ xs.take (k + 1), p x = false from fun h => mem_take_snoc hlt HT.out h)
      clear hv HF HT
      generalize xs[k] = x at *
      generalize hpx : p x = r at hcall HI HN
      clear hpx
      have HC := Lib.hid hcall
      clear hcall
      go_wp2_with fail
      refine HC.out.mono ?_
      rintro e w1 ⟨rfl, hB1⟩
      have hB2 := pure_trans hB hB1
      clear HC hB hB1 c0 c1 c2
      cases r
      · go_wp2
        go_roundw
        case rel => exact ⟨k + 1, by omega, by go_num, Lib.hid (HN.out (by trivial)), hB2⟩
        case measure => simp [intOf]; omega
      · go_wp2
        go_ret
        exact ⟨by rw [HI.out (by trivial)]; rfl, hB2⟩
    · obtain rfl : k = xs.length := by omega
      have HX := Lib.hid (idxOf_none (p := p) (l := xs) (fun x hx => HT.out x (by rw [List.take_length]; exact hx)))
      go_wp2
      go_ret
      exact ⟨by rw [HX.out]; rfl, hB⟩
set_option maxHeartbeats 1000000 in
theorem containsFuncAtm (Fn : FuncId) (capt : Array Value) (p : Fct → Bool) (xs : List Fct) (v : Value) (w : World) (hv : tFcts.rv (mem w) [v] xs)
    (hcf : ∀ args w, Sem.run Tryz.prog (callFunc Fn args) w = .ok (.enter Fn args) w)
    (hf : ∀ x : Fct, okF x → ∀ wr, Below w.heap.size w wr → Calls Tryz.prog Fn (#[x.v] ++ capt) wr fun e w' => e = .returned (.bool (p x)) ∧ Below wr.heap.size wr w') :
    Calls Tryz.prog 44 #[v, .func (.func Fn) #[] capt] w fun e w' => e = .returned (.bool (xs.any p)) ∧ Below w.heap.size w w' := by
  have H := Lib.hid (indexFuncAtm Fn capt p xs v w hv hcf hf)
  have HA := Lib.hid (idxOf_any p xs)
  clear hcf hf hv
  generalize idxOf p xs = i at H HA
  go_enter Tryz.func44, Tryz.ntmps44
  go_wp2_with fail
  refine H.out.mono ?_
  rintro e w1 ⟨rfl, hB⟩
  go_wp2
  go_ret
  exact ⟨by rw [← HA.out]; rfl, hB⟩
set_option maxHeartbeats 1000000 in
theorem indexFuncRul (Fn : FuncId) (capt : Array Value) (p : Rul → Bool) (xs : List Rul) (v : Value) (w : World) (hv : tRuls.rv (mem w) [v] xs)
    (hcf : ∀ args w, Sem.run Tryz.prog (callFunc Fn args) w = .ok (.enter Fn args) w)
    (hf : ∀ (x : Rul) (bv : Value), okF x.hd → tFcts.rv (mem w) [bv] x.bd → ∀ wr, Below w.heap.size w wr → Calls Tryz.prog Fn (#[x.v bv] ++ capt) wr fun e w' => e = .returned (.bool (p x)) ∧ Below wr.heap.size wr w') :
    Calls Tryz.prog 57 #[v, .func (.func Fn) #[] capt] w fun e w' => e = .returned (.int .i64 (idxOf p xs)) ∧ Below w.heap.size w w' := by
  obtain ⟨a, cap, rfl, hl, hm, hv⟩ := slice_form hv
  have hcap : cap ≤ 9223372036854775807 := by unfold maxLen at hm; exact hm
  clear hm
  have HF := Lib.hid hf
  clear hf
  go_enter Tryz.func57, Tryz.ntmps57
  go_wp2
  go_loopw [8] (fun i wr => ∃ k : Nat, k ≤ xs.length ∧ i = .int .i64 k ∧ Hid (∀ x ∈ xs.take k, p x = false) ∧ Below w.heap.size w wr) (fun i _ => xs.length - (intOf i).toNat)
  case atStart => exact ⟨0, by omega, rfl, Lib.hid (by simp), Below.refl _ _⟩
  case round =>
    obtain ⟨k, hk, rfl, HT, hB⟩ := hrel
    by_cases hlt : k < xs.length
    · obtain ⟨b, o, bv, rfl, ⟨q0, q1, q2, q3⟩, hin, hbd⟩ := ruls_at hv hlt
      have c0 : wr.cell? ⟨b, o + k * 4, none⟩ = some (.string xs[k].hd.n) := below_mem hB _ _ _ q0
      have c1 : wr.cell? ⟨b, o + k * 4 + 1, none⟩ = some (.string xs[k].hd.a) := below_mem hB _ _ _ q1
      have c2 : wr.cell? ⟨b, o + k * 4 + 2, none⟩ = some (.string xs[k].hd.b) := below_mem hB _ _ _ q2
      have c3 : wr.cell? ⟨b, o + k * 4 + 3, none⟩ = some bv := below_mem hB _ _ _ q3
      have hcall := HF.out xs[k] bv hin hbd wr hB
      obtain ⟨ab, cb, rfl, -⟩ := slice_form hbd
      clear q0 q1 q2 q3 hbd
      have HI := Lib.hid (show p xs[k] = true → idxOf p xs = k from fun h => idxOf_at hlt h HT.out)
      have HN := Lib.hid (show p xs[k] = false → ∀ x ∈ xs.take (k + 1), p x = false from fun h => mem_take_snoc hlt HT.out h)
      clear hv HF HT
      generalize xs[k] = x at *
      generalize hpx : p x = r at hcall HI HN
      clear hpx
      have HC := Lib.hid hcall
      clear hcall
      go_wp2_with fail
      refine HC.out.mono ?_
      rintro e w1 ⟨rfl, hB1⟩
      have hB2 := pure_trans hB hB1
      clear HC hB hB1 c0 c1 c2 c3
      cases r
      · go_wp2
        go_roundw
        case rel => exact ⟨k + 1, by omega, by go_num, Lib.hid (HN.out (by trivial)), hB2⟩
        case measure => simp [intOf]; omega
      · go_wp2
        go_ret
        exact ⟨by rw [HI.out (by trivial)]; rfl, hB2⟩
    · obtain rfl : k = xs.length := by omega
      have HX := Lib.hid (idxOf_none (p := p) (l := xs) (fun x hx => HT.out x (by rw [List.take_length]; exact hx)))
      go_wp2
      go_ret
      exact ⟨by rw [HX.out]; rfl, hB⟩
set_option maxHeartbeats 1000000 in
theorem containsFuncRul (Fn : FuncId) (capt : Array Value) (p : Rul → Bool) (xs : List Rul) (v : Value) (w : World) (hv : tRuls.rv (mem w) [v] xs)
    (hcf : ∀ args w, Sem.run Tryz.prog (callFunc Fn args) w = .ok (.enter Fn args) w)
    (hf : ∀ (x : Rul) (bv : Value), okF x.hd → tFcts.rv (mem w) [bv] x.bd → ∀ wr, Below w.heap.size w wr → Calls Tryz.prog Fn (#[x.v bv] ++ capt) wr fun e w' => e = .returned (.bool (p x)) ∧ Below wr.heap.size wr w') :
    Calls Tryz.prog 32 #[v, .func (.func Fn) #[] capt] w fun e w' => e = .returned (.bool (xs.any p)) ∧ Below w.heap.size w w' := by
  have H := Lib.hid (indexFuncRul Fn capt p xs v w hv hcf hf)
  have HA := Lib.hid (idxOf_any p xs)
  clear hcf hf hv
  generalize idxOf p xs = i at H HA
  go_enter Tryz.func32, Tryz.ntmps32
  go_wp2_with fail
  refine H.out.mono ?_
  rintro e w1 ⟨rfl, hB⟩
  go_wp2
  go_ret
  exact ⟨by rw [← HA.out]; rfl, hB⟩
end Go.Proofs.YtafeaeaildfohaaGreatDoor
/- Appends as one step of a region that draws its order. No program in sight. -/
namespace Go.Proofs.YtafeaeaildfohaaGreatDoor
open Go.RowKit
section
variable {P : Program}
/-- APPEND OF ONE ELEMENT to a row of the call's own, as one step of a region that draws its order. -/
theorem step_append_one {α : Type} {ops : Array Oper} {o : Oper} {a : Act} {w : World} {K : Act → World → Prop} {Q : Exit → Act → World → Prop} {E : Prop} (hgd : o.guard = none) (s x : Operand) (T : TypeId)
    (ho : o.op = .call { callee := .builtin .append, args := #[s, x], argTypes := #[T, T] }) (t : Ty α) {e : TypeId} {z : Value} {bytes : Nat} (hT : P.underlying T = some (.slice e))
    (hinf : (P.info? e).map (fun i => (i.zero, i.size, i.bytes)) = some (some z, t.sz, bytes)) (hzs : z.cells.size = t.sz) (hsz : 0 < t.sz) (B : Nat) (v : Value) (xs : List α) (hs : a.eval s = v) (hown : Owns t w B e v xs)
    (nb c : Nat) (y : α) (hx : a.eval x = .slice (some ⟨nb, 0, none⟩) 1 c) (cs : List Value) (hat : At (mem w) nb 0 cs) (hrv : t.rv ((mem w).on (fun b => some b ≠ v.ownBlock)) cs y) (h1 : ∀ u ∈ cs, u.oneCell' = true)
    (h63 : xs.length + 1 ≤ maxLen) (hbytes : (xs.length + 1) * bytes ≤ 140737488355328) (hbase : B ≤ w.heap.size)
    (h : ∀ v' w', Owns t w' B e v' (xs ++ [y]) → w.grownBy w' v.ownBlock → (v'.ownBlock = v.ownBlock ∨ ∀ k, v'.ownBlock = some k → w.heap.size ≤ k) → K (a.put o.dst v') w') :
    if Region.wanted o (yielded ops a.tmps) = true then Oper.wp P o a w K Q else E := by
  have hw : Region.wanted o (yielded ops a.tmps) = true := by simp [Region.wanted, hgd]
  rw [if_pos hw]
  obtain ⟨i, hi, hz, hsize, hby⟩ := info_parts hinf
  have hown' := hown
  obtain ⟨css, g1, g2, g4, g5⟩ := hown
  have hl : cs.length = 1 * t.sz := by rw [t.len _ _ _ hrv, Nat.one_mul]
  have hnews : ∀ j u, cs[j]? = some u → w.cell? ((⟨nb, 0, none⟩ : Addr).add j) = some u := fun j u hj => by rw [Addr.add_lit]; exact hat j u hj
  obtain ⟨v', w', hr, h2, h3, _⟩ := run_append_own (P := P) w B T o.type e i z t.sz bytes hT hi hz hsize hby hzs hsz v xs.length css.flatten g2 ⟨nb, 0, none⟩ 1 c cs hl hnews h1 h63 hbytes hbase
  have hblk := append_block w B T o.type e i z t.sz bytes hT hi hz hsize hby v xs.length css.flatten g2 ⟨nb, 0, none⟩ 1 c cs hl hnews h1 (by omega) h63 hbytes hr
  have key : Owns t w' B e v' (xs ++ [y]) := by
    refine hown'.snoc (fun css' hc' => ?_) h3 hblk hrv
    obtain ⟨v2, w2, hr2, h22, _, _⟩ := run_append_own (P := P) w B T o.type e i z t.sz bytes hT hi hz hsize hby hzs hsz v xs.length css'.flatten hc' ⟨nb, 0, none⟩ 1 c cs hl hnews h1 h63 hbytes hbase
    rw [hr] at hr2
    injection hr2 with ev ew
    subst ev; subst ew
    exact h22
  unfold Oper.wp execOp
  simp only [ho, resolve, invoke, builtin, Sem.run_bind, Sem.run_pure, Result.andThen_ok, List.map_toArray, List.map_cons, List.map_nil, hs, hx, hr]
  exact h v' w' key h3 hblk
end
end Go.Proofs.YtafeaeaildfohaaGreatDoor
/- Look-ups and stores in maps as one step of a region that draws its order. No program in sight. -/
namespace Go.Proofs.YtafeaeaildfohaaGreatDoor
open Go.RowKit
section
variable {P : Program}
theorem step_lookup {ops : Array Oper} {o : Oper} {a : Act} {w : World} {K : Act → World → Prop} {Q : Exit → Act → World → Prop} {E : Prop} (hg : o.guard = none) (t : TypeId) (m x : Operand) (ok : Bool) (ho : o.op = .lookup t m x ok)
    (mv xv : Value) (hm : a.eval m = mv) (hx : a.eval x = xv) (v : Value) (hr : (Instr.lookup t mv xv ok).run P w = .ok v w) (h : K (a.put o.dst v) w) :
    if Region.wanted o (yielded ops a.tmps) = true then Oper.wp P o a w K Q else E := by
  rw [if_pos (by simp [Region.wanted, hg])]
  unfold Oper.wp
  simp [execOp, ho, hm, hx, hr, Result.andThen]
  exact h
theorem step_mapUpdate {ops : Array Oper} {o : Oper} {a : Act} {w w' : World} {K : Act → World → Prop} {Q : Exit → Act → World → Prop} {E : Prop} (hg : o.guard = none) (t : TypeId) (m x y : Operand) (ho : o.op = .mapUpdate t m x y)
    (mv xv yv : Value) (hm : a.eval m = mv) (hx : a.eval x = xv) (hy : a.eval y = yv) (hr : (Instr.mapUpdate t mv xv yv).run P w = .ok () w') (h : K (a.put o.dst undef) w') :
    if Region.wanted o (yielded ops a.tmps) = true then Oper.wp P o a w K Q else E := by
  rw [if_pos (by simp [Region.wanted, hg])]
  unfold Oper.wp
  simp [execOp, ho, hm, hx, hy, hr, Result.andThen]
  exact h
/-- An operation whose guard is off, in a region that only reads. -/
theorem wpStill_off {ops : Array Oper} {w : World} {Q : Act → Prop} {a : Act} {o : Oper} {rest : List Oper} (hw : Region.wanted o (yielded ops a.tmps) = false) (h : wpStill P ops w Q rest (a.put o.dst undef)) : wpStill P ops w Q (o :: rest) a := by
  unfold wpStill
  rw [if_neg (by rw [hw]; simp)]
  exact h
theorem wpStill_val {ops : Array Oper} {w : World} {Q : Act → Prop} {a : Act} {o : Oper} {rest : List Oper} {v : Value} (hw : Region.wanted o (yielded ops a.tmps) = true) (hr : (execOp a.eval o).run P w = .ok (.value v) w)
    (h : wpStill P ops w Q rest (a.put o.dst v)) : wpStill P ops w Q (o :: rest) a := by
  unfold wpStill
  rw [if_pos hw]
  unfold Oper.still
  rw [hr]
  exact ⟨rfl, h⟩
/-- An append whose run is known, as one step (also where the operation is guarded). -/
theorem step_append_run {ops : Array Oper} {o : Oper} {a : Act} {w w' : World} {K : Act → World → Prop} {Q : Exit → Act → World → Prop} {E : Prop} (hw : Region.wanted o (yielded ops a.tmps) = true) (s x : Operand) (T : TypeId)
    (ho : o.op = .call { callee := .builtin .append, args := #[s, x], argTypes := #[T, T] }) (sv xv v : Value) (hs : a.eval s = sv) (hx : a.eval x = xv) (hr : (Builtin.append_ #[T, T] o.type #[sv, xv]).run P w = .ok v w') (h : K (a.put o.dst v) w') :
    if Region.wanted o (yielded ops a.tmps) = true then Oper.wp P o a w K Q else E := by
  rw [if_pos hw]
  unfold Oper.wp execOp
  simp only [ho, resolve, invoke, builtin, Sem.run_bind, Sem.run_pure, Result.andThen_ok, List.map_toArray, List.map_cons, List.map_nil, hs, hx, hr]
  exact h
end
end Go.Proofs.YtafeaeaildfohaaGreatDoor
/- ring.sorted, ring.indexed: facts by their relations. -/
namespace Go.Proofs.YtafeaeaildfohaaGreatDoor
open Go.RowKit Go.Maps

theorem keysCall_any (b : Nat) (w : World) :
    Calls Tryz.prog 55 #[.map (some b)] w fun e w' =>
      e = .returned (.func (.func 78) #[] #[.pointer (some ⟨w.heap.size, 0, none⟩)]) ∧ w' = w.alloc (.cells #[.map (some b)] 63) := by
  go_enter Tryz.func55, Tryz.ntmps55
  go_wp2
  go_ret
  exact ⟨rfl, rfl⟩
set_option maxHeartbeats 1000000 in
theorem ringSorted_any (b n : Nat) (f : Fct → Option Int) (w : World) (hf : FM w b n f) (hn : n ≤ 1000000000) :
    Calls Tryz.prog 31 #[.map (some b)] w fun e w' => ∃ v ss, e = .returned v ∧ KeysF f ss ∧ (∀ x ∈ ss, okF x) ∧ ss.length ≤ n ∧ tFcts.rv ((mem w').on (w.heap.size ≤ ·)) [v] ss ∧ Below w.heap.size w w' := by
  have HS := Lib.hid (sortedFcts_any w.heap.size b n f (w.alloc (.cells #[.map (some b)] 63)) (mem_cells_new w _ _ (0, 0) 0) (hf.alloc _) hn)
  have HB := Lib.hid (show Below w.heap.size w (w.alloc (.cells #[.map (some b)] 63)) from (Below.refl _ _).alloc (Nat.le_refl _) _)
  clear hf
  go_enter Tryz.func31, Tryz.ntmps31
  go_wp2_with fail
  refine (keysCall_any b _).mono ?_
  rintro e w1 ⟨rfl, rfl⟩
  go_wp2_with fail
  refine HS.out.mono ?_
  rintro e w1 ⟨v, ss, rfl, h1, h2, h3, h4, h5, -⟩
  have H1 := Lib.hid h1
  have H2 := Lib.hid h2
  have H3 := Lib.hid h3
  have H4 := Lib.hid (tFcts.mono _ _ _ _ (Mem.on_mono (mem w1) (S' := (w.heap.size ≤ ·)) (fun k hk => by simp at hk; omega)) h4)
  have H5 := Lib.hid (HB.out.trans (h5.mono (by simp)))
  obtain ⟨a, c, rfl, -⟩ := slice_form h4
  clear h1 h2 h3 h4 h5 HS
  go_wp2
  go_ret
  exact ⟨_, ss, rfl, H1.out, H2.out, H3.out, H4.out, H5.out⟩

def byName (L : List Fct) (k : ByteArray) : List Fct := L.filter fun f => f.n = k
/-- The index of facts by their relations, in blocks from B on. -/
structure Idx (W : World) (B mb n : Nat) (L : List Fct) (f : ByteArray → Option Value) : Prop where
  im : IM W mb n f
  ge : B ≤ mb
  none' : ∀ k, f k = none → byName L k = []
  some' : ∀ k v, f k = some v → Owns tFct W B 43 v (byName L k)
  ne : ∀ k v, f k = some v → byName L k ≠ []
  apart : ∀ k k' v v', f k = some v → f k' = some v' → k ≠ k' → ∀ b, v.ownBlock = some b → v'.ownBlock ≠ some b
theorem IM.lt {W : World} {b n : Nat} {f : ByteArray → Option Value} (h : IM W b n f) : b < W.heap.size := MapOf.lt h
theorem IM.obj {W : World} {b n : Nat} {f : ByteArray → Option Value} (h : IM W b n f) : ∃ es c, W.heap[b]? = some (.map es c) := by
  obtain ⟨D, ⟨es, clock, hh, r⟩, g⟩ := h
  exact ⟨es, clock, hh⟩
theorem Idx.apartMap {W : World} {B mb n : Nat} {L : List Fct} {f : ByteArray → Option Value} (h : Idx W B mb n L f) {k : ByteArray} {v : Value} (hk : f k = some v) : v.ownBlock ≠ some mb := fun e => by
  obtain ⟨es, c, hm⟩ := h.im.obj
  have := own_cells (h.some' k v hk) mb _ e hm
  cases this
theorem Idx.keeps {W W' : World} {B mb n : Nat} {L : List Fct} {f : ByteArray → Option Value} (h : Idx W B mb n L f) (hb : Below W.heap.size W W') : Idx W' B mb n L f :=
  ⟨h.im.at (hb.block _ h.im.lt), h.ge, h.none', fun k v e => (h.some' k v e).keeps hb, h.ne, h.apart⟩
theorem byName_snoc (L : List Fct) (x : Fct) (k : ByteArray) : byName (L ++ [x]) k = if x.n = k then byName L k ++ [x] else byName L k := by
  unfold byName
  rw [List.filter_append]
  by_cases h : x.n = k <;> simp [h]
/-- One fact more: its row grown, its name's entry set. -/
theorem Idx.snoc {W W5 W6 : World} {B mb n : Nat} {L : List Fct} {f : ByteArray → Option Value} (h : Idx W B mb n L f) (x : Fct) {v' : Value}
    (hX : Owns tFct W5 B 43 v' (byName L x.n ++ [x])) (hg5 : W.grownBy W5 (sliceOr (f x.n)).ownBlock) (hbl : v'.ownBlock = (sliceOr (f x.n)).ownBlock ∨ ∀ k, v'.ownBlock = some k → W.heap.size ≤ k)
    (hg6 : W5.grownBy W6 (some mb)) (him : IM W6 mb (n + 1) (putAt f x.n v')) : Idx W6 B mb (n + 1) (L ++ [x]) (putAt f x.n v') := by
  have hmb : ∀ {w : World} {u : Value} {l : List Fct}, Owns tFct w B 43 u l → (∃ es c, w.heap[mb]? = some (.map es c)) → u.ownBlock ≠ some mb := fun {w u l} ho hm e => by
    obtain ⟨es, c, hm⟩ := hm
    have := own_cells ho mb _ e hm
    cases this
  have hso : ∀ b, (sliceOr (f x.n)).ownBlock = some b → ∃ v, f x.n = some v ∧ v.ownBlock = some b := fun b e => by
    cases hf : f x.n with
    | none => rw [hf] at e; cases e
    | some v => rw [hf] at e; exact ⟨v, rfl, e⟩
  have hm5 : ∃ es c, W5.heap[mb]? = some (.map es c) := by
    obtain ⟨es, c, hm⟩ := h.im.obj
    refine ⟨es, c, ((hg5.block mb h.im.lt (fun e => ?_)).trans hm)⟩
    obtain ⟨v, e1, e2⟩ := hso mb e.symm
    exact h.apartMap e1 e2
  refine ⟨him, h.ge, fun k hk => ?_, fun k v hk => ?_, fun k v hk => ?_, fun k k' v u hk hk' hne b hb => ?_⟩
  · by_cases e : k = x.n
    · subst e; rw [putAt_same] at hk; cases hk
    · rw [putAt_other _ _ e] at hk
      rw [byName_snoc, if_neg (Ne.symm e)]
      exact h.none' k hk
  · by_cases e : k = x.n
    · subst e
      rw [putAt_same] at hk
      cases hk
      rw [byName_snoc, if_pos rfl]
      exact hX.keepsC tFct_flat (grown_keeps hg6) (fun j o _ hj hc e => by
        cases e
        obtain ⟨es, c, hm⟩ := hm5
        rw [hm] at hj; cases hj; cases hc)
    · rw [putAt_other _ _ e] at hk
      rw [byName_snoc, if_neg (Ne.symm e)]
      have h5 : Owns tFct W5 B 43 v (byName L k) := by
        refine (h.some' k v hk).keepsFlat tFct_flat (grown_keeps hg5) (fun j ej e' => ?_)
        obtain ⟨u, e1, e2⟩ := hso j e'.symm
        exact h.apart k x.n v u hk e1 e j ej e2
      exact h5.keepsC tFct_flat (grown_keeps hg6) (fun j o _ hj hc e => by
        cases e
        obtain ⟨es, c, hm⟩ := hm5
        rw [hm] at hj; cases hj; cases hc)
  · by_cases e : k = x.n
    · subst e; rw [byName_snoc, if_pos rfl]; simp
    · rw [putAt_other _ _ e] at hk
      rw [byName_snoc, if_neg (Ne.symm e)]
      exact h.ne k v hk
  · have hlt : ∀ {j : ByteArray} {q : Value} {c : Nat}, f j = some q → q.ownBlock = some c → c < W.heap.size := fun {j q c} e1 e2 => ((h.some' j q e1).lt c e2).2
    by_cases e : k = x.n
    · subst e
      rw [putAt_same] at hk
      cases hk
      rw [putAt_other _ _ (Ne.symm hne)] at hk'
      rcases hbl with hbl | hbl
      · rw [hbl] at hb
        obtain ⟨z, e1, e2⟩ := hso b hb
        exact h.apart x.n k' z u e1 hk' hne b e2
      · intro e3
        have := hbl b hb
        have := hlt hk' e3
        omega
    · rw [putAt_other _ _ e] at hk
      by_cases e' : k' = x.n
      · subst e'
        rw [putAt_same] at hk'
        cases hk'
        intro e3
        rcases hbl with hbl | hbl
        · rw [hbl] at e3
          obtain ⟨z, e1, e2⟩ := hso b e3
          exact h.apart k x.n v z hk e1 hne b hb e2
        · have := hbl b e3
          have := hlt hk hb
          omega
      · rw [putAt_other _ _ e'] at hk'
        exact h.apart k k' v u hk hk' hne b hb
end Go.Proofs.YtafeaeaildfohaaGreatDoor
/- ring.indexed, walked. -/
namespace Go.Proofs.YtafeaeaildfohaaGreatDoor
open Go.RowKit Go.Maps

theorem Idx.start (w : World) : Idx (w.alloc (.map #[] 0)) w.heap.size w.heap.size 0 [] (fun _ => none) :=
  ⟨MapOf.made w, Nat.le_refl _, fun _ _ => rfl, fun _ _ h => by (cases h), fun _ _ h => by (cases h), fun _ _ _ _ h => by (cases h)⟩
theorem Idx.row {W : World} {B mb n : Nat} {L : List Fct} {f : ByteArray → Option Value} (h : Idx W B mb n L f) (k : ByteArray) : Owns tFct W B 43 (sliceOr (f k)) (byName L k) := by
  cases hf : f k with
  | none => rw [h.none' k hf]; exact Owns.nil _ _ _ _
  | some v => exact h.some' k v hf
theorem byName_len (L : List Fct) (k : ByteArray) : (byName L k).length ≤ L.length := List.length_filter_le _ _
set_option maxRecDepth 100000 in
set_option maxHeartbeats 4000000 in
theorem indexed_any (l : List Fct) (v : Value) (w : World) (hv : tFcts.rv (mem w) [v] l) (hl : l.length ≤ 1000) :
    Calls Tryz.prog 51 #[v] w fun e w' => ∃ mb f, e = .returned (.map (some mb)) ∧ Idx w' w.heap.size mb l.length l f ∧ Below w.heap.size w w' := by
  obtain ⟨a, cap, rfl, hlc, hm, hv⟩ := slice_form hv
  have hcap : cap ≤ 9223372036854775807 := by unfold maxLen at hm; exact hm
  have HV := Lib.hid (fun wr (hb : Below w.heap.size w wr) => tFcts.mono _ _ _ _ (below_mem hb) hv)
  have HI0 := Lib.hid (Idx.start w)
  have HB0 := Lib.hid (show Below w.heap.size w (w.alloc (.map #[] 0)) from (Below.refl _ _).alloc (Nat.le_refl _) _)
  clear hm hv
  go_enter Tryz.func51, Tryz.ntmps51
  have hmm := @run_makeMap Tryz.prog
  go_wp2
  clear hmm
  go_loopw [9] (fun i wr => ∃ (k : Nat) (f : ByteArray → Option Value), k ≤ l.length ∧ i = .int .i64 k ∧ Hid (Below w.heap.size w wr) ∧ Hid (Idx wr w.heap.size w.heap.size k (l.take k) f)) (fun i _ => l.length - (intOf i).toNat)
  case atStart => exact ⟨0, _, by omega, rfl, HB0, Lib.hid (by rw [List.take_zero]; exact HI0.out)⟩
  case round =>
    clear HB0 HI0
    obtain ⟨k, f, hk, rfl, HB, HI⟩ := hrel
    by_cases hlt : k < l.length
    · obtain ⟨b, o, rfl, ⟨q0, q1, q2⟩, hok⟩ := fcts_at (HV.out _ HB.out) hlt
      have c0 : wr.cell? ⟨b, o + k * 3, none⟩ = some (.string l[k].n) := q0
      have c1 : wr.cell? ⟨b, o + k * 3 + 1, none⟩ = some (.string l[k].a) := q1
      have c2 : wr.cell? ⟨b, o + k * 3 + 2, none⟩ = some (.string l[k].b) := q2
      have HT := Lib.hid (List.take_succ_eq_append_getElem hlt)
      have HOK := Lib.hid hok
      clear q0 q1 q2 hok
      generalize l[k] = x at *
      obtain ⟨x1, x2, x3⟩ := x
      have HX0 := Lib.hid (fun (o : Obj) => (HI.out.keeps ((Below.refl _ wr).alloc (Nat.le_refl _) o)))
      go_upto_region 5 with fail
      generalize hX : wr.alloc (.cells #[.string x1, .string x2, .string x3] 43) = X
      have HIX := Lib.hid (show Idx X w.heap.size w.heap.size k (l.take k) f by rw [← hX]; exact HX0.out _)
      have HBX := Lib.hid (show Below w.heap.size w X by rw [← hX]; exact HB.out.alloc HB.out.size _)
      have hvb : X.heap[wr.heap.size]? = some (.cells #[.string x1, .string x2, .string x3] 43 (0, 0)) := by rw [← hX]; exact heap_alloc_new wr _
      have HVN := Lib.hid (show ∀ j, (sliceOr (f x1)).ownBlock = some j → wr.heap.size ≠ j from fun j e he => by have := ((HI.out.row x1).lt j e).2; omega)
      generalize wr.heap.size = vb at hvb HVN
      have n0 : X.cell? ⟨vb, 0, none⟩ = some (.string x1) := mem_cells hvb 0
      have n1 : X.cell? ⟨vb, 1, none⟩ = some (.string x2) := mem_cells hvb 1
      have n2 : X.cell? ⟨vb, 2, none⟩ = some (.string x3) := mem_cells hvb 2
      clear hX hvb HX0 c0 c1 c2
      have hBl : w.heap.size ≤ X.heap.size := HBX.out.size
      have hmb : w.heap.size < X.heap.size := HIX.out.im.lt
      have hrl : (byName (l.take k) x1).length ≤ 1000 := Nat.le_trans (byName_len _ _) (by rw [List.length_take]; omega)
      have HOW := Lib.hid (HIX.out.row x1)
      obtain ⟨as', cs', hsl, -⟩ := HOW.out.len
      have HLK := Lib.hid (show ∀ w' : World, w'.heap[w.heap.size]? = X.heap[w.heap.size]? → (Instr.lookup 77 (.map (some w.heap.size)) (.string x1) false).run Tryz.prog w' = .ok (sliceOr (f x1)) w' from fun w' h => (HIX.out.im.at h).look HOK.out.1)
      have HFIN := Lib.hid (show ∀ (o : Obj) (v5 : Value) (w5 w6 : World), Owns tFct w5 w.heap.size 43 v5 (byName (l.take k) x1 ++ [⟨x1, x2, x3⟩]) → (X.alloc o).drew.grownBy w5 (sliceOr (f x1)).ownBlock →
          (v5.ownBlock = (sliceOr (f x1)).ownBlock ∨ ∀ j, v5.ownBlock = some j → (X.alloc o).drew.heap.size ≤ j) → w5.grownBy w6 (some w.heap.size) → IM w6 w.heap.size (k + 1) (putAt f x1 v5) →
          Below w.heap.size w w6 ∧ Idx w6 w.heap.size w.heap.size (k + 1) (l.take (k + 1)) (putAt f x1 v5) from fun o v5 w5 w6 g1 g2 g3 g4 g5 => by
        have hIY : Idx (X.alloc o).drew w.heap.size w.heap.size k (l.take k) f := (HIX.out.keeps ((Below.refl _ X).alloc (Nat.le_refl _) o)).keeps (Below.refl _ _).drew
        refine ⟨?_, by rw [HT.out]; exact hIY.snoc ⟨x1, x2, x3⟩ g1 g2 g3 g4 g5⟩
        refine Below.grown (Below.grown ((HBX.out.alloc hBl o).drew) g2 ?_ ?_) g4 ?_ ?_
        · show w.heap.size ≤ (X.alloc o).heap.size
          simp; omega
        · intro j hj; exact (hIY.row x1).lt j hj |>.1
        · have := g2.size
          have h2 : X.heap.size ≤ (X.alloc o).drew.heap.size := by show X.heap.size ≤ (X.alloc o).heap.size; simp
          omega
        · intro j hj; cases hj; exact Nat.le_refl _)
      have HPUT := Lib.hid (show ∀ (o : Obj) (v5 : Value) (w5 : World), (X.alloc o).drew.grownBy w5 (sliceOr (f x1)).ownBlock → ∃ w6, (Instr.mapUpdate 77 (.map (some w.heap.size)) (.string x1) v5).run Tryz.prog w5 = .ok () w6 ∧ IM w6 w.heap.size (k + 1) (putAt f x1 v5) ∧ w5.grownBy w6 (some w.heap.size) from fun o v5 w5 g => by
        refine IM.put (HIX.out.im.at (W' := w5) ?_) (by unfold maxLen; omega) HOK.out.1 v5
        refine (g.block _ (by show w.heap.size < (X.alloc o).heap.size; simp; omega) (fun e => ?_)).trans (Below.heap_alloc _ _ _ hmb)
        cases hf : f x1 with
        | none => rw [hf] at e; cases e
        | some u => rw [hf] at e; exact HIX.out.apartMap hf e.symm)
      have HW5 := Lib.hid (show ∀ (o : Obj) (w5 : World), (X.alloc o).drew.grownBy w5 (sliceOr (f x1)).ownBlock → w5.cell? ⟨vb, 0, none⟩ = some (.string x1) from fun o w5 g => by
        have h1 : mem w5 vb 0 = mem X vb 0 := mem_of_block ((g.block vb (by have := mem_lt (w := X) n0; show vb < (X.alloc o).heap.size; simp; omega) (fun e => HVN.out vb e.symm rfl)).trans (Below.heap_alloc _ _ _ (mem_lt (w := X) n0))) 0
        exact h1.trans n0)
      rw [hsl] at HLK HOW HFIN HPUT HW5
      clear hsl
      have HOX := Lib.hid (show Owns tFct (X.alloc (.cells #[.string x1, .string x2, .string x3] 43)).drew w.heap.size 43 (.slice as' (byName (l.take k) x1).length cs') (byName (l.take k) x1) from (HOW.out.alloc _).drew)
      have HAT := Lib.hid (show At (mem (X.alloc (.cells #[.string x1, .string x2, .string x3] 43)).drew) X.heap.size 0 [.string x1, .string x2, .string x3] from fun i u hi => by
        have := mem_cells (heap_alloc_new X (.cells #[.string x1, .string x2, .string x3] 43)) (0 + i)
        refine (show mem (X.alloc (.cells #[.string x1, .string x2, .string x3] 43)).drew X.heap.size (0 + i) = mem (X.alloc (.cells #[.string x1, .string x2, .string x3] 43)) X.heap.size (0 + i) from rfl).trans (this.trans ?_)
        rw [Nat.zero_add]; simpa using hi)
      have HRVX := Lib.hid (fun m => (show tFct.rv m [.string x1, .string x2, .string x3] ⟨x1, x2, x3⟩ from ⟨rfl, HOK.out⟩))
      have HONE := Lib.hid (show ∀ u ∈ [(.string x1 : Value), .string x2, .string x3], u.oneCell' = true from fun u hu => by simp at hu; rcases hu with rfl | rfl | rfl <;> rfl)
      have HC1 := Lib.hid (show (byName (l.take k) x1).length + 1 ≤ maxLen from by unfold maxLen; omega)
      have HC2 := Lib.hid (show ((byName (l.take k) x1).length + 1) * 48 ≤ 140737488355328 from by omega)
      have HC3 := Lib.hid (show w.heap.size ≤ (X.alloc (.cells #[.string x1, .string x2, .string x3] 43)).drew.heap.size from by show w.heap.size ≤ (X.alloc (.cells #[.string x1, .string x2, .string x3] 43)).heap.size; simp; omega)
      have HH := Lib.hid (fun o => (show (X.alloc o).drew.heap[w.heap.size]? = X.heap[w.heap.size]? from Below.heap_alloc _ _ _ hmb))
      have m0 : X.drew.cell? ⟨vb, 0, none⟩ = some (.string x1) := n0
      have m1 : X.drew.cell? ⟨vb, 1, none⟩ = some (.string x2) := n1
      have m2 : X.drew.cell? ⟨vb, 2, none⟩ = some (.string x3) := n2
      have p0 : (X.alloc (.cells #[.string x1, .string x2, .string x3] 43)).cell? ⟨vb, 0, none⟩ = some (.string x1) := below_mem ((Below.refl _ X).alloc (Nat.le_refl _) _) _ _ _ n0
      have p1 : (X.alloc (.cells #[.string x1, .string x2, .string x3] 43)).cell? ⟨vb, 1, none⟩ = some (.string x2) := below_mem ((Below.refl _ X).alloc (Nat.le_refl _) _) _ _ _ n1
      have p2 : (X.alloc (.cells #[.string x1, .string x2, .string x3] 43)).cell? ⟨vb, 2, none⟩ = some (.string x3) := below_mem ((Below.refl _ X).alloc (Nat.le_refl _) _) _ _ _ n2
      generalize (byName (l.take k) x1) = rw' at *
      have l1 := HLK.out X.drew rfl
      have l2 := HLK.out (X.alloc (.cells #[.string x1, .string x2, .string x3] 43)).drew (HH.out _)
      go_region_law ((refine step_append_one rfl (.tmp 19) (.tmp 21) 39 rfl tFct Tryz.underlying39 infoFct rfl (by decide) w.heap.size (.slice as' rw'.length cs') rw' rfl HOX.out X.heap.size 1 ⟨x1, x2, x3⟩ rfl [.string x1, .string x2, .string x3] HAT.out (HRVX.out _) HONE.out HC1.out HC2.out HC3.out ?_; intro v5 w5 own5 hg5 hbl5; have s0 := HW5.out _ w5 hg5; obtain ⟨w6, hr6, him6, hg6⟩ := HPUT.out _ v5 w5 hg5; have HF := Lib.hid (HFIN.out _ v5 w5 w6 own5 hg5 hbl5 hg6 him6); obtain ⟨a5, c5, rfl, -⟩ := own5.len; simp only [List.length_append, List.length_cons, List.length_nil, Nat.zero_add] at hr6; clear own5 hg5 hbl5 him6 hg6))
      all_goals
        go_wp2
        go_roundw
        case rel => exact ⟨k + 1, _, by omega, by go_num, Lib.hid HF.out.1, Lib.hid HF.out.2⟩
        case measure => simp [intOf]; omega
    · obtain rfl : k = l.length := by omega
      have HI2 := Lib.hid (show Idx wr w.heap.size w.heap.size l.length l f by have := HI.out; rwa [List.take_length] at this)
      go_wp2
      go_ret
      exact ⟨_, f, rfl, HI2.out, HB.out⟩
end Go.Proofs.YtafeaeaildfohaaGreatDoor
/- A range over a function whose iterator makes blocks of its own and changes them between two rounds; the rounds change what lies below and is not read by it (S), and may leave by a return. -/
namespace Go.Proofs.YtafeaeaildfohaaGreatDoor
open Go.RowKit

/-- What a round may change: blocks that lay at the iterator's start (B) and are none of those that it reads (S), and new ones. -/
abbrev roundF (B : Nat) (S : Nat → Prop) (W1 : World) : Nat → Prop := fun k => (k < B ∧ ¬ S k) ∨ W1.heap.size ≤ k
/-- The iterator hands the elements xs in turn, each as values of which Enc tells; it reads the blocks S and changes only blocks of its own; a round may stop it. -/
def GivesM {α : Type} (P : Program) (gf : Nat) (lb : Array Value) (Enc : α → Array Value → Nat → World → Prop) (S : Nat → Prop) (xs : List α) (w : World) : Prop :=
  ∀ (l : Nat) (J : List α → World → Prop) (Stop : List α → α → World → Prop) (W : World), Below w.heap.size w W →
    (∀ s A B, J s A → Below W.heap.size A B → J s B) → (∀ s x A B, Stop s x A → Below W.heap.size A B → Stop s x B) →
    (∀ pre x post W1 vs, xs = pre ++ x :: post → J pre W1 → W.heap.size ≤ W1.heap.size → Enc x vs W.heap.size W1 →
      YieldAt Fence.wide 0 P l vs W1 fun e W' => Keeps (roundF W.heap.size S W1) W1 W' ∧ ((e = .returned (.bool true) ∧ J (pre ++ [x]) W') ∨ (e = .returned (.bool false) ∧ Stop pre x W'))) →
    J [] W → CallsIn Fence.wide 0 P gf (#[.func (.yield l) #[] #[]] ++ lb) W fun e W' => (∃ v, e = .returned v) ∧ (J xs W' ∨ ∃ pre x post, xs = pre ++ x :: post ∧ Stop pre x W')
/-- How a round ends. -/
def roundEndM {α : Type} (F : Nat → Prop) (I : List α → World → Prop) (L : List α → α → World → Prop) (s : List α) (x : α) (W : World) : Exit → Act → World → Prop
  | .normal, _, W' => Keeps F W W' ∧ I (s ++ [x]) W'
  | .ret, _, W' => Keeps F W W' ∧ L s x W'
  | _, _, _ => False
theorem keeps_putM {F : Nat → Prop} {W : World} {l : Nat} {o : Obj} (h : F l) : Keeps F W (W.putObj l o) :=
  (grown_keeps (grownBy_putObj' W l o)).wide (fun k _ hk => by cases hk; exact h)

theorem wp_rangeM {α : Type} {P : Program} {g : Operand} {ps : Array Tmp} {assign body : Code} {Q : Exit → Act → World → Prop} {a : Act} {w : World} {gf : Nat} {lb : Array Value}
    (hg : a.eval g = .func (.func gf) #[] lb) (eg : ∀ args w, (callFunc gf args).run P w = .ok (.enter gf args) w)
    {Enc : α → Array Value → Nat → World → Prop} {S : Nat → Prop} {xs : List α} {w0 : World} (hseq : GivesM P gf lb Enc S xs w0) (hb0 : Below w0.heap.size w0 w)
    (hS : ∀ k, S k → k < w.heap.size) (hps : ∀ x vs n W, Enc x vs n W → vs.size = ps.size)
    (I : List α → World → Prop) (L : List α → α → World → Prop) (hI : ∀ s A B, I s A → Below w.heap.size A B → I s B) (hL : ∀ s x A B, L s x A → Below w.heap.size A B → L s x B) (h0 : I [] w)
    (hround : ∀ (l : Nat) (pre : List α) (x : α) (post : List α) (W1 : World) (vs : Array Value), l = w.heap.size + 1 → xs = pre ++ x :: post → I pre W1 → Enc x vs (w.heap.size + 2) W1 → w.heap.size + 2 ≤ W1.heap.size →
      assign.wpIn (Fence.wide.inRound l) 0 P (Exit.then (fun a₂ W2 => Keeps (fun k => W1.heap.size ≤ k) W1 W2 ∧ ∀ W3, Keeps (fun k => k = l) W2 W3 → W3.heap.size = W2.heap.size → body.wpIn (Fence.wide.inRound l) 0 P (roundEndM (fun k => (k < w.heap.size ∧ ¬ S k) ∨ W1.heap.size ≤ k) I L pre x W3) a₂ W3) (fun _ _ _ => False))
        { tmps := (ps.zip vs).foldl (fun t (p, v) => t.setIfInBounds p v) a.tmps, defers := [] } W1)
    (hdone : ∀ (D : Nat) (W : World), D = w.heap.size → w.heap.size + 2 ≤ W.heap.size → I xs W → W.heap[D]? = some (.deferred (some [])) → Q .normal { a with defers := { target := .collected D, args := #[] } :: a.defers } W)
    (hleft : ∀ (D : Nat) (W : World) (pre : List α) (x : α) (post : List α), D = w.heap.size → w.heap.size + 2 ≤ W.heap.size → xs = pre ++ x :: post → L pre x W → W.heap[D]? = some (.deferred (some [])) → Q .ret { a with defers := { target := .collected D, args := #[] } :: a.defers } W) :
    (Code.rangeFunc g ps assign body).wp P Q a w := by
  refine (wpIn_wide (n := 0)).1 (wpIn_rangeFunc (F := Fence.wide) ?_)
  intro fn hfn
  generalize hrec : (fun (st : LoopState) (pe : Option Code) => ({ state := st, pending := pe, fn := fn, tmps := a.tmps, params := ps, assign := assign, body := body, defers := w.heap.size } : Loop)) = rec
  have hr : ∀ st pe, rec st pe = { state := st, pending := pe, fn := fn, tmps := a.tmps, params := ps, assign := assign, body := body, defers := w.heap.size } := fun st pe => by rw [← hrec]
  have hst : ∀ st pe st' pe', ({ rec st pe with state := st', pending := pe' } : Loop) = rec st' pe' := fun st pe st' pe' => by rw [hr, hr]
  have hbusy : ∀ st pe st', ({ rec st pe with state := st' } : Loop) = rec st' pe := fun st pe st' => by rw [hr, hr]
  generalize hW1 : (w.alloc (.deferred (some []))).alloc (.loop (rec .ready none)) = W1
  have hs1 : W1.heap.size = w.heap.size + 2 := by rw [← hW1]; simp
  have hD1 : W1.heap[w.heap.size]? = some (.deferred (some [])) := by
    rw [← hW1]; exact (Below.heap_alloc _ _ _ (by simp)).trans (World.alloc_heap_new w _)
  have hL1 : W1.heap[w.heap.size + 1]? = some (.loop (rec .ready none)) := by
    rw [← hW1]; have := World.alloc_heap_new (w.alloc (.deferred (some []))) (.loop (rec .ready none)); rwa [World.size_alloc] at this
  have hk1 : Keeps (fun _ => False) w W1 := by rw [← hW1]; exact ((Keeps.refl _ w).alloc _).alloc _
  have hb1 : Below w0.heap.size w0 W1 := hb0.trans (hk1.below hb0.size (fun _ h => h.elim))
  refine ⟨w.heap.size + 1, [{ target := .collected w.heap.size, args := #[] }], W1, { target := .fn (.func gf) lb, args := #[.func (.yield (w.heap.size + 1)) #[] #[]] }, W1, gf,
    #[.func (.yield (w.heap.size + 1)) #[] #[]] ++ lb, W1, ?_, ?_, fun _ _ => trivial, ?_, fun h => (by cases h), ?_⟩
  · rw [← hW1, hr]; exact run_enterLoop_outer _ _ _ _ _
  · simp only [resolve, hg]
    simp [go_sem]
  · simp [invoke, go_sem, eg]
  · refine (hseq (w.heap.size + 1) (fun pre W => I pre W ∧ w.heap.size + 2 ≤ W.heap.size ∧ W.heap[w.heap.size + 1]? = some (.loop (rec .ready none)) ∧ W.heap[w.heap.size]? = some (.deferred (some [])))
      (fun pre x W => L pre x W ∧ w.heap.size + 2 ≤ W.heap.size ∧ W.heap[w.heap.size + 1]? = some (.loop (rec .done (some .ret))) ∧ W.heap[w.heap.size]? = some (.deferred (some []))) W1 hb1 ?_ ?_ ?_
      ⟨hI _ _ _ h0 (hk1.below (Nat.le_refl _) (fun _ h => h.elim)), by omega, hL1, hD1⟩).mono ?_
    · rintro s A B ⟨hi, hz, hl, hd⟩ hk
      exact ⟨hI _ _ _ hi (hk.mono (by omega)), Nat.le_trans hz hk.size, (hk.block _ (by omega)).trans hl, (hk.block _ (by omega)).trans hd⟩
    · rintro s x A B ⟨hi, hz, hl, hd⟩ hk
      exact ⟨hL _ _ _ _ hi (hk.mono (by omega)), Nat.le_trans hz hk.size, (hk.block _ (by omega)).trans hl, (hk.block _ (by omega)).trans hd⟩
    · rintro pre x post W vs hx ⟨hi, hz, hl, hd⟩ hsz hE
      rw [hs1] at hE
      have hlt : w.heap.size + 1 < W.heap.size := by omega
      have hy := run_yield (P := P) (args := vs) hl (by rw [hr]; exact hps x vs _ _ hE)
      rw [hr] at hy
      refine ⟨fn, _, assign, body, hy, roundIn_of_wpIn hfn (wpIn_mono (hround _ pre x post W vs rfl hx hi hE (by omega)) ?_)⟩
      rintro e a1 Wa hp
      cases e with
      | ret => exact hp.elim
      | exit id => exact hp.elim
      | goto t => exact hp.elim
      | panic ch => exact hp.elim
      | outgrown => exact hp.elim
      | normal =>
      obtain ⟨hka, hpb⟩ := hp
      have hla : Wa.heap[w.heap.size + 1]? = some (.loop (rec .ready none)) := (hka.block _ hlt (by omega)).trans hl
      have hda : Wa.heap[w.heap.size]? = some (.deferred (some [])) := (hka.block _ (by omega) (by omega)).trans hd
      have hlta := (Array.getElem?_eq_some_iff.1 hla).1
      refine ⟨_, run_beginRound hla (by rw [hr]), ?_⟩
      rw [hbusy]
      generalize hW2 : Wa.putObj (w.heap.size + 1) (.loop (rec .busy none)) = W2
      have hz2 : W2.heap.size = Wa.heap.size := by rw [← hW2]; simp
      have hF1 : roundF W1.heap.size S W (w.heap.size + 1) := .inl ⟨by omega, fun h => by have := hS _ h; omega⟩
      have hp2 : Keeps (roundF W1.heap.size S W) W W2 := by
        rw [← hW2]; exact (hka.wide (fun _ _ h => .inr h)).trans (keeps_putM hF1)
      have hl2 : W2.heap[w.heap.size + 1]? = some (.loop (rec .busy none)) := by rw [← hW2]; exact World.putObj_heap_same hlta
      have hd2 : W2.heap[w.heap.size]? = some (.deferred (some [])) := by rw [← hW2]; exact (World.putObj_heap_other (by omega)).trans hda
      refine wpIn_mono (hpb W2 (by rw [← hW2]; exact keeps_putM rfl) hz2) ?_
      have hnF : ∀ k, w.heap.size ≤ k → k < w.heap.size + 2 → ¬ ((k < w.heap.size ∧ ¬ S k) ∨ W.heap.size ≤ k) := by intro k h1 h2 h; omega
      rintro e a3 W3 hp
      cases e with
      | normal =>
        obtain ⟨hk3, hi3⟩ := hp
        have hl3 : W3.heap[w.heap.size + 1]? = some (.loop (rec .busy none)) := (hk3.block _ (by omega) (hnF _ (by omega) (by omega))).trans hl2
        have hd3 : W3.heap[w.heap.size]? = some (.deferred (some [])) := (hk3.block _ (by omega) (hnF _ (by omega) (by omega))).trans hd2
        have hlt3 := (Array.getElem?_eq_some_iff.1 hl3).1
        refine ⟨_, _, run_endRound none hl3, (hp2.trans (hk3.wide (fun k _ h => ?_))).trans (keeps_putM hF1), .inl ⟨rfl, hI _ _ _ hi3 ((keeps_putM (F := fun k => k = w.heap.size + 1) rfl).below (by omega) (fun k h => by omega)), ?_, ?_, ?_⟩⟩
        · rcases h with ⟨h1, h2⟩ | h
          · exact .inl ⟨by omega, h2⟩
          · exact .inr h
        · rw [World.putObj_size]; omega
        · rw [hst]; exact World.putObj_heap_same hlt3
        · exact (World.putObj_heap_other (by omega)).trans hd3
      | ret =>
        obtain ⟨hk3, hi3⟩ := hp
        have hl3 : W3.heap[w.heap.size + 1]? = some (.loop (rec .busy none)) := (hk3.block _ (by omega) (hnF _ (by omega) (by omega))).trans hl2
        have hd3 : W3.heap[w.heap.size]? = some (.deferred (some [])) := (hk3.block _ (by omega) (hnF _ (by omega) (by omega))).trans hd2
        have hlt3 := (Array.getElem?_eq_some_iff.1 hl3).1
        refine ⟨_, _, run_endRound (some .ret) hl3, (hp2.trans (hk3.wide (fun k _ h => ?_))).trans (keeps_putM hF1), .inr ⟨rfl, hL _ _ _ _ hi3 ((keeps_putM (F := fun k => k = w.heap.size + 1) rfl).below (by omega) (fun k h => by omega)), ?_, ?_, ?_⟩⟩
        · rcases h with ⟨h1, h2⟩ | h
          · exact .inl ⟨by omega, h2⟩
          · exact .inr h
        · rw [World.putObj_size]; omega
        · rw [hst]; exact World.putObj_heap_same hlt3
        · exact (World.putObj_heap_other (by omega)).trans hd3
      | exit id => exact hp.elim
      | goto t => exact hp.elim
      | panic ch => exact hp.elim
      | outgrown => exact hp.elim
    · rintro e W2 ⟨⟨v, rfl⟩, ⟨hi, hz, hl, hd⟩ | ⟨pre, x, post, hx, hi, hz, hl, hd⟩⟩
      · have he := run_endLoop (P := P) hl (by rw [hr]; simp)
        rw [hr] at he
        exact ⟨none, _, he, hdone _ _ rfl (by rw [World.putObj_size]; omega) (hI _ _ _ hi ((keeps_putM (F := fun k => k = w.heap.size + 1) rfl).below (by omega) (fun k h => by omega))) ((World.putObj_heap_other (by omega)).trans hd)⟩
      · have he := run_endLoop (P := P) hl (by rw [hr]; simp)
        rw [hr] at he
        exact ⟨some .ret, _, he, wpIn_ret (hleft _ _ pre x post rfl (by rw [World.putObj_size]; omega) hx (hL _ _ _ _ hi ((keeps_putM (F := fun k => k = w.heap.size + 1) rfl).below (by omega) (fun k h => by omega))) ((World.putObj_heap_other (by omega)).trans hd))⟩
end Go.Proofs.YtafeaeaildfohaaGreatDoor
/- The iterator of ring's matches: what its recursive function stands on; its last step: yield. -/
namespace Go.Proofs.YtafeaeaildfohaaGreatDoor
open Go.RowKit Go.Maps Go.Shelf
attribute [local go_sem] Oper.semAt_some

/-- What is handed to a round: the facts' slice and the map of the values. -/
def EncWay (x : Bnd × List Fct) (vs : Array Value) (N : Nat) (W : World) : Prop :=
  ∃ lv mb, vs = #[lv, .map (some mb)] ∧ N ≤ mb ∧ BMB W mb x.1 ∧ tFcts.rv ((mem W).on (N ≤ ·)) [lv] x.2
/-- What a call of the recursive function may change. -/
def chgD (N : Nat) (S : Nat → Prop) (mb : Nat) (W : World) (k : Nat) : Prop := (k < N ∧ ¬ S k) ∨ k = mb ∨ W.heap.size ≤ k
abbrev ptr0 (b : Nat) : Value := .pointer (some ⟨b, 0, none⟩)
/-- What the recursive function reads. -/
structure DEnv (We : World) (N : Nat) (S R : Nat → Prop) (l bb bY ba bx bD mb ib n : Nat) (bv : Value) (bd L : List Fct) (f : ByteArray → Option Value) : Prop where
  cb : We.cell? ⟨bb, 0, none⟩ = some bv
  hb : tFcts.rv ((mem We).on R) [bv] bd
  cx : We.cell? ⟨bx, 0, none⟩ = some (.map (some ib))
  im : IM We ib n f
  row : ∀ k, tFcts.rv ((mem We).on R) [sliceOr (f k)] (byName L k)
  cy : We.cell? ⟨bY, 0, none⟩ = some (.func (.yield l) #[] #[])
  ca : We.cell? ⟨ba, 0, none⟩ = some (.map (some mb))
  cd : We.cell? ⟨bD, 0, none⟩ = some (.func (.func 74) #[] #[ptr0 bb, ptr0 bY, ptr0 ba, ptr0 bx, ptr0 bD])
  rr : R bb ∧ R bx ∧ R ib ∧ R bY ∧ R ba ∧ R bD
  rS : ∀ k, R k → (S k ∧ k < N) ∨ (N ≤ k ∧ k < We.heap.size ∧ k ≠ mb)
  gm : N ≤ mb
  ge : N ≤ We.heap.size
  len : bd.length ≤ 3
/-- The world as it stands between two steps: what is read lies as it lay, the map holds the values. -/
structure DSt (We : World) (R : Nat → Prop) (mb : Nat) (av : Bnd) (W : World) : Prop where
  size : We.heap.size ≤ W.heap.size
  same : ∀ k, R k → W.heap[k]? = We.heap[k]?
  at' : BMB W mb av
section
variable {We : World} {N : Nat} {S R : Nat → Prop} {l bb bY ba bx bD mb ib n : Nat} {bv : Value} {bd L : List Fct} {f : ByteArray → Option Value} {av av' : Bnd} {W W' : World}
theorem DEnv.free (h : DEnv We N S R l bb bY ba bx bD mb ib n bv bd L f) (hs : We.heap.size ≤ W.heap.size) {k : Nat} (hk : R k) : ¬ chgD N S mb W k := by
  have h1 := h.ge
  have h2 := h.gm
  rcases h.rS k hk with ⟨g1, g2⟩ | ⟨g1, g2, g3⟩
  · rintro (⟨_, e⟩ | e | e)
    · exact e g1
    · omega
    · omega
  · rintro (⟨e, _⟩ | e | e)
    · omega
    · exact g3 e
    · omega
theorem DSt.cell (h : DSt We R mb av W) {b : Nat} (hR : R b) {v : Value} (hc : We.cell? ⟨b, 0, none⟩ = some v) : W.cell? ⟨b, 0, none⟩ = some v := (mem_of_block (h.same b hR) 0).trans hc
theorem DSt.rv {α : Type} {t : Ty α} (h : DSt We R mb av W) {v : Value} {x : List α} (hv : (tSlice t).rv ((mem We).on R) [v] x) : (tSlice t).rv (mem W) [v] x :=
  (tSlice t).mono _ _ _ _ (fun b o u e => by obtain ⟨e1, e2⟩ := Mem.of_on e; exact (mem_of_block (h.same b e1) o).trans e2) hv
theorem DSt.rvOn {α : Type} {t : Ty α} (h : DSt We R mb av W) {v : Value} {x : List α} (hv : (tSlice t).rv ((mem We).on R) [v] x) : (tSlice t).rv ((mem W).on R) [v] x :=
  (tSlice t).mono _ _ _ _ (fun b o u e => by obtain ⟨e1, e2⟩ := Mem.of_on e; exact Mem.on_some ((mem_of_block (h.same b e1) o).trans e2) e1) hv
theorem DSt.keep (h : DSt We R mb av W) (he : DEnv We N S R l bb bY ba bx bD mb ib n bv bd L f) (hlt : ∀ k, R k → k < W.heap.size) (hk : Keeps (chgD N S mb W) W W') (hm : BMB W' mb av') : DSt We R mb av' W' :=
  ⟨Nat.le_trans h.size hk.size, fun k hR => (hk.block k (hlt k hR) (he.free h.size hR)).trans (h.same k hR), hm⟩
theorem DEnv.rlt (he : DEnv We N S R l bb bY ba bx bD mb ib n bv bd L f) (h : We.heap.size ≤ W.heap.size) : ∀ k, R k → k < W.heap.size := fun k hk => by
  have := he.ge
  rcases he.rS k hk with ⟨_, g⟩ | ⟨_, g, _⟩ <;> omega
end
/-- What a call of the recursive function comes to. -/
def DOut (N : Nat) (S : Nat → Prop) (mb : Nat) (av : Bnd) (J : List (Bnd × List Fct) → World → Prop) (Stop : List (Bnd × List Fct) → (Bnd × List Fct) → World → Prop) (pre ys : List (Bnd × List Fct)) (W : World) (e : Ending) (W' : World) : Prop :=
  Keeps (chgD N S mb W) W W' ∧ BMB W' mb av ∧ ((e = .returned (.bool true) ∧ J (pre ++ ys) W') ∨ (e = .returned (.bool false) ∧ ∃ p x q, ys = p ++ x :: q ∧ Stop (pre ++ p) x W'))

set_option maxRecDepth 100000 in
set_option maxHeartbeats 4000000 in
theorem down_last (We : World) (N : Nat) (S R : Nat → Prop) (l bb bY ba bx bD mb ib n : Nat) (bv : Value) (bd L : List Fct) (f : ByteArray → Option Value) (he : DEnv We N S R l bb bY ba bx bD mb ib n bv bd L f)
    (J : List (Bnd × List Fct) → World → Prop) (Stop : List (Bnd × List Fct) → (Bnd × List Fct) → World → Prop) (xs pre post : List (Bnd × List Fct))
    (hY : ∀ pre x post W1 vs, xs = pre ++ x :: post → J pre W1 → N ≤ W1.heap.size → EncWay x vs N W1 →
      YieldAt Fence.wide 0 Tryz.prog l vs W1 fun e W' => Keeps (roundF N S W1) W1 W' ∧ ((e = .returned (.bool true) ∧ J (pre ++ [x]) W') ∨ (e = .returned (.bool false) ∧ Stop pre x W')))
    (av : Bnd) (ls : List Fct) (lv : Value) (W : World) (hls : ls.length = bd.length) (hx : xs = pre ++ (av, ls) :: post) (hJ : J pre W) (hW : DSt We R mb av W) (hl : tFcts.rv ((mem W).on (N ≤ ·)) [lv] ls) :
    Calls Tryz.prog 74 #[lv, ptr0 bb, ptr0 bY, ptr0 ba, ptr0 bx, ptr0 bD] W (DOut N S mb av J Stop pre [(av, ls)] W) := by
  obtain ⟨r1, r2, r3, r4, r5, r6⟩ := he.rr
  have c1 := hW.cell r1 he.cb
  have c2 := hW.cell r4 he.cy
  have c3 := hW.cell r5 he.ca
  have HYY := Lib.hid (hY pre (av, ls) post W #[lv, .map (some mb)] hx hJ (Nat.le_trans he.ge hW.size) ⟨lv, mb, rfl, he.gm, hW.at', hl⟩)
  have HWS := Lib.hid (show mb < W.heap.size from MapOf.lt hW.at'.1)
  have HAT := Lib.hid hW.at'
  have HGM := Lib.hid he.gm
  have hNW := Lib.hid (show N ≤ W.heap.size from Nat.le_trans he.ge hW.size)
  obtain ⟨al, cl, rfl, hl1, hl2, -⟩ := slice_form hl
  obtain ⟨ab, cb, rfl, hb1, hb2, -⟩ := slice_form he.hb
  rw [hls] at HYY ⊢
  clear hY hx hJ hW hl he r1 r2 r3 r4 r5 r6
  refine (callsIn_wide (n := 0)).1 (callsIn_of_wp Tryz.func74 rfl trivial ?_ rfl)
  simp only [Tryz.ntmps74, List.size_toArray, List.length_cons, List.length_nil, Nat.reduceAdd, Nat.reduceSub, Array.replicate_succ, Array.replicate_zero, List.push_toArray, List.append_toArray, List.nil_append, List.cons_append]
  obtain ⟨fn, tmps, assign, body, hy, hR⟩ := HYY.out
  gi_wp2
  refine ⟨rfl, hR.mono ?_⟩
  rintro e W3 ⟨hk, hpost⟩
  have HK := Lib.hid (show Keeps (chgD N S mb W) W W3 from hk.wide (fun k _ h => by rcases h with h | h; exact .inl h; exact .inr (.inr h)))
  have HM := Lib.hid (show BMB W3 mb av from HAT.out.at (hk.block mb HWS.out (fun h => by
    rcases h with ⟨h, _⟩ | h
    · have := HGM.out; omega
    · have := HWS.out; omega)))
  rcases hpost with ⟨rfl, hJ⟩ | ⟨rfl, hS⟩
  · have HJ := Lib.hid hJ
    clear hJ hR hy hk HYY
    gi_wp2
    go_ret
    exact ⟨HK.out, HM.out, .inl ⟨rfl, HJ.out⟩⟩
  · have HS := Lib.hid hS
    clear hS hR hy hk HYY
    gi_wp2
    go_ret
    exact ⟨HK.out, HM.out, .inr ⟨rfl, [], (av, ls), [], rfl, by rw [List.append_nil]; exact HS.out⟩⟩
end Go.Proofs.YtafeaeaildfohaaGreatDoor
