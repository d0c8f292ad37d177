/- Part 1 of the texts that the law's proof stands on, merged. -/
import Derived.Maps.Views
import Derived.ChangeKeysEq
import Derived.Stop.BytesEq
import Derived.Laws.OwnMore
import Derived.Test.YtnfolemblnnejaaGreatVr00
set_option linter.unusedVariables false
set_option linter.unusedSimpArgs false
/- Maps from numbers to snapshots: look-ups, stores, deletes, sorted keys (printed by gen_vmap.py out of chapters 20's and 13's texts). -/
namespace Go.Proofs.YtnfolemblnnejaaGreat
open Go.RowKit Go.Maps Go.Sort Go.Shelf

@[reducible] def ptrTo (a : Nat) : Value := .pointer (some ⟨a, 0, none⟩)
def intKey (n : Int) : Lit := .int .i64 n
theorem intKey_inj (x y : Int) (h : intKey x = intKey y) : x = y := by simpa [intKey] using h
theorem keyOf_i64 {n : Int} (h : inI64 n) : keyOf Tryz.prog 3 (.int .i64 n) = some (intKey n) := keyOf_int_mk Tryz.underlying3 (by have := h.1; have := h.2; unfold inI64 at h; simp [Lit.wf, IntKind.min, IntKind.max, IntKind.signed, IntKind.bits]; omega)
def vPtr : VR Nat := ⟨fun _ v x => v = ptrTo x, fun _ _ _ _ _ h => h⟩
@[reducible] def PMap (W : World) (b n : Nat) (f : Int → Option Nat) : Prop := MapOf Tryz.prog 3 intKey vPtr W b n f
theorem zeroPk (w : World) : (zeroValue 81).run Tryz.prog w = .ok (.pointer none) w := by kernel_rfl
theorem PMap.at {W W' : World} {b n : Nat} {f : Int → Option Nat} (h : PMap W b n f) (hb : W'.heap[b]? = W.heap[b]?) : PMap W' b n f := by
  obtain ⟨D, ⟨es, clock, hh, r⟩, g⟩ := h
  exact ⟨D, ⟨es, clock, by rw [hb]; exact hh, r⟩, g⟩
theorem PMap.obj {W : World} {b n : Nat} {f : Int → Option Nat} (h : PMap W b n f) : ∃ es c, W.heap[b]? = some (.map es c) := by
  obtain ⟨D, ⟨es, clock, hh, r⟩, g⟩ := h
  exact ⟨es, clock, hh⟩
open Classical in
noncomputable def delAt {κ α : Type} (f : κ → Option α) (x : κ) : κ → Option α := fun y => if y = x then none else f y
theorem delAt_same {κ α : Type} (f : κ → Option α) (x : κ) : delAt f x x = none := by simp [delAt]
theorem delAt_other {κ α : Type} (f : κ → Option α) {x y : κ} (h : y ≠ x) : delAt f x y = f y := by simp [delAt, h]
theorem keyK : Keyed Tryz.prog 3 := int_keyed Tryz.underlying3

section
variable {κ α : Type} {P : Program} {k : TypeId} {lk : κ → Lit} {vr : VR α} {w : World} {b n : Nat} {f : κ → Option α}
theorem MapOf.look {t e : TypeId} (h : MapOf P k lk vr w b n f) (K : Keyed P k) (ht : P.underlying t = some (.map k e)) {z : Value} (hz : (zeroValue e).run P w = .ok z w) {key : Value} {y : κ} (hkey : keyOf P k key = some (lk y)) :
    ∃ v, (Instr.lookup t (.map (some b)) key false).run P w = .ok v w ∧ (f y = none → v = z) ∧ (∀ c, f y = some c → vr.rel (mem w) v c) := by
  obtain ⟨D, hown, h1, h2, _⟩ := h
  obtain ⟨v, ps, hrun, hv⟩ := hown.lookup K ht hz (zd := .held z) (zp := []) rfl hkey
  simp only [rawE, Option.some.injEq, Prod.mk.injEq] at hv
  refine ⟨v, hrun, fun e => ?_, fun c e => ?_⟩
  · have := hv.1
    rw [atKey_of_not_has (h1 y e)] at this
    injection this
  · obtain ⟨_, u, g1, g2⟩ := h2 y c e
    have := hv.1
    rw [g1] at this
    injection this with this
    rw [this]; exact g2
theorem MapOf.lookOk {t e : TypeId} (h : MapOf P k lk vr w b n f) (K : Keyed P k) (ht : P.underlying t = some (.map k e)) {z : Value} (hz : (zeroValue e).run P w = .ok z w) {key : Value} {y : κ} (hkey : keyOf P k key = some (lk y)) :
    ∃ v, (Instr.lookup t (.map (some b)) key true).run P w = .ok (.tuple #[v, .bool (f y).isSome]) w ∧ (f y = none → v = z) ∧ (∀ c, f y = some c → vr.rel (mem w) v c) := by
  obtain ⟨D, hown, h1, h2, _⟩ := h
  obtain ⟨v, ps, hrun, hv⟩ := hown.look_ok K ht hz (zd := .held z) (zp := []) rfl hkey
  have hs : Maps.has D (lk y) = (f y).isSome := by
    cases hf : f y with
    | none => exact h1 y hf
    | some c => exact (h2 y c hf).1
  rw [hs] at hrun
  simp only [rawE, Option.some.injEq, Prod.mk.injEq] at hv
  refine ⟨v, hrun, fun e => ?_, fun c e => ?_⟩
  · have := hv.1
    rw [atKey_of_not_has (h1 y e)] at this
    injection this
  · obtain ⟨_, u, g1, g2⟩ := h2 y c e
    have := hv.1
    rw [g1] at this
    injection this with this
    rw [this]; exact g2
end
section
variable {W : World} {b n : Nat} {f : Int → Option Nat}
theorem PMap.put (h : PMap W b n f) (hn : n < maxLen) {k : Int} (hk : inI64 k) (a : Nat) :
    ∃ W', (Instr.mapUpdate 49 (.map (some b)) (.int .i64 k) (.pointer (some ⟨a, 0, none⟩))).run Tryz.prog W = .ok () W' ∧ PMap W' b (n + 1) (putAt f k a) ∧ W.grownBy W' (some b) := by
  obtain ⟨D, hown, hs⟩ := h
  obtain ⟨W', hrun, ho, hgr⟩ := hown.update keyK Tryz.underlying49 hn (keyOf_i64 hk) (R := rawE) (val := ptrTo a) (d := .held (ptrTo a)) (ps := []) rfl
  have hle := grown_mem hown hgr
  exact ⟨W', hrun, ⟨_, ho, hs.put hle hown.isMap intKey_inj (keyK.key (keyOf_i64 hk)) rfl⟩, hgr⟩
def ptrOr : Option Nat → Value
  | none => .pointer none
  | some a => ptrTo a
theorem PMap.look (h : PMap W b n f) {k : Int} (hk : inI64 k) : (Instr.lookup 49 (.map (some b)) (.int .i64 k) false).run Tryz.prog W = .ok (ptrOr (f k)) W := by
  obtain ⟨v, h1, h2, h3⟩ := MapOf.look h keyK Tryz.underlying49 (zeroPk W) (keyOf_i64 hk)
  rw [h1]
  cases hf : f k with
  | none => rw [h2 hf]; rfl
  | some a => rw [show v = ptrTo a from h3 a hf]; rfl
theorem PMap.lookOk (h : PMap W b n f) {k : Int} (hk : inI64 k) : (Instr.lookup 49 (.map (some b)) (.int .i64 k) true).run Tryz.prog W = .ok (.tuple #[ptrOr (f k), .bool (f k).isSome]) W := by
  obtain ⟨v, h1, h2, h3⟩ := MapOf.lookOk h keyK Tryz.underlying49 (zeroPk W) (keyOf_i64 hk)
  rw [h1]
  cases hf : f k with
  | none => rw [h2 hf]; rfl
  | some a => rw [show v = ptrTo a from h3 a hf]; rfl
theorem turned_grown {w w' : World} {b : Nat} (h : w.mapTurned w' b) : w.grownBy w' (some b) := by
  obtain ⟨es, c, es', c', hb, rfl⟩ := h
  exact ⟨rfl, rfl, rfl, by simp [ChangeMaps.setBlock], fun i _ hi => ChangeMaps.heap_setBlock_other hb _ (fun e => hi (by rw [e]))⟩
theorem PMap.drop (h : PMap W b n f) {k : Int} (hk : inI64 k) (ty : TypeId) :
    ∃ W', (Builtin.delete_ #[49, 3] ty #[.map (some b), .int .i64 k]).run Tryz.prog W = .ok (.tuple #[]) W' ∧ PMap W' b n (delAt f k) ∧ W.grownBy W' (some b) := by
  obtain ⟨D, hown, h1, h2, h3⟩ := h
  obtain ⟨W', hrun, ho, ht⟩ := hown.drop keyK Tryz.underlying49 (keyOf_i64 hk) ty
  refine ⟨W', hrun, ⟨_, ho, fun y hy => ?_, fun y c hy => ?_, fun l hl => ?_⟩, turned_grown ht⟩
  · by_cases e : y = k
    · subst e; exact has_del_same
    · rw [delAt_other _ e] at hy
      rw [has_del_other (fun e' => e (intKey_inj _ _ e'))]; exact h1 y hy
  · by_cases e : y = k
    · subst e; rw [delAt_same] at hy; cases hy
    · rw [delAt_other _ e] at hy
      obtain ⟨g, u, g1, g2⟩ := h2 y c hy
      have hne : intKey y ≠ intKey k := fun e' => e (intKey_inj _ _ e')
      exact ⟨by rw [has_del_other hne]; exact g, u, fun z => by rw [atKey_del_other hne]; exact g1 z, g2⟩
  · by_cases e : l = intKey k
    · exact ⟨k, e⟩
    · rw [has_del_other e] at hl; exact h3 l hl
end
theorem sort_ord (ss : List Int) : (ss.mergeSort (fun x y => decide (x ≤ y))).Pairwise (· ≤ ·) :=
  (List.pairwise_mergeSort (le := fun x y => decide (x ≤ y)) (fun a b c h1 h2 => by simp at *; omega) (fun a b => by simp; omega) ss).imp (fun h => by simpa using h)
/-- The keys, in order. -/
structure SortedKeys (f : Int → Option Nat) (ss : List Int) : Prop where
  mem : ∀ k, k ∈ ss ↔ (f k).isSome = true
  nd : ss.Nodup
  ord : ss.Pairwise (· ≤ ·)
theorem SortedKeys.unique {f : Int → Option Nat} {ss ss' : List Int} (h : SortedKeys f ss) (h' : SortedKeys f ss') : ss = ss' :=
  List.Perm.eq_of_pairwise (fun a b _ _ h1 h2 => Int.le_antisymm h1 h2) h.ord h'.ord ((List.perm_ext_iff_of_nodup h.nd h'.nd).2 fun k => (h.mem k).trans (h'.mem k).symm)

theorem PMap.keys {W : World} {b n : Nat} {f : Int → Option Nat} (h : PMap W b n f) : ∃ D, W.ownsMap Tryz.prog 3 rawE b n D ∧ Maps.size D ≤ n ∧ (∀ k, k ∈ intKeys D ↔ (f k).isSome = true) ∧ (intKeys D).Nodup ∧ ∀ k ∈ intKeys D, inI64 k := by
  obtain ⟨D, hown, h1, h2, h3⟩ := h
  obtain ⟨es, hD, hpw⟩ := hown.tidy keyK
  have hwf := intKeys_wf hown Tryz.underlying3
  have hko : ∀ p ∈ es, ∃ x, p.1 = .int .i64 x := fun p hp => by
    obtain ⟨es', hD', hko⟩ := hown.keysOf
    obtain rfl : es = es' := by rw [hD] at hD'; simpa using hD'
    obtain ⟨v, hv⟩ := hko p hp
    obtain ⟨x, _, hx, _⟩ := Maps.keyOf_i64 Tryz.underlying3 hv
    exact ⟨x, hx⟩
  refine ⟨D, hown, hown.size_le, fun k => ?_, ?_, fun k hk => ?_⟩
  · have hh : Maps.has D (intKey k) = true ↔ k ∈ intKeys D := by
      subst hD
      rw [has_eq, List.any_eq_true]
      show _ ↔ k ∈ es.map fun p => Go.intOf p.1
      rw [List.mem_map]
      constructor
      · rintro ⟨p, hp', hs⟩
        obtain ⟨a, ha⟩ := hko p hp'
        rw [ha] at hs
        exact ⟨p, hp', by rw [ha]; simpa [Lit.sameKey, Go.intOf, intKey] using hs⟩
      · rintro ⟨p, hp', rfl⟩
        obtain ⟨a, ha⟩ := hko p hp'
        exact ⟨p, hp', by rw [ha]; simp [Lit.sameKey, Go.intOf, intKey]⟩
    rw [← hh]
    cases hf : f k with
    | none => rw [h1 k hf]; simp
    | some a => rw [(h2 k a hf).1]; simp
  · subst hD
    show (es.map fun p => Go.intOf p.1).Nodup
    refine List.pairwise_map.2 (hpw.imp_of_mem fun {p q} hp' hq' hne e => hne ?_)
    obtain ⟨a, ha⟩ := hko p hp'
    obtain ⟨b, hb⟩ := hko q hq'
    rw [ha, hb] at e ⊢
    exact congrArg _ e
  · have := hwf k hk
    unfold inI64
    simpa [Lit.wf, IntKind.min, IntKind.max, IntKind.signed, IntKind.bits] using this

theorem sortsInt (m : Nat) : AnyZI.SortsIn Tryz.prog Tryz.sorted72_ren Fence.wide m :=
  ⟨fun blk off cap ss W hH hblk hsz => callsIn_wide.2 (AnyM.slices_Sort_int Tryz.sortI88 blk off cap ss W hH hblk hsz),
   fun p cap W => callsIn_wide.2 (AnyM.slices_Sort_int_none Tryz.sortI88 p cap W)⟩
theorem snKeys_any (mb : Option Nat) (W : World) : Calls Tryz.prog 73 #[.map mb] W fun e w' => e = .returned (.func (.func 89) #[] #[.pointer (some ⟨W.heap.size, 0, none⟩)]) ∧ w' = W.alloc (.cells #[.map mb] 49) :=
  (callsIn_wide (n := 5)).1 (AnyZI.keys_in Tryz.keys73 Fence.wide 5 trivial rfl mb W)
set_option maxRecDepth 100000 in
set_option maxHeartbeats 1000000 in
theorem sortedKeys_any (b n : Nat) (f : Int → Option Nat) (w : World) (h : PMap w b n f) (hn : n ≤ 1000000000) :
    Calls Tryz.prog 72 #[.func (.func 89) #[] #[.pointer (some ⟨w.heap.size, 0, none⟩)]] (w.alloc (.cells #[.map (some b)] 49)) fun e w' => ∃ v ss, e = .returned v ∧ (tSlice tInt).rv ((mem w').on (w.heap.size ≤ ·)) [v] ss ∧ SortedKeys f ss ∧ ss.length ≤ n ∧ Below w.heap.size w w' := by
  obtain ⟨D0, hown, hsz, hmem, hnd, hin⟩ := h.keys
  have hbl := hown.lt
  have hseq : SeqGives Fence.wide 2 Tryz.prog 89 #[.pointer (some ⟨w.heap.size, 0, none⟩)] encZ (fun ss => ss.Perm (intKeys D0)) (Maps.size D0) (w.alloc (.cells #[.map (some b)] 49)) :=
    AnyZI.keys_gives (ρ := Tryz.keys73_ren) { Tryz.keys73 with } Fence.wide _ trivial rfl (by omega) w.heap.size b n D0 _ (by simp) (by simp) (by
      obtain ⟨es, clock, hb, Ft, hs, hD⟩ := hown
      exact ⟨es, clock, (Below.heap_alloc _ _ b hbl).trans hb, Ft, hs, hD⟩)
  have cS := AnyZI.sorted_in Tryz.sorted72 Fence.wide 5 trivial trivial trivial trivial rfl (by omega) (sortsInt _) (enters_of Tryz.func88 (by kernel_rfl) rfl) 89 #[.pointer (some ⟨w.heap.size, 0, none⟩)] trivial (enters_of Tryz.func89 (by kernel_rfl) rfl) _ _ (by unfold maxLen; omega) (by omega) _ hseq
  change CallsIn _ _ Tryz.prog 72 _ _ _ at cS
  refine ((callsIn_wide (n := 5)).1 cS).mono ?_
  rintro e w' ⟨v, ss, rfl, hS, hrow, _, hb⟩
  have hlen : ss.length ≤ n := by
    have h1 := hS.length_eq
    have h2 : (intKeys D0).length = Maps.size D0 := by cases D0 <;> simp [intKeys, Maps.size]
    omega
  have hperm : (ss.mergeSort (fun x y => decide (x ≤ y))).Perm (intKeys D0) := (List.mergeSort_perm _ _).trans hS
  have hord := (sort_ord ss)
  have hl2 : (ss.mergeSort (fun x y => decide (x ≤ y))).length = ss.length := by simp
  rw [← hl2] at hlen hrow
  generalize (ss.mergeSort (fun x y => decide (x ≤ y))) = qs at hperm hord hrow hlen
  have hO : Owns tInt w' (w.alloc (.cells #[.map (some b)] 49)).heap.size 3 v qs := by
    refine ⟨qs.map fun x => [.int .i64 x], by simp, ?_, fun c hc => ?_, fun k h h' => ?_⟩
    · have e : (qs.map fun x => [Value.int .i64 x]).flatten = qs.map encZ := by
        clear hperm hord hrow hlen
        induction qs with
        | nil => rfl
        | cons x l ih => simp [ih]
      rw [e]; exact hrow
    · obtain ⟨x, _, rfl⟩ := List.mem_map.1 hc; rfl
    · simp only [List.getElem_map]
      exact ⟨rfl, hin _ (hperm.mem_iff.1 (List.getElem_mem h'))⟩
  exact ⟨v, qs, rfl, hO.rv (fun k hk => by simp at hk; omega) (fun _ _ _ hk => hk), ⟨fun k => (hperm.mem_iff).trans (hmem k), hperm.nodup_iff.2 hnd, hord⟩, hlen, ((Below.refl _ w).alloc (Nat.le_refl _) _).trans (hb.mono (by simp))⟩

end Go.Proofs.YtnfolemblnnejaaGreat
/- The state of a vault in memory: the invariant, its steps. -/
namespace Go.Proofs.YtnfolemblnnejaaGreat
open Go.RowKit Go.Maps

abbrev Part := ByteArray × List Ent
structure Sn where
  name : ByteArray
  told : List (Option Part)
def Sn.bits (s : Sn) : List Bool := s.told.map Option.isSome
def Sn.done (s : Sn) : Bool := s.told.all Option.isSome
/-- A vault, told plainly. -/
structure VS where
  tasks : Nat
  most : Int
  keep : Int
  last : Nat
  all : List (Int × Sn)
def VS.nums (s : VS) : List Int := s.all.map Prod.fst
structure VOk (s : VS) : Prop where
  t1 : 1 ≤ s.tasks
  t40 : s.tasks ≤ 40
  up : s.nums.Pairwise (· < ·)
  lt : ∀ k ∈ s.nums, 1 ≤ k ∧ k ≤ s.last
  tk : ∀ x ∈ s.all, 1 ≤ x.2.told.length ∧ x.2.told.length ≤ 40 ∧ x.2.name.size ≤ maxLen
  m : 1 ≤ s.most ∧ s.most ≤ 5
  k : 1 ≤ s.keep ∧ s.keep ≤ 10
  l : s.last ≤ 1000000
/-- A word of bits. -/
def bw : List Bool → Nat
  | [] => 0
  | b :: l => b.toNat + 2 * bw l
theorem bw_lt : ∀ l : List Bool, bw l < 2 ^ l.length
  | [] => by simp [bw]
  | b :: l => by
    have := bw_lt l
    rw [List.length_cons, Nat.pow_succ]
    unfold bw
    cases b <;> simp <;> omega
theorem bw_bit : ∀ (l : List Bool) (i : Nat), (bw l).testBit i = l.getD i false
  | [], i => by simp [bw]
  | b :: l, 0 => by
    unfold bw
    rw [Nat.testBit_zero]
    cases b <;> simp <;> omega
  | b :: l, i + 1 => by
    unfold bw
    rw [Nat.testBit_succ]
    have : (b.toNat + 2 * bw l) / 2 = bw l := by cases b <;> simp <;> omega
    rw [this, bw_bit l i]
    simp
theorem bw_set (l : List Bool) (i : Nat) (hi : i < l.length) : bw l ||| 2 ^ i = bw (l.set i true) := by
  apply Nat.eq_of_testBit_eq
  intro j
  rw [Nat.testBit_or, bw_bit, bw_bit, Nat.testBit_two_pow, List.getD_eq_getElem?_getD, List.getD_eq_getElem?_getD, List.getElem?_set]
  by_cases e : i = j
  · subst e; simp [hi]
  · simp [e]
theorem bw_full (l : List Bool) : (bw l == 2 ^ l.length - 1) = l.all id := by
  by_cases h : l.all id = true
  · rw [h, beq_iff_eq]
    apply Nat.eq_of_testBit_eq
    intro j
    rw [bw_bit, Nat.testBit_two_pow_sub_one, List.getD_eq_getElem?_getD]
    by_cases hj : j < l.length
    · rw [List.getElem?_eq_getElem hj]
      have := List.all_eq_true.1 h l[j] (List.getElem_mem hj)
      simp [hj] at this ⊢
      exact this
    · rw [List.getElem?_eq_none (by omega)]; simp [hj]
  · have h' : l.all id = false := by simpa using h
    rw [h', beq_eq_false_iff_ne]
    intro e
    apply h
    rw [List.all_eq_true]
    intro x hx
    obtain ⟨j, hj, rfl⟩ := List.getElem_of_mem hx
    have h1 := bw_bit l j
    rw [e, Nat.testBit_two_pow_sub_one, List.getD_eq_getElem?_getD, List.getElem?_eq_getElem hj] at h1
    simpa [hj] using h1.symm
theorem pow40 {n : Nat} (h : n ≤ 40) : 2 ^ n ≤ 1099511627776 := Nat.pow_le_pow_right (n := 2) (by decide) h
theorem Sn.done_bits (s : Sn) : s.done = s.bits.all id := by
  unfold Sn.done Sn.bits
  rw [List.all_map]; rfl

/-- What a vault holds, and where. -/
structure HV where
  vs : VS
  mb : Nat
  ad : Int → Nat
  pb : Int → Nat
  off : Nat → Prop
def adF (r : HV) : Int → Option Nat := fun k => if k ∈ r.vs.nums then some (r.ad k) else none
def mutV (p : Nat) (r : HV) (b : Nat) : Prop := b = p ∨ b = r.mb ∨ ∃ k, k ∈ r.vs.nums ∧ (b = r.ad k ∨ b = r.pb k)
noncomputable def safeV (W : World) (p : Nat) (r : HV) : Mem := (mem W).on (fun b => ¬ mutV p r b ∧ ¬ r.off b)
def vCells (s : VS) (mb : Nat) : Array Value := #[.int .i64 s.tasks, .int .i64 s.most, .int .i64 s.keep, .map (some mb), .int .i64 s.last]
def snCells (s : Sn) (pb : Nat) : Array Value := #[.string s.name, .int .u64 (bw s.bits), .int .u64 0, .int .u64 0, .int .u64 0, .int .u64 0, .int .u64 0, .int .u64 0, .slice (some ⟨pb, 0, none⟩) s.told.length s.told.length]
/-- A task's part. -/
def partAt (M : Mem) (v : Value) : Option Part → Prop
  | none => v = .pointer none
  | some x => ∃ a ev, v = ptrTo a ∧ M a 0 = some (.string x.1) ∧ M a 1 = some ev ∧ tEnts.rv M [ev] x.2 ∧ x.1.size ≤ maxLen
theorem partAt.mono {M M' : Mem} (hM : M.le M') {v : Value} : ∀ {o : Option Part}, partAt M v o → partAt M' v o
  | none, h => h
  | some x, ⟨a, ev, h1, h2, h3, h4, h5⟩ => ⟨a, ev, h1, hM _ _ _ h2, hM _ _ _ h3, tEnts.mono _ _ _ _ hM h4, h5⟩
/-- A snapshot in memory. -/
def SnAt (W : World) (M : Mem) (a b : Nat) (s : Sn) : Prop :=
  W.heap[a]? = some (.cells (snCells s b) 88 (0, 0)) ∧ ∃ arr, W.heap[b]? = some (.cells arr 96 (0, 0)) ∧ arr.size = s.told.length ∧ ∀ i, (h : i < s.told.length) → ∃ v, arr[i]? = some v ∧ partAt M v s.told[i]
theorem SnAt.keep {W W' : World} {M M' : Mem} {a b : Nat} {s : Sn} (h : SnAt W M a b s) (ha : W'.heap[a]? = W.heap[a]?) (hb : W'.heap[b]? = W.heap[b]?) (hM : M.le M') : SnAt W' M' a b s := by
  obtain ⟨h1, arr, h2, h3, h4⟩ := h
  exact ⟨ha.trans h1, arr, hb.trans h2, h3, fun i hi => let ⟨v, e, hp⟩ := h4 i hi; ⟨v, e, hp.mono hM⟩⟩
structure VInv (W : World) (base p : Nat) (r : HV) : Prop where
  hb : W.heap[p]? = some (.cells (vCells r.vs r.mb) 51 (0, 0))
  mp : PMap W r.mb r.vs.last (adF r)
  sb : ∀ x ∈ r.vs.all, SnAt W (safeV W p r) (r.ad x.1) (r.pb x.1) x.2
  inj : ∀ j k, j ∈ r.vs.nums → k ∈ r.vs.nums → r.ad j = r.ad k → j = k
  inp : ∀ j k, j ∈ r.vs.nums → k ∈ r.vs.nums → r.pb j = r.pb k → j = k
  ok : VOk r.vs
  ge : ∀ b, mutV p r b → base ≤ b
  bw : base ≤ W.heap.size
  ofs : ∀ b, r.off b → b < W.heap.size ∧ ¬ mutV p r b
structure VStep (W : World) (base p : Nat) (r : HV) (W' : World) (r' : HV) : Prop where
  inv : VInv W' base p r'
  kp : Keeps (mutV p r) W W'
  mb : ∀ b, mutV p r' b → mutV p r b ∨ W.heap.size ≤ b
  of : r'.off = r.off
theorem mem_nums {s : VS} {x : Int × Sn} (h : x ∈ s.all) : x.1 ∈ s.nums := List.mem_map_of_mem h
theorem nums_mem {s : VS} {k : Int} (h : k ∈ s.nums) : ∃ t, (k, t) ∈ s.all := by
  obtain ⟨x, hx, rfl⟩ := List.mem_map.1 h
  exact ⟨x.2, hx⟩
/-- A number's snapshot is one. -/
theorem VOk.one {s : VS} (h : VOk s) {k : Int} {t t' : Sn} (h1 : (k, t) ∈ s.all) (h2 : (k, t') ∈ s.all) : t = t' := by
  have hu := h.up
  unfold VS.nums at hu
  clear h
  revert h1 h2 hu
  generalize s.all = l
  intro h1 h2 hu
  induction l with
  | nil => cases h1
  | cons x l ih =>
    rw [List.map_cons, List.pairwise_cons] at hu
    rcases List.mem_cons.1 h1 with rfl | h1' <;> rcases List.mem_cons.1 h2 with e | h2'
    · injection e with _ e; exact e.symm
    · have := hu.1 _ (List.mem_map_of_mem (f := Prod.fst) h2'); simp at this
    · subst e; have := hu.1 _ (List.mem_map_of_mem (f := Prod.fst) h1'); simp at this
    · exact ih h1' h2' hu.2
section
variable {W W' : World} {base p : Nat} {r r' : HV}
theorem VInv.kind (h : VInv W base p r) : ∀ b, mutV p r b → b < W.heap.size := fun b hb => by
  rcases hb with rfl | rfl | ⟨k, hk, e⟩
  · exact (Array.getElem?_eq_some_iff.1 h.hb).1
  · exact h.mp.lt
  · obtain ⟨t, ht⟩ := nums_mem hk
    obtain ⟨h1, arr, h2, _⟩ := h.sb _ ht
    rcases e with rfl | rfl
    · exact (Array.getElem?_eq_some_iff.1 h1).1
    · exact (Array.getElem?_eq_some_iff.1 h2).1
theorem safeV_le (hk : Keeps (mutV p r) W W') (hm : ∀ b, mutV p r' b → mutV p r b ∨ W.heap.size ≤ b) (ho : r'.off = r.off := by rfl) : (safeV W p r).le (safeV W' p r') := fun i o v e => by
  obtain ⟨⟨hs, hof⟩, e⟩ := Mem.of_on e
  have hl := mem_lt e
  refine Mem.on_some ((mem_of_block (hk.block i hl hs) o).trans e) ⟨fun hx => ?_, fun hx => hof (ho ▸ hx)⟩
  rcases hm i hx with h | h
  · exact hs h
  · omega
/-- Blocks of different kinds are different. -/
theorem VInv.apart (h : VInv W base p r) : p ≠ r.mb ∧ ∀ k, k ∈ r.vs.nums → r.ad k ≠ p ∧ r.ad k ≠ r.mb ∧ r.pb k ≠ p ∧ r.pb k ≠ r.mb ∧ ∀ j, j ∈ r.vs.nums → r.pb j ≠ r.ad k := by
  have hb := h.hb
  obtain ⟨es, c, hs⟩ := h.mp.obj
  refine ⟨fun e => by (rw [e, hs] at hb; cases hb), fun k hk => ?_⟩
  obtain ⟨t, ht⟩ := nums_mem hk
  obtain ⟨h1, arr, h2, _⟩ := h.sb _ ht
  simp only at h1 h2
  refine ⟨fun e => ?_, fun e => ?_, fun e => ?_, fun e => ?_, fun j hj e => ?_⟩
  · rw [e, hb] at h1
    exact absurd (by injection h1 with h1; injection h1) (show ¬ ((51 : TypeId) = 88) by decide)
  · rw [e, hs] at h1; cases h1
  · rw [e, hb] at h2
    exact absurd (by injection h2 with h2; injection h2) (show ¬ ((51 : TypeId) = 96) by decide)
  · rw [e, hs] at h2; cases h2
  · obtain ⟨t', ht'⟩ := nums_mem hj
    obtain ⟨_, arr', h2', _⟩ := h.sb _ ht'
    simp only at h2'
    rw [e, h1] at h2'
    exact absurd (by injection h2' with h2'; injection h2') (show ¬ ((88 : TypeId) = 96) by decide)
theorem VInv.pure (h : VInv W base p r) (hk : Below W.heap.size W W') : VInv W' base p r := by
  have hlt := h.kind
  have hs : (safeV W p r).le (safeV W' p r) := safeV_le ((below_keeps hk).wide (fun k h1 h2 => by omega)) (fun k hm => .inl hm)
  have hat : ∀ k, mutV p r k → W'.heap[k]? = W.heap[k]? := fun k hm => hk.block k (hlt k hm)
  exact ⟨(hat p (.inl rfl)).trans h.hb, h.mp.at (hat _ (.inr (.inl rfl))),
    fun x hx => (h.sb x hx).keep (hat _ (.inr (.inr ⟨_, mem_nums hx, .inl rfl⟩))) (hat _ (.inr (.inr ⟨_, mem_nums hx, .inr rfl⟩))) hs, h.inj, h.inp, h.ok, h.ge, Nat.le_trans h.bw hk.size, fun b hb => ⟨Nat.lt_of_lt_of_le (h.ofs b hb).1 hk.size, (h.ofs b hb).2⟩⟩
theorem VStep.pure (h : VInv W base p r) (hk : Below W.heap.size W W') : VStep W base p r W' r :=
  ⟨h.pure hk, (below_keeps hk).wide (fun k h1 h2 => by omega), fun _ h => .inl h, rfl⟩
theorem VStep.trans {W1 W2 : World} {r1 r2 : HV} (h : VStep W base p r W1 r1) (g : VStep W1 base p r1 W2 r2) : VStep W base p r W2 r2 := by
  have hsz := h.kp.size
  refine ⟨g.inv, ⟨g.kp.os.trans h.kp.os, g.kp.tape.trans h.kp.tape, g.kp.output.trans h.kp.output, Nat.le_trans hsz g.kp.size, fun k hk hn => ?_⟩, fun k hk => ?_, g.of.trans h.of⟩
  · refine (g.kp.block k (by omega) fun hm => ?_).trans (h.kp.block k hk hn)
    rcases h.mb k hm with e | e
    · exact hn e
    · omega
  · rcases g.mb k hk with e | e
    · exact h.mb k e
    · exact .inr (by omega)
theorem VStep.below (h : VStep W base p r W' r') (i : VInv W base p r) : Below base W W' := h.kp.below i.bw i.ge
/-- A step from its parts. -/
theorem VStep.mk' (h : VInv W base p r) (hk : Keeps (mutV p r) W W') (hm : ∀ b, mutV p r' b → mutV p r b ∨ W.heap.size ≤ b)
    (hb : W'.heap[p]? = some (.cells (vCells r'.vs r'.mb) 51 (0, 0))) (mp : PMap W' r'.mb r'.vs.last (adF r'))
    (sb : ∀ x ∈ r'.vs.all, SnAt W' (safeV W' p r') (r'.ad x.1) (r'.pb x.1) x.2)
    (inj : ∀ j k, j ∈ r'.vs.nums → k ∈ r'.vs.nums → r'.ad j = r'.ad k → j = k) (inp : ∀ j k, j ∈ r'.vs.nums → k ∈ r'.vs.nums → r'.pb j = r'.pb k → j = k) (ok : VOk r'.vs) (hof : r'.off = r.off := by rfl) : VStep W base p r W' r' := by
  refine ⟨⟨hb, mp, sb, inj, inp, ok, fun k hk' => ?_, Nat.le_trans h.bw hk.size, fun b hb => ?_⟩, hk, hm, hof⟩
  · rcases hm k hk' with e | e
    · exact h.ge k e
    · have := h.bw; omega
  · have h1 := h.ofs b (hof ▸ hb)
    refine ⟨Nat.lt_of_lt_of_le h1.1 hk.size, fun hm' => ?_⟩
    rcases hm b hm' with e | e
    · exact h1.2 e
    · have := h1.1; omega
/-- The vault's own cells change. -/
theorem VStep.own (h : VInv W base p r) (hk : Keeps (fun k => k = p) W W') (s : VS) (hall : s.all = r.vs.all) (hl : s.last = r.vs.last) (hb : W'.heap[p]? = some (.cells (vCells s r.mb) 51 (0, 0))) (ok : VOk s) :
    VStep W base p r W' { r with vs := s } := by
  have hap := h.apart
  have hlt := h.kind
  have hn : s.nums = r.vs.nums := by unfold VS.nums; rw [hall]
  have hk' : Keeps (mutV p r) W W' := hk.wide (fun k _ e => .inl e)
  have hm : ∀ b, mutV p { r with vs := s } b → mutV p r b ∨ W.heap.size ≤ b := by
    rintro b (e | e | ⟨k, hkn, e⟩)
    · exact .inl (.inl e)
    · exact .inl (.inr (.inl e))
    · exact .inl (.inr (.inr ⟨k, hn ▸ hkn, e⟩))
  have hat : ∀ k, mutV p r k → k ≠ p → W'.heap[k]? = W.heap[k]? := fun k hm hne => hk.block k (hlt k hm) hne
  refine VStep.mk' h hk' hm hb ?_ ?_ (fun j k hj hk => h.inj j k (hn ▸ hj) (hn ▸ hk)) (fun j k hj hk => h.inp j k (hn ▸ hj) (hn ▸ hk)) ok
  · have : adF { r with vs := s } = adF r := by
      funext k
      unfold adF
      rw [hn]
    rw [this]
    show PMap W' r.mb s.last _
    rw [hl]
    exact h.mp.at (hat _ (.inr (.inl rfl)) (Ne.symm hap.1))
  · intro x hx
    have hx : x ∈ r.vs.all := hall ▸ hx
    have hxn := mem_nums hx
    exact (h.sb x hx).keep (hat _ (.inr (.inr ⟨_, hxn, .inl rfl⟩)) (hap.2 _ hxn).1) (hat _ (.inr (.inr ⟨_, hxn, .inr rfl⟩)) (hap.2 _ hxn).2.2.1) (safeV_le hk' hm)
end
end Go.Proofs.YtnfolemblnnejaaGreat
/- A vault's snapshots: complete, and the functions that numbers takes. -/
namespace Go.Proofs.YtnfolemblnnejaaGreat
open Go.RowKit Go.Maps

theorem part7 (x : Nat) (w : World) (j : Nat) (hj : j < 7) : (part 82 #[.int .u64 x, .int .u64 0, .int .u64 0, .int .u64 0, .int .u64 0, .int .u64 0, .int .u64 0] j).run Tryz.prog w = .ok (.int .u64 (if j = 0 then (x : Int) else 0)) w := by
  match j, hj with
  | 0, _ => simp [part, isAgg, run_underlying Tryz.underlying82]
  | 1, _ => simp [part, isAgg, run_underlying Tryz.underlying82]
  | 2, _ => simp [part, isAgg, run_underlying Tryz.underlying82]
  | 3, _ => simp [part, isAgg, run_underlying Tryz.underlying82]
  | 4, _ => simp [part, isAgg, run_underlying Tryz.underlying82]
  | 5, _ => simp [part, isAgg, run_underlying Tryz.underlying82]
  | 6, _ => simp [part, isAgg, run_underlying Tryz.underlying82]
theorem eq7 (x y : Nat) (w : World) : (Op.equalIn 9999 83 (wordsV x) (wordsV y)).run Tryz.prog w = .ok ((x : Int) == y) w := by
  have hsz : ∀ w, (sizeOf 82).run Tryz.prog w = .ok 1 w := fun w => by kernel_rfl
  rw [show (9999 : Nat) = 9998 + 1 from rfl, Op.equalIn]
  simp only [Sem.run_bind, run_underlying Tryz.underlying83, Result.andThen_ok, hsz, Std.Legacy.Range.forIn_eq_forIn_range', Std.Legacy.Range.size, Nat.sub_zero, Nat.add_sub_cancel, Nat.div_one]
  have pe : ∀ a b : Int, (Op.equalIn 9998 82 (.int .u64 a) (.int .u64 b)).run Tryz.prog w = .ok (a == b) w := fun a b => run_equalIn_int w 9997 82 .u64 .u64 a b Tryz.underlying82
  have p0 := fun z w => part7 z w 0 (by decide)
  have p1 := fun z w => part7 z w 1 (by decide)
  have p2 := fun z w => part7 z w 2 (by decide)
  have p3 := fun z w => part7 z w 3 (by decide)
  have p4 := fun z w => part7 z w 4 (by decide)
  have p5 := fun z w => part7 z w 5 (by decide)
  have p6 := fun z w => part7 z w 6 (by decide)
  simp only [if_true, show ¬ (1 = 0) by decide, show ¬ (2 = 0) by decide, show ¬ (3 = 0) by decide, show ¬ (4 = 0) by decide, show ¬ (5 = 0) by decide, show ¬ (6 = 0) by decide, if_false] at p0 p1 p2 p3 p4 p5 p6
  have hl : List.range' 0 7 1 = [0, 1, 2, 3, 4, 5, 6] := rfl
  rw [hl]
  by_cases e : (x : Int) = y
  · simp [List.forIn_cons, Sem.run_bind, p0, p1, p2, p3, p4, p5, p6, pe, e]
  · have e' : ((x : Int) == y) = false := by rw [beq_eq_false_iff_ne]; exact e
    simp [List.forIn_cons, Sem.run_bind, p0, p1, p2, p3, p4, p5, p6, pe, e, e']
theorem done_eq (s : Sn) : ((bw s.bits : Int) == ((2 ^ s.told.length - 1 : Nat) : Int)) = s.done := by
  rw [Sn.done_bits, ← bw_full]
  unfold Sn.bits
  rw [List.length_map]
  generalize bw (s.told.map Option.isSome) = x
  generalize 2 ^ s.told.length - 1 = y
  by_cases e : x = y
  · subst e; simp
  · have h1 : ((x : Int) == (y : Int)) = false := by rw [beq_eq_false_iff_ne]; omega
    have h2 : (x == y) = false := by rw [beq_eq_false_iff_ne]; exact e
    rw [h1, h2]
set_option maxRecDepth 100000 in
set_option maxHeartbeats 4000000 in
theorem complete_any (a b : Nat) (s : Sn) (w : World) (hs : w.heap[a]? = some (.cells (snCells s b) 88 (0, 0))) (hl : s.told.length ≤ 40) :
    Calls Tryz.prog 48 #[ptrTo a] w fun e w' => e = .returned (.bool s.done) ∧ Below w.heap.size w w' := by
  have HQ := Lib.hid (done_eq s)
  have HS := Lib.hid (fun (w' : World) (hb : Below w.heap.size w w') => (hb.block _ (Array.getElem?_eq_some_iff.1 hs).1).trans hs)
  clear hs
  generalize s.done = dn at *
  unfold snCells at HS
  generalize bw s.bits = x at *
  have HF := Lib.hid (first_any s.told.length w.drew (by omega))
  generalize hy : 2 ^ s.told.length - 1 = y at *
  have HE : ∀ w', (Op.equalIn 9999 83 (.agg #[.int .u64 x, .int .u64 0, .int .u64 0, .int .u64 0, .int .u64 0, .int .u64 0, .int .u64 0]) (.agg #[.int .u64 y, .int .u64 0, .int .u64 0, .int .u64 0, .int .u64 0, .int .u64 0, .int .u64 0])).run Tryz.prog w' = .ok dn w' := fun w' => by rw [← HQ.out]; exact eq7 x y w'
  clear hy
  have HB0 := Lib.hid (show Below w.heap.size w w.drew from (Below.refl _ _).drew)
  have d1 : w.drew.cell? ⟨a, 1, none⟩ = some (.int .u64 x) := mem_cells (HS.out _ HB0.out) 1
  have d2 : w.drew.cell? ⟨a, 2, none⟩ = some (.int .u64 0) := mem_cells (HS.out _ HB0.out) 2
  have d3 : w.drew.cell? ⟨a, 3, none⟩ = some (.int .u64 0) := mem_cells (HS.out _ HB0.out) 3
  have d4 : w.drew.cell? ⟨a, 4, none⟩ = some (.int .u64 0) := mem_cells (HS.out _ HB0.out) 4
  have d5 : w.drew.cell? ⟨a, 5, none⟩ = some (.int .u64 0) := mem_cells (HS.out _ HB0.out) 5
  have d6 : w.drew.cell? ⟨a, 6, none⟩ = some (.int .u64 0) := mem_cells (HS.out _ HB0.out) 6
  have d7 : w.drew.cell? ⟨a, 7, none⟩ = some (.int .u64 0) := mem_cells (HS.out _ HB0.out) 7
  have d8 : w.drew.cell? ⟨a, 8, none⟩ = some (.slice (some ⟨b, 0, none⟩) s.told.length s.told.length) := mem_cells (HS.out _ HB0.out) 8
  cases dn
  all_goals
    go_enter Tryz.func48, Tryz.ntmps48
    go_wp2_with fail
    go_region_held3 (fun w' => w'.cell? ⟨a, 1, none⟩ = some (.int .u64 x) ∧ w'.cell? ⟨a, 2, none⟩ = some (.int .u64 0) ∧ w'.cell? ⟨a, 3, none⟩ = some (.int .u64 0) ∧ w'.cell? ⟨a, 4, none⟩ = some (.int .u64 0) ∧ w'.cell? ⟨a, 5, none⟩ = some (.int .u64 0) ∧ w'.cell? ⟨a, 6, none⟩ = some (.int .u64 0) ∧ w'.cell? ⟨a, 7, none⟩ = some (.int .u64 0) ∧ w'.cell? ⟨a, 8, none⟩ = some (.slice (some ⟨b, 0, none⟩) s.told.length s.told.length))
      (first | exact ⟨by assumption, by assumption, by assumption, by assumption, by assumption, by assumption, by assumption, by assumption⟩ | go_keep)
      ((first | (go_at_call 76; refine HF.out.mono ?_; rintro e w1 ⟨rfl, hb⟩; have HB1 := Lib.hid (pure_trans HB0.out hb); have e1 : w1.cell? ⟨a, 1, none⟩ = some (.int .u64 x) := mem_cells (HS.out _ HB1.out) 1; have e2 : w1.cell? ⟨a, 2, none⟩ = some (.int .u64 0) := mem_cells (HS.out _ HB1.out) 2; have e3 : w1.cell? ⟨a, 3, none⟩ = some (.int .u64 0) := mem_cells (HS.out _ HB1.out) 3; have e4 : w1.cell? ⟨a, 4, none⟩ = some (.int .u64 0) := mem_cells (HS.out _ HB1.out) 4; have e5 : w1.cell? ⟨a, 5, none⟩ = some (.int .u64 0) := mem_cells (HS.out _ HB1.out) 5; have e6 : w1.cell? ⟨a, 6, none⟩ = some (.int .u64 0) := mem_cells (HS.out _ HB1.out) 6; have e7 : w1.cell? ⟨a, 7, none⟩ = some (.int .u64 0) := mem_cells (HS.out _ HB1.out) 7; have e8 : w1.cell? ⟨a, 8, none⟩ = some (.slice (some ⟨b, 0, none⟩) s.told.length s.told.length) := mem_cells (HS.out _ HB1.out) 8)))
    rename_i hHeld
    clear hHeld e1 e2 e3 e4 e5 e6 e7 e8 d1 d2 d3 d4 d5 d6 d7 d8 hb
    simp only [Exit.then]
    go_at_K
    go_wp2
    go_ret
    exact ⟨rfl, HB1.out⟩
/-- A snapshot's block stays. -/
theorem sn_stay {a b : Nat} {s : Sn} {w : World} (hs : w.heap[a]? = some (.cells (snCells s b) 88 (0, 0))) {w' : World} (hb : Below w.heap.size w w') : w'.heap[a]? = some (.cells (snCells s b) 88 (0, 0)) := (hb.block _ (Array.getElem?_eq_some_iff.1 hs).1).trans hs
set_option maxRecDepth 100000 in
theorem pending_any (a b : Nat) (s : Sn) (w : World) (hs : w.heap[a]? = some (.cells (snCells s b) 88 (0, 0))) (hl : s.told.length ≤ 40) :
    Calls Tryz.prog 70 #[ptrTo a] w fun e w' => e = .returned (.bool (!s.done)) ∧ Below w.heap.size w w' := by
  have HC := Lib.hid (complete_any a b s w hs hl)
  generalize s.done = dn at *
  clear hs
  go_enter Tryz.func70, Tryz.ntmps70
  go_wp2_with fail
  refine HC.out.mono ?_
  rintro e w1 ⟨rfl, hb⟩
  go_wp2
  go_ret
  exact ⟨rfl, hb⟩
set_option maxRecDepth 100000 in
theorem trig1_any (a b n : Nat) (s : Sn) (nm : ByteArray) (w : World) (hs : w.heap[a]? = some (.cells (snCells s b) 88 (0, 0))) (hn : w.cell? ⟨n, 0, none⟩ = some (.string nm)) :
    Calls Tryz.prog 41 #[ptrTo a, .pointer (some ⟨n, 0, none⟩)] w fun e w' => e = .returned (.bool (s.name.toList == nm.toList)) ∧ Below w.heap.size w w' := by
  have d0 : w.cell? ⟨a, 0, none⟩ = some (.string s.name) := mem_cells hs 0
  have HB0 := Lib.hid (Below.refl w.heap.size w)
  clear hs
  go_enter Tryz.func41, Tryz.ntmps41
  go_wp2_with fail
  go_quiet (fail)
  all_goals
    go_wp2
    go_ret
    exact ⟨rfl, below_drewN HB0.out _⟩
set_option maxRecDepth 100000 in
theorem drop1_any (a b : Nat) (s : Sn) (w : World) (hs : w.heap[a]? = some (.cells (snCells s b) 88 (0, 0))) (hl : s.told.length ≤ 40) :
    Calls Tryz.prog 77 #[ptrTo a] w fun e w' => e = .returned (.bool (s.done && (s.name.toList == []))) ∧ Below w.heap.size w w' := by
  have HC := Lib.hid (complete_any a b s w hs hl)
  have HS := Lib.hid (fun (w' : World) (hb : Below w.heap.size w w') => (show w'.cell? ⟨a, 0, none⟩ = some (.string s.name) from mem_cells (sn_stay hs hb) 0))
  generalize s.done = dn at *
  clear hs
  go_enter Tryz.func77, Tryz.ntmps77
  go_wp2_with fail
  refine HC.out.mono ?_
  rintro e w1 ⟨rfl, hb⟩
  have d0 := HS.out _ hb
  cases dn
  all_goals
    go_wp2
    go_ret
    exact ⟨by simp, hb⟩
end Go.Proofs.YtnfolemblnnejaaGreat
/- A vault's numbers. -/
namespace Go.Proofs.YtnfolemblnnejaaGreat
open Go.RowKit Go.Maps

set_option maxRecDepth 100000 in
theorem named1_any (a b n : Nat) (s : Sn) (nm : ByteArray) (w : World) (hs : w.heap[a]? = some (.cells (snCells s b) 88 (0, 0))) (hl : s.told.length ≤ 40) (hn : w.cell? ⟨n, 0, none⟩ = some (.string nm)) :
    Calls Tryz.prog 60 #[ptrTo a, .pointer (some ⟨n, 0, none⟩)] w fun e w' => e = .returned (.bool (s.done && (s.name.toList == nm.toList))) ∧ Below w.heap.size w w' := by
  have HB0 := Lib.hid (show Below w.heap.size w w.drew from (Below.refl _ _).drew)
  have HC := Lib.hid (complete_any a b s w.drew (sn_stay hs HB0.out) hl)
  have HS := Lib.hid (fun (w' : World) (hb : Below w.heap.size w w') => (show w'.cell? ⟨a, 0, none⟩ = some (.string s.name) ∧ w'.cell? ⟨n, 0, none⟩ = some (.string nm) from ⟨mem_cells (sn_stay hs hb) 0, below_mem hb _ _ _ hn⟩))
  obtain ⟨d0, d1⟩ := HS.out _ HB0.out
  clear hs hn
  cases hd : s.done with
  | false =>
    rw [hd] at HC
    clear hd
    go_enter Tryz.func60, Tryz.ntmps60
    go_wp2_with fail
    first
      | (go_region_with (go_at_call 48; refine HC.out.mono ?_; rintro e w1 ⟨rfl, hb⟩; have HB1 := Lib.hid (pure_trans HB0.out hb); obtain ⟨e0, e1⟩ := HS.out _ HB1.out))
      | fail
    all_goals
      go_wp2
      go_ret
      exact ⟨rfl, HB1.out⟩
  | true =>
    rw [hd] at HC
    clear hd
    go_enter Tryz.func60, Tryz.ntmps60
    go_wp2_with fail
    go_region_held3 (fun w' => w'.cell? ⟨a, 0, none⟩ = some (.string s.name) ∧ w'.cell? ⟨n, 0, none⟩ = some (.string nm))
      (first | exact ⟨by assumption, by assumption⟩ | go_keep)
      ((first | (go_at_call 48; refine HC.out.mono ?_; rintro e w1 ⟨rfl, hb⟩; have HB1 := Lib.hid (pure_trans HB0.out hb); obtain ⟨e0, e1⟩ := HS.out _ HB1.out)))
    simp only [Exit.then]
    go_at_K
    go_wp2
    go_ret
    exact ⟨by simp, HB1.out⟩
/-- What a function that numbers takes says of the snapshots of a vault. -/
def Takes (W : World) (r : HV) (Fn : FuncId) (capt : Array Value) (P : Sn → Bool) : Prop :=
  (∀ args w, Sem.run Tryz.prog (callFunc Fn args) w = .ok (.enter Fn args) w) ∧ ∀ x ∈ r.vs.all, ∀ w', Below W.heap.size W w' → Calls Tryz.prog Fn (#[ptrTo (r.ad x.1)] ++ capt) w' fun e w2 => e = .returned (.bool (P x.2)) ∧ Below w'.heap.size w' w2
def VS.those (s : VS) (P : Sn → Bool) : List Int := (s.all.filter (fun x => P x.2)).map Prod.fst
theorem VOk.sorted {s : VS} (h : VOk s) {f : Int → Option Nat} (hf : ∀ k, (f k).isSome = true ↔ k ∈ s.nums) {ss : List Int} (hk : SortedKeys f ss) : ss = s.nums := by
  refine hk.unique ⟨fun k => (hf k).symm, h.up.imp (fun h => by omega), h.up.imp (fun h => by omega)⟩
theorem adF_some (r : HV) (k : Int) : (adF r k).isSome = true ↔ k ∈ r.vs.nums := by
  unfold adF
  by_cases h : k ∈ r.vs.nums
  · simp [h]
  · simp [h]
theorem Owns.low {α : Type} {t : Ty α} {w : World} {B B' : Nat} {e : TypeId} {v : Value} {xs : List α} (h : Owns t w B e v xs) (hB : B' ≤ B) : Owns t w B' e v xs := by
  obtain ⟨css, h1, ⟨h2, h3⟩, h4, h5⟩ := h
  refine ⟨css, h1, ⟨h2, ?_⟩, h4, h5⟩
  rcases h3 with h3 | ⟨g, cap, cur, e1, hg, r⟩
  · exact .inl h3
  · exact .inr ⟨g, cap, cur, e1, Nat.le_trans hB hg, r⟩
theorem those_take (s : VS) (P : Sn → Bool) {k : Nat} (hk : k < s.all.length) :
    (((s.all.take (k + 1)).filter (fun x => P x.2)).map Prod.fst) = (if P (s.all[k]).2 = true then ((s.all.take k).filter (fun x => P x.2)).map Prod.fst ++ [(s.all[k]).1] else ((s.all.take k).filter (fun x => P x.2)).map Prod.fst) := by
  rw [List.take_succ_eq_append_getElem hk, List.filter_append, List.map_append]
  by_cases h : P (s.all[k]).2 = true
  · rw [if_pos h]; simp [h]
  · rw [if_neg h]; simp [h]
theorem asc_len : ∀ (l : List Int) (lo hi : Int), l.Pairwise (· < ·) → (∀ x ∈ l, lo ≤ x ∧ x ≤ hi) → lo ≤ hi + 1 → (l.length : Int) ≤ hi + 1 - lo
  | [], lo, hi, _, _, h => by simp; omega
  | x :: l, lo, hi, hp, hb, h => by
    rw [List.pairwise_cons] at hp
    have h1 := hb x List.mem_cons_self
    have := asc_len l (x + 1) hi hp.2 (fun y hy => ⟨by have := hp.1 y hy; omega, (hb y (List.mem_cons_of_mem _ hy)).2⟩) (by omega)
    rw [List.length_cons]
    omega
theorem all_len {s : VS} (h : VOk s) : s.all.length ≤ s.last := by
  have := asc_len s.nums 1 s.last h.up h.lt (by omega)
  unfold VS.nums at this
  rw [List.length_map] at this
  omega
theorem nums_get (s : VS) {k : Nat} (h1 : k < s.nums.length) (h2 : k < s.all.length) : s.nums[k] = (s.all[k]).1 := List.getElem_map Prod.fst
theorem Tryz.infoInt : (Tryz.prog.info? 3).map (fun i => (i.zero, i.size, i.bytes)) = some (some (.int .i64 0), 1, 8) := by kernel_rfl
theorem adF_at {r : HV} {k : Int} (h : k ∈ r.vs.nums) : adF r k = some (r.ad k) := by
  unfold adF; rw [if_pos h]
theorem VOk.i64 {s : VS} (h : VOk s) {k : Int} (hk : k ∈ s.nums) : inI64 k := by
  have := h.lt k hk
  have := h.l
  unfold inI64
  omega
set_option maxRecDepth 100000 in
set_option maxHeartbeats 8000000 in
theorem numbers_any {base p : Nat} {r : HV} (Fn : FuncId) (capt : Array Value) (P : Sn → Bool) (w : World) (hI : VInv w base p r) (hT : Takes w r Fn capt P) :
    Calls Tryz.prog 40 #[ptrTo p, .func (.func Fn) #[] capt] w fun e w' => ∃ a cap, e = .returned (.slice a (r.vs.those P).length cap) ∧ Owns tInt w' w.heap.size 3 (.slice a (r.vs.those P).length cap) (r.vs.those P) ∧ Below w.heap.size w w' := by
  have HIN := Lib.hid (fun (w' : World) (hb : Below w.heap.size w w') => (show w'.cell? ⟨p, 3, none⟩ = some (.map (some r.mb)) from mem_cells (hI.pure hb).hb 3))
  have c3 : w.cell? ⟨p, 3, none⟩ = some (.map (some r.mb)) := mem_cells hI.hb 3
  have HK := Lib.hid (snKeys_any (some r.mb) w)
  have HS := Lib.hid (sortedKeys_any r.mb r.vs.last (adF r) w hI.mp (by have := hI.ok.l; omega))
  have HO := Lib.hid hI.ok
  have HLK := Lib.hid (fun (w' : World) (hb : Below w.heap.size w w') (k : Int) (hk : k ∈ r.vs.nums) => (show (Instr.lookup 49 (.map (some r.mb)) (.int .i64 k) false).run Tryz.prog w' = .ok (ptrTo (r.ad k)) w' from by
    have := (hI.pure hb).mp.look (hI.ok.i64 hk)
    rw [adF_at hk] at this
    exact this))
  obtain ⟨hcf, hf⟩ := hT
  have HF := Lib.hid hf
  have HAL := Lib.hid (show r.vs.all.length ≤ 1000000 from by have := all_len hI.ok; have := hI.ok.l; omega)
  clear hI hf
  go_enter Tryz.func40, Tryz.ntmps40
  go_wp2_with fail
  refine HK.out.mono ?_
  rintro e w1 ⟨rfl, rfl⟩
  go_wp2_with fail
  refine HS.out.mono ?_
  rintro e w2 ⟨v, ss, rfl, hr, hk, hl, hb⟩
  obtain rfl : ss = r.vs.nums := HO.out.sorted (adF_some r) hk
  obtain ⟨ak, ck, rfl, hl1, hm1, -⟩ := slice_form hr
  have hck : ck ≤ 9223372036854775807 := by unfold maxLen at hm1; exact hm1
  have HB2 := Lib.hid hb
  have HKR := Lib.hid (fun (w' : World) (hb' : Below w2.heap.size w2 w') => (show (tSlice tInt).rv (mem w') [.slice ak r.vs.nums.length ck] r.vs.nums from (tSlice tInt).mono _ _ _ _ (below_mem hb') ((tSlice tInt).mono _ _ _ _ (Mem.on_le _ _) hr)))
  have hnl : r.vs.nums.length = r.vs.all.length := by unfold VS.nums; simp
  clear hr hk hl hb hm1 HK HS
  go_wp2_with fail
  go_loopw [5, 17] (fun ov i wr => ∃ k : Nat, k ≤ r.vs.nums.length ∧ i = .int .i64 k ∧ Hid (Owns tInt wr w2.heap.size 3 ov (((r.vs.all.take k).filter (fun x => P x.2)).map Prod.fst)) ∧ Hid (Below w2.heap.size w2 wr)) (fun _ i _ => r.vs.nums.length - (intOf i).toNat)
  case atStart => exact ⟨0, by omega, rfl, Lib.hid (Owns.nil _ _ _ _), Lib.hid (Below.refl _ _)⟩
  case round =>
    obtain ⟨k, hk, rfl, HOW, HBR⟩ := hrel
    have HWR := Lib.hid (pure_trans HB2.out HBR.out)
    have c3 := HIN.out _ HWR.out
    by_cases hlt : k < r.vs.nums.length
    · obtain ⟨b, o, e, hat⟩ := slice_at (HKR.out _ HBR.out) hlt
      subst e
      have hka : k < r.vs.all.length := by omega
      have d0 : wr.cell? ⟨b, o + k, none⟩ = some (.int .i64 r.vs.nums[k]) := by
        have := (int_at hat).1
        simpa [tInt, mem] using this
      have hin := (int_at hat).2
      have hmem : r.vs.nums[k] ∈ r.vs.nums := List.getElem_mem hlt
      have hnk : r.vs.nums[k] = (r.vs.all[k]).1 := nums_get r.vs hlt hka
      have hlk := HLK.out _ HWR.out _ hmem
      have hcall := HF.out _ (List.getElem_mem hka) wr HWR.out
      have HTK := Lib.hid (those_take r.vs P hka)
      have HLL := Lib.hid (show (((r.vs.all.take k).filter (fun x => P x.2)).map Prod.fst).length ≤ 1000000000 from by
        rw [List.length_map]
        exact Nat.le_trans (List.length_filter_le _ _) (by rw [List.length_take]; have := HAL.out; omega))
      rw [← hnk] at hcall HTK
      clear hat hmem hnk
      generalize ((r.vs.all.take k).filter (fun x => P x.2)).map Prod.fst = l at *
      generalize r.vs.nums[k] = y at *
      generalize (r.vs.all[k]).2 = s at *
      obtain ⟨al, cl, hvl, _⟩ := HOW.out.len
      subst hvl
      generalize hps : P s = t at hcall HTK
      clear hps
      have HC := Lib.hid hcall
      clear hcall
      go_wp2_with fail
      refine HC.out.mono ?_
      rintro e w3 ⟨rfl, hb3⟩
      have HB3 := Lib.hid (pure_trans HBR.out hb3)
      have HO3 := Lib.hid (HOW.out.keeps hb3)
      have HSZ := Lib.hid HB3.out.size
      clear hb3 HC HOW HBR HWR c3 d0 hlk
      cases t with
      | false =>
        have HO4 := Lib.hid (show Owns tInt w3 w2.heap.size 3 (.slice al l.length cl) (((r.vs.all.take (k + 1)).filter (fun x => P x.2)).map Prod.fst) by rw [HTK.out]; exact HO3.out)
        go_wp2
        go_roundw
        case rel => exact ⟨k + 1, by omega, by go_num, HO4, HB3⟩
        case measure => simp [intOf]; omega
      | true =>
        have HTL := Lib.hid (show l ++ [y] = ((r.vs.all.take (k + 1)).filter (fun x => P x.2)).map Prod.fst from HTK.out.symm)
        clear HTK
        go_wp2_with (at_builtin; refine wpList_append_int rfl _ _ 46 rfl Tryz.underlying46 Tryz.infoInt w2.heap.size _ l rfl (HO3.out.alloc _) _ _ y rfl ?c1 ?c2 ?c3 ?c4 ?_)
        case c1 => simp
        case c2 => exact hin
        case c3 => have := HLL.out; omega
        case c4 => have := HSZ.out; simp; omega
        · intro v' w6 own6 hgrow _
          have HB6 := Lib.hid (show Below w2.heap.size w2 w6 from (HB3.out.alloc HB3.out.size _).grown hgrow (by have := HSZ.out; simp; omega) (fun k hk => ((HO3.out).lt k hk).1))
          obtain ⟨a6, cap6, rfl, _⟩ := own6.len
          have HO6 := Lib.hid (show Owns tInt w6 w2.heap.size 3 (.slice a6 (l ++ [y]).length cap6) (((r.vs.all.take (k + 1)).filter (fun x => P x.2)).map Prod.fst) by
            rw [← HTL.out]
            exact own6)
          clear own6 hgrow HO3 HB3
          go_wp2
          go_roundw
          case rel => exact ⟨k + 1, by omega, by go_num, HO6, HB6⟩
          case measure => simp [intOf]; omega
    · obtain rfl : k = r.vs.nums.length := by omega
      rw [hnl, List.take_length] at HOW
      have HO7 := Lib.hid (show Owns tInt wr w.heap.size 3 _ (r.vs.those P) from HOW.out.low HB2.out.size)
      clear HOW
      obtain ⟨a7, c7, hv7, _⟩ := HO7.out.len
      subst hv7
      go_wp2
      go_ret
      exact ⟨a7, c7, rfl, HO7.out, HWR.out⟩
end Go.Proofs.YtnfolemblnnejaaGreat
/- The steps of a vault's state: a snapshot more, one less, one changed. -/
namespace Go.Proofs.YtnfolemblnnejaaGreat
open Go.RowKit Go.Maps

def Sn.new (n : Nat) (nm : ByteArray) : Sn := ⟨nm, List.replicate n none⟩
def VS.trig (s : VS) (nm : ByteArray) : VS := { s with last := s.last + 1, all := s.all ++ [((s.last : Int) + 1, Sn.new s.tasks nm)] }
def VS.del (s : VS) (k : Int) : VS := { s with all := s.all.filter (fun x => decide (x.1 ≠ k)) }
def VS.upd (s : VS) (k : Int) (f : Sn → Sn) : VS := { s with all := s.all.map (fun x => if x.1 = k then (x.1, f x.2) else x) }
def Sn.noName (t : Sn) : Sn := { t with name := .empty }
def Sn.tell (t : Sn) (i : Nat) (x : Part) : Sn := { t with told := t.told.set i (some x) }
theorem bw_false : ∀ n : Nat, bw (List.replicate n false) = 0
  | 0 => rfl
  | n + 1 => by rw [List.replicate_succ]; unfold bw; rw [bw_false n]; rfl
theorem new_bits (n : Nat) (nm : ByteArray) : (Sn.new n nm).bits = List.replicate n false := by
  unfold Sn.new Sn.bits
  simp
theorem new_cells (n : Nat) (nm : ByteArray) (b : Nat) : snCells (Sn.new n nm) b = #[.string nm, .int .u64 0, .int .u64 0, .int .u64 0, .int .u64 0, .int .u64 0, .int .u64 0, .int .u64 0, .slice (some ⟨b, 0, none⟩) n n] := by
  unfold snCells
  rw [new_bits, bw_false]
  simp [Sn.new]
theorem upd_nums (s : VS) (k : Int) (f : Sn → Sn) : (s.upd k f).nums = s.nums := by
  unfold VS.upd VS.nums
  rw [List.map_map]
  refine List.map_congr_left fun x _ => ?_
  show (if x.1 = k then (x.1, f x.2) else x).1 = x.1
  split <;> rfl
theorem upd_mem {s : VS} (h : VOk s) {k : Int} {t : Sn} (hm : (k, t) ∈ s.all) {f : Sn → Sn} {x : Int × Sn} (hx : x ∈ (s.upd k f).all) : x = (k, f t) ∨ (x ∈ s.all ∧ x.1 ≠ k) := by
  obtain ⟨y, hy, rfl⟩ := List.mem_map.1 hx
  by_cases e : y.1 = k
  · rw [if_pos e]
    have : y.2 = t := h.one (k := k) (e ▸ hy) hm
    exact .inl (by rw [e, this])
  · rw [if_neg e]; exact .inr ⟨hy, e⟩
theorem VOk.upd {s : VS} (h : VOk s) {k : Int} {t : Sn} (hm : (k, t) ∈ s.all) {f : Sn → Sn} (hl : (f t).told.length = t.told.length) (hn : (f t).name.size ≤ maxLen) : VOk (s.upd k f) := by
  refine ⟨h.t1, h.t40, by rw [upd_nums]; exact h.up, fun j hj => h.lt j (by rw [upd_nums] at hj; exact hj), fun x hx => ?_, h.m, h.k, h.l⟩
  rcases upd_mem h hm hx with rfl | ⟨hx, _⟩
  · have := h.tk _ hm
    exact ⟨by rw [hl]; exact this.1, by rw [hl]; exact this.2.1, hn⟩
  · exact h.tk x hx
theorem VOk.del {s : VS} (h : VOk s) (k : Int) : VOk (s.del k) := by
  have hsub : ∀ j, j ∈ (s.del k).nums → j ∈ s.nums := fun j hj => by
    obtain ⟨x, hx, rfl⟩ := List.mem_map.1 hj
    exact mem_nums (List.mem_filter.1 hx).1
  refine ⟨h.t1, h.t40, ?_, fun j hj => h.lt j (hsub j hj), fun x hx => h.tk x (List.mem_filter.1 hx).1, h.m, h.k, h.l⟩
  have hu := h.up
  unfold VS.nums at hu ⊢
  unfold VS.del
  rw [List.pairwise_map] at hu ⊢
  exact hu.filter _
theorem VOk.trig {s : VS} (h : VOk s) (hl : s.last < 1000000) {nm : ByteArray} (hn : nm.size ≤ maxLen) : VOk (s.trig nm) := by
  have hnums : (s.trig nm).nums = s.nums ++ [(s.last : Int) + 1] := by unfold VS.trig VS.nums; simp
  refine ⟨h.t1, h.t40, ?_, fun j hj => ?_, fun x hx => ?_, h.m, h.k, hl⟩
  · rw [hnums, List.pairwise_append]
    exact ⟨h.up, by simp, fun a ha b hb => by simp at hb; subst hb; have := h.lt a ha; omega⟩
  · rw [hnums] at hj
    show 1 ≤ j ∧ j ≤ ((s.last + 1 : Nat) : Int)
    rcases List.mem_append.1 hj with hj | hj
    · have := h.lt j hj; omega
    · simp at hj; subst hj; omega
  · rcases List.mem_append.1 hx with hx | hx
    · exact h.tk x hx
    · simp at hx; subst hx
      have := h.t1
      have := h.t40
      simp [Sn.new]; omega
section
variable {W Z : World} {base p : Nat} {r : HV}
/-- A snapshot changes. -/
theorem VInv.upd (h : VInv W base p r) {k : Int} {t : Sn} (hm : (k, t) ∈ r.vs.all) {f : Sn → Sn} (hl : (f t).told.length = t.told.length) (hn : (f t).name.size ≤ maxLen) (hk : Keeps (fun b => b = r.ad k ∨ b = r.pb k) W Z)
    (hs : (safeV W p r).le (safeV Z p { r with vs := r.vs.upd k f }) → SnAt Z (safeV Z p { r with vs := r.vs.upd k f }) (r.ad k) (r.pb k) (f t)) : VStep W base p r Z { r with vs := r.vs.upd k f } := by
  have hap := h.apart
  have hlt := h.kind
  have hkn := mem_nums hm
  have hun := upd_nums r.vs k f
  have hk' : Keeps (mutV p r) W Z := hk.wide (fun b _ e => .inr (.inr ⟨k, hkn, e⟩))
  have hmm : ∀ b, mutV p { r with vs := r.vs.upd k f } b → mutV p r b ∨ W.heap.size ≤ b := by
    rintro b (e | e | ⟨j, hj, e⟩)
    · exact .inl (.inl e)
    · exact .inl (.inr (.inl e))
    · exact .inl (.inr (.inr ⟨j, hun ▸ hj, e⟩))
  have hat : ∀ b, mutV p r b → b ≠ r.ad k → b ≠ r.pb k → Z.heap[b]? = W.heap[b]? := fun b hm h1 h2 => hk.block b (hlt b hm) (by rintro (e | e); exact h1 e; exact h2 e)
  have had : adF { r with vs := r.vs.upd k f } = adF r := by
    funext j
    unfold adF
    show (if j ∈ (r.vs.upd k f).nums then _ else _) = _
    rw [hun]
  have hsl := safeV_le hk' hmm
  refine VStep.mk' h hk' hmm ((hat p (.inl rfl) (Ne.symm (hap.2 k hkn).1) (Ne.symm (hap.2 k hkn).2.2.1)).trans h.hb) (by rw [had]; exact h.mp.at (hat _ (.inr (.inl rfl)) (Ne.symm (hap.2 k hkn).2.1) (Ne.symm (hap.2 k hkn).2.2.2.1))) ?_
    (fun i j hi hj => h.inj i j (hun ▸ hi) (hun ▸ hj)) (fun i j hi hj => h.inp i j (hun ▸ hi) (hun ▸ hj)) (h.ok.upd hm hl hn)
  intro x hx
  rcases upd_mem h.ok hm hx with rfl | ⟨hx, hne⟩
  · exact hs hsl
  · have hxn := mem_nums hx
    refine (h.sb x hx).keep (hat _ (.inr (.inr ⟨_, hxn, .inl rfl⟩)) (fun e => hne (h.inj _ _ hxn hkn e)) (fun e => (hap.2 _ hxn).2.2.2.2 k hkn e.symm)) (hat _ (.inr (.inr ⟨_, hxn, .inr rfl⟩)) (fun e => (hap.2 k hkn).2.2.2.2 _ hxn e) (fun e => hne (h.inp _ _ hxn hkn e))) hsl
/-- A name is forgotten. -/
theorem VInv.noName (h : VInv W base p r) {k : Int} {t : Sn} (hm : (k, t) ∈ r.vs.all) : VStep W base p r (W.setCell ⟨r.ad k, 0, none⟩ (.string .empty)) { r with vs := r.vs.upd k Sn.noName } := by
  have hap := h.apart
  have hkn := mem_nums hm
  refine h.upd hm rfl (Nat.zero_le _) ((Keeps.refl _ W).setCell (p := ⟨r.ad k, 0, none⟩) (fun _ => .inl rfl) _) (fun hsl => ?_)
  obtain ⟨h1, arr, h2, h3, h4⟩ := h.sb _ hm
  refine ⟨set_block (o := 0) h1, arr, (set_block_other ((hap.2 k hkn).2.2.2.2 k hkn)).trans h2, h3, fun i hi => ?_⟩
  obtain ⟨v, e, hp⟩ := h4 i hi
  exact ⟨v, e, hp.mono hsl⟩
/-- A task's part is told. -/
theorem VInv.tell (h : VInv W base p r) {k : Int} {t : Sn} (hm : (k, t) ∈ r.vs.all) {i a : Nat} {x : Part} (hi : i < t.told.length) (hk : Keeps (fun b => b = r.ad k ∨ b = r.pb k) W Z)
    (hsn : Z.heap[r.ad k]? = some (.cells (snCells (t.tell i x) (r.pb k)) 88 (0, 0))) (hpb : ∀ arr, W.heap[r.pb k]? = some (.cells arr 96 (0, 0)) → Z.heap[r.pb k]? = some (.cells (arr.setIfInBounds i (ptrTo a)) 96 (0, 0)))
    (hp : partAt ((mem Z).on (W.heap.size ≤ ·)) (ptrTo a) (some x)) : VStep W base p r Z { r with vs := r.vs.upd k (fun t => t.tell i x) } := by
  have hlt := h.kind
  have hkn := mem_nums hm
  have hun := upd_nums r.vs k (fun t => t.tell i x)
  refine h.upd hm (by unfold Sn.tell; simp) (h.ok.tk _ hm).2.2 hk (fun hsl => ?_)
  obtain ⟨h1, arr, h2, h3, h4⟩ := h.sb _ hm
  refine ⟨hsn, _, hpb arr h2, by simp [Sn.tell, h3], fun j hj => ?_⟩
  have hj' : j < t.told.length := by simpa [Sn.tell] using hj
  by_cases e : i = j
  · subst e
    refine ⟨ptrTo a, by simp [h3, hi], ?_⟩
    have : (t.tell i x).told[i] = some x := by simp [Sn.tell]
    rw [this]
    refine hp.mono (fun b o v e => ?_)
    obtain ⟨hb, e⟩ := Mem.of_on e
    refine Mem.on_some e ⟨fun hmv => ?_, fun hof => by have := (h.ofs b hof).1; omega⟩
    have hmv2 : mutV p r b := by
      rcases hmv with e | e | ⟨j, hj, e⟩
      · exact .inl e
      · exact .inr (.inl e)
      · exact .inr (.inr ⟨j, hun ▸ hj, e⟩)
    have := hlt b hmv2
    omega
  · obtain ⟨v, e1, hp1⟩ := h4 j hj'
    refine ⟨v, by simp [Array.getElem?_setIfInBounds, e]; exact e1, ?_⟩
    have : (t.tell i x).told[j] = t.told[j] := by simp [Sn.tell, e]
    rw [this]
    exact hp1.mono hsl
/-- A snapshot is taken away. -/
theorem VInv.del (h : VInv W base p r) {k : Int} (hk : inI64 k) (ty : TypeId) :
    ∃ Z, (Builtin.delete_ #[49, 3] ty #[.map (some r.mb), .int .i64 k]).run Tryz.prog W = .ok (.tuple #[]) Z ∧ VStep W base p r Z { r with vs := r.vs.del k } := by
  have hap := h.apart
  have hlt := h.kind
  obtain ⟨Z, hrun, hm, hg⟩ := h.mp.drop hk ty
  refine ⟨Z, hrun, ?_⟩
  have hsub : ∀ j, j ∈ (r.vs.del k).nums → j ∈ r.vs.nums ∧ j ≠ k := fun j hj => by
    obtain ⟨x, hx, rfl⟩ := List.mem_map.1 hj
    have := List.mem_filter.1 hx
    exact ⟨mem_nums this.1, of_decide_eq_true this.2⟩
  have hk' : Keeps (mutV p r) W Z := (grown_keeps hg).wide (fun b _ e => by injection e with e; exact .inr (.inl e))
  have hat : ∀ b, mutV p r b → b ≠ r.mb → Z.heap[b]? = W.heap[b]? := fun b hm hne => hg.block b (hlt b hm) (fun e => hne (by injection e))
  have hmm : ∀ b, mutV p { r with vs := r.vs.del k } b → mutV p r b ∨ W.heap.size ≤ b := by
    rintro b (e | e | ⟨j, hj, e⟩)
    · exact .inl (.inl e)
    · exact .inl (.inr (.inl e))
    · exact .inl (.inr (.inr ⟨j, (hsub j hj).1, e⟩))
  have had : adF { r with vs := r.vs.del k } = delAt (adF r) k := by
    funext j
    unfold adF delAt
    show (if j ∈ (r.vs.del k).nums then some (r.ad j) else none) = _
    by_cases e : j = k
    · subst e
      rw [if_pos rfl, if_neg (fun hj => (hsub _ hj).2 rfl)]
    · rw [if_neg e]
      show (if j ∈ (r.vs.del k).nums then some (r.ad j) else none) = (if j ∈ r.vs.nums then some (r.ad j) else none)
      by_cases hj : j ∈ r.vs.nums
      · rw [if_pos hj, if_pos]
        obtain ⟨x, hx, rfl⟩ := List.mem_map.1 hj
        exact List.mem_map_of_mem (f := Prod.fst) (List.mem_filter.2 ⟨hx, decide_eq_true e⟩)
      · rw [if_neg hj, if_neg (fun hj' => hj (hsub j hj').1)]
  refine VStep.mk' h hk' hmm ((hat p (.inl rfl) hap.1).trans h.hb) (by rw [had]; exact hm) ?_ (fun i j hi hj => h.inj i j (hsub i hi).1 (hsub j hj).1) (fun i j hi hj => h.inp i j (hsub i hi).1 (hsub j hj).1) (h.ok.del k)
  intro x hx
  have hx := (List.mem_filter.1 hx).1
  have hxn := mem_nums hx
  exact (h.sb x hx).keep (hat _ (.inr (.inr ⟨_, hxn, .inl rfl⟩)) (hap.2 _ hxn).2.1) (hat _ (.inr (.inr ⟨_, hxn, .inr rfl⟩)) (hap.2 _ hxn).2.2.2.1) (safeV_le hk' hmm)
/-- A snapshot more. -/
theorem VInv.trig (h : VInv W base p r) (hl : r.vs.last < 1000000) {nm : ByteArray} (hn : nm.size ≤ maxLen) {arr : Array Value} (hsz : arr.size = r.vs.tasks) (harr : ∀ i, i < r.vs.tasks → arr[i]? = some (.pointer none)) :
    ∃ Z, (Instr.mapUpdate 49 (.map (some r.mb)) (.int .i64 ((r.vs.last : Int) + 1)) (ptrTo (W.heap.size + 1))).run Tryz.prog (((W.setCell ⟨p, 4, none⟩ (.int .i64 ((r.vs.last : Int) + 1))).alloc (.cells arr 96)).alloc (.cells #[.string nm, .int .u64 0, .int .u64 0, .int .u64 0, .int .u64 0, .int .u64 0, .int .u64 0, .int .u64 0, .slice (some ⟨W.heap.size, 0, none⟩) r.vs.tasks r.vs.tasks] 88)).drew = .ok () Z ∧
      ∃ r', VStep W base p r Z r' ∧ r'.vs = r.vs.trig nm := by
  have hap := h.apart
  have hlt := h.kind
  have hsW : (W.setCell ⟨p, 4, none⟩ (.int .i64 ((r.vs.last : Int) + 1))).heap.size = W.heap.size := by simp [World.setCell]
  have hX : ∀ b, b ≠ p → (W.setCell ⟨p, 4, none⟩ (.int .i64 ((r.vs.last : Int) + 1))).heap[b]? = W.heap[b]? := fun b hb => set_block_other hb
  have hXp : (W.setCell ⟨p, 4, none⟩ (.int .i64 ((r.vs.last : Int) + 1))).heap[p]? = some (.cells (vCells (r.vs.trig nm) r.mb) 51 (0, 0)) := by
    refine (set_block (o := 4) h.hb).trans ?_
    congr 1
  have hXk : Keeps (fun b => b = p) W (W.setCell ⟨p, 4, none⟩ (.int .i64 ((r.vs.last : Int) + 1))) := by
    have hk := (Keeps.refl (fun b => b = p) W).setCell (p := ⟨p, 4, none⟩) (fun _ => rfl) (.int .i64 ((r.vs.last : Int) + 1))
    exact ⟨hk.os, hk.tape, hk.output, hk.size, hk.block⟩
  generalize (W.setCell ⟨p, 4, none⟩ (.int .i64 ((r.vs.last : Int) + 1))) = X at *
  have hp4 := hlt p (.inl rfl)
  have hmbl := hlt r.mb (.inr (.inl rfl))
  have hY0 : ∀ b, b < X.heap.size → ((X.alloc (.cells arr 96)).alloc (.cells #[.string nm, .int .u64 0, .int .u64 0, .int .u64 0, .int .u64 0, .int .u64 0, .int .u64 0, .int .u64 0, .slice (some ⟨W.heap.size, 0, none⟩) r.vs.tasks r.vs.tasks] 88)).drew.heap[b]? = X.heap[b]? := fun b hb => (Below.heap_alloc _ _ _ (by simp; omega)).trans (Below.heap_alloc _ _ _ hb)
  have hYa : ((X.alloc (.cells arr 96)).alloc (.cells #[.string nm, .int .u64 0, .int .u64 0, .int .u64 0, .int .u64 0, .int .u64 0, .int .u64 0, .int .u64 0, .slice (some ⟨W.heap.size, 0, none⟩) r.vs.tasks r.vs.tasks] 88)).drew.heap[X.heap.size]? = some (.cells arr 96) := alloc_at0 X (.cells arr 96) (.cells #[.string nm, .int .u64 0, .int .u64 0, .int .u64 0, .int .u64 0, .int .u64 0, .int .u64 0, .int .u64 0, .slice (some ⟨W.heap.size, 0, none⟩) r.vs.tasks r.vs.tasks] 88)
  have hYb : ((X.alloc (.cells arr 96)).alloc (.cells #[.string nm, .int .u64 0, .int .u64 0, .int .u64 0, .int .u64 0, .int .u64 0, .int .u64 0, .int .u64 0, .slice (some ⟨W.heap.size, 0, none⟩) r.vs.tasks r.vs.tasks] 88)).drew.heap[X.heap.size + 1]? = some (.cells #[.string nm, .int .u64 0, .int .u64 0, .int .u64 0, .int .u64 0, .int .u64 0, .int .u64 0, .int .u64 0, .slice (some ⟨W.heap.size, 0, none⟩) r.vs.tasks r.vs.tasks] 88) := alloc_at1 X (.cells arr 96) (.cells #[.string nm, .int .u64 0, .int .u64 0, .int .u64 0, .int .u64 0, .int .u64 0, .int .u64 0, .int .u64 0, .slice (some ⟨W.heap.size, 0, none⟩) r.vs.tasks r.vs.tasks] 88)
  have hYk0 := (hXk.alloc (.cells arr 96)).alloc (.cells #[.string nm, .int .u64 0, .int .u64 0, .int .u64 0, .int .u64 0, .int .u64 0, .int .u64 0, .int .u64 0, .slice (some ⟨W.heap.size, 0, none⟩) r.vs.tasks r.vs.tasks] 88)
  have hYk : Keeps (fun b => b = p) W ((X.alloc (.cells arr 96)).alloc (.cells #[.string nm, .int .u64 0, .int .u64 0, .int .u64 0, .int .u64 0, .int .u64 0, .int .u64 0, .int .u64 0, .slice (some ⟨W.heap.size, 0, none⟩) r.vs.tasks r.vs.tasks] 88)).drew := ⟨hYk0.os, hYk0.tape, hYk0.output, hYk0.size, hYk0.block⟩
  have hYs : ((X.alloc (.cells arr 96)).alloc (.cells #[.string nm, .int .u64 0, .int .u64 0, .int .u64 0, .int .u64 0, .int .u64 0, .int .u64 0, .int .u64 0, .slice (some ⟨W.heap.size, 0, none⟩) r.vs.tasks r.vs.tasks] 88)).drew.heap.size = W.heap.size + 2 := by show ((X.alloc (.cells arr 96)).alloc (.cells #[.string nm, .int .u64 0, .int .u64 0, .int .u64 0, .int .u64 0, .int .u64 0, .int .u64 0, .int .u64 0, .slice (some ⟨W.heap.size, 0, none⟩) r.vs.tasks r.vs.tasks] 88)).heap.size = _; simp [hsW]
  clear hYk0
  generalize ((X.alloc (.cells arr 96)).alloc (.cells #[.string nm, .int .u64 0, .int .u64 0, .int .u64 0, .int .u64 0, .int .u64 0, .int .u64 0, .int .u64 0, .slice (some ⟨W.heap.size, 0, none⟩) r.vs.tasks r.vs.tasks] 88)).drew = Y at *
  rw [hsW] at hYa hYb hY0
  obtain ⟨Z, hrun, hm, hg⟩ := (h.mp.at (W' := Y) ((hY0 _ hmbl).trans (hX _ (Ne.symm hap.1)))).put (by unfold maxLen; omega) (k := (r.vs.last : Int) + 1) (by unfold inI64; omega) (W.heap.size + 1)
  refine ⟨Z, hrun, { vs := r.vs.trig nm, mb := r.mb, ad := fun k => if k = (r.vs.last : Int) + 1 then W.heap.size + 1 else r.ad k, pb := fun k => if k = (r.vs.last : Int) + 1 then W.heap.size else r.pb k, off := r.off }, ?_, rfl⟩
  have hnums : (r.vs.trig nm).nums = r.vs.nums ++ [(r.vs.last : Int) + 1] := by unfold VS.trig VS.nums; simp
  have hnew : ∀ k, k ∈ r.vs.nums → k ≠ (r.vs.last : Int) + 1 := fun k hk e => by have := h.ok.lt k hk; omega
  have hold : ∀ k, k ∈ (r.vs.trig nm).nums → k = (r.vs.last : Int) + 1 ∨ (k ∈ r.vs.nums ∧ k ≠ (r.vs.last : Int) + 1) := fun k hk => by
    rw [hnums] at hk
    rcases List.mem_append.1 hk with hk | hk
    · exact .inr ⟨hk, hnew k hk⟩
    · simp at hk; exact .inl hk
  have hat : ∀ b, b < Y.heap.size → b ≠ r.mb → Z.heap[b]? = Y.heap[b]? := fun b hb hne => hg.block b hb (fun e => hne (by injection e))
  have hat2 : ∀ b, mutV p r b → b ≠ r.mb → b ≠ p → Z.heap[b]? = W.heap[b]? := fun b hm hne hnp => by
    have := hlt b hm
    exact (hat b (by omega) hne).trans ((hY0 b this).trans (hX b hnp))
  have hk' : Keeps (mutV p r) W Z := ⟨hg.os.trans hYk.os, hg.tape.trans hYk.tape, hg.output.trans hYk.output, by have := hg.size; omega, fun b hb hn => (hat b (by omega) (fun e => hn (.inr (.inl e)))).trans ((hY0 b hb).trans (hX b (fun e => hn (.inl e))))⟩
  have hmm : ∀ b, mutV p { vs := r.vs.trig nm, mb := r.mb, ad := fun k => if k = (r.vs.last : Int) + 1 then W.heap.size + 1 else r.ad k, pb := fun k => if k = (r.vs.last : Int) + 1 then W.heap.size else r.pb k, off := r.off } b → mutV p r b ∨ W.heap.size ≤ b := by
    rintro b (e | e | ⟨j, hj, e⟩)
    · exact .inl (.inl e)
    · exact .inl (.inr (.inl e))
    · rcases hold j hj with rfl | ⟨hj, hne⟩
      · simp only [if_true] at e
        right; omega
      · simp only [if_neg hne] at e
        exact .inl (.inr (.inr ⟨j, hj, e⟩))
  have hsl := safeV_le hk' hmm
  refine VStep.mk' h hk' hmm ((hat p (by omega) hap.1).trans ((hY0 p hp4).trans hXp)) ?_ ?_ ?_ ?_ (h.ok.trig hl hn)
  · refine Eq.mp (congrArg (fun f => PMap Z r.mb (r.vs.last + 1) f) ?_) hm
    funext k
    unfold putAt adF
    show _ = if k ∈ (r.vs.trig nm).nums then some (if k = (r.vs.last : Int) + 1 then W.heap.size + 1 else r.ad k) else none
    by_cases e : k = (r.vs.last : Int) + 1
    · rw [if_pos e, if_pos (by rw [hnums, e]; simp), if_pos e]
    · rw [if_neg e, if_neg e]
      by_cases hk : k ∈ r.vs.nums
      · rw [if_pos hk, if_pos (by rw [hnums]; simp [hk])]
      · rw [if_neg hk, if_neg (by rw [hnums]; simp [hk, e])]
  · intro x hx
    rcases List.mem_append.1 hx with hx | hx
    · have hxn := mem_nums hx
      have hne := hnew _ hxn
      show SnAt Z _ (if x.1 = (r.vs.last : Int) + 1 then W.heap.size + 1 else r.ad x.1) (if x.1 = (r.vs.last : Int) + 1 then W.heap.size else r.pb x.1) x.2
      rw [if_neg hne, if_neg hne]
      exact (h.sb x hx).keep (hat2 _ (.inr (.inr ⟨_, hxn, .inl rfl⟩)) (hap.2 _ hxn).2.1 (hap.2 _ hxn).1) (hat2 _ (.inr (.inr ⟨_, hxn, .inr rfl⟩)) (hap.2 _ hxn).2.2.2.1 (hap.2 _ hxn).2.2.1) hsl
    · simp only [List.mem_singleton] at hx
      subst hx
      show SnAt Z _ (if (r.vs.last : Int) + 1 = (r.vs.last : Int) + 1 then W.heap.size + 1 else _) (if (r.vs.last : Int) + 1 = (r.vs.last : Int) + 1 then W.heap.size else _) (Sn.new r.vs.tasks nm)
      rw [if_pos rfl, if_pos rfl]
      refine ⟨?_, arr, (hat _ (by omega) (by omega)).trans hYa, by simp [Sn.new, hsz], fun i hi => ⟨.pointer none, harr i (by simpa [Sn.new] using hi), ?_⟩⟩
      · rw [new_cells]
        exact (hat _ (by omega) (by omega)).trans hYb
      · have : (Sn.new r.vs.tasks nm).told[i] = none := by simp [Sn.new]
        rw [this]; rfl
  · intro i j hi hj e
    simp only at e
    rcases hold i hi with rfl | ⟨hi, hne⟩ <;> rcases hold j hj with rfl | ⟨hj, hne'⟩
    · rfl
    · rw [if_pos rfl, if_neg hne'] at e
      have := hlt _ (.inr (.inr ⟨j, hj, .inl rfl⟩)); omega
    · rw [if_pos rfl, if_neg hne] at e
      have := hlt _ (.inr (.inr ⟨i, hi, .inl rfl⟩)); omega
    · rw [if_neg hne, if_neg hne'] at e
      exact h.inj i j hi hj e
  · intro i j hi hj e
    simp only at e
    rcases hold i hi with rfl | ⟨hi, hne⟩ <;> rcases hold j hj with rfl | ⟨hj, hne'⟩
    · rfl
    · rw [if_pos rfl, if_neg hne'] at e
      have := hlt _ (.inr (.inr ⟨j, hj, .inr rfl⟩)); omega
    · rw [if_pos rfl, if_neg hne] at e
      have := hlt _ (.inr (.inr ⟨i, hi, .inr rfl⟩)); omega
    · rw [if_neg hne, if_neg hne'] at e
      exact h.inp i j hi hj e
end
end Go.Proofs.YtnfolemblnnejaaGreat
/- package vault: Pending, Complete, Latest, whole, Named. -/
namespace Go.Proofs.YtnfolemblnnejaaGreat
open Go.RowKit Go.Maps

def VS.find (s : VS) (k : Int) : Option Sn := (s.all.find? (fun x => x.1 == k)).map Prod.snd
theorem find_mem {s : VS} {k : Int} {t : Sn} (h : s.find k = some t) : (k, t) ∈ s.all := by
  unfold VS.find at h
  obtain ⟨x, hx, rfl⟩ := Option.map_eq_some_iff.1 h
  have h1 := List.mem_of_find?_eq_some hx
  have h2 : x.1 = k := by have := List.find?_some hx; simpa using this
  rw [← h2]; exact h1
theorem find_none {s : VS} {k : Int} : s.find k = none ↔ k ∉ s.nums := by
  unfold VS.find VS.nums
  rw [Option.map_eq_none_iff, List.find?_eq_none]
  constructor
  · intro h hm
    obtain ⟨x, hx, rfl⟩ := List.mem_map.1 hm
    exact h x hx (by simp)
  · intro h x hx e
    exact h (List.mem_map.2 ⟨x, hx, by simpa using e⟩)
theorem VOk.find {s : VS} (h : VOk s) {k : Int} {t : Sn} (hm : (k, t) ∈ s.all) : s.find k = some t := by
  cases hf : s.find k with
  | none => exact absurd (mem_nums hm) (find_none.1 hf)
  | some t' => rw [h.one hm (find_mem hf)]
def VS.pend (s : VS) : List Int := s.those (fun t => !t.done)
def VS.comp (s : VS) : List Int := s.those Sn.done
section
variable {W w : World} {base p : Nat} {r : HV}
theorem VInv.look_none (h : VInv W base p r) {k : Int} (hk : inI64 k) (hf : r.vs.find k = none) : (Instr.lookup 49 (.map (some r.mb)) (.int .i64 k) false).run Tryz.prog W = .ok (.pointer none) W := by
  have := h.mp.look hk
  unfold adF at this
  rw [if_neg (find_none.1 hf)] at this
  exact this
theorem VInv.look_some (h : VInv W base p r) {k : Int} {t : Sn} (hf : r.vs.find k = some t) : (Instr.lookup 49 (.map (some r.mb)) (.int .i64 k) false).run Tryz.prog W = .ok (ptrTo (r.ad k)) W := by
  have hkn := mem_nums (find_mem hf)
  have := h.mp.look (h.ok.i64 hkn)
  rw [adF_at hkn] at this
  exact this
set_option maxRecDepth 100000 in
theorem takes_pending (h : VInv w base p r) : Takes w r 70 #[] (fun t => !t.done) :=
  ⟨fun _ _ => rfl, fun x hx w' hb => pending_any _ _ _ _ ((h.pure hb).sb x hx).1 (h.ok.tk x hx).2.1⟩
set_option maxRecDepth 100000 in
theorem takes_complete (h : VInv w base p r) : Takes w r 48 #[] Sn.done :=
  ⟨fun _ _ => rfl, fun x hx w' hb => complete_any _ _ _ _ ((h.pure hb).sb x hx).1 (h.ok.tk x hx).2.1⟩
set_option maxRecDepth 100000 in
theorem takes_named (h : VInv w base p r) {n : Nat} {nm : ByteArray} (hn : w.cell? ⟨n, 0, none⟩ = some (.string nm)) : Takes w r 60 #[.pointer (some ⟨n, 0, none⟩)] (fun t => t.done && (t.name.toList == nm.toList)) :=
  ⟨fun _ _ => rfl, fun x hx w' hb => named1_any _ _ _ _ _ _ ((h.pure hb).sb x hx).1 (h.ok.tk x hx).2.1 (below_mem hb _ _ _ hn)⟩
set_option maxRecDepth 100000 in
theorem takes_trig (h : VInv w base p r) {n : Nat} {nm : ByteArray} (hn : w.cell? ⟨n, 0, none⟩ = some (.string nm)) : Takes w r 41 #[.pointer (some ⟨n, 0, none⟩)] (fun t => t.name.toList == nm.toList) :=
  ⟨fun _ _ => rfl, fun x hx w' hb => trig1_any _ _ _ _ _ _ ((h.pure hb).sb x hx).1 (below_mem hb _ _ _ hn)⟩
set_option maxRecDepth 100000 in
theorem takes_drop (h : VInv w base p r) : Takes w r 77 #[] (fun t => t.done && (t.name.toList == [])) :=
  ⟨fun _ _ => rfl, fun x hx w' hb => drop1_any _ _ _ _ ((h.pure hb).sb x hx).1 (h.ok.tk x hx).2.1⟩
end
set_option maxRecDepth 100000 in
theorem vPending_any {base p : Nat} {r : HV} (w : World) (hI : VInv w base p r) :
    Calls Tryz.prog 35 #[ptrTo p] w fun e w' => ∃ a cap, e = .returned (.slice a r.vs.pend.length cap) ∧ Owns tInt w' w.heap.size 3 (.slice a r.vs.pend.length cap) r.vs.pend ∧ Below w.heap.size w w' := by
  have HN := Lib.hid (numbers_any 70 #[] (fun t => !t.done) w hI (takes_pending hI))
  clear hI
  go_enter Tryz.func35, Tryz.ntmps35
  go_wp2_with fail
  refine HN.out.mono ?_
  rintro e w1 ⟨a, cap, rfl, ho, hb⟩
  have HO := Lib.hid ho
  clear ho
  go_wp2
  go_ret
  exact ⟨a, cap, rfl, HO.out, hb⟩
set_option maxRecDepth 100000 in
theorem vComplete_any {base p : Nat} {r : HV} (w : World) (hI : VInv w base p r) :
    Calls Tryz.prog 13 #[ptrTo p] w fun e w' => ∃ a cap, e = .returned (.slice a r.vs.comp.length cap) ∧ Owns tInt w' w.heap.size 3 (.slice a r.vs.comp.length cap) r.vs.comp ∧ Below w.heap.size w w' := by
  have HN := Lib.hid (numbers_any 48 #[] Sn.done w hI (takes_complete hI))
  clear hI
  go_enter Tryz.func13, Tryz.ntmps13
  go_wp2_with fail
  refine HN.out.mono ?_
  rintro e w1 ⟨a, cap, rfl, ho, hb⟩
  have HO := Lib.hid ho
  clear ho
  go_wp2
  go_ret
  exact ⟨a, cap, rfl, HO.out, hb⟩
/-- What Latest answers. -/
def latAns (l : List Int) : Int × Int := if l = [] then (0, 8) else (l.getLast?.getD 0, 0)
theorem those_len {s : VS} (h : VOk s) (P : Sn → Bool) : (s.those P).length ≤ 1000000 := by
  have h1 := all_len h
  have h2 := h.l
  unfold VS.those
  rw [List.length_map]
  exact Nat.le_trans (List.length_filter_le _ _) (by omega)
set_option maxRecDepth 100000 in
set_option maxHeartbeats 1000000 in
theorem vLatest_any {base p : Nat} {r : HV} (w : World) (hI : VInv w base p r) :
    Calls Tryz.prog 63 #[ptrTo p] w fun e w' => e = .returned (.tuple #[.int .i64 (latAns r.vs.comp).1, .int .i64 (latAns r.vs.comp).2]) ∧ Below w.heap.size w w' := by
  have HN := Lib.hid (vComplete_any w hI)
  have hcl := those_len hI.ok Sn.done
  change r.vs.comp.length ≤ 1000000 at hcl
  generalize r.vs.comp = l at *
  clear hI
  go_enter Tryz.func63, Tryz.ntmps63
  go_wp2_with fail
  refine HN.out.mono ?_
  rintro e w1 ⟨a, cap, rfl, ho, hb⟩
  clear HN
  by_cases h0 : l = []
  · subst h0
    have hl : (([] : List Int).length : Int) = 0 := rfl
    go_wp2
    go_ret2
    exact ⟨rfl, hb⟩
  · have hl : 0 < l.length := List.length_pos_iff.2 h0
    obtain ⟨b, o, e, hat⟩ := slice_at ho.rv' (k := l.length - 1) (by omega)
    subst e
    have d0 : w1.cell? ⟨b, o + (l.length - 1), none⟩ = some (.int .i64 l[l.length - 1]) := by
      have := (int_at hat).1
      simpa [tInt, mem] using this
    have HL := Lib.hid (show latAns l = (l[l.length - 1], 0) from by unfold latAns; rw [if_neg h0, List.getLast?_eq_getElem?, List.getElem?_eq_getElem (by omega)]; rfl)
    have hcp : cap ≤ 9223372036854775807 ∧ l.length ≤ cap := by
      obtain ⟨a', k', e', h2, h3, -⟩ := slice_form ho.rv'
      simp only [Value.slice.injEq] at e'
      unfold maxLen at h3
      rw [e'.2.2]; exact ⟨h3, h2⟩
    obtain ⟨hc1, hc2⟩ := hcp
    have hsub : (l.length : Int) - 1 = ((l.length - 1 : Nat) : Int) := by omega
    have hlb : ((l.length : Int) == 0) = false := by rw [beq_eq_false_iff_ne]; omega
    clear hat ho
    generalize l[l.length - 1] = y at *
    generalize hm : l.length - 1 = m at *
    have hml : l.length = m + 1 := by omega
    go_wp2
    go_ret2
    exact ⟨by rw [HL.out] <;> rfl, hb⟩
/-- What whole answers. -/
def whA (o : Option Sn) (a : Nat) : Value × Int := match o with | none => (.pointer none, 8) | some t => if t.done = true then (ptrTo a, 0) else (.pointer none, 10)
set_option maxRecDepth 100000 in
set_option maxHeartbeats 1000000 in
theorem whole_any {base p : Nat} {r : HV} (k : Int) (w : World) (hI : VInv w base p r) (hk : inI64 k) :
    Calls Tryz.prog 61 #[ptrTo p, .int .i64 k] w fun e w' => e = .returned (.tuple #[(whA (r.vs.find k) (r.ad k)).1, .int .i64 (whA (r.vs.find k) (r.ad k)).2]) ∧ Below w.heap.size w w' := by
  have c3 : w.cell? ⟨p, 3, none⟩ = some (.map (some r.mb)) := mem_cells hI.hb 3
  cases hf : r.vs.find k with
  | none =>
    have hlk := hI.look_none hk hf
    clear hI hf
    go_enter Tryz.func61, Tryz.ntmps61
    go_wp2
    go_ret2
    exact ⟨rfl, Below.refl _ _⟩
  | some t =>
    have hlk := hI.look_some hf
    have HC := Lib.hid (complete_any _ _ _ w (hI.sb _ (find_mem hf)).1 (hI.ok.tk _ (find_mem hf)).2.1)
    have HLK := Lib.hid (fun (w' : World) (hb : Below w.heap.size w w') => (hI.pure hb).look_some hf)
    have HC3 := Lib.hid (fun (w' : World) (hb : Below w.heap.size w w') => (show w'.cell? ⟨p, 3, none⟩ = some (.map (some r.mb)) from mem_cells (hI.pure hb).hb 3))
    have HW := Lib.hid (show whA (some t) (r.ad k) = if t.done = true then (ptrTo (r.ad k), 0) else (.pointer none, 10) from rfl)
    clear hI hf
    generalize whA (some t) (r.ad k) = A at *
    simp only at HC
    generalize t.done = d at *
    go_enter Tryz.func61, Tryz.ntmps61
    go_wp2_with fail
    refine HC.out.mono ?_
    rintro e w1 ⟨rfl, hb⟩
    have hlk1 := HLK.out _ hb
    have c31 := HC3.out _ hb
    cases d
    · obtain rfl := HW.out.trans (if_neg (by simp))
      go_wp2
      go_ret2
      exact ⟨rfl, hb⟩
    · obtain rfl := HW.out.trans (if_pos rfl)
      go_wp2
      go_ret2
      exact ⟨rfl, hb⟩
/-- What Named answers: the number, the error. -/
def namedAns (s : VS) (nm : ByteArray) : Int × Int := if isName nm = false then (0, 1) else if s.those (fun t => t.done && (t.name.toList == nm.toList)) = [] then (0, 5) else ((s.those (fun t => t.done && (t.name.toList == nm.toList))).headD 0, 0)
set_option maxRecDepth 100000 in
set_option maxHeartbeats 1000000 in
theorem vNamed_any {base p : Nat} {r : HV} (nm : ByteArray) (w : World) (hI : VInv w base p r) (hn : nm.size ≤ maxLen) :
    Calls Tryz.prog 30 #[ptrTo p, .string nm] w fun e w' => e = .returned (.tuple #[.int .i64 (namedAns r.vs nm).1, .int .i64 (namedAns r.vs nm).2]) ∧ Below w.heap.size w w' := by
  have HB0 := Lib.hid (show Below w.heap.size w (w.alloc (.cells #[.string nm] 9)) from (Below.refl _ _).alloc (Nat.le_refl _) _)
  have d0 : (w.alloc (.cells #[.string nm] 9)).cell? ⟨w.heap.size, 0, none⟩ = some (.string nm) := mem_cells_new w _ _ (0, 0) 0
  have HR := Lib.hid (rowName_any nm (w.alloc (.cells #[.string nm] 9)) hn)
  have HN := Lib.hid (numbers_any 60 #[.pointer (some ⟨w.heap.size, 0, none⟩)] (fun t => t.done && (t.name.toList == nm.toList)) (w.alloc (.cells #[.string nm] 9)) (hI.pure HB0.out) (takes_named (hI.pure HB0.out) d0))
  have HA := Lib.hid (show namedAns r.vs nm = if isName nm = false then (0, 1) else if r.vs.those (fun t => t.done && (t.name.toList == nm.toList)) = [] then (0, 5) else ((r.vs.those (fun t => t.done && (t.name.toList == nm.toList))).headD 0, 0) from rfl)
  have hcl := those_len hI.ok (fun t => t.done && (t.name.toList == nm.toList))
  generalize namedAns r.vs nm = A at *
  generalize r.vs.those (fun t => t.done && (t.name.toList == nm.toList)) = l at *
  generalize isName nm = isn at *
  clear hI
  go_enter Tryz.func30, Tryz.ntmps30
  go_wp2_with fail
  refine HR.out.mono ?_
  rintro e w1 ⟨rfl, rfl⟩
  cases isn with
  | false =>
    have hA : A = (0, 1) := by rw [HA.out, if_pos rfl]
    subst hA
    go_wp2
    go_ret2
    exact ⟨rfl, HB0.out⟩
  | true =>
    rw [if_neg (by simp)] at HA
    go_wp2_with fail
    refine HN.out.mono ?_
    rintro e w1 ⟨a, cap, rfl, ho, hb⟩
    have HB1 := Lib.hid (pure_trans HB0.out hb)
    clear HN hb HR d0
    by_cases h0 : l = []
    · have hA : A = (0, 5) := by rw [HA.out, if_pos h0]
      subst hA
      subst h0
      have hl : (([] : List Int).length : Int) = 0 := rfl
      go_wp2
      go_ret2
      exact ⟨rfl, HB1.out⟩
    · have hl : 0 < l.length := List.length_pos_iff.2 h0
      obtain ⟨b, o, e, hat⟩ := slice_at ho.rv' (k := 0) hl
      subst e
      have d0 : w1.cell? ⟨b, o, none⟩ = some (.int .i64 l[0]) := by
        have := (int_at hat).1
        simpa [tInt, mem] using this
      have hA : A = (l[0], 0) := by
        rw [HA.out, if_neg h0]
        cases l with
        | nil => exact absurd rfl h0
        | cons x l => rfl
      have hcp : cap ≤ 9223372036854775807 ∧ l.length ≤ cap := by
        obtain ⟨a', k', e', h2, h3, -⟩ := slice_form ho.rv'
        simp only [Value.slice.injEq] at e'
        unfold maxLen at h3
        rw [e'.2.2]; exact ⟨h3, h2⟩
      obtain ⟨hc1, hc2⟩ := hcp
      have hlb : ((l.length : Int) == 0) = false := by rw [beq_eq_false_iff_ne]; omega
      subst hA
      clear hat ho HA
      generalize hy : l[0] = y at *
      have HY := Lib.hid hy
      clear hy
      go_wp2
      go_ret2
      exact ⟨by rw [HY.out] <;> rfl, HB1.out⟩
end Go.Proofs.YtnfolemblnnejaaGreat
/- package vault: New, Retask, Decline. -/
namespace Go.Proofs.YtnfolemblnnejaaGreat
open Go.RowKit Go.Maps

def newAns (n m k : Int) : Int := if (1 ≤ n ∧ n ≤ 400) ∧ (1 ≤ m ∧ m ≤ 5) ∧ (1 ≤ k ∧ k ≤ 10) then 0 else 7
def VS.fresh (n m k : Int) : VS := ⟨n.toNat, m, k, 0, []⟩
set_option maxRecDepth 100000 in
set_option maxHeartbeats 1000000 in
theorem vNew_bad (n m k : Int) (w : World) (h : newAns n m k ≠ 0) :
    Calls Tryz.prog 6 #[.int .i64 n, .int .i64 m, .int .i64 k] w fun e w' => e = .returned (.tuple #[.pointer none, .int .i64 7]) ∧ w' = w := by
  have hh : ¬ ((1 ≤ n ∧ n ≤ 400) ∧ (1 ≤ m ∧ m ≤ 5) ∧ (1 ≤ k ∧ k ≤ 10)) := fun e => h (if_pos e)
  by_cases h1 : n < 1
  · go_enter Tryz.func6, Tryz.ntmps6
    go_wp2
    go_ret2
    first | exact ⟨rfl, rfl⟩ | rfl
  by_cases h2 : 400 < n
  · go_enter Tryz.func6, Tryz.ntmps6
    go_wp2
    go_ret2
    first | exact ⟨rfl, rfl⟩ | rfl
  by_cases h3 : m < 1
  · go_enter Tryz.func6, Tryz.ntmps6
    go_wp2
    go_ret2
    first | exact ⟨rfl, rfl⟩ | rfl
  by_cases h4 : 5 < m
  · go_enter Tryz.func6, Tryz.ntmps6
    go_wp2
    go_ret2
    first | exact ⟨rfl, rfl⟩ | rfl
  by_cases h5 : k < 1
  · go_enter Tryz.func6, Tryz.ntmps6
    go_wp2
    go_ret2
    first | exact ⟨rfl, rfl⟩ | rfl
  by_cases h6 : 10 < k
  · go_enter Tryz.func6, Tryz.ntmps6
    go_wp2
    go_ret2
    first | exact ⟨rfl, rfl⟩ | rfl
  exact absurd ⟨⟨by omega, by omega⟩, ⟨by omega, by omega⟩, ⟨by omega, by omega⟩⟩ hh
set_option maxRecDepth 100000 in
set_option maxHeartbeats 1000000 in
theorem vNew_any (n m k : Int) (w : World) (h : newAns n m k = 0) (h40 : n ≤ 40) :
    Calls Tryz.prog 6 #[.int .i64 n, .int .i64 m, .int .i64 k] w fun e w' => ∃ p r, e = .returned (.tuple #[ptrTo p, .int .i64 0]) ∧ VInv w' w.heap.size p r ∧ r.vs = VS.fresh n m k ∧ Below w.heap.size w w' ∧ ∀ b, ¬ r.off b := by
  have hh : (1 ≤ n ∧ n ≤ 400) ∧ (1 ≤ m ∧ m ≤ 5) ∧ (1 ≤ k ∧ k ≤ 10) := by
    unfold newAns at h
    split at h
    · assumption
    · cases h
  obtain ⟨⟨a1, a2⟩, ⟨a3, a4⟩, a5, a6⟩ := hh
  have b1 : ¬ n < 1 := by omega
  have b2 : ¬ 400 < n := by omega
  have b3 : ¬ m < 1 := by omega
  have b4 : ¬ 5 < m := by omega
  have b5 : ¬ k < 1 := by omega
  have b6 : ¬ 10 < k := by omega
  have HI := Lib.hid (show VInv ((w.alloc (.map #[] 0)).alloc (.cells #[.int .i64 n, .int .i64 m, .int .i64 k, .map (some w.heap.size), .int .i64 0] 51)) w.heap.size (w.heap.size + 1) ⟨VS.fresh n m k, w.heap.size, fun _ => 0, fun _ => 0, fun _ => False⟩ from by
    have hnn : ∀ j, j ∉ (VS.fresh n m k).nums := fun j hj => by unfold VS.fresh VS.nums at hj; simp at hj
    refine ⟨?_, ?_, fun x hx => absurd hx (by unfold VS.fresh; simp), fun i j hi => absurd hi (hnn i), fun i j hi => absurd hi (hnn i), ⟨by unfold VS.fresh; simp; omega, by unfold VS.fresh; simp; omega, List.Pairwise.nil, fun j hj => absurd hj (hnn j), fun x hx => absurd hx (by unfold VS.fresh; simp), ⟨a3, a4⟩, ⟨a5, a6⟩, by unfold VS.fresh; simp⟩, ?_, by simp; omega, fun b hb => hb.elim⟩
    · have := heap_alloc_new (w.alloc (.map #[] 0)) (.cells #[.int .i64 n, .int .i64 m, .int .i64 k, .map (some w.heap.size), .int .i64 0] 51)
      rw [World.size_alloc] at this
      refine this.trans ?_
      unfold vCells VS.fresh
      simp only [Int.toNat_of_nonneg (show 0 ≤ n by omega)]
      rfl
    · have he : adF ⟨VS.fresh n m k, w.heap.size, fun _ => 0, fun _ => 0, fun _ => False⟩ = fun _ => none := by
        funext j
        unfold adF
        exact if_neg (hnn j)
      rw [he]
      exact (MapOf.made w).alloc _
    · rintro b (e | e | ⟨j, hj, _⟩)
      · omega
      · have e : b = w.heap.size := e
        omega
      · exact absurd hj (hnn j))
  have HB := Lib.hid (show Below w.heap.size w ((w.alloc (.map #[] 0)).alloc (.cells #[.int .i64 n, .int .i64 m, .int .i64 k, .map (some w.heap.size), .int .i64 0] 51)) from ((Below.refl _ _).alloc (Nat.le_refl _) _).alloc (by simp) _)
  have hmm := @run_makeMap Tryz.prog
  clear h a1 a2 a3 a4 a5 a6
  go_enter Tryz.func6, Tryz.ntmps6
  go_wp2
  go_ret2
  exact ⟨w.heap.size + 1, rfl, ⟨VS.fresh n m k, w.heap.size, fun _ => 0, fun _ => 0, fun _ => False⟩, HI.out, rfl, HB.out, fun b h => h⟩
/-- What Retask answers. -/
def retAns (s : VS) (n : Int) : Int := if n < 1 ∨ 400 < n then 7 else if s.pend = [] then 0 else 10
set_option maxRecDepth 100000 in
set_option maxHeartbeats 1000000 in
theorem vRetask_any {base p : Nat} {r : HV} (n : Int) (w : World) (hI : VInv w base p r) (h40 : n ≤ 40 ∨ 400 < n) :
    Calls Tryz.prog 24 #[ptrTo p, .int .i64 n] w fun e w' => e = .returned (.int .i64 (retAns r.vs n)) ∧ ∃ r', VStep w base p r w' r' ∧ r'.vs = (if retAns r.vs n = 0 then { r.vs with tasks := n.toNat } else r.vs) := by
  have HP := Lib.hid (vPending_any w hI)
  have HI := Lib.hid hI
  have HA := Lib.hid (show retAns r.vs n = if n < 1 ∨ 400 < n then 7 else if r.vs.pend = [] then 0 else 10 from rfl)
  generalize retAns r.vs n = A at *
  have hcl := those_len hI.ok (fun t => !t.done)
  change r.vs.pend.length ≤ 1000000 at hcl
  generalize r.vs.pend = l at *
  clear hI
  by_cases h1 : n < 1
  · obtain rfl := HA.out.trans (if_pos (.inl h1))
    go_enter Tryz.func24, Tryz.ntmps24
    go_wp2
    go_ret
    exact ⟨rfl, r, VStep.pure HI.out (Below.refl _ _), rfl⟩
  by_cases h2 : 400 < n
  · obtain rfl := HA.out.trans (if_pos (.inr h2))
    go_enter Tryz.func24, Tryz.ntmps24
    go_wp2
    go_ret
    exact ⟨rfl, r, VStep.pure HI.out (Below.refl _ _), rfl⟩
  rw [if_neg (by omega)] at HA
  go_enter Tryz.func24, Tryz.ntmps24
  go_wp2_with fail
  refine HP.out.mono ?_
  rintro e w1 ⟨a, cap, rfl, ho, hb⟩
  have HB := Lib.hid hb
  clear ho HP
  by_cases h0 : l = []
  · subst h0
    obtain rfl := HA.out.trans (if_pos rfl)
    have hl : (([] : List Int).length : Int) = 0 := rfl
    have HI1 := Lib.hid (HI.out.pure hb)
    have c0 : w1.cell? ⟨p, 0, none⟩ = some (.int .i64 r.vs.tasks) := mem_cells HI1.out.hb 0
    have z0 := frozen_cells HI1.out.hb 0
    have HS := Lib.hid (show VStep w base p r (w1.setCell ⟨p, 0, none⟩ (.int .i64 n)) { r with vs := { r.vs with tasks := n.toNat } } from
      (VStep.pure HI.out hb).trans (VStep.own HI1.out ((Keeps.refl (fun b => b = p) w1).setCell (p := ⟨p, 0, none⟩) (fun _ => rfl) _) { r.vs with tasks := n.toNat } rfl rfl (by
        refine (set_block (o := 0) HI1.out.hb).trans ?_
        unfold vCells
        simp only [Int.toNat_of_nonneg (show 0 ≤ n by omega)]
        rfl) ⟨by show 1 ≤ n.toNat; omega, by show n.toNat ≤ 40; omega, HI.out.ok.up, HI.out.ok.lt, HI.out.ok.tk, HI.out.ok.m, HI.out.ok.k, HI.out.ok.l⟩))
    clear hb
    go_wp2
    go_ret
    exact ⟨rfl, _, HS.out, rfl⟩
  · obtain rfl := HA.out.trans (if_neg h0)
    have hl : 0 < l.length := List.length_pos_iff.2 h0
    clear hb
    go_wp2
    go_ret
    exact ⟨rfl, r, VStep.pure HI.out HB.out, rfl⟩
/-- What Decline answers. -/
def decAns (o : Option Sn) : Int := match o with | none => 8 | some t => if t.done = true then 10 else 0
set_option maxRecDepth 100000 in
set_option maxHeartbeats 1000000 in
theorem vDecline_any {base p : Nat} {r : HV} (k : Int) (w : World) (hI : VInv w base p r) (hk : inI64 k) :
    Calls Tryz.prog 18 #[ptrTo p, .int .i64 k] w fun e w' => e = .returned (.int .i64 (decAns (r.vs.find k))) ∧ ∃ r', VStep w base p r w' r' ∧ r'.vs = (if decAns (r.vs.find k) = 0 then r.vs.del k else r.vs) := by
  have c3 : w.cell? ⟨p, 3, none⟩ = some (.map (some r.mb)) := mem_cells hI.hb 3
  have HI := Lib.hid hI
  cases hf : r.vs.find k with
  | none =>
    have hlk := hI.look_none hk hf
    clear hI hf
    go_enter Tryz.func18, Tryz.ntmps18
    go_wp2
    go_ret
    exact ⟨rfl, r, VStep.pure HI.out (Below.refl _ _), rfl⟩
  | some t =>
    have hlk := hI.look_some hf
    have HC := Lib.hid (complete_any _ _ _ w (hI.sb _ (find_mem hf)).1 (hI.ok.tk _ (find_mem hf)).2.1)
    have HC3 := Lib.hid (fun (w' : World) (hb : Below w.heap.size w w') => (show w'.cell? ⟨p, 3, none⟩ = some (.map (some r.mb)) from mem_cells (hI.pure hb).hb 3))
    have HA := Lib.hid (show decAns (some t) = if t.done = true then 10 else 0 from rfl)
    generalize decAns (some t) = A at *
    simp only at HC
    clear hI hf
    generalize t.done = d at *
    go_enter Tryz.func18, Tryz.ntmps18
    go_wp2_with fail
    refine HC.out.mono ?_
    rintro e w1 ⟨rfl, hb⟩
    have HB := Lib.hid hb
    have c31 := HC3.out _ hb
    cases d
    · obtain rfl := HA.out.trans (if_neg (by simp))
      obtain ⟨Z, hrun, hst⟩ := (HI.out.pure hb).del hk 0
      have HS := Lib.hid ((VStep.pure HI.out hb).trans hst)
      clear hb hst
      go_wp2
      go_ret
      exact ⟨rfl, _, HS.out, rfl⟩
    · obtain rfl := HA.out.trans (if_pos rfl)
      clear hb
      go_wp2
      go_ret
      exact ⟨rfl, r, VStep.pure HI.out HB.out, rfl⟩
end Go.Proofs.YtnfolemblnnejaaGreat
/- package vault: drop, Fall, Forget. -/
namespace Go.Proofs.YtnfolemblnnejaaGreat
open Go.RowKit Go.Maps

def VS.dels (s : VS) (ks : List Int) : VS := { s with all := s.all.filter (fun x => decide (x.1 ∉ ks)) }
theorem dels_nil (s : VS) : s.dels [] = s := by
  unfold VS.dels
  have : s.all.filter (fun x => decide (x.1 ∉ ([] : List Int))) = s.all := List.filter_eq_self.2 (fun x _ => by simp)
  rw [this]
theorem dels_snoc (s : VS) (ks : List Int) (k : Int) : (s.dels ks).del k = s.dels (ks ++ [k]) := by
  unfold VS.dels VS.del
  congr 1
  rw [List.filter_filter]
  refine List.filter_congr fun x _ => ?_
  by_cases h1 : x.1 = k <;> by_cases h2 : x.1 ∈ ks <;> simp [h1, h2]
/-- The complete snapshots without names, but the newest. -/
def VS.old (s : VS) : List Int := (s.those (fun t => t.done && (t.name.toList == []))).take ((s.those (fun t => t.done && (t.name.toList == []))).length - s.keep.toNat)
def VS.dropped (s : VS) : VS := s.dels s.old
theorem VStep.cell {W W' : World} {base p : Nat} {r r' : HV} (h : VStep W base p r W' r') {b : Nat} (hb : b < W.heap.size) (hn : ¬ mutV p r b) (o : Nat) : W'.cell? ⟨b, o, none⟩ = W.cell? ⟨b, o, none⟩ := mem_of_block (h.kp.block b hb hn) o
theorem those_i64 {s : VS} (h : VOk s) {P : Sn → Bool} {k : Int} (hk : k ∈ s.those P) : inI64 k := by
  obtain ⟨x, hx, rfl⟩ := List.mem_map.1 hk
  exact h.i64 (mem_nums (List.mem_filter.1 hx).1)
set_option maxRecDepth 100000 in
theorem drop2_any (i n : Nat) (kp : Int) (b1 b2 p : Nat) (a : Option Addr) (cap : Nat) (w : World) (h1 : w.cell? ⟨b1, 0, none⟩ = some (ptrTo p)) (h2 : w.cell? ⟨b2, 0, none⟩ = some (.slice a n cap)) (h3 : w.cell? ⟨p, 2, none⟩ = some (.int .i64 kp)) (hn : n ≤ 1000000) (hk : 1 ≤ kp ∧ kp ≤ 10) (hi : i < n) :
    Calls Tryz.prog 78 #[.int .i64 i, .pointer (some ⟨b2, 0, none⟩), .pointer (some ⟨b1, 0, none⟩)] w fun e w' => e = .returned (.bool (decide ((n : Int) - kp ≤ i))) ∧ Below w.heap.size w w' := by
  have hs : IntKind.i64.wrap ((n : Int) - kp) = (n : Int) - kp := IntWalk.i64_in _ (by omega)
  have HB := Lib.hid (Below.refl w.heap.size w)
  by_cases hc : (n : Int) - kp ≤ i
  · go_enter Tryz.func78, Tryz.ntmps78
    go_wp2_with fail
    go_quiet (fail)
    all_goals
      go_wp2
      go_ret
      exact ⟨by simp [hc], below_drewN HB.out _⟩
  · go_enter Tryz.func78, Tryz.ntmps78
    go_wp2_with fail
    go_quiet (fail)
    all_goals
      go_wp2
      go_ret
      exact ⟨by simp [hc], below_drewN HB.out _⟩
set_option maxRecDepth 100000 in
set_option maxHeartbeats 4000000 in
theorem drop_any {base p : Nat} {r : HV} (w : World) (hI : VInv w base p r) :
    Calls Tryz.prog 49 #[ptrTo p] w fun e w' => e = .returned (.tuple #[]) ∧ ∃ r', VStep w base p r w' r' ∧ r'.vs = r.vs.dropped := by
  have HB0 := Lib.hid (show Below w.heap.size w (w.alloc (.cells #[ptrTo p] 25)) from (Below.refl _ _).alloc (Nat.le_refl _) _)
  have d0 : (w.alloc (.cells #[ptrTo p] 25)).heap[w.heap.size]? = some (.cells #[ptrTo p] 25 (0, 0)) := heap_alloc_new w _
  have HI0 := hI.pure HB0.out
  have HN := Lib.hid (numbers_any 77 #[] (fun t => t.done && (t.name.toList == [])) (w.alloc (.cells #[ptrTo p] 25)) HI0 (takes_drop HI0))
  have HOL := Lib.hid (show r.vs.old = (r.vs.those (fun t => t.done && (t.name.toList == []))).take ((r.vs.those (fun t => t.done && (t.name.toList == []))).length - r.vs.keep.toNat) from rfl)
  have HDR := Lib.hid (show r.vs.dropped = r.vs.dels r.vs.old from rfl)
  have hcl := those_len hI.ok (fun t => t.done && (t.name.toList == []))
  have HIN := Lib.hid (fun (k : Int) (hk : k ∈ r.vs.those (fun t => t.done && (t.name.toList == []))) => those_i64 hI.ok hk)
  have hkp := hI.ok.k
  have HPL := Lib.hid (show p < w.heap.size from hI.kind p (.inl rfl))
  have HML := Lib.hid (fun (b : Nat) (h : mutV p r b) => (show b < w.heap.size from hI.kind b h))
  have HI := Lib.hid hI
  generalize r.vs.those (fun t => t.done && (t.name.toList == [])) = l at *
  have HD0 := Lib.hid d0
  have d1 : (w.alloc (.cells #[ptrTo p] 25)).cell? ⟨w.heap.size, 0, none⟩ = some (ptrTo p) := mem_cells d0 0
  clear d0 hI HI0
  go_enter Tryz.func49, Tryz.ntmps49
  go_wp2_with fail
  refine HN.out.mono ?_
  rintro e w1 ⟨a, cap, rfl, ho, hb⟩
  have HX := Lib.hid (show Below w.heap.size w (w1.alloc (.cells #[.slice a l.length cap] 46)) from (pure_trans HB0.out hb).alloc (pure_trans HB0.out hb).size _)
  have HXs := Lib.hid (show w1.heap.size < (w1.alloc (.cells #[.slice a l.length cap] 46)).heap.size from by simp)
  have HX1 := Lib.hid (show (w1.alloc (.cells #[.slice a l.length cap] 46)).cell? ⟨w.heap.size, 0, none⟩ = some (ptrTo p) from below_mem ((Below.refl w1.heap.size w1).alloc (Nat.le_refl _) _) _ _ _ (mem_cells ((hb.block _ (Array.getElem?_eq_some_iff.1 HD0.out).1).trans HD0.out) 0))
  have HX2 := Lib.hid (show (w1.alloc (.cells #[.slice a l.length cap] 46)).cell? ⟨w1.heap.size, 0, none⟩ = some (.slice a l.length cap) from mem_cells_new w1 _ _ (0, 0) 0)
  have HW1 := Lib.hid (show w.heap.size + 1 ≤ w1.heap.size from by have := hb.size; simpa using this)
  have HKR := Lib.hid (show (tSlice tInt).rv (mem (w1.alloc (.cells #[.slice a l.length cap] 46))) [.slice a l.length cap] l from (tSlice tInt).mono _ _ _ _ (below_mem ((Below.refl w1.heap.size w1).alloc (Nat.le_refl _) _)) ho.rv')
  have HOB := Lib.hid (fun (b : Nat) (h : (Value.slice a l.length cap).ownBlock = some b) => (show w.heap.size ≤ b ∧ b < w1.heap.size from by have := ho.lt b h; simp at this; omega))
  have hcp : cap ≤ 9223372036854775807 ∧ l.length ≤ cap := by
    obtain ⟨a', k', e', h2, h3, -⟩ := slice_form ho.rv'
    simp only [Value.slice.injEq] at e'
    unfold maxLen at h3
    rw [e'.2.2]; exact ⟨h3, h2⟩
  obtain ⟨hc1, hc2⟩ := hcp
  clear ho hb HN HD0 HB0 d1
  go_wp2_with fail
  generalize w1.alloc (.cells #[.slice a l.length cap] 46) = X at *
  have HXI := Lib.hid (HI.out.pure HX.out)
  generalize w1.heap.size = b2 at *
  go_loopw [11] (fun iv wr => ∃ (j : Nat) (r' : HV), j ≤ l.length ∧ iv = .int .i64 j ∧ Hid (VStep X base p r wr r') ∧ Hid (r'.vs = r.vs.dels (l.take (min j (l.length - r.vs.keep.toNat))))) (fun iv _ => l.length - (intOf iv).toNat)
  case atStart => exact ⟨0, r, Nat.zero_le _, rfl, Lib.hid (VStep.pure HXI.out (Below.refl _ _)), Lib.hid (by rw [Nat.zero_min, List.take_zero, dels_nil])⟩
  case round =>
    obtain ⟨j, r', hj, rfl, HST, HV⟩ := hrel
    by_cases hlt : j < l.length
    · obtain ⟨b, o, e, hat⟩ := slice_at HKR.out hlt
      subst e
      have hob := HOB.out b rfl
      have hxs := HXs.out
      have hw1 := HW1.out
      have d1 : wr.cell? ⟨w.heap.size, 0, none⟩ = some (ptrTo p) := (HST.out.cell (b := w.heap.size) (by omega) (fun h => by have := HML.out _ h; omega) 0).trans HX1.out
      have d2 : wr.cell? ⟨b2, 0, none⟩ = some (.slice (some ⟨b, o, none⟩) l.length cap) := (HST.out.cell (b := b2) (by omega) (fun h => by have := HML.out _ h; omega) 0).trans HX2.out
      have d3 : wr.cell? ⟨b, o + j, none⟩ = some (.int .i64 l[j]) := by
        refine (HST.out.cell (b := b) (by omega) (fun h => by have := HML.out _ h; omega) (o + j)).trans ?_
        have := (int_at hat).1
        simpa [tInt, mem] using this
      have hkeep : r'.vs.keep = r.vs.keep := by rw [HV.out]; rfl
      have d4 : wr.cell? ⟨p, 2, none⟩ = some (.int .i64 r.vs.keep) := by rw [← hkeep]; exact mem_cells HST.out.inv.hb 2
      have HC2 := Lib.hid (drop2_any j l.length r.vs.keep w.heap.size b2 p (some ⟨b, o, none⟩) cap wr d1 d2 d4 hcl hkp hlt)
      have hin := HIN.out _ (List.getElem_mem hlt)
      have HTK := Lib.hid (show l.take (j + 1) = l.take j ++ [l[j]] from List.take_succ_eq_append_getElem hlt)
      clear hat hob hxs hw1
      generalize l[j] = y at *
      go_wp2_with fail
      refine HC2.out.mono ?_
      rintro e w3 ⟨rfl, hb3⟩
      have HS3 := Lib.hid (HST.out.trans (VStep.pure HST.out.inv hb3))
      by_cases hc : (l.length : Int) - r.vs.keep ≤ j
      · have HV2 := Lib.hid (show r'.vs = r.vs.dels (l.take (min (j + 1) (l.length - r.vs.keep.toNat))) by
          rw [HV.out, Nat.min_eq_right (by omega), Nat.min_eq_right (by omega)])
        have hcb : decide ((l.length : Int) - r.vs.keep ≤ j) = true := decide_eq_true hc
        clear HC2 hb3 d1 d2 d3 d4 HTK HV HST
        rw [hcb]
        go_wp2
        go_roundw
        case rel => exact ⟨j + 1, r', by omega, by go_num, HS3, HV2⟩
        case measure => simp [intOf]; omega
      · have hcb : decide ((l.length : Int) - r.vs.keep ≤ j) = false := decide_eq_false hc
        obtain ⟨Z, hrun, hst⟩ := HS3.out.inv.del hin 0
        have HS4 := Lib.hid (HS3.out.trans hst)
        have HV2 := Lib.hid (show r'.vs.del y = r.vs.dels (l.take (min (j + 1) (l.length - r.vs.keep.toNat))) by
          rw [HV.out, Nat.min_eq_left (by omega), Nat.min_eq_left (by omega), dels_snoc, HTK.out])
        have x3 : w3.cell? ⟨p, 3, none⟩ = some (.map (some r'.mb)) := mem_cells HS3.out.inv.hb 3
        have x1 : w3.cell? ⟨w.heap.size, 0, none⟩ = some (ptrTo p) := below_mem hb3 _ _ _ d1
        clear HC2 hb3 d1 d2 d3 d4 HTK HV hst HST
        rw [hcb]
        go_wp2
        go_roundw
        case rel => exact ⟨j + 1, _, by omega, by go_num, HS4, HV2⟩
        case measure => simp [intOf]; omega
    · obtain rfl : j = l.length := by omega
      have HF := Lib.hid ((VStep.pure HI.out HX.out).trans HST.out)
      have HV2 := Lib.hid (show r'.vs = r.vs.dropped by rw [HV.out, HDR.out, HOL.out, Nat.min_eq_right (by omega)])
      clear HST HV
      go_wp2
      go_end0
      exact ⟨rfl, r', HF.out, HV2.out⟩
set_option maxRecDepth 100000 in
set_option maxHeartbeats 4000000 in
theorem vFall_any {base p : Nat} {r : HV} (w : World) (hI : VInv w base p r) :
    Calls Tryz.prog 19 #[ptrTo p] w fun e w' => ∃ a cap, e = .returned (.slice a r.vs.pend.length cap) ∧ (tSlice tInt).rv (mem w') [.slice a r.vs.pend.length cap] r.vs.pend ∧ ∃ r', VStep w base p r w' r' ∧ r'.vs = r.vs.dels r.vs.pend := by
  have HN := Lib.hid (vPending_any w hI)
  have hcl := those_len hI.ok (fun t => !t.done)
  change r.vs.pend.length ≤ 1000000 at hcl
  have HIN := Lib.hid (fun (k : Int) (hk : k ∈ r.vs.pend) => those_i64 hI.ok hk)
  have HML := Lib.hid (fun (b : Nat) (h : mutV p r b) => (show b < w.heap.size from hI.kind b h))
  have HI := Lib.hid hI
  generalize r.vs.pend = l at *
  clear hI
  go_enter Tryz.func19, Tryz.ntmps19
  go_wp2_with fail
  refine HN.out.mono ?_
  rintro e X ⟨a, cap, rfl, ho, hb⟩
  have HX := Lib.hid hb
  have HKR := Lib.hid ho.rv'
  have HOB := Lib.hid (fun (b : Nat) (h : (Value.slice a l.length cap).ownBlock = some b) => (show w.heap.size ≤ b ∧ b < X.heap.size from ho.lt b h))
  have hcp : cap ≤ 9223372036854775807 ∧ l.length ≤ cap := by
    obtain ⟨a', k', e', h2, h3, -⟩ := slice_form ho.rv'
    simp only [Value.slice.injEq] at e'
    unfold maxLen at h3
    rw [e'.2.2]; exact ⟨h3, h2⟩
  obtain ⟨hc1, hc2⟩ := hcp
  have HXI := Lib.hid (HI.out.pure HX.out)
  clear ho hb HN
  go_wp2_with fail
  go_loopw [10] (fun iv wr => ∃ (j : Nat) (r' : HV), j ≤ l.length ∧ iv = .int .i64 j ∧ Hid (VStep X base p r wr r') ∧ Hid (r'.vs = r.vs.dels (l.take j))) (fun iv _ => l.length - (intOf iv).toNat)
  case atStart => exact ⟨0, r, Nat.zero_le _, rfl, Lib.hid (VStep.pure HXI.out (Below.refl _ _)), Lib.hid (by rw [List.take_zero, dels_nil])⟩
  case round =>
    obtain ⟨j, r', hj, rfl, HST, HV⟩ := hrel
    by_cases hlt : j < l.length
    · obtain ⟨b, o, e, hat⟩ := slice_at HKR.out hlt
      subst e
      have hob := HOB.out b rfl
      have d3 : wr.cell? ⟨b, o + j, none⟩ = some (.int .i64 l[j]) := by
        refine (HST.out.cell (b := b) (by omega) (fun h => by have := HML.out _ h; omega) (o + j)).trans ?_
        have := (int_at hat).1
        simpa [tInt, mem] using this
      have hin := HIN.out _ (List.getElem_mem hlt)
      have HTK := Lib.hid (show l.take (j + 1) = l.take j ++ [l[j]] from List.take_succ_eq_append_getElem hlt)
      clear hat hob
      generalize l[j] = y at *
      obtain ⟨Z, hrun, hst⟩ := HST.out.inv.del hin 0
      have HS4 := Lib.hid (HST.out.trans hst)
      have HV2 := Lib.hid (show r'.vs.del y = r.vs.dels (l.take (j + 1)) by rw [HV.out, dels_snoc, HTK.out])
      have x3 : wr.cell? ⟨p, 3, none⟩ = some (.map (some r'.mb)) := mem_cells HST.out.inv.hb 3
      clear HTK HV hst HST
      go_wp2
      go_roundw
      case rel => exact ⟨j + 1, _, by omega, by go_num, HS4, HV2⟩
      case measure => simp [intOf]; omega
    · obtain rfl : j = l.length := by omega
      rw [List.take_length] at HV
      have HF := Lib.hid ((VStep.pure HI.out HX.out).trans HST.out)
      have HR := Lib.hid (show (tSlice tInt).rv (mem wr) [.slice a l.length cap] l from by
        obtain ⟨a', k', e1, g1, g2, g3⟩ := HKR.out
        simp only [List.cons.injEq, Value.slice.injEq, and_true] at e1
        obtain ⟨rfl, -, rfl⟩ := e1
        refine ⟨a, cap, rfl, g1, g2, fun hne => ?_⟩
        obtain ⟨b, o, rfl, hk⟩ := g3 hne
        have hob := HOB.out b rfl
        exact ⟨b, o, rfl, fun k hk' => let ⟨cs, hat, hrv⟩ := hk k hk'; ⟨cs, fun j u hj => (HST.out.cell (b := b) hob.2 (fun h => by have := HML.out _ h; omega) _).trans (hat j u hj), hrv⟩⟩)
      clear HST
      go_wp2
      go_ret
      exact ⟨a, cap, rfl, HR.out, r', HF.out, HV.out⟩
/-- Behind Forget. -/
def VS.forget (s : VS) (nm : ByteArray) : VS := if (namedAns s nm).2 = 0 then (s.upd (namedAns s nm).1 Sn.noName).dropped else s
theorem named_in {s : VS} {nm : ByteArray} (h : (namedAns s nm).2 = 0) : ∃ t, ((namedAns s nm).1, t) ∈ s.all ∧ t.done = true ∧ t.name.toList = nm.toList := by
  unfold namedAns at h ⊢
  by_cases h1 : isName nm = false
  · rw [if_pos h1] at h; cases h
  rw [if_neg h1] at h ⊢
  by_cases h2 : s.those (fun t => t.done && (t.name.toList == nm.toList)) = []
  · rw [if_pos h2] at h; cases h
  rw [if_neg h2]
  cases hl : s.those (fun t => t.done && (t.name.toList == nm.toList)) with
  | nil => exact absurd hl h2
  | cons k l =>
    show ∃ t, (k, t) ∈ s.all ∧ _
    have hm : k ∈ s.those (fun t => t.done && (t.name.toList == nm.toList)) := by rw [hl]; exact List.mem_cons_self
    obtain ⟨x, hx, rfl⟩ := List.mem_map.1 hm
    obtain ⟨h3, h4⟩ := List.mem_filter.1 hx
    simp only [Bool.and_eq_true, beq_iff_eq] at h4
    exact ⟨x.2, h3, h4.1, h4.2⟩
set_option maxRecDepth 100000 in
set_option maxHeartbeats 4000000 in
theorem vForget_any {base p : Nat} {r : HV} (nm : ByteArray) (w : World) (hI : VInv w base p r) (hn : nm.size ≤ maxLen) :
    Calls Tryz.prog 22 #[ptrTo p, .string nm] w fun e w' => e = .returned (.int .i64 (namedAns r.vs nm).2) ∧ ∃ r', VStep w base p r w' r' ∧ r'.vs = r.vs.forget nm := by
  have HN := Lib.hid (vNamed_any nm w hI hn)
  have HI := Lib.hid hI
  have HF := Lib.hid (show r.vs.forget nm = if (namedAns r.vs nm).2 = 0 then (r.vs.upd (namedAns r.vs nm).1 Sn.noName).dropped else r.vs from rfl)
  have HM := Lib.hid (fun (h : (namedAns r.vs nm).2 = 0) => named_in h)
  generalize namedAns r.vs nm = A at *
  obtain ⟨k, c⟩ := A
  simp only at HN HF HM
  clear hI
  go_enter Tryz.func22, Tryz.ntmps22
  go_wp2_with fail
  refine HN.out.mono ?_
  rintro e w1 ⟨rfl, hb⟩
  have HB := Lib.hid hb
  clear hb HN
  by_cases h0 : c = 0
  · subst h0
    obtain ⟨t, hm, -, -⟩ := HM.out rfl
    have HI1 := Lib.hid (HI.out.pure HB.out)
    have HS := Lib.hid (HI1.out.noName hm)
    have HD := Lib.hid (drop_any _ HS.out.inv)
    have hlk := HI1.out.look_some (HI.out.ok.find hm)
    have c3 : w1.cell? ⟨p, 3, none⟩ = some (.map (some r.mb)) := mem_cells HI1.out.hb 3
    have hsn := (HI1.out.sb _ hm).1
    have d0 : w1.cell? ⟨r.ad k, 0, none⟩ = some (.string t.name) := mem_cells hsn 0
    have z0 := frozen_cells hsn 0
    clear hsn hm
    go_wp2_with fail
    refine HD.out.mono ?_
    rintro e w2 ⟨rfl, r', hst, hvs⟩
    have HF2 := Lib.hid (((VStep.pure HI.out HB.out).trans HS.out).trans hst)
    have HV2 := Lib.hid (show r'.vs = r.vs.forget nm by rw [hvs, HF.out]; simp)
    clear hst hvs HD
    go_wp2
    go_ret
    exact ⟨rfl, r', HF2.out, HV2.out⟩
  · have hc : (c == 0) = false := by simp [h0]
    have HV2 := Lib.hid (show r.vs = r.vs.forget nm by rw [HF.out, if_neg h0])
    clear HM
    go_wp2
    go_ret
    exact ⟨rfl, r, VStep.pure HI.out HB.out, HV2.out⟩
end Go.Proofs.YtnfolemblnnejaaGreat
/- Append of a whole slice to a row of the call's own, in readings that ask nothing of memory (XApp). -/
namespace Go.Proofs.YtnfolemblnnejaaGreat
open Go.RowKit

theorem flatten_split {β : Type} {s : Nat} (hs : 0 < s) : ∀ (css : List (List β)), (∀ c ∈ css, c.length = s) → ∀ (j : Nat) (v : β), css.flatten[j]? = some v → ∃ k, ∃ h : k < css.length, ∃ r, j = k * s + r ∧ css[k][r]? = some v
  | [], _, j, v, h => by simp at h
  | c :: css, hl, j, v, h => by
    have hc : c.length = s := hl c List.mem_cons_self
    rw [List.flatten_cons] at h
    by_cases hj : j < c.length
    · rw [List.getElem?_append_left hj] at h
      exact ⟨0, by simp, j, by omega, by simpa using h⟩
    · rw [List.getElem?_append_right (by omega)] at h
      obtain ⟨k, hk, r, e, hv⟩ := flatten_split hs css (fun x hx => hl x (List.mem_cons_of_mem _ hx)) _ _ h
      exact ⟨k + 1, by simp; omega, r, by rw [Nat.add_mul]; omega, by simpa using hv⟩

theorem flatten_len {β : Type} {s : Nat} : ∀ (css : List (List β)), (∀ c ∈ css, c.length = s) → css.flatten.length = css.length * s
  | [], _ => by simp
  | c :: css, hl => by
    rw [List.flatten_cons, List.length_append, flatten_len css (fun x hx => hl x (List.mem_cons_of_mem _ hx)), hl c List.mem_cons_self, List.length_cons, Nat.add_mul]
    omega

theorem slice_css {α : Type} {t : Ty α} {m : Mem} {b o : Nat} {n cap : Nat} {ys : List α} (h : (tSlice t).rv m [.slice (some ⟨b, o, none⟩) n cap] ys) :
    ∃ css : List (List Value), css.length = ys.length ∧ (∀ c ∈ css, c.length = t.sz) ∧ ∀ k, (h : k < css.length) → (h' : k < ys.length) → At m b (o + k * t.sz) css[k] ∧ t.rv m css[k] ys[k] := by
  have hk : ∀ k : Fin ys.length, ∃ cs, At m b (o + k.val * t.sz) cs ∧ t.rv m cs ys[k.val] := fun k => by
    obtain ⟨b', o', e, hat⟩ := slice_at h k.isLt
    injection e with e
    injection e with e1 e2
    subst e1; subst e2
    exact hat
  refine ⟨List.ofFn (fun k => Classical.choose (hk k)), by simp, fun c hc => ?_, fun k h1 h2 => ?_⟩
  · obtain ⟨k, rfl⟩ := List.mem_ofFn.1 hc
    exact t.len _ _ _ (Classical.choose_spec (hk k)).2
  · simp only [List.getElem_ofFn]
    exact Classical.choose_spec (hk ⟨k, h2⟩)

section
variable {P : Program}
theorem run_append_flat {α : Type} {t : Ty α} (hf : t.flat) (hone : ∀ m cs x, t.rv m cs x → ∀ u ∈ cs, u.oneCell' = true) (w : World) (T ty : TypeId) {e : TypeId} {z : Value} {bytes : Nat} (hT : P.underlying T = some (.slice e))
    (hinf : (P.info? e).map (fun i => (i.zero, i.size, i.bytes)) = some (some z, t.sz, bytes)) (hzs : z.cells.size = t.sz) (hsz : 0 < t.sz) (B : Nat) (v : Value) (xs ys : List α) (hown : Owns t w B e v xs)
    (a : Option Addr) (c : Nat) (hy : (tSlice t).rv (mem w) [.slice a ys.length c] ys) (h63 : xs.length + ys.length ≤ maxLen) (hbytes : (xs.length + ys.length) * bytes ≤ 140737488355328) (hbase : B ≤ w.heap.size) :
    ∃ v' w', (Builtin.append_ #[T, T] ty #[v, .slice a ys.length c]).run P w = .ok v' w' ∧ Owns t w' B e v' (xs ++ ys) ∧ w.grownBy w' v.ownBlock := by
  obtain ⟨i, hi, hz, hsize, hby⟩ := info_parts hinf
  obtain ⟨css, g1, g2, g4, g5⟩ := hown
  by_cases h0 : ys.length = 0
  · obtain rfl := List.length_eq_zero_iff.1 h0
    cases a with
    | none =>
      have hr : (Builtin.append_ #[T, T] ty #[v, .slice none 0 c]).run P w = .ok v w := by
        rcases g2.2 with ⟨rfl, _⟩ | ⟨g, cap, cur, rfl, _, _, hnc, _⟩
        · simp [Builtin.append_, run_underlying hT, sizeOf, typeInfo, hi, Builtin.lenOf, Builtin.firstCells]
        · simp [Builtin.append_, run_underlying hT, sizeOf, typeInfo, hi, Builtin.lenOf, Builtin.firstCells, hnc, storeCells]
      exact ⟨v, w, hr, by rw [List.append_nil]; exact ⟨css, g1, g2, g4, g5⟩, ⟨rfl, rfl, rfl, Nat.le_refl _, fun _ _ _ => rfl⟩⟩
    | some ad =>
      obtain ⟨v', w', hr, h2, h3, _⟩ := run_append_own (P := P) w B T ty e i z t.sz bytes hT hi hz hsize hby hzs hsz v xs.length css.flatten g2 ad 0 c [] (by simp) (fun j u hj => by simp at hj) (fun u hu => by simp at hu) (by simpa using h63) (by simpa using hbytes) hbase
      exact ⟨v', w', hr, ⟨css, by simp [g1], by simpa using h2, g4, fun k h h' => by
        have h'' : k < xs.length := by simpa using h'
        have := hf _ ((mem w').on (fun b => some b ≠ v'.ownBlock)) _ _ (g5 k h h'')
        simpa using this⟩, h3⟩
  · obtain ⟨b, o, rfl, _⟩ := slice_at hy (k := 0) (by omega)
    obtain ⟨dss, d1, d2, d3⟩ := slice_css hy
    have hl : dss.flatten.length = ys.length * t.sz := by rw [flatten_len dss d2, d1]
    obtain ⟨v', w', hr, h2, h3, _⟩ := run_append_own (P := P) w B T ty e i z t.sz bytes hT hi hz hsize hby hzs hsz v xs.length css.flatten g2 ⟨b, o, none⟩ ys.length c dss.flatten hl (fun j u hj => by
        obtain ⟨k, hk, r, rfl, hv⟩ := flatten_split hsz dss d2 j u hj
        have := (d3 k hk (by omega)).1 r u hv
        rw [Addr.add_lit, ← Nat.add_assoc]
        exact this) (fun u hu => by
        obtain ⟨l, hl, hu⟩ := List.mem_flatten.1 hu
        obtain ⟨k, hk, rfl⟩ := List.getElem_of_mem hl
        exact hone _ _ _ (d3 k hk (by omega)).2 u hu) h63 hbytes hbase
    refine ⟨v', w', hr, ⟨css ++ dss, by simp [g1, d1], by simpa using h2, fun cc hc => ?_, fun k h h' => ?_⟩, h3⟩
    · rcases List.mem_append.1 hc with hc | hc
      · exact g4 _ hc
      · exact d2 _ hc
    · by_cases hlt : k < xs.length
      · rw [List.getElem_append_left (by omega), List.getElem_append_left hlt]
        exact hf _ _ _ _ (g5 k (by omega) hlt)
      · rw [List.getElem_append_right (by omega), List.getElem_append_right (by omega)]
        have hk : k - xs.length < ys.length := by simp at h'; omega
        have := (d3 (k - xs.length) (by omega) hk).2
        simp only [g1]
        exact hf _ _ _ _ this

theorem wpList_append_flat {α : Type} {ops : Array Oper} {rest : List Oper} {o : Oper} {a : Act} {Q : Exit → Act → World → Prop} {w : World} (hgd : o.guard = none) (s x : Operand) (T : TypeId)
    (ho : o.op = .call { callee := .builtin .append, args := #[s, x], argTypes := #[T, T] }) {t : Ty α} (hf : t.flat) (hone : ∀ m cs x, t.rv m cs x → ∀ u ∈ cs, u.oneCell' = true) {e : TypeId} {z : Value} {bytes : Nat} (hT : P.underlying T = some (.slice e))
    (hinf : (P.info? e).map (fun i => (i.zero, i.size, i.bytes)) = some (some z, t.sz, bytes)) (hzs : z.cells.size = t.sz) (hsz : 0 < t.sz) (B : Nat) (v : Value) (xs ys : List α) (hs : a.eval s = v) (hown : Owns t w B e v xs)
    (ad : Option Addr) (n c : Nat) (hx : a.eval x = .slice ad n c) (hn : n = ys.length) (hy : (tSlice t).rv (mem w) [.slice ad n c] ys) (h63 : xs.length + ys.length ≤ maxLen) (hbytes : (xs.length + ys.length) * bytes ≤ 140737488355328) (hbase : B ≤ w.heap.size)
    (h : ∀ v' w', Owns t w' B e v' (xs ++ ys) → w.grownBy w' v.ownBlock → wpList P ops Q rest (a.put o.dst v') w') : wpList P ops Q (o :: rest) a w := by
  subst hn
  refine wpList_plain hgd fun K hK => ?_
  obtain ⟨v', w', hr, h2, h3⟩ := run_append_flat (P := P) hf hone w T o.type hT hinf hzs hsz B v xs ys hown ad c hy h63 hbytes hbase
  unfold Oper.wp execOp
  simp only [ho, resolve, invoke, builtin, Sem.run_bind, Sem.run_pure, Result.andThen_ok, List.map_toArray, List.map_cons, List.map_nil, hs, hx, hr]
  exact hK _ _ (h v' w' h2 h3)
end
end Go.Proofs.YtnfolemblnnejaaGreat
/- slices.Clone at entries (printed by gen_vclone.py out of chapter 02's text). -/
namespace Go.Proofs.YtnfolemblnnejaaGreat
open Go.RowKit Go.Maps

theorem infoEnt : (Tryz.prog.info? 92).map (fun i => (i.zero, i.size, i.bytes)) = some (some (.agg #[.int .i64 0, .string .empty, .string .empty, .string .empty]), tEnt.sz, 56) := by kernel_rfl
theorem tEnt_one : ∀ m cs x, tEnt.rv m cs x → ∀ u ∈ cs, u.oneCell' = true := fun m cs x h u hu => by
  obtain ⟨rfl, _⟩ := h
  simp at hu
  rcases hu with rfl | rfl | rfl | rfl <;> rfl
set_option maxRecDepth 100000 in
set_option maxHeartbeats 1000000 in
theorem cloneEnts_any (xs : List Ent) (v : Value) (w : World) (hv : tEnts.rv (mem w) [v] xs) (h8 : xs.length ≤ 1000000) :
    Calls Tryz.prog 47 #[v] w fun e w' => ∃ x, e = .returned x ∧ Owns tEnt w' w.heap.size 92 x xs ∧ Below w.heap.size w w' := by
  have hb0 : ∀ o, Below w.heap.size w (w.alloc o) := fun o => (Below.refl _ _).alloc (Nat.le_refl _) o
  have hown : ∀ T, T = 92 → Owns tEnt (w.alloc (.cells #[] T)) w.heap.size 92 (.slice (some ⟨w.heap.size, 0, none⟩) 0 0) [] := fun T hT => by
    subst hT
    exact ⟨[], rfl, World.ownsRow_lit w #[] 0 (Nat.le_refl _) (Nat.zero_le _) (by simp), fun c h => absurd h (by simp), fun k h => absurd h (by simp)⟩
  obtain ⟨a1, cap1, rfl, hl1, hm1, hv⟩ := slice_form hv
  have HV := Lib.hid (fun o => (tEnts.mono _ _ _ _ (below_mem (hb0 o)) hv : tEnts.rv (mem (w.alloc o)) _ xs))
  cases a1 with
  | none =>
    have h0 : xs = [] := by
      cases xs with
      | nil => rfl
      | cons x l => obtain ⟨b, o, e, _⟩ := slice_at hv (k := 0) (by simp); cases e
    subst h0
    clear hm1 hv HV
    have hq := fun w => Lib.run_eql_slice_nil (P := Tryz.prog) w 34 _ none 0 cap1 0 0 Tryz.underlying34
    go_enter Tryz.func47, Tryz.ntmps47
    go_wp2
    go_ret
    exact ⟨_, rfl, Owns.nil _ _ _ _, Below.refl _ _⟩
  | some ad =>
    clear hm1 hv
    have hq := fun w => Lib.run_eql_slice_nil (P := Tryz.prog) w 34 _ (some ad) xs.length cap1 0 0 Tryz.underlying34
    go_enter Tryz.func47, Tryz.ntmps47
    go_wp2_with (at_builtin; refine wpList_append_flat rfl _ _ 34 rfl tEnt_flat tEnt_one Tryz.underlying34 infoEnt rfl (by decide) w.heap.size _ [] xs rfl (hown _ rfl) _ _ _ rfl rfl (HV.out _) ?c1 ?c2 ?c3 ?_)
    case c1 => simp; unfold maxLen; omega
    case c2 => simp; omega
    case c3 => simp
    intro v' w2 hown' hgrow
    have hB : Below w.heap.size w w2 := (hb0 _).grown hgrow (by simp) (fun k hk => by simp [Value.ownBlock] at hk; omega)
    obtain ⟨a', cap', rfl, _⟩ := hown'.len
    clear hown hgrow HV
    go_wp2
    go_ret
    exact ⟨_, rfl, hown', hB⟩
end Go.Proofs.YtnfolemblnnejaaGreat
