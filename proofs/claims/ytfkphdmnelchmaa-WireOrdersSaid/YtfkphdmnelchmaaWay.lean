/- Sorted keys of a map from numbers to packets; Way. -/
import Derived.Test.YtfkphdmnelchmaaBackSort
import Derived.Test.YtfkphdmnelchmaaShelf2
import Derived.Test.YtfkphdmnelchmaaPMap
namespace Go.Proofs.Ytfkphdmnelchmaa
open Go.RowKit Go.Maps Go.Sort Go.Shelf

/-- The keys, in order. -/
structure SortedKeys (f : Int → Option Nat) (ss : List Int) : Prop where
  mem : ∀ k, k ∈ ss ↔ (f k).isSome = true
  nd : ss.Nodup
  ord : ss.Pairwise (· ≤ ·)
theorem SortedKeys.unique {f : Int → Option Nat} {ss ss' : List Int} (h : SortedKeys f ss) (h' : SortedKeys f ss') : ss = ss' :=
  List.Perm.eq_of_pairwise (fun a b _ _ h1 h2 => Int.le_antisymm h1 h2) h.ord h'.ord ((List.perm_ext_iff_of_nodup h.nd h'.nd).2 fun k => (h.mem k).trans (h'.mem k).symm)

theorem PMap.keys {W : World} {b n : Nat} {f : Int → Option Nat} (h : PMap W b n f) : ∃ D, W.ownsMap Try.prog 3 rawE b n D ∧ Maps.size D ≤ n ∧ (∀ k, k ∈ intKeys D ↔ (f k).isSome = true) ∧ (intKeys D).Nodup ∧ ∀ k ∈ intKeys D, inI64 k := by
  obtain ⟨D, hown, h1, h2, h3⟩ := h
  obtain ⟨es, hD, hpw⟩ := hown.tidy keyK
  have hwf := intKeys_wf hown Try.underlying3
  have hko : ∀ p ∈ es, ∃ x, p.1 = .int .i64 x := fun p hp => by
    obtain ⟨es', hD', hko⟩ := hown.keysOf
    obtain rfl : es = es' := by rw [hD] at hD'; simpa using hD'
    obtain ⟨v, hv⟩ := hko p hp
    obtain ⟨x, _, hx, _⟩ := Maps.keyOf_i64 Try.underlying3 hv
    exact ⟨x, hx⟩
  refine ⟨D, hown, hown.size_le, fun k => ?_, ?_, fun k hk => ?_⟩
  · have hh : Maps.has D (intKey k) = true ↔ k ∈ intKeys D := by
      subst hD
      rw [has_eq, List.any_eq_true]
      show _ ↔ k ∈ es.map fun p => Go.intOf p.1
      rw [List.mem_map]
      constructor
      · rintro ⟨p, hp', hs⟩
        obtain ⟨a, ha⟩ := hko p hp'
        rw [ha] at hs
        exact ⟨p, hp', by rw [ha]; simpa [Lit.sameKey, Go.intOf, intKey] using hs⟩
      · rintro ⟨p, hp', rfl⟩
        obtain ⟨a, ha⟩ := hko p hp'
        exact ⟨p, hp', by rw [ha]; simp [Lit.sameKey, Go.intOf, intKey]⟩
    rw [← hh]
    cases hf : f k with
    | none => rw [h1 k hf]; simp
    | some a => rw [(h2 k a hf).1]; simp
  · subst hD
    show (es.map fun p => Go.intOf p.1).Nodup
    refine List.pairwise_map.2 (hpw.imp_of_mem fun {p q} hp' hq' hne e => hne ?_)
    obtain ⟨a, ha⟩ := hko p hp'
    obtain ⟨b, hb⟩ := hko q hq'
    rw [ha, hb] at e ⊢
    exact congrArg _ e
  · have := hwf k hk
    unfold inI64
    simpa [Lit.wf, IntKind.min, IntKind.max, IntKind.signed, IntKind.bits] using this

theorem sorts20 (m : Nat) : AnyZI.SortsIn Try.prog Try.sorted58_ren Fence.wide m :=
  ⟨fun blk off cap ss W hH hblk hsz => callsIn_wide.2 (Try.slices_Sort_int blk off cap ss W hH hblk hsz),
   fun p cap W => callsIn_wide.2 (Try.slices_Sort_int_none p cap W)⟩
theorem keys_any (mb : Option Nat) (W : World) : Calls Try.prog 59 #[.map mb] W fun e w' => e = .returned (.func (.func 76) #[] #[.pointer (some ⟨W.heap.size, 0, none⟩)]) ∧ w' = W.alloc (.cells #[.map mb] 82) :=
  (callsIn_wide (n := 5)).1 (AnyZI.keys_in Try.keys59 Fence.wide 5 trivial rfl mb W)
set_option maxHeartbeats 1000000 in
theorem sortedKeys_any (b n : Nat) (f : Int → Option Nat) (w : World) (h : PMap w b n f) (hn : n ≤ 1000000000) :
    Calls Try.prog 58 #[.func (.func 76) #[] #[.pointer (some ⟨w.heap.size, 0, none⟩)]] (w.alloc (.cells #[.map (some b)] 82)) fun e w' => ∃ v ss, e = .returned v ∧ (tSlice tInt).rv ((mem w').on (w.heap.size ≤ ·)) [v] ss ∧ SortedKeys f ss ∧ ss.length ≤ n ∧ Below w.heap.size w w' := by
  obtain ⟨D0, hown, hsz, hmem, hnd, hin⟩ := h.keys
  have hbl := hown.lt
  have hseq : SeqGives Fence.wide 2 Try.prog 76 #[.pointer (some ⟨w.heap.size, 0, none⟩)] encZ (fun ss => ss.Perm (intKeys D0)) (Maps.size D0) (w.alloc (.cells #[.map (some b)] 82)) :=
    AnyZI.keys_gives (ρ := Try.keys59_ren) { Try.keys59 with } Fence.wide _ trivial rfl (by omega) w.heap.size b n D0 _ (by simp) (by simp) (by
      obtain ⟨es, clock, hb, Ft, hs, hD⟩ := hown
      exact ⟨es, clock, (Below.heap_alloc _ _ b hbl).trans hb, Ft, hs, hD⟩)
  have cS := AnyZI.sorted_in Try.sorted58 Fence.wide 5 trivial trivial trivial trivial rfl (by omega) (sorts20 _) (enters_of Try.func43 (by kernel_rfl) rfl) 76 #[.pointer (some ⟨w.heap.size, 0, none⟩)] trivial (enters_of Try.func76 (by kernel_rfl) rfl) _ _ (by unfold maxLen; omega) (by omega) _ hseq
  change CallsIn _ _ Try.prog 58 _ _ _ at cS
  refine ((callsIn_wide (n := 5)).1 cS).mono ?_
  rintro e w' ⟨v, ss, rfl, hS, hrow, _, hb⟩
  have hlen : ss.length ≤ n := by
    have h1 := hS.length_eq
    have h2 : (intKeys D0).length = Maps.size D0 := by cases D0 <;> simp [intKeys, Maps.size]
    omega
  have hperm : (ss.mergeSort (fun x y => decide (x ≤ y))).Perm (intKeys D0) := (List.mergeSort_perm _ _).trans hS
  have hord := (InOrder.sort ss).2
  have hl2 : (ss.mergeSort (fun x y => decide (x ≤ y))).length = ss.length := by simp
  rw [← hl2] at hlen hrow
  generalize (ss.mergeSort (fun x y => decide (x ≤ y))) = qs at hperm hord hrow hlen
  have hO : Owns tInt w' (w.alloc (.cells #[.map (some b)] 82)).heap.size 3 v qs := by
    refine ⟨qs.map fun x => [.int .i64 x], by simp, ?_, fun c hc => ?_, fun k h h' => ?_⟩
    · have e : (qs.map fun x => [Value.int .i64 x]).flatten = qs.map encZ := by
        clear hperm hord hrow hlen
        induction qs with
        | nil => rfl
        | cons x l ih => simp [ih]
      rw [e]; exact hrow
    · obtain ⟨x, _, rfl⟩ := List.mem_map.1 hc; rfl
    · simp only [List.getElem_map]
      exact ⟨rfl, hin _ (hperm.mem_iff.1 (List.getElem_mem h'))⟩
  exact ⟨v, qs, rfl, hO.rv (fun k hk => by simp at hk; omega) (fun _ _ _ hk => hk), ⟨fun k => (hperm.mem_iff).trans (hmem k), hperm.nodup_iff.2 hnd, hord⟩, hlen, ((Below.refl _ w).alloc (Nat.le_refl _) _).trans (hb.mono (by simp))⟩

set_option maxHeartbeats 1000000 in
theorem way_any (base b : Nat) (L : WL) (r : Raw) (W : World) (hI : WireInv W base b L r) (hn : L.nw ≤ 1000000000) :
    Calls Try.prog 38 #[.pointer (some ⟨b, 0, none⟩)] W fun e W' => ∃ v ss, e = .returned v ∧ (tSlice tInt).rv ((mem W').on (W.heap.size ≤ ·)) [v] ss ∧ SortedKeys r.way ss ∧ ss.length ≤ L.nw ∧ Below W.heap.size W W' := by
  have c8 : W.cell? ⟨b, 8, none⟩ = some (.map (some L.wm)) := hI.cell 8
  have HK := Lib.hid (keys_any (some L.wm) W)
  have HS := Lib.hid (sortedKeys_any L.wm L.nw r.way W hI.wm hn)
  clear hI
  go_enter Try.func38, Try.ntmps38
  go_wp2_with fail
  refine HK.out.mono ?_
  rintro e w' ⟨rfl, rfl⟩
  go_wp2_with fail
  refine HS.out.mono ?_
  rintro e w' ⟨v, ss, rfl, hr, hk, hl, hb⟩
  have HE := Lib.hid (And.intro hr (And.intro hk (And.intro hl hb)))
  clear hr hk hl hb
  go_wp2
  go_ret
  exact ⟨v, ss, rfl, HE.out.1, HE.out.2.1, HE.out.2.2.1, HE.out.2.2.2⟩
end Go.Proofs.Ytfkphdmnelchmaa
