/- package heap: the entries of groups. -/
import Derived.Test.YtbmpoecmjmmngaaHAppE
import Derived.Test.YtbmpoecmjmmngaaHeapC
namespace Go.Proofs.Ytbmpoecmjmmngaa
open Go.RowKit Go.Maps

/-- The entries of groups, the first one's number being n. -/
def AllOf : Int → List FMap → List Ent → Prop
  | _, [], es => es = []
  | n, f :: fs, es => ∃ ss es', Keysof f ss ∧ AllOf (n + 1) fs es' ∧ es = entsOf n ss f ++ es'
theorem AllOf.one : ∀ {n : Int} {fs : List FMap} {es es' : List Ent}, AllOf n fs es → AllOf n fs es' → es = es'
  | _, [], _, _, h, h' => by rw [show _ = [] from h, show _ = [] from h']
  | n, f :: fs, _, _, ⟨ss, es, h1, h2, e⟩, ⟨tt, es', g1, g2, e'⟩ => by rw [e, e', h1.unique g1, AllOf.one h2 g2]
theorem AllOf.snoc : ∀ {n : Int} {fs : List FMap} {es : List Ent} {f : FMap} {ss : List Spot}, AllOf n fs es → Keysof f ss → AllOf n (fs ++ [f]) (es ++ entsOf (n + fs.length) ss f)
  | n, [], es, f, ss, h, hk => by
    obtain rfl : es = [] := h
    exact ⟨ss, [], hk, rfl, by simp⟩
  | n, g :: fs, _, f, ss, ⟨tt, es, h1, h2, e⟩, hk => by
    subst e
    refine ⟨tt, _, h1, AllOf.snoc h2 hk, ?_⟩
    rw [List.append_assoc, show n + 1 + (fs.length : Int) = n + ((g :: fs).length : Int) by simp; omega]
/-- A group in memory. -/
def GrpB (w : World) (n a : Nat) (x : G) : Prop := w.heap[a]? = some (.cells (gCells x) 75 (0, 0)) ∧ GMap w x.mb n x.f
theorem GrpB.below {w w' : World} {n a : Nat} {x : G} (h : GrpB w n a x) (hb : Below w.heap.size w w') : GrpB w' n a x := ⟨(hb.block _ (Array.getElem?_eq_some_iff.1 h.1).1).trans h.1, h.2.below hb⟩
theorem sorted_any (a : Nat) (num : Int) (w : World) :
    Calls Try.prog 60 #[ptrTo a, .int .i64 num] w fun e w' => e = .returned (.func (.func 72) #[] #[.pointer (some ⟨w.heap.size, 0, none⟩), .pointer (some ⟨w.heap.size + 1, 0, none⟩)]) ∧
      w'.heap[w.heap.size]? = some (.cells #[ptrTo a] 76 (0, 0)) ∧ w'.heap[w.heap.size + 1]? = some (.cells #[.int .i64 num] 3 (0, 0)) ∧ Below w.heap.size w w' := by
  have hb : ∀ o o', Below w.heap.size w ((w.alloc o).alloc o') := fun o o' => ((Below.refl _ _).alloc (Nat.le_refl _) o).alloc (by simp) o'
  have h1 : ∀ o o', ((w.alloc o).alloc o').heap[w.heap.size]? = some o := fun o o' => (Below.heap_alloc _ _ _ (by simp)).trans (heap_alloc_new w o)
  have h2 : ∀ o o', ((w.alloc o).alloc o').heap[w.heap.size + 1]? = some o' := fun o o' => by
    have := heap_alloc_new (w.alloc o) o'
    rwa [World.size_alloc] at this
  go_enter Try.func60, Try.ntmps60
  go_wp2
  go_ret
  exact ⟨rfl, h1 _ _, h2 _ _, hb _ _⟩
theorem entsOf_len (n : Int) (ss : List Spot) (f : FMap) : (entsOf n ss f).length = ss.length := by simp [entsOf]
theorem Keysof.small {W : World} {b n : Nat} {f : FMap} {ss : List Spot} (h : GMap W b n f) (hk : Keysof f ss) : ss.length ≤ n := by
  obtain ⟨D, hown, hs⟩ := h
  have hok : ∀ x ∈ ss, okSpot x := fun x hx => by
    obtain ⟨a, ha⟩ := Option.isSome_iff_exists.1 ((hk.mem x).1 hx)
    have hh := (hs.2.1 x a ha).1
    obtain ⟨es, hD, hko⟩ := hown.keysOf
    subst hD
    rw [show has (DataW.map es) (lkSpot x) = es.any (fun p => p.1.sameKey (lkSpot x)) from rfl, List.any_eq_true] at hh
    obtain ⟨p, hp, hsk⟩ := hh
    obtain ⟨v, hv⟩ := hko p hp
    obtain ⟨y, _, e, hy⟩ := keyOf_spot_inv hv
    by_cases hx' : okSpot x
    · exact hx'
    · rw [e, lkSpot_str hy] at hsk
      unfold lkSpot at hsk
      rw [if_neg hx'] at hsk
      simp [Lit.sameKey] at hsk
  have hn : ss.Nodup := hk.up.imp fun {a b} h e => by subst e; have := spotC_good.refl a; omega
  have : Col D (fun _ => false) ss := ⟨hn, hok, fun x hx => by
    rw [hk.mem x]
    cases hfx : f x with
    | none => rw [hs.1 x hfx]; simp
    | some a => rw [(hs.2.1 x a hfx).1]; simp⟩
  exact this.room hown
set_option maxRecDepth 100000 in
set_option maxHeartbeats 8000000 in
theorem entries_any (l : List Nat) (g : Nat → G) (n : Nat) (num : Int) (v : Value) (w : World) (hl : tPtrs.rv (mem w) [v] l) (hg : ∀ a ∈ l, GrpB w n a (g a)) (hll : l.length ≤ 1000) (hn : n ≤ 100000) (h0 : 0 ≤ num) (h1 : num ≤ 1000000) :
    Calls Try.prog 46 #[v, .int .i64 num] w fun e w' => ∃ u es, e = .returned u ∧ AllOf num (l.map fun a => (g a).f) es ∧ Owns tEnt w' w.heap.size 24 u es ∧ Below w.heap.size w w' ∧ es.length ≤ l.length * n := by
  obtain ⟨a0, cap0, rfl, hlc, hmc, _⟩ := slice_form hl
  have hcap : cap0 ≤ 9223372036854775807 := by unfold maxLen at hmc; exact hmc
  have HL := Lib.hid hl
  have HG := Lib.hid hg
  clear hl hg hmc
  go_enter Try.func46, Try.ntmps46
  go_wp2
  go_loopw [5, 10] (fun ov iv wr => ∃ (k : Nat) (es : List Ent), k ≤ l.length ∧ iv = .int .i64 k ∧ es.length ≤ k * n ∧ Hid (AllOf num ((l.take k).map fun a => (g a).f) es) ∧ Hid (Owns tEnt wr w.heap.size 24 ov es) ∧ Hid (Below w.heap.size w wr)) (fun _ iv _ => l.length - (intOf iv).toNat)
  case atStart => exact ⟨0, [], Nat.zero_le _, rfl, by simp, Lib.hid rfl, Lib.hid (Owns.nil _ _ _ _), Lib.hid (Below.refl _ _)⟩
  case round =>
    obtain ⟨k, es, hk, rfl, hes, HA, HO, HB⟩ := hrel
    by_cases hlt : k < l.length
    · obtain ⟨b, o, rfl, cs, hat, hcs⟩ := slice_at HL.out hlt
      have hcs : cs = [ptrTo l[k]] := hcs
      subst hcs
      have c0 : wr.cell? ⟨b, o + k, none⟩ = some (ptrTo l[k]) := below_mem HB.out _ _ _ (by have := hat 0 _ rfl; rw [show o + k * tPtr.sz + 0 = o + k by show o + k * 1 + 0 = _; omega] at this; exact this)
      have HGK := Lib.hid ((HG.out _ (List.getElem_mem hlt)).below HB.out)
      have HT := Lib.hid (show ((l.take (k + 1)).map fun a => (g a).f) = ((l.take k).map fun a => (g a).f) ++ [(g l[k]).f] by rw [List.take_succ_eq_append_getElem hlt, List.map_append]; rfl)
      have hm2 : (k + 1) * n ≤ 1000 * 100000 := Nat.mul_le_mul (by omega) hn
      rw [Nat.add_mul, Nat.one_mul] at hm2
      clear hat
      generalize l[k] = a at *
      obtain ⟨au, cu, rfl, _⟩ := HO.out.len
      have hi : num + (k : Int) ≤ 9223372036854775807 := by omega
      have hi2 : -9223372036854775808 ≤ num + (k : Int) := by omega
      go_wp2_with fail
      refine (sorted_any a (num + k) wr).mono ?_
      rintro e w1 ⟨rfl, b1, b2, hb1⟩
      have HIT := Lib.hid (show ItAt w1 wr.heap.size (wr.heap.size + 1) a (g a).mb n (g a).sh (num + k) (g a).f from ⟨b1, b2, (HGK.out.below hb1).1, (HGK.out.below hb1).2⟩)
      have HO1 := Lib.hid (HO.out.keeps hb1)
      have HB1 := Lib.hid (pure_trans HB.out hb1)
      have hsz1 := hb1.size
      have hwz : w.heap.size ≤ wr.heap.size := HB.out.size
      clear b1 b2 hb1 c0
      have HAP := Lib.hid (appendSeqE_any 72 #[.pointer (some ⟨wr.heap.size, 0, none⟩), .pointer (some ⟨wr.heap.size + 1, 0, none⟩)]
        (fun pre x => (∃ ss post, Keysof (g a).f ss ∧ entsOf (num + k) ss (g a).f = pre ++ x :: post) ∧ pre.length < n ∧ x.okE) (fun ys => ∃ ss, Keysof (g a).f ss ∧ ys = entsOf (num + k) ss (g a).f) n w.heap.size _ es w1 (fun _ _ => rfl)
        HO1.out (by omega) (sorted1_gives _ _ _ _ _ _ _ _ w1 HIT.out (by omega) (by unfold inI64; omega)) (fun _ _ h => ⟨h.2.1, h.2.2⟩) (by omega))
      have HLT := Lib.hid HO1.out.lt
      go_wp2_with fail
      refine HAP.out.mono ?_
      rintro e w2 ⟨v2, ps, rfl, ⟨ss, hks, rfl⟩, hown2, hk2, _⟩
      have hsl : ss.length ≤ n := Keysof.small HIT.out.gm hks
      have HA2 := Lib.hid (show AllOf num ((l.take (k + 1)).map fun a => (g a).f) (es ++ entsOf (num + k) ss (g a).f) by
        rw [HT.out]
        have := HA.out.snoc hks
        rwa [List.length_map, List.length_take, Nat.min_eq_left hk] at this)
      have HO2 := Lib.hid hown2
      have HB2 := Lib.hid (Keeps.belowStep HB1.out hk2 (fun k h => (HLT.out k h.symm).1) HB1.out.size)
      have hl2 : (es ++ entsOf (num + k) ss (g a).f).length ≤ (k + 1) * n := by rw [List.length_append, entsOf_len, Nat.add_mul, Nat.one_mul]; omega
      clear hown2 hk2 hks HAP HLT HIT HA HO HO1 HB HB1 HT HGK
      obtain ⟨a2, c2, rfl, _⟩ := HO2.out.len
      go_wp2
      go_roundw
      case rel => exact ⟨k + 1, _, by omega, by go_num, hl2, HA2, Lib.hid (by have := HO2.out; rw [List.length_append] at this; exact this), HB2⟩
      case measure => simp [intOf]; omega
    · obtain rfl : k = l.length := by omega
      have HF := Lib.hid (show AllOf num (l.map fun a => (g a).f) es by have := HA.out; rwa [List.take_length] at this)
      obtain ⟨au, cu, rfl, _⟩ := HO.out.len
      clear HA
      go_wp2
      go_ret
      exact ⟨_, es, rfl, HF.out, HO.out, HB.out, hes⟩
end Go.Proofs.Ytbmpoecmjmmngaa
