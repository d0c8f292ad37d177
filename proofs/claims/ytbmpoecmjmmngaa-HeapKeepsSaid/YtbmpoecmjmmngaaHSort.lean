/- slices.SortFunc, Collect, SortedFunc at spots: a map's keys, ascending. -/
import Derived.Test.YtbmpoecmjmmngaaHApp
import Derived.Test.YtbmpoecmjmmngaaHKeys
import Derived.Test.YtbmpoecmjmmngaaSpotSort
import Derived.Shelf.SlSortCmp.NoneTotal
namespace Go.Proofs.Ytbmpoecmjmmngaa
open Go.RowKit Go.Shelf Go.Maps Go.Sort

theorem swoSpot : SWO (ltOf spotC) := by
  have g := spotC_good
  refine ⟨fun x => ?_, fun x y z h1 h2 => ?_, fun x y z h1 h2 => ?_⟩ <;> unfold ltOf at *
  · rw [g.refl]; rfl
  · simp only [decide_eq_true_eq] at *
    exact g.lt_trans h1 h2
  · simp only [decide_eq_false_iff_not, Int.not_lt] at *
    have a1 := g.anti x y
    have a2 := g.anti y z
    have a3 := g.anti x z
    have := (g.trans z y x (by omega) (by omega)).1
    omega
def encSpot (x : Spot) : List Value := [.string x.1, .string x.2]
theorem aggSpot (w : World) : (isAgg (Try.sort84_ren.t 24)).run Try.prog w = .ok true w := Try.isAgg71 w
theorem sizeSpot (w : World) : (Go.sizeOf (Try.sort84_ren.t 24)).run Try.prog w = .ok 2 w := Try.sizeOf71 w
theorem cmpLays (blk off size : Nat) (w : World) : CmpLays Try.prog 75 #[] encSpot 2 spotC blk off size w :=
  fun _ _ _ _ x y => spotCmp_any x y _
instance : Inhabited Spot := ⟨(⟨#[]⟩, ⟨#[]⟩)⟩
theorem sortWorld_keeps (w : World) (blk off m : Nat) (d : Array Spot) (os : Array Obj) : Keeps (fun k => k = blk) w (sortWorldK encSpot 2 w blk off m d os) := by
  refine ⟨rfl, rfl, rfl, ?_, fun k hk hne => ?_⟩
  · show w.heap.size ≤ ((w.heap.modify blk _) ++ os).size
    simp
  · show ((w.heap.modify blk _) ++ os)[k]? = w.heap[k]?
    rw [Array.getElem?_append_left (by simpa using hk), Array.getElem?_modify, if_neg (fun e => hne e.symm)]
theorem holds_rv {w : World} {blk off : Nat} {d : Array Spot} {cap : Nat} (h : HoldsK encSpot 2 w blk off d) (hc : d.size ≤ cap) (hm : cap ≤ maxLen) {S : Nat → Prop} (hS : S blk) : tSpots.rv ((mem w).on S) [.slice (some ⟨blk, off, none⟩) d.size cap] d.toList := by
  refine ⟨some ⟨blk, off, none⟩, cap, by simp, by simpa using hc, hm, fun _ => ⟨blk, off, rfl, fun k hk => ⟨encSpot d.toList[k], fun j u hj => ?_, rfl⟩⟩⟩
  have hk' : k < d.size := by simpa using hk
  have hj2 : j < 2 := by
    have := (List.getElem?_eq_some_iff.1 hj).1
    simpa [encSpot] using this
  have := (h.cell hk' hj2).1
  refine Mem.on_some ?_ hS
  show w.cell? ⟨blk, off + k * 2 + j, none⟩ = some u
  rw [this]
  congr 1
  rw [getElem!_pos d k hk']
  rw [show d.toList[k] = d[k] by simp] at hj
  rw [List.getElem!_eq_getElem?_getD, hj]
  rfl
theorem owns_holds {w : World} {B blk cap : Nat} {o : Nat} {ss : List Spot} (h : Owns tSpot w B 71 (.slice (some ⟨blk, o, none⟩) ss.length cap) ss) : o = 0 ∧ B ≤ blk ∧ blk < w.heap.size ∧ HoldsK encSpot 2 w blk 0 ss.toArray := by
  have hrv := h.rv'
  obtain ⟨css, g1, ⟨g2, g3⟩, g4, g5⟩ := h
  rcases g3 with ⟨g3, _⟩ | ⟨g, cap', cur, e, hB, hg, _⟩
  · cases g3
  · injection e with e1 e2 e3
    injection e1 with e1
    injection e1 with e1 e4 e5
    subst e1; subst e4
    refine ⟨rfl, hB, (Array.getElem?_eq_some_iff.1 hg).1, fun t ht => ?_⟩
    have ht' : t < ss.length * 2 := by simpa using ht
    have hk : t / 2 < ss.length := by omega
    obtain ⟨b', o', e', cs, hat, hcs⟩ := slice_at hrv hk
    injection e' with e1
    injection e1 with e1 e4 e5
    subst e1; subst e4
    have hc := hat (t % 2) ((encSpot ss[t / 2])[t % 2]!) (by
      have h2 : t % 2 < 2 := Nat.mod_lt _ (by omega)
      rw [show cs = encSpot ss[t / 2] from hcs, List.getElem!_eq_getElem?_getD, List.getElem?_eq_getElem (show t % 2 < (encSpot ss[t / 2]).length from h2)]
      rfl)
    have he : 0 + t / 2 * tSpot.sz + t % 2 = 0 + t := by show 0 + t / 2 * 2 + t % 2 = _; omega
    rw [he] at hc
    refine ⟨?_, frozen_cells hg _⟩
    rw [get_flatK _ _ _ _ (by simpa using ht')]
    have hx : (ss.toArray)[t / 2]! = ss[t / 2] := by rw [getElem!_pos ss.toArray (t / 2) (by simpa using hk)]; simp
    rw [hx]
    exact hc
set_option maxRecDepth 100000 in
set_option maxHeartbeats 2000000 in
theorem sortSpots_any (base : Nat) (v : Value) (ss : List Spot) (w : World) (h : Owns tSpot w base 71 v ss) (hn : ss.length ≤ 1000000000) :
    Calls Try.prog 84 #[v, .func (.func 75) #[] #[]] w fun e w' => e = .returned (.tuple #[]) ∧
      ∃ tt, tt.Perm ss ∧ tt.Pairwise (fun a b => spotC a b ≤ 0) ∧ tSpots.rv ((mem w').on (base ≤ ·)) [v] tt ∧ Keeps (fun k => base ≤ k) w w' ∧ ∀ k, v.ownBlock = some k → ∃ cur, w'.heap[k]? = some (.cells cur 71 (0, 0)) := by
  obtain ⟨au, cu, rfl, hlc, hmc, _⟩ := slice_form h.rv'
  cases au with
  | none =>
    have h0 : ss = [] := by
      obtain ⟨css, h1, ⟨h2, h3⟩, h4, h5⟩ := h
      rcases h3 with ⟨e, h3⟩ | ⟨g, cap, cur, e, _⟩
      · injection e with _ e _
        exact List.eq_nil_of_length_eq_zero e
      · injection e with e; cases e
    subst h0
    refine (AnyF.slices_SortFunc_none (P := Try.prog) (ρ := Try.sort84_ren) { Try.sort84 with } none cu _ w).mono ?_
    rintro e w' ⟨rfl, rfl⟩
    obtain ⟨css, h1, ⟨h2, h3⟩, h4, h5⟩ := h
    rcases h3 with ⟨e, h3⟩ | ⟨g, cap, cur, e, _⟩
    · injection e with _ _ e
      subst e
      exact ⟨rfl, [], List.Perm.refl _, List.Pairwise.nil, slice_nil _ _, Keeps.refl _ _, fun k e => (by cases e)⟩
    · injection e with e; cases e
  | some a =>
    obtain ⟨blk, o, sp⟩ := a
    have hsp : sp = none := by
      obtain ⟨css, h1, ⟨h2, h3⟩, h4, h5⟩ := h
      rcases h3 with ⟨e, h3⟩ | ⟨g, cap, cur, e, _⟩
      · injection e with e; cases e
      · injection e with e; injection e with e; injection e
    subst hsp
    obtain ⟨rfl, hB, hlt, hH⟩ := owns_holds h
    refine (AnyQ.slices_SortFunc (P := Try.prog) (ρ := Try.sort84_ren) Try.sort84 2 aggSpot sizeSpot encSpot (fun _ => rfl) (fun x v hv => by simp [encSpot] at hv; rcases hv with rfl | rfl <;> rfl) spotC swoSpot
      75 #[] blk 0 cu ss.toArray w (fun _ _ => rfl) (cmpLays _ _ _ _) hH hlt (by simp; omega)).mono ?_
    rintro e w' ⟨rfl, d, n, os, ⟨hsz, _, hp⟩, hsrt, rfl⟩
    have hszl : d.size = ss.length := by simpa using hsz
    have hperm : d.toList.Perm ss := by
      have e1 : d.extract 0 ss.toArray.size = d := by rw [List.size_toArray, ← hszl]; simp
      rw [e1] at hp
      simpa using hp
    refine ⟨rfl, d.toList, hperm, ?_, ?_, (sortWorld_keeps _ _ _ _ _ _).wide (fun k _ e => by subst e; exact hB), fun k e => ?_⟩
    · rw [List.pairwise_iff_getElem]
      intro i j hi hj hij
      have hj' : j < d.size := by simpa using hj
      have hi' : i < d.size := by omega
      have := hsrt i j (Nat.zero_le _) hij (by simp; omega)
      rw [getElem!_pos d j hj', getElem!_pos d i hi'] at this
      unfold ltOf at this
      simp only [decide_eq_false_iff_not, Int.not_lt] at this
      have ha := spotC_good.anti d[i] d[j]
      simp only [Array.getElem_toList]
      omega
    · have hh : HoldsK encSpot 2 (sortWorldK encSpot 2 w blk 0 n d os) blk 0 d := holdsK_grow _ _ _ os blk 0 d (by show blk < (w.heap.modify blk _).size; simpa using hlt) (holdsK_putRowK _ _ _ _ _ _ d (holdsK_ahead _ _ _ n _ _ _ hH) hsz)
      have := holds_rv (cap := cu) hh (by omega) hmc (S := (base ≤ ·)) hB
      rw [hszl] at this
      exact this
    · obtain rfl : blk = k := by injection e
      obtain ⟨css, _, ⟨_, h3⟩, _⟩ := h
      rcases h3 with ⟨e, _⟩ | ⟨g, cap, cur, e, _, hg, _⟩
      · injection e with e; cases e
      · injection e with e1
        injection e1 with e1
        injection e1 with e1
        subst e1
        refine ⟨putCells id 0 (flatK encSpot 2 d) cur, ?_⟩
        show ((w.heap.modify blk _) ++ os)[blk]? = _
        rw [Array.getElem?_append_left (by simpa using hlt), Array.getElem?_modify, if_pos rfl, hg]
        rfl
/-- A map's keys, ascending: SortedFunc over Keys. -/
theorem Keysof.of {f : FMap} {ss tt : List Spot} (h : AllKeys f ss) (hp : tt.Perm ss) (hs : tt.Pairwise (fun a b => spotC a b ≤ 0)) : Keysof f tt := by
  refine ⟨?_, fun k => (hp.mem_iff).trans (h.2.1 k)⟩
  have hn : tt.Nodup := hp.nodup_iff.2 h.1
  refine (hs.and hn).imp fun {a b} h => ?_
  have := spotC_good.range a b
  by_cases h0 : spotC a b = 0
  · exact absurd (spotC_eq h0) h.2
  · omega
set_option maxRecDepth 100000 in
set_option maxHeartbeats 2000000 in
theorem sortedSpots_any (B b n : Nat) (f : FMap) (w : World) (hB : w.cell? ⟨B, 0, none⟩ = some (.map (some b))) (hf : GMap w b n f) (hn : n ≤ 1000000000) :
    Calls Try.prog 73 #[.func (.func 85) #[] #[.pointer (some ⟨B, 0, none⟩)], .func (.func 75) #[] #[]] w
      fun e w' => ∃ v ss, e = .returned v ∧ Keysof f ss ∧ (∀ x ∈ ss, okSpot x) ∧ ss.length ≤ n ∧ tSpots.rv ((mem w').on (w.heap.size ≤ ·)) [v] ss ∧ Below w.heap.size w w' ∧ (∀ k, v.ownBlock = some k → ∃ cur, w'.heap[k]? = some (.cells cur 71 (0, 0))) := by
  have HK := Lib.hid (fun wr (h : Below w.heap.size w wr) => appendSeqS_any 85 #[.pointer (some ⟨B, 0, none⟩)] (fun pre x => pre.length < n ∧ okSpot x) (AllKeys f) n wr (fun _ _ => rfl)
    (keysS_gives B b n f wr (below_mem h _ _ _ hB) (hf.below h)) (fun _ _ h => h.1) hn)
  have HC := Lib.hid (fun wr (h : Below w.heap.size w wr) => (show Calls Try.prog 83 #[.func (.func 85) #[] #[.pointer (some ⟨B, 0, none⟩)]] wr
      fun e w' => ∃ v ss, e = .returned v ∧ AllKeys f ss ∧ Owns tSpot w' wr.heap.size 71 v ss ∧ Below wr.heap.size wr w' from by
    go_enter Try.func83, Try.ntmps83
    go_wp2_with fail
    refine (HK.out _ h).mono ?_
    rintro e w1 ⟨v, ss, rfl, h1, h2, h3⟩
    obtain ⟨a1, c1, rfl, _⟩ := h2.len
    go_wp2
    go_ret
    exact ⟨_, ss, rfl, h1, h2, h3⟩))
  have HD := Lib.hid (show ∀ ss, AllKeys f ss → ss.length ≤ n from fun ss h => by
    obtain ⟨D, hown, hs⟩ := hf
    have : Col D (fun _ => false) ss := ⟨h.1, h.2.2, fun x hx => by
      rw [h.2.1 x]
      cases hfx : f x with
      | none => rw [hs.1 x hfx]; simp
      | some a => rw [(hs.2.1 x a hfx).1]; simp⟩
    exact this.room hown)
  clear hB hf HK
  go_enter Try.func73, Try.ntmps73
  go_wp2_with fail
  refine (HC.out _ (Below.refl _ _)).mono ?_
  rintro e w1 ⟨v, ss, rfl, h1, h2, h3⟩
  have hlen := HD.out ss h1
  have HS := Lib.hid (sortSpots_any _ _ _ _ h2 (by omega))
  have H1 := Lib.hid h1
  have H3 := Lib.hid h3
  obtain ⟨a1, c1, rfl, hml⟩ := h2.len
  clear h1 h2 h3 HC HD
  go_wp2_with fail
  refine HS.out.mono ?_
  rintro e w2 ⟨rfl, tt, hp, hs, hrv, hk, hty⟩
  have HTY := Lib.hid hty
  clear hty
  have HR := Lib.hid hrv
  have HF := Lib.hid (Keysof.of H1.out hp hs)
  have HO := Lib.hid (show ∀ x ∈ tt, okSpot x from fun x hx => H1.out.2.2 x (hp.mem_iff.1 hx))
  have hl2 := hp.length_eq
  have HB := Lib.hid (Keeps.belowStep H3.out hk (fun k h => h) H3.out.size)
  clear hp hs hrv hk H1 H3 HS
  go_wp2
  go_ret
  exact ⟨_, tt, rfl, HF.out, HO.out, by omega, HR.out, HB.out, HTY.out⟩
end Go.Proofs.Ytbmpoecmjmmngaa
