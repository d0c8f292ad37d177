/- package heap: own (a group's map to be written). -/
import Derived.Test.YtbmpoecmjmmngaaHeapC
import Derived.Test.YtbmpoecmjmmngaaShelf
import Derived.Deep.RegionHeld3
namespace Go.Proofs.Ytbmpoecmjmmngaa
open Go.RowKit Go.Maps

theorem cloneG_any (b n : Nat) (f : FMap) (w : World) (h : GMap w b n f) :
    Calls Try.prog 56 #[.map (some b)] w fun e w' => e = .returned (.map (some w.heap.size)) ∧ GMap w' w.heap.size n f ∧ Below w.heap.size w w' := by
  obtain ⟨D, hown, hs⟩ := h
  refine (AnyW.maps_Clone_owns Try.clone56 71 rawE b n D w hown).mono ?_
  rintro e w' ⟨rfl, h1, _, h3⟩
  exact ⟨rfl, ⟨D, h1, hs⟩, h3⟩
theorem set_alloc (w : World) (o : Obj) (a : Addr) (v : Value) (h : a.block < w.heap.size) : (w.setCell a v).alloc o = (w.alloc o).setCell a v := by
  unfold World.setCell
  show World.mk _ _ _ _ _ = World.mk _ _ _ _ _
  congr 1
  apply Array.ext_getElem?
  intro k
  show ((w.heap.modify a.block _).push o)[k]? = ((w.heap.push o).modify a.block _)[k]?
  simp only [Array.getElem?_push, Array.getElem?_modify, Array.size_modify]
  by_cases e : k = w.heap.size
  · have e2 : ¬ a.block = k := by omega
    simp [e, e2]
    omega
  · simp [e]
theorem grps_at (r : HS) {i : Nat} (hi : i < r.cur.length) : r.view.grps[i]? = some (grpF r i) := by
  show (r.cur.map fun a => (r.g a).f)[i]? = _
  rw [List.getElem?_map, List.getElem?_eq_getElem hi, ← adAt_eq hi]
  rfl
theorem view_set (r : HS) {i : Nat} (hi : i < r.cur.length) : ({ r.view with grps := r.view.grps.set i (grpF r i) } : PS) = r.view := by
  have : r.view.grps.set i (grpF r i) = r.view.grps := by
    apply List.ext_getElem?
    intro j
    by_cases e : i = j
    · subst e
      rw [grps_at r hi, List.getElem?_set_self (by show i < (r.cur.map _).length; simpa using hi)]
    · rw [List.getElem?_set_ne e]
  rw [this]
theorem adAt_set (r : HS) {i a : Nat} (x : G) (hi : i < r.cur.length) : adAt ({ r with cur := r.cur.set i a }.withG a x) i = a := by
  unfold adAt
  show (r.cur.set i a).getD _ 0 = a
  rw [Int.toNat_natCast, List.getD_eq_getElem?_getD, List.getElem?_set_self hi]
  rfl
/-- own's step: the group at i is the state's own; what the state says is as it was. -/
structure OwnStep (W : World) (base p : Nat) (r : HS) (i : Nat) (W' : World) (r' : HS) : Prop where
  st : HStep W base p r W' r'
  vw : r'.view = r.view
  sh : (r'.g (adAt r' i)).sh = false
  fe : grpF r' i = grpF r i
  len : r'.cur.length = r.cur.length
  nn : r'.nn = r.nn
set_option maxRecDepth 100000 in
set_option maxHeartbeats 4000000 in
theorem own_any {base p : Nat} {r : HS} (i : Nat) (w : World) (hI : HeapInv w base p r) (hi : i < r.cur.length) :
    Calls Try.prog 32 #[.pointer (some ⟨p, 0, none⟩), .int .i64 i] w fun e w' => ∃ r', e = .returned (.map (some (r'.g (adAt r' i)).mb)) ∧ OwnStep w base p r i w' r' := by
  obtain ⟨cb, off, cap, hG, hu⟩ := hI.grp hi
  have HI := Lib.hid hI
  have HU := Lib.hid hu
  have HGM := Lib.hid hG.gm
  obtain ⟨b', off', cap', arr, hcv, -, -, hcb, -⟩ := hI.cu
  have hcv' : r.cv = .slice (some ⟨cb, off, none⟩) r.cur.length cap := by
    have h1 := mem_cells hI.hb 0
    rw [show (hCells r)[0]? = some r.cv from rfl] at h1
    have h2 : mem w p 0 = some _ := hG.cv
    rw [h1] at h2
    injection h2
  have hcb' : w.heap[cb]? = some (.cells arr 76 (0, 0)) := by
    rw [hcv] at hcv'
    injection hcv' with e1
    injection e1 with e1
    injection e1 with e1
    rw [← e1]; exact hcb
  have HCV := Lib.hid hcv'
  have HCB := Lib.hid hcb'
  obtain ⟨c0, hlc, hmx, c1, c2, c3, -⟩ := hG
  have hfin := Lib.hid (show (r.g (adAt r i)).sh = false → OwnStep w base p r i w r from fun h => ⟨HStep.pure hI (Below.refl _ _), rfl, h, rfl, rfl, rfl⟩)
  clear hI hcb hcv hcv' hcb' hu
  cases hsh : (r.g (adAt r i)).sh with
  | false =>
    rw [hsh] at c3
    have HF := Lib.hid (hfin.out hsh)
    clear hsh hfin
    obtain ⟨mb, hmb⟩ : ∃ mb, mb = (r.g (adAt r i)).mb := ⟨_, rfl⟩
    rw [← hmb] at c2
    have HMB := Lib.hid hmb
    clear hmb HI HGM HCV HCB
    generalize adAt r i = a at c1 c2 c3
    obtain ⟨N, hN⟩ : ∃ N, N = r.cur.length := ⟨_, rfl⟩
    rw [← hN] at c0 hlc hi
    clear hN
    go_enter Try.func32, Try.ntmps32
    go_wp2
    go_ret
    exact ⟨r, by rw [← HMB.out] <;> rfl, HF.out⟩
  | true =>
    rw [hsh] at c3
    have hne1 : p ≠ cb := fun e => by
      have h1 := HI.out.hb
      rw [e, HCB.out] at h1
      exact absurd (by injection h1 with h1; injection h1) (show ¬ ((76 : TypeId) = 80) by decide)
    obtain ⟨mb, hmb⟩ : ∃ mb, mb = (r.g (adAt r i)).mb := ⟨_, rfl⟩
    rw [← hmb] at c2
    have HGM2 := Lib.hid (show GMap w mb r.nn (grpF r i) by rw [hmb]; exact HGM.out)
    have f1 : w.frozen? ⟨cb, off + i, none⟩ = false := frozen_cells HCB.out _
    have HFZ := Lib.hid (fun (w3 : World) (h : Below w.heap.size w w3) => (show w3.frozen? ⟨cb, off + i, none⟩ = false from frozen_cells ((h.block _ (Array.getElem?_eq_some_iff.1 HCB.out).1).trans HCB.out) _))
    clear hmb hfin hsh HGM
    have HAD := Lib.hid (adAt_eq hi)
    have HNE2 := Lib.hid (show adAt r i ≠ cb from fun e => by
      have h1 := (HI.out.gb _ HU.out).1
      rw [e, HCB.out] at h1
      exact absurd (by injection h1 with h1; injection h1) (show ¬ ((76 : TypeId) = 75) by decide))
    generalize adAt r i = a at c1 c2 c3 HNE2
    have HI2 := Lib.hid hi
    obtain ⟨N, hN⟩ : ∃ N, N = r.cur.length := ⟨_, rfl⟩
    rw [← hN] at c0 hlc hi
    clear hN
    have hne2 : a ≠ cb := HNE2.out
    have HS2 := Lib.hid (fun (w3 : World) (h : Below w.heap.size w w3) (o : Obj) => (show (w3.alloc o).cell? ⟨p, 0, none⟩ = some (.slice (some ⟨cb, off, none⟩) N cap) ∧ (w3.alloc o).cell? ⟨a, 0, none⟩ = some (.map (some mb)) ∧ (w3.alloc o).frozen? ⟨cb, off + i, none⟩ = false from
      have hb := h.alloc h.size o
      ⟨below_mem hb _ _ _ c0, below_mem hb _ _ _ c2, HFZ.out _ hb⟩))
    have HS3 := Lib.hid (fun (w3 : World) (h : Below w.heap.size w w3) (o : Obj) (u : Value) => (show ((w3.setCell ⟨cb, off + i, none⟩ u).alloc o).cell? ⟨p, 0, none⟩ = some (.slice (some ⟨cb, off, none⟩) N cap) ∧ ((w3.setCell ⟨cb, off + i, none⟩ u).alloc o).cell? ⟨a, 0, none⟩ = some (.map (some mb)) ∧ ((w3.setCell ⟨cb, off + i, none⟩ u).alloc o).frozen? ⟨cb, off + i, none⟩ = false from
      have hb : Below (w3.setCell ⟨cb, off + i, none⟩ u).heap.size (w3.setCell ⟨cb, off + i, none⟩ u) ((w3.setCell ⟨cb, off + i, none⟩ u).alloc o) := (Below.refl _ _).alloc (Nat.le_refl _) o
      have e : (w3.setCell ⟨cb, off + i, none⟩ u).heap[cb]? = _ := set_block ((h.block _ (Array.getElem?_eq_some_iff.1 HCB.out).1).trans HCB.out)
      ⟨below_mem hb _ _ _ ((mem_of_block (set_block_other hne1) 0).trans (below_mem h _ _ _ c0)), below_mem hb _ _ _ ((mem_of_block (set_block_other hne2) 0).trans (below_mem h _ _ _ c2)), frozen_cells ((hb.block _ (Array.getElem?_eq_some_iff.1 e).1).trans e) _⟩))
    go_enter Try.func32, Try.ntmps32
    go_wp2_with fail
    go_region_held3 (fun w' => w'.cell? ⟨p, 0, none⟩ = some (.slice (some ⟨cb, off, none⟩) N cap) ∧ w'.cell? ⟨a, 0, none⟩ = some (.map (some mb)) ∧ w'.frozen? ⟨cb, off + i, none⟩ = false)
      (first | exact ⟨below_mem (by assumption) _ _ _ c0, below_mem (by assumption) _ _ _ c2, HFZ.out _ (by assumption)⟩ | exact HS2.out _ (by assumption) _ | exact HS3.out _ (by assumption) _ _ | go_keep)
      ((first | (go_at_call 56; refine (cloneG_any mb r.nn (grpF r i) _ HGM2.out.drew).mono ?_; rintro e w3 ⟨rfl, hg3, hb3⟩; have HG3 := Lib.hid hg3; clear hg3; have hb4 : Below w.heap.size w w3 := (Below.refl _ _).drew.trans hb3; have hx3 := below_mem hb4 _ _ _ c1; have hx3 : w3.cell? ⟨cb, off + i, none⟩ = some (ptrTo a) := hx3; have hx4 := HFZ.out _ hb4; have hlt3 : cb < w3.heap.size := mem_lt hx3; have hn3 : ¬ cb = w3.heap.size := (by omega); have hx1 : ∀ o, (w3.alloc o).cell? ⟨cb, off + i, none⟩ = some (ptrTo a) := fun o => below_mem (hb4.alloc hb4.size o) _ _ _ c1; have hx2 : ∀ o, (w3.alloc o).frozen? ⟨cb, off + i, none⟩ = false := fun o => HFZ.out _ (hb4.alloc hb4.size o))))
    rw [set_alloc w3 _ _ _ hlt3]
    have hst := HI.out.newGroup HI2.out HCV.out hb4 (Nat.le_refl _) HG3.out
    have HVW := Lib.hid (view_newGroup HI.out (i := i) (nb := w.heap.size) (f := grpF r i) (a := w3.heap.size) hb4.size)
    generalize hr' : ({ r with cur := r.cur.set i w3.heap.size } : HS).withG w3.heap.size ⟨w.heap.size, false, grpF r i⟩ = r' at hst HVW
    have hlen : r'.cur.length = r.cur.length := by rw [← hr']; show (r.cur.set i _).length = _; rw [List.length_set]
    have had : adAt r' i = w3.heap.size := by rw [← hr']; exact adAt_set r _ HI2.out
    have hgg : r'.g w3.heap.size = ⟨w.heap.size, false, grpF r i⟩ := by rw [← hr', withG_same]
    have HFIN := Lib.hid (show OwnStep w base p r i _ r' from ⟨hst, by
        rw [HVW.out]
        exact view_set r HI2.out, by rw [had, hgg], by unfold grpF; rw [had, hgg]; rfl, hlen, by rw [← hr']; rfl⟩)
    obtain ⟨cb2, off2, cap2, ⟨d0, d1, d2, d3, d4, _, _⟩, _⟩ := hst.inv.grp (i := i) (by rw [hlen]; exact HI2.out)
    have HMB := Lib.hid (show (r'.g (adAt r' i)).mb = w.heap.size by rw [had, hgg])
    rw [HMB.out] at d4
    clear HS2 HS3 hx1 hx2 hx3 hx4 c0 c1 c2 c3 f1
    generalize (w3.alloc _).setCell _ _ = W' at *
    generalize adAt r' i = a' at d3 d4
    have hi' : i < r'.cur.length := by rw [hlen]; exact HI2.out
    obtain ⟨N', hN'⟩ : ∃ N, N = r'.cur.length := ⟨_, rfl⟩
    rw [← hN'] at d0 d1 hi'
    clear hN' hlen hst had hgg hr'
    simp only [Exit.then]
    go_at_K
    go_wp2
    go_ret
    exact ⟨r', by rw [HMB.out] <;> rfl, HFIN.out⟩
end Go.Proofs.Ytbmpoecmjmmngaa
