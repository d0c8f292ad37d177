/- The iterator of a gauge's read. -/
import Derived.Test.YtfoocifhifpbdaaRangeG
import Derived.Test.YtfoocifhifpbdaaEvB
import Derived.Shelf.Abstract
import Derived.WalkKit
import Derived.OwnWalkIn
import Derived.TacticsInMore
import Derived.LoopNIn
import Derived.LoopIn
import Derived.RegionIn
namespace Go.Proofs.Ytfoocifhifpbdaa
open Go.RowKit Go.Shelf
attribute [local go_sem] Oper.semAt_some

def readFrom (x : Gauge) : List Ev → List (Ev × Bool)
  | [] => []
  | e :: es => (e, (x.see e.time).2.1) :: readFrom (x.see e.time).1 es
def EncEv (p : Ev × Bool) (vs : Array Value) (n : Nat) (W : World) : Prop :=
  ∃ s, vs = #[.agg #[.int .i64 p.1.time, s], .bool p.2] ∧ tRow.rv ((mem W).on (n ≤ ·)) [s] p.1.row ∧ inI64 p.1.time

set_option maxRecDepth 100000 in
set_option maxHeartbeats 4000000 in
theorem read1_gives (xs : List Ev) (x0 : Gauge) (g bl bg : Nat) (v : Value) (w : World) (H : Nat → Prop) (S : Nat → Prop)
    (hbl : w.cell? ⟨bl, 0, none⟩ = some v) (hbg : w.cell? ⟨bg, 0, none⟩ = some (.pointer (some ⟨g, 0, none⟩))) (hv : tEvs.rv ((mem w).on S) [v] xs) (hx : GaugeAt w g x0)
    (hrow : ∀ x ∈ xs, x.row.length ≤ 8) (hSH : ∀ b, S b → ¬ H b ∧ b ≠ g ∧ b < w.heap.size) (hbl' : ¬ H bl ∧ bl ≠ g) (hbg' : ¬ H bg ∧ bg ≠ g) (hg' : ¬ H g) :
    GivesAll Try.prog 63 #[.pointer (some ⟨bl, 0, none⟩), .pointer (some ⟨bg, 0, none⟩)] EncEv (fun k => k = g) H (readFrom x0 xs) w := by
  intro l J W hW hJ hY h0
  have hbl1 : W.cell? ⟨bl, 0, none⟩ = some v := below_mem hW _ _ _ hbl
  have hbg1 : W.cell? ⟨bg, 0, none⟩ = some (.pointer (some ⟨g, 0, none⟩)) := below_mem hW _ _ _ hbg
  have hx1 : GaugeAt W g x0 := hx.keeps (hW.block g hx.lt)
  have hv1 : tEvs.rv ((mem W).on S) [v] xs := tEvs.mono _ _ _ _ (keeps_mem (below_keeps hW) (fun b hb => by have := (hSH b hb).2.2; omega)) hv
  clear hbl hbg hx hv
  obtain ⟨a, cap, rfl, hl, hm, hv⟩ := slice_form hv1
  have hcap : cap ≤ 9223372036854775807 := by unfold maxLen at hm; exact hm
  clear hm hv1
  have HY := Lib.hid hY
  have HJ := Lib.hid hJ
  have HS := Lib.hid hSH
  clear hY hJ hSH
  refine callsIn_of_wp Try.func63 rfl trivial ?_ rfl
  simp only [Try.ntmps63, List.size_toArray, List.length_cons, List.length_nil, Nat.reduceAdd, Nat.reduceSub, Array.replicate_succ, Array.replicate_zero, List.push_toArray, List.append_toArray, List.nil_append, List.cons_append]
  gi_wp2
  gi_loopw [10] (fun i wr => ∃ k : Nat, k ≤ xs.length ∧ i = .int .i64 k ∧ ∃ pre x, Hid (readFrom x0 xs = pre ++ readFrom x (xs.drop k)) ∧ J pre wr ∧ GaugeAt wr g x ∧ wr.cell? ⟨bl, 0, none⟩ = some (.slice a xs.length cap) ∧ wr.cell? ⟨bg, 0, none⟩ = some (.pointer (some ⟨g, 0, none⟩)) ∧ tEvs.rv ((mem wr).on S) [.slice a xs.length cap] xs ∧ w.heap.size ≤ wr.heap.size) (fun i _ => xs.length - (intOf i).toNat)
  case atStart => exact ⟨0, by omega, rfl, [], x0, Lib.hid rfl, h0, hx1, hbl1, hbg1, hv, hW.size⟩
  case round =>
    clear hx1 hbl1 hbg1 hv h0
    obtain ⟨k, hk, rfl, pre, x, HR, hJp, hx, hbl1, hbg1, hv, hsz⟩ := hrel
    by_cases hlt : k < xs.length
    · obtain ⟨b, o, rfl, hat⟩ := slice_at hv hlt
      obtain ⟨a2, cap2, c0, c1, i0, hr, hm2⟩ := ev_at hat
      have hSb := (Mem.of_on c0).1
      have c0 : wr.cell? ⟨b, o + k * 2, none⟩ = some (.int .i64 xs[k].time) := (Mem.of_on c0).2
      have c1 : wr.cell? ⟨b, o + k * 2 + 1, none⟩ = some (.slice a2 xs[k].row.length cap2) := (Mem.of_on c1).2
      have HV := Lib.hid hv
      have HR' := HR.out
      rw [List.drop_eq_getElem_cons hlt] at HR'
      have h8 := hrow xs[k] (List.getElem_mem hlt)
      have hm2' : cap2 ≤ 9223372036854775807 := by unfold maxLen at hm2; exact hm2
      have hrl := (slice_len hr).2.1
      have HRow := Lib.hid hr
      clear hat hv HR hm2 hr
      generalize xs[k] = ev at c0 c1 i0 HR' h8 HRow hrl
      obtain ⟨et, er⟩ := ev
      simp only [readFrom] at c0 c1 i0 HR' h8 HRow hrl
      have HR := Lib.hid HR'
      clear HR'
      have HJp := Lib.hid hJp
      clear hJp
      have hA : ∀ o, Below wr.heap.size wr (wr.alloc o) := fun o => (Below.refl _ _).alloc (Nat.le_refl _) o
      have HbgA := Lib.hid (fun o => (below_mem (hA o) _ _ _ hbg1 : (wr.alloc o).cell? ⟨bg, 0, none⟩ = some (.pointer (some ⟨g, 0, none⟩))))
      have HSee := Lib.hid (fun o => gsee_any g x et (wr.alloc o) (hx.keeps ((hA o).block g hx.lt)))
      have HCell := Lib.hid (fun o => (World.alloc_heap_new wr o : (wr.alloc o).heap[wr.heap.size]? = some o))
      have hbgA : (wr.alloc (.cells #[.int .i64 et, .slice a2 er.length cap2] 39)).cell? ⟨bg, 0, none⟩ = some (.pointer (some ⟨g, 0, none⟩)) := HbgA.out _
      generalize x.see et = r at HSee HR
      obtain ⟨x', late, er'⟩ := r
      gi_wp2
      refine ⟨trivial, rfl, ((callsIn_wide (n := 0)).2 (HSee.out _)).mono ?_⟩
      rintro e w3 ⟨rfl, hx3, hk3⟩
      generalize hWA : wr.alloc (.cells #[.int .i64 et, .slice a2 er.length cap2] 39) = wA at hk3 hbgA
      have hkA : Keeps (fun k => k = g) wr wA := by rw [← hWA]; exact (Keeps.refl _ _).alloc _
      have hkB : Keeps (fun k => k = g) wr w3 := hkA.trans hk3
      have hne : wr.heap.size ≠ g := by have := hx.lt; omega
      have hbk : w3.heap[wr.heap.size]? = some (.cells #[.int .i64 et, .slice a2 er.length cap2] 39) := by
        rw [hk3.block _ (by rw [← hWA]; simp) hne, ← hWA]; exact World.alloc_heap_new wr _
      have d0 : w3.cell? ⟨wr.heap.size, 0, none⟩ = some (.int .i64 et) := mem_cells hbk 0
      have d1 : w3.cell? ⟨wr.heap.size, 1, none⟩ = some (.slice a2 er.length cap2) := mem_cells hbk 1
      have hSg : ∀ b, S b → ¬ (b = g) := fun b hb e => (HS.out b hb).2.1 e
      have HV3 := Lib.hid (tEvs.mono _ _ _ _ (keeps_mem hkB hSg) HV.out : tEvs.rv ((mem w3).on S) [.slice (some ⟨b, o, none⟩) xs.length cap] xs)
      have HRow3 := Lib.hid (tRow.mono _ _ _ _ (Mem.le_trans (keeps_mem hkB hSg) (Mem.on_le _ _)) HRow.out : tRow.rv (mem w3) [.slice a2 er.length cap2] er)
      have hbl3 : w3.cell? ⟨bl, 0, none⟩ = some (.slice (some ⟨b, o, none⟩) xs.length cap) := (mem_of_block (hkB.block bl (mem_lt hbl1) hbl'.2) _).trans hbl1
      have hbg3 : w3.cell? ⟨bg, 0, none⟩ = some (.pointer (some ⟨g, 0, none⟩)) := (mem_of_block (hkB.block bg (mem_lt hbg1) hbg'.2) _).trans hbg1
      have HJ3 := Lib.hid (HJ.out _ _ _ HJp.out hkB)
      have hsz3 : w.heap.size ≤ w3.heap.size := Nat.le_trans hsz hkB.size
      have hlt3 : wr.heap.size < w3.heap.size := (Array.getElem?_eq_some_iff.1 hbk).1
      have HX3 := Lib.hid hx3
      have HCl := Lib.hid (fun (wq : World) (hb : Below w3.heap.size w3 wq) => cloneRow_any er _ wq (tRow.mono _ _ _ _ (below_mem hb) HRow3.out) (by omega))
      clear HV HRow hWA hkA hkB hk3 hbk HSee HCell HbgA hA hbgA HJp hbl1 hbg1 hx c0 c1 hx3 hsz
      gi_wp2
      refine wpIn_region_any (by kernel_rfl) ?_
      try (change wpAnyIn _ _ _ _ _ _ _ _ _ (World.drew _))
      refine wpAnyIn_take (i := 0) (v := .func (.yield l) #[] #[]) rfl rfl (by kernel_rfl) (by kernel_rfl) (by kernel_rfl) (fun _ _ _ h => h) ⟨Or.inl ⟨by kernel_rfl, fun w => by go_simp⟩, fun _ => rfl⟩ ?_
      simp only [Act.put, List.setIfInBounds_toArray, List.set_cons_succ, List.set_cons_zero]
      refine wpAnyIn_take (i := 1) (v := .pointer (some ⟨wr.heap.size, 0, none⟩)) rfl rfl (by kernel_rfl) (by kernel_rfl) (by kernel_rfl) (fun _ _ _ h => h) ⟨Or.inl ⟨by kernel_rfl, fun w => by go_simp⟩, fun _ => rfl⟩ ?_
      simp only [Act.put, List.setIfInBounds_toArray, List.set_cons_succ, List.set_cons_zero]
      refine wpAnyIn_take (i := 3) (v := .pointer (some ⟨wr.heap.size, 1, none⟩)) rfl rfl (by kernel_rfl) (by kernel_rfl) (by kernel_rfl) (fun _ _ _ h => h) ⟨Or.inl ⟨by kernel_rfl, fun w => by go_simp⟩, fun _ => rfl⟩ ?_
      simp only [Act.put, List.setIfInBounds_toArray, List.set_cons_succ, List.set_cons_zero]
      refine wpAnyIn_take (i := 7) (v := .bool late) rfl rfl (by kernel_rfl) (by kernel_rfl) (by kernel_rfl) (fun _ _ _ h => h) ⟨Or.inl ⟨by kernel_rfl, fun w => by go_simp⟩, fun _ => rfl⟩ ?_
      simp only [Act.put, List.setIfInBounds_toArray, List.set_cons_succ, List.set_cons_zero]
      refine wpAnyIn_ready (rs := [2, 4]) (by kernel_rfl) (by simp) ?_
      refine AllReadyIn.cons rfl (fun K hK => ?_) (AllReadyIn.cons rfl (fun K hK => ?_) AllReadyIn.nil)
      · go_simp
        refine hK _ _ ?_
        clear hK K
        refine wpAnyIn_ready (rs := [4]) (by kernel_rfl) (by simp) ?_
        refine AllReadyIn.cons rfl (fun K hK => ?_) AllReadyIn.nil
        go_simp
        refine hK _ _ ?_
        clear hK K
        refine wpAnyIn_ready (rs := [5]) (by kernel_rfl) (by simp) ?_
        refine AllReadyIn.cons rfl (fun K hK => ?_) AllReadyIn.nil
        go_simp
        refine ⟨trivial, rfl, ((callsIn_wide (n := 0)).2 (HCl.out _ (Below.refl _ _).drew)).mono ?_⟩
        rintro e w4 ⟨s, rfl, hown, hb4⟩
        obtain ⟨a4, cap4, rfl, hm4⟩ := hown.len
        have HE := Lib.hid (hown.rv (S := (w3.heap.size ≤ ·)) (fun _ h => h) (fun _ _ _ h => tVal_flat _ _ _ _ h) : tRow.rv ((mem w4).on (w3.heap.size ≤ ·)) [.slice a4 er.length cap4] er)
        have hb4' : Below w3.heap.size w3 w4 := (Below.refl _ _).drew.trans hb4
        have d04 : w4.cell? ⟨wr.heap.size, 0, none⟩ = some (.int .i64 et) := below_mem hb4' _ _ _ d0
        have hk4 : Keeps (fun k => k = g) w3 w4 := (below_keeps hb4').wide (fun k h1 h2 => by omega)
        clear hown hb4
        refine hK _ _ ?_
        clear hK K
        refine wpAnyIn_take (i := 6) (v := .agg #[.int .i64 et, .slice a4 er.length cap4]) rfl rfl (by kernel_rfl) (by kernel_rfl) (by kernel_rfl) (fun _ _ _ h => h) ⟨Or.inl ⟨by kernel_rfl, fun w => by go_simp⟩, fun _ => rfl⟩ ?_
        simp only [Act.put, List.setIfInBounds_toArray, List.set_cons_succ, List.set_cons_zero]
        obtain ⟨fn, tmps, assign, body, hy, hR⟩ := HY.out pre (⟨et, er⟩, late) (readFrom x' (xs.drop (k + 1))) w3 w4 #[.agg #[.int .i64 et, .slice a4 er.length cap4], .bool late] HR.out HJ3.out hk4 ⟨_, rfl, HE.out, i0⟩
        refine wpAnyIn_ready (rs := [8]) (by kernel_rfl) (by simp) ?_
        refine AllReadyIn.cons rfl (fun K hK => ?_) AllReadyIn.nil
        go_simp
        refine ⟨rfl, hR.mono ?_⟩
        rintro e w5 ⟨rfl, hJ5, hk5⟩
        have hkS : ∀ b, S b → ¬ H b := fun b hb => (HS.out b hb).1
        have hv5 : tEvs.rv ((mem w5).on S) [.slice (some ⟨b, o, none⟩) xs.length cap] xs := tEvs.mono _ _ _ _ (keeps_mem hk5 hkS) (tEvs.mono _ _ _ _ (keeps_mem hk4 hSg) HV3.out)
        have hbl5 : w5.cell? ⟨bl, 0, none⟩ = some (.slice (some ⟨b, o, none⟩) xs.length cap) := (mem_of_block (hk5.block bl (by have := mem_lt (below_mem hb4' _ _ _ hbl3); exact this) hbl'.1) _).trans (below_mem hb4' _ _ _ hbl3)
        have hbg5 : w5.cell? ⟨bg, 0, none⟩ = some (.pointer (some ⟨g, 0, none⟩)) := (mem_of_block (hk5.block bg (by have := mem_lt (below_mem hb4' _ _ _ hbg3); exact this) hbg'.1) _).trans (below_mem hb4' _ _ _ hbg3)
        have hx4 : GaugeAt w4 g x' := HX3.out.keeps (hb4'.block g HX3.out.lt)
        have hx5 : GaugeAt w5 g x' := hx4.keeps (hk5.block g hx4.lt hg')
        have hsz5 : w.heap.size ≤ w5.heap.size := by have := hk4.size; have := hk5.size; omega
        have HR5 := Lib.hid (show readFrom x0 xs = (pre ++ [(⟨et, er⟩, late)]) ++ readFrom x' (xs.drop (k + 1)) by rw [HR.out]; simp)
        have HJ5 := Lib.hid hJ5
        have HV5 := Lib.hid hv5
        clear HCl HRow3 HV3 HJ3 HX3 hv5 hJ5 d0 d1 d04 hbl3 hbg3 hy hR hk4 hk5 HE hb4' hx4
        refine hK _ _ ?_
        clear hK K
        refine wpAnyIn_ready (rs := [9]) (by kernel_rfl) (by simp) ?_
        refine AllReadyIn.cons rfl (fun K hK => ?_) AllReadyIn.nil
        go_simp
        refine hK _ _ ?_
        clear hK K
        refine wpAnyIn_done (by kernel_rfl) ?_ _
        gi_wp2
        go_roundw
        case rel => exact ⟨k + 1, by omega, by go_num, _, _, HR5, HJ5.out, hx5, hbl5, hbg5, HV5.out, hsz5⟩
        case measure => simp [intOf]; omega
      · go_simp
        refine hK _ _ ?_
        clear hK K
        refine wpAnyIn_ready (rs := [2, 5]) (by kernel_rfl) (by simp) ?_
        refine AllReadyIn.cons rfl (fun K hK => ?_) (AllReadyIn.cons rfl (fun K hK => ?_) AllReadyIn.nil)
        · go_simp
          refine hK _ _ ?_
          clear hK K
          refine wpAnyIn_ready (rs := [5]) (by kernel_rfl) (by simp) ?_
          refine AllReadyIn.cons rfl (fun K hK => ?_) AllReadyIn.nil
          go_simp
          refine ⟨trivial, rfl, ((callsIn_wide (n := 0)).2 (HCl.out _ (Below.refl _ _).drew)).mono ?_⟩
          rintro e w4 ⟨s, rfl, hown, hb4⟩
          obtain ⟨a4, cap4, rfl, hm4⟩ := hown.len
          have HE := Lib.hid (hown.rv (S := (w3.heap.size ≤ ·)) (fun _ h => h) (fun _ _ _ h => tVal_flat _ _ _ _ h) : tRow.rv ((mem w4).on (w3.heap.size ≤ ·)) [.slice a4 er.length cap4] er)
          have hb4' : Below w3.heap.size w3 w4 := (Below.refl _ _).drew.trans hb4
          have d04 : w4.cell? ⟨wr.heap.size, 0, none⟩ = some (.int .i64 et) := below_mem hb4' _ _ _ d0
          have hk4 : Keeps (fun k => k = g) w3 w4 := (below_keeps hb4').wide (fun k h1 h2 => by omega)
          clear hown hb4
          refine hK _ _ ?_
          clear hK K
          refine wpAnyIn_take (i := 6) (v := .agg #[.int .i64 et, .slice a4 er.length cap4]) rfl rfl (by kernel_rfl) (by kernel_rfl) (by kernel_rfl) (fun _ _ _ h => h) ⟨Or.inl ⟨by kernel_rfl, fun w => by go_simp⟩, fun _ => rfl⟩ ?_
          simp only [Act.put, List.setIfInBounds_toArray, List.set_cons_succ, List.set_cons_zero]
          obtain ⟨fn, tmps, assign, body, hy, hR⟩ := HY.out pre (⟨et, er⟩, late) (readFrom x' (xs.drop (k + 1))) w3 w4 #[.agg #[.int .i64 et, .slice a4 er.length cap4], .bool late] HR.out HJ3.out hk4 ⟨_, rfl, HE.out, i0⟩
          refine wpAnyIn_ready (rs := [8]) (by kernel_rfl) (by simp) ?_
          refine AllReadyIn.cons rfl (fun K hK => ?_) AllReadyIn.nil
          go_simp
          refine ⟨rfl, hR.mono ?_⟩
          rintro e w5 ⟨rfl, hJ5, hk5⟩
          have hkS : ∀ b, S b → ¬ H b := fun b hb => (HS.out b hb).1
          have hv5 : tEvs.rv ((mem w5).on S) [.slice (some ⟨b, o, none⟩) xs.length cap] xs := tEvs.mono _ _ _ _ (keeps_mem hk5 hkS) (tEvs.mono _ _ _ _ (keeps_mem hk4 hSg) HV3.out)
          have hbl5 : w5.cell? ⟨bl, 0, none⟩ = some (.slice (some ⟨b, o, none⟩) xs.length cap) := (mem_of_block (hk5.block bl (by have := mem_lt (below_mem hb4' _ _ _ hbl3); exact this) hbl'.1) _).trans (below_mem hb4' _ _ _ hbl3)
          have hbg5 : w5.cell? ⟨bg, 0, none⟩ = some (.pointer (some ⟨g, 0, none⟩)) := (mem_of_block (hk5.block bg (by have := mem_lt (below_mem hb4' _ _ _ hbg3); exact this) hbg'.1) _).trans (below_mem hb4' _ _ _ hbg3)
          have hx4 : GaugeAt w4 g x' := HX3.out.keeps (hb4'.block g HX3.out.lt)
          have hx5 : GaugeAt w5 g x' := hx4.keeps (hk5.block g hx4.lt hg')
          have hsz5 : w.heap.size ≤ w5.heap.size := by have := hk4.size; have := hk5.size; omega
          have HR5 := Lib.hid (show readFrom x0 xs = (pre ++ [(⟨et, er⟩, late)]) ++ readFrom x' (xs.drop (k + 1)) by rw [HR.out]; simp)
          have HJ5 := Lib.hid hJ5
          have HV5 := Lib.hid hv5
          clear HCl HRow3 HV3 HJ3 HX3 hv5 hJ5 d0 d1 d04 hbl3 hbg3 hy hR hk4 hk5 HE hb4' hx4
          refine hK _ _ ?_
          clear hK K
          refine wpAnyIn_ready (rs := [9]) (by kernel_rfl) (by simp) ?_
          refine AllReadyIn.cons rfl (fun K hK => ?_) AllReadyIn.nil
          go_simp
          refine hK _ _ ?_
          clear hK K
          refine wpAnyIn_done (by kernel_rfl) ?_ _
          gi_wp2
          go_roundw
          case rel => exact ⟨k + 1, by omega, by go_num, _, _, HR5, HJ5.out, hx5, hbl5, hbg5, HV5.out, hsz5⟩
          case measure => simp [intOf]; omega
        · go_simp
          refine ⟨trivial, rfl, ((callsIn_wide (n := 0)).2 (HCl.out _ (Below.refl _ _).drew)).mono ?_⟩
          rintro e w4 ⟨s, rfl, hown, hb4⟩
          obtain ⟨a4, cap4, rfl, hm4⟩ := hown.len
          have HE := Lib.hid (hown.rv (S := (w3.heap.size ≤ ·)) (fun _ h => h) (fun _ _ _ h => tVal_flat _ _ _ _ h) : tRow.rv ((mem w4).on (w3.heap.size ≤ ·)) [.slice a4 er.length cap4] er)
          have hb4' : Below w3.heap.size w3 w4 := (Below.refl _ _).drew.trans hb4
          have d04 : w4.cell? ⟨wr.heap.size, 0, none⟩ = some (.int .i64 et) := below_mem hb4' _ _ _ d0
          have hk4 : Keeps (fun k => k = g) w3 w4 := (below_keeps hb4').wide (fun k h1 h2 => by omega)
          clear hown hb4
          refine hK _ _ ?_
          clear hK K
          refine wpAnyIn_ready (rs := [2]) (by kernel_rfl) (by simp) ?_
          refine AllReadyIn.cons rfl (fun K hK => ?_) AllReadyIn.nil
          go_simp
          refine hK _ _ ?_
          clear hK K
          refine wpAnyIn_take (i := 6) (v := .agg #[.int .i64 et, .slice a4 er.length cap4]) rfl rfl (by kernel_rfl) (by kernel_rfl) (by kernel_rfl) (fun _ _ _ h => h) ⟨Or.inl ⟨by kernel_rfl, fun w => by go_simp⟩, fun _ => rfl⟩ ?_
          simp only [Act.put, List.setIfInBounds_toArray, List.set_cons_succ, List.set_cons_zero]
          obtain ⟨fn, tmps, assign, body, hy, hR⟩ := HY.out pre (⟨et, er⟩, late) (readFrom x' (xs.drop (k + 1))) w3 w4 #[.agg #[.int .i64 et, .slice a4 er.length cap4], .bool late] HR.out HJ3.out hk4 ⟨_, rfl, HE.out, i0⟩
          refine wpAnyIn_ready (rs := [8]) (by kernel_rfl) (by simp) ?_
          refine AllReadyIn.cons rfl (fun K hK => ?_) AllReadyIn.nil
          go_simp
          refine ⟨rfl, hR.mono ?_⟩
          rintro e w5 ⟨rfl, hJ5, hk5⟩
          have hkS : ∀ b, S b → ¬ H b := fun b hb => (HS.out b hb).1
          have hv5 : tEvs.rv ((mem w5).on S) [.slice (some ⟨b, o, none⟩) xs.length cap] xs := tEvs.mono _ _ _ _ (keeps_mem hk5 hkS) (tEvs.mono _ _ _ _ (keeps_mem hk4 hSg) HV3.out)
          have hbl5 : w5.cell? ⟨bl, 0, none⟩ = some (.slice (some ⟨b, o, none⟩) xs.length cap) := (mem_of_block (hk5.block bl (by have := mem_lt (below_mem hb4' _ _ _ hbl3); exact this) hbl'.1) _).trans (below_mem hb4' _ _ _ hbl3)
          have hbg5 : w5.cell? ⟨bg, 0, none⟩ = some (.pointer (some ⟨g, 0, none⟩)) := (mem_of_block (hk5.block bg (by have := mem_lt (below_mem hb4' _ _ _ hbg3); exact this) hbg'.1) _).trans (below_mem hb4' _ _ _ hbg3)
          have hx4 : GaugeAt w4 g x' := HX3.out.keeps (hb4'.block g HX3.out.lt)
          have hx5 : GaugeAt w5 g x' := hx4.keeps (hk5.block g hx4.lt hg')
          have hsz5 : w.heap.size ≤ w5.heap.size := by have := hk4.size; have := hk5.size; omega
          have HR5 := Lib.hid (show readFrom x0 xs = (pre ++ [(⟨et, er⟩, late)]) ++ readFrom x' (xs.drop (k + 1)) by rw [HR.out]; simp)
          have HJ5 := Lib.hid hJ5
          have HV5 := Lib.hid hv5
          clear HCl HRow3 HV3 HJ3 HX3 hv5 hJ5 d0 d1 d04 hbl3 hbg3 hy hR hk4 hk5 HE hb4' hx4
          refine hK _ _ ?_
          clear hK K
          refine wpAnyIn_ready (rs := [9]) (by kernel_rfl) (by simp) ?_
          refine AllReadyIn.cons rfl (fun K hK => ?_) AllReadyIn.nil
          go_simp
          refine hK _ _ ?_
          clear hK K
          refine wpAnyIn_done (by kernel_rfl) ?_ _
          gi_wp2
          go_roundw
          case rel => exact ⟨k + 1, by omega, by go_num, _, _, HR5, HJ5.out, hx5, hbl5, hbg5, HV5.out, hsz5⟩
          case measure => simp [intOf]; omega
    · obtain rfl : k = xs.length := by omega
      have HRe := HR.out
      rw [List.drop_length] at HRe
      have hfin : J (readFrom x0 xs) wr := by rw [HRe]; simpa [readFrom] using hJp
      clear HR HRe
      gi_wp2
      go_end0
      exact ⟨⟨_, rfl⟩, hfin⟩
end Go.Proofs.Ytfoocifhifpbdaa
