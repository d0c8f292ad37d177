/- The statement HeapRestoresSaid: for every input the law HeapRestores returns true and leaves its arguments as they were. -/
import Derived.Deep.RegionHeld3
import Derived.BigQuiet
import Derived.Test.YtbmpoecmjmmngaaGreatHr07
set_option linter.unusedVariables false
set_option linter.unusedSimpArgs false
/- HeapRuns: the walk. -/
namespace Go.Proofs.YtbmpoecmjmmngaaGreat
open Go.RowKit Go.Maps

theorem many_len {l : List HAct} (h : manyOf l = false) : l.length ≤ 60 := by
  unfold manyOf at h
  rw [Bool.or_eq_false_iff] at h
  have := h.2
  simp at this
  exact this
theorem box_after {p R : Nat} {M M5 : Mem} {o wr w5 : World} {h h5 : HS} (hb : ¬ mutB p h wr.heap.size ∧ (∀ x, M wr.heap.size x = none) ∧ R ≠ wr.heap.size ∧ o.heap.size ≤ wr.heap.size)
    (hx : ¬ mutB p h wr.heap.size → w5.heap[wr.heap.size]? = (wr.alloc rsZ).drew.heap[wr.heap.size]? ∧ ¬ mutB p h5 wr.heap.size ∧ ((∀ x, M wr.heap.size x = none) → ∀ x, M5 wr.heap.size x = none)) :
    ¬ mutB p h5 wr.heap.size ∧ (∀ x, M5 wr.heap.size x = none) ∧ w5.heap[wr.heap.size]? = some rsZ := by
  obtain ⟨h1, h2, h3⟩ := hx hb.1
  exact ⟨h2, h3 hb.2.1, h1.trans (heap_alloc_new wr rsZ)⟩
set_option maxRecDepth 100000 in
set_option maxHeartbeats 16000000 in
theorem heapRuns_any (n : Int) (l1 : List HAct) (v1 : Value) (w : World) (hn : inI64 n) (h1 : tActs.rv (mem w) [v1] l1) :
    Calls Tryz.prog 4 #[.int .i64 n, v1] w fun e w' => e = .returned (.bool true) ∧ Below w.heap.size w w' := by
  obtain ⟨a1, k1, rfl, hl1, hm1, -⟩ := slice_form h1
  have hk1 : k1 ≤ 9223372036854775807 := by unfold maxLen at hm1; exact hm1
  have HV1 := Lib.hid (fun wr (hb : Below w.heap.size w wr) => (show tActs.rv (mem wr) [.slice a1 l1.length k1] l1 from tActs.mono _ _ _ _ (below_mem hb) h1))
  have H1 := Lib.hid h1
  clear h1 hm1
  go_enter Tryz.func4, Tryz.ntmps4
  go_wp2_with fail
  refine (awake_any _).mono ?_
  rintro e w1 ⟨rfl, hb⟩
  have HB1 := Lib.hid hb
  clear hb
  go_wp2_with fail
  refine (many_any l1 _ _ (HV1.out _ HB1.out)).mono ?_
  rintro e w3 ⟨rfl, hb⟩
  have HB3 := Lib.hid (pure_trans HB1.out hb)
  clear hb HB1
  cases hq1 : manyOf l1
  case true =>
    go_wp2
    go_ret
    exact ⟨rfl, HB3.out⟩
  have hle1 := many_len hq1
  clear hq1
  by_cases hr : 1 ≤ n ∧ n ≤ 128
  case neg =>
    have HNR := Lib.hid (show n < 1 ∨ 128 < n by omega)
    have HRN := Lib.hid (fun (wr : World) => refNew_any n wr)
    rw [if_neg hr, if_neg hr] at HRN
    clear hr
    go_wp2_with fail
    refine (new_bad n _ HNR.out).mono ?_
    rintro e w4 ⟨rfl, hb⟩
    have HB4 := Lib.hid (pure_trans HB3.out hb)
    clear hb HB3
    go_wp2_with fail
    refine (HRN.out _).mono ?_
    rintro e w5 ⟨rfl, hb⟩
    have HB5 := Lib.hid (pure_trans HB4.out hb)
    clear hb HB4
    go_wp2
    go_ret
    exact ⟨rfl, HB5.out.alloc HB5.out.size _⟩
  obtain ⟨m, rfl⟩ := Int.eq_ofNat_of_zero_le (show 0 ≤ n by omega)
  have HRN := Lib.hid (fun (wr : World) => refNew_any (m : Int) wr)
  rw [if_pos hr, if_pos hr] at HRN
  have hm1 : 1 ≤ m := by omega
  have hm2 : m ≤ 128 := by omega
  clear hr
  go_wp2_with fail
  refine (new_any m _ hm1 hm2).mono ?_
  rintro e w4 ⟨rfl, h, hI, hvw, hnn0, hb⟩
  have HI4 := Lib.hid hI
  have HVW := Lib.hid hvw
  have HNN0 := Lib.hid hnn0
  have HB4 := Lib.hid (pure_trans HB3.out hb)
  have HWB := Lib.hid HB3.out.size
  clear hb HB3 hI hvw hnn0
  generalize w3.heap.size = base at *
  generalize base + 1 = p at *
  go_wp2_with fail
  refine (HRN.out _).mono ?_
  rintro e w5 ⟨rfl, hb⟩
  have HBX := Lib.hid (hb.alloc hb.size (.cells #[.int .i64 m, .int .i64 1, .slice none 0 0, .slice none 0 0] 43))
  have HIX := Lib.hid (HI4.out.pure HBX.out)
  have HRX := Lib.hid (heap_alloc_new w5 (.cells #[.int .i64 m, .int .i64 1, .slice none 0 0, .slice none 0 0] 43))
  have HS5 := Lib.hid hb.size
  clear hb
  go_wp2_with fail
  generalize w5.alloc (.cells #[.int .i64 m, .int .i64 1, .slice none 0 0, .slice none 0 0] 43) = X at *
  have HNM := Lib.hid (fun (k : Nat) (e : mutB p h k) => (show k < w5.heap.size from Nat.lt_of_lt_of_le (HI4.out.cells_kind k e) HS5.out))
  generalize w5.heap.size = R at *
  have HBo := Lib.hid (show Below w.heap.size w X from HB4.out.trans (HBX.out.mono HB4.out.size))
  have HL0 := Lib.hid (show HLaw base p 0 ((safe X p h).on (· ≠ R)) R w X h ⟨m, 1, [], []⟩ #[.int .i64 (⟨m, 1, [], []⟩ : RS).N, .int .i64 (⟨m, 1, [], []⟩ : RS).next, .slice none (⟨m, 1, [], []⟩ : RS).es.length 0, .slice none (⟨m, 1, [], []⟩ : RS).sn.length 0] from
    ⟨HIX.out, Mem.le_refl _, by rw [HVW.out]; exact Rel.new m, hm1, hm2, by rw [HNN0.out]; exact Nat.le_refl _, by have e : h.last = 0 := congrArg PS.last HVW.out; omega, HRX.out, rs_noptr, fun e => Nat.lt_irrefl _ (HNM.out R e), HBo.out, HWB.out, Nat.le_trans (Nat.le_trans HB4.out.size HS5.out) (Nat.le_refl _)⟩)
  have HR0 := Lib.hid (show RsAt ((safe X p h).on (· ≠ R)) ⟨m, 1, [], []⟩ (.slice none 0 0) (.slice none 0 0) from ⟨by show m ≤ 1000; omega, by unfold inI64; simp, slice_nil _ _, slice_nil _ _⟩)
  have HW0 := Lib.hid (show (mem w).le ((safe X p h).on (· ≠ R)) from fun b x v e => by
    have hlt := mem_lt e
    refine Mem.on_some (Mem.on_some (below_mem HBo.out _ _ _ e) (fun hm => ?_)) (fun e => ?_)
    · have := HIX.out.ge b hm; have := HWB.out; omega
    · have := HB4.out.size; have := HS5.out; omega)
  have HA0 := Lib.hid (show tActs.rv ((safe X p h).on (· ≠ R)) [.slice a1 l1.length k1] l1 from tActs.mono _ _ _ _ HW0.out H1.out)
  clear HV1 H1 HI4 HVW HNN0 HB4 HWB HBX HIX HRX HS5 HNM HBo HW0 HRN
  have HST := Lib.hid (show ∃ (k : Nat) (M : Mem) (h : HS) (r : RS) (aa : Option Addr) (ca : Nat) (aq : Option Addr) (cq : Nat), k ≤ l1.length ∧ Value.int .i64 0 = .int .i64 k ∧ Hid (HLaw base p k M R w X h r #[.int .i64 r.N, .int .i64 r.next, .slice aa r.es.length ca, .slice aq r.sn.length cq]) ∧ Hid (RsAt M r (.slice aa r.es.length ca) (.slice aq r.sn.length cq)) ∧ Hid (tActs.rv M [.slice a1 l1.length k1] l1) from
    ⟨0, _, h, ⟨m, 1, [], []⟩, none, 0, none, 0, Nat.zero_le _, rfl, HL0, HR0, HA0⟩)
  clear HL0 HR0 HA0
  go_loopw [9] (fun iv wr => ∃ (k : Nat) (M : Mem) (h : HS) (r : RS) (aa : Option Addr) (ca : Nat) (aq : Option Addr) (cq : Nat), k ≤ l1.length ∧ iv = .int .i64 k ∧ Hid (HLaw base p k M R w wr h r #[.int .i64 r.N, .int .i64 r.next, .slice aa r.es.length ca, .slice aq r.sn.length cq]) ∧ Hid (RsAt M r (.slice aa r.es.length ca) (.slice aq r.sn.length cq)) ∧ Hid (tActs.rv M [.slice a1 l1.length k1] l1)) (fun iv _ => l1.length - (intOf iv).toNat)
  case atStart => exact HST.out
  case round =>
    clear HST
    obtain ⟨k, M, h, r, aa, ca, aq, cq, hk, rfl, HL, HRA, HA⟩ := hrel
    by_cases hlt : k < l1.length
    · obtain ⟨b, o, rfl, hat, hok⟩ := acts_at HA.out hlt
      have d0 : wr.cell? ⟨b, o + k * 6, none⟩ = some (.int .u8 l1[k].k) := HL.out.le _ _ _ (hat 0 _ rfl)
      have d1 : wr.cell? ⟨b, o + k * 6 + 1, none⟩ = some (.int .i64 l1[k].g) := HL.out.le _ _ _ (hat 1 _ rfl)
      have d2 : wr.cell? ⟨b, o + k * 6 + 2, none⟩ = some (.int .i64 l1[k].n) := HL.out.le _ _ _ (hat 2 _ rfl)
      have d3 : wr.cell? ⟨b, o + k * 6 + 3, none⟩ = some (.string l1[k].nm) := HL.out.le _ _ _ (hat 3 _ rfl)
      have d4 : wr.cell? ⟨b, o + k * 6 + 4, none⟩ = some (.string l1[k].key) := HL.out.le _ _ _ (hat 4 _ rfl)
      have d5 : wr.cell? ⟨b, o + k * 6 + 5, none⟩ = some (.string l1[k].val) := HL.out.le _ _ _ (hat 5 _ rfl)
      clear hat
      generalize l1[k] = x at *
      obtain ⟨xk, xg, xn, nm, key, val⟩ := x
      simp only at d0 d1 d2 d3 d4 d5
      have HBX := Lib.hid HL.out.box
      have HLA := Lib.hid (HL.out.pure0 (Below.refl wr.heap.size wr).drew)
      have HLB := Lib.hid (HL.out.pure0 ((box_below wr rsZ).drew))
      have HDA := Lib.hid (does_any base p k M wr.drew h r _ _ ⟨xk, xg, xn, nm, key, val⟩ (HLA.out.run HRA.out) hok (by omega))
      have HDB := Lib.hid (does_any base p k M (wr.alloc rsZ).drew h r _ _ ⟨xk, xg, xn, nm, key, val⟩ (HLB.out.run HRA.out) hok (by omega))
      have c0 : wr.cell? ⟨R, 0, none⟩ = some (.int .i64 r.N) := mem_cells HL.out.hR 0
      have c1 : wr.cell? ⟨R, 1, none⟩ = some (.int .i64 r.next) := mem_cells HL.out.hR 1
      have c2 : wr.cell? ⟨R, 2, none⟩ = some (.slice aa r.es.length ca) := mem_cells HL.out.hR 2
      have c3 : wr.cell? ⟨R, 3, none⟩ = some (.slice aq r.sn.length cq) := mem_cells HL.out.hR 3
      have c0' : (wr.alloc rsZ).cell? ⟨R, 0, none⟩ = some (.int .i64 r.N) := mem_cells HLB.out.hR 0
      have c1' : (wr.alloc rsZ).cell? ⟨R, 1, none⟩ = some (.int .i64 r.next) := mem_cells HLB.out.hR 1
      have c2' : (wr.alloc rsZ).cell? ⟨R, 2, none⟩ = some (.slice aa r.es.length ca) := mem_cells HLB.out.hR 2
      have c3' : (wr.alloc rsZ).cell? ⟨R, 3, none⟩ = some (.slice aq r.sn.length cq) := mem_cells HLB.out.hR 3
      have d0' : (wr.alloc rsZ).cell? ⟨b, o + k * 6, none⟩ = some (.int .u8 xk) := below_mem (box_below wr rsZ) _ _ _ d0
      have d1' : (wr.alloc rsZ).cell? ⟨b, o + k * 6 + 1, none⟩ = some (.int .i64 xg) := below_mem (box_below wr rsZ) _ _ _ d1
      have d2' : (wr.alloc rsZ).cell? ⟨b, o + k * 6 + 2, none⟩ = some (.int .i64 xn) := below_mem (box_below wr rsZ) _ _ _ d2
      have d3' : (wr.alloc rsZ).cell? ⟨b, o + k * 6 + 3, none⟩ = some (.string nm) := below_mem (box_below wr rsZ) _ _ _ d3
      have d4' : (wr.alloc rsZ).cell? ⟨b, o + k * 6 + 4, none⟩ = some (.string key) := below_mem (box_below wr rsZ) _ _ _ d4
      have d5' : (wr.alloc rsZ).cell? ⟨b, o + k * 6 + 5, none⟩ = some (.string val) := below_mem (box_below wr rsZ) _ _ _ d5
      go_wp2_with fail
      go_region_law (go_simp; go_at_call 19; first
        | (refine HDA.out.mono ?_; rintro e w5 hd; obtain ⟨h5, r5, a5, q5, M5, rfl, hl5, hr5, hm5, -, -⟩ := HLA.out.after2 hd; obtain ⟨a6, k6, rfl, -, -, -⟩ := slice_form hr5.ha; obtain ⟨a7, k7, rfl, -, -, -⟩ := slice_form hr5.hq; have HR5 := Lib.hid hr5; have HM5 := Lib.hid hm5; have HLA5 := Lib.hid hl5; clear hd hl5 hr5 hm5)
        | (refine HDB.out.mono ?_; rintro e w5 hd; obtain ⟨h5, r5, a5, q5, M5, rfl, hl5, hr5, hm5, -, hx5⟩ := HLB.out.after2 hd; obtain ⟨a6, k6, rfl, -, -, -⟩ := slice_form hr5.ha; obtain ⟨a7, k7, rfl, -, -, -⟩ := slice_form hr5.hq; have HR5 := Lib.hid hr5; have HM5 := Lib.hid hm5; have HLB5 := Lib.hid hl5; have HNX := Lib.hid (box_after HBX.out (hx5 wr.heap.size (by simp))); have x0 : w5.cell? ⟨wr.heap.size, 0, none⟩ = some (.int .i64 0) := mem_cells HNX.out.2.2 0; have x1 : w5.cell? ⟨wr.heap.size, 1, none⟩ = some (.int .i64 0) := mem_cells HNX.out.2.2 1; have x2 : w5.cell? ⟨wr.heap.size, 2, none⟩ = some (.slice none 0 0) := mem_cells HNX.out.2.2 2; have x3 : w5.cell? ⟨wr.heap.size, 3, none⟩ = some (.slice none 0 0) := mem_cells HNX.out.2.2 3; have y0 : w5.frozen? ⟨wr.heap.size, 0, none⟩ = false := frozen_cells HNX.out.2.2 0; have y1 : w5.frozen? ⟨wr.heap.size, 1, none⟩ = false := frozen_cells HNX.out.2.2 1; have y2 : w5.frozen? ⟨wr.heap.size, 2, none⟩ = false := frozen_cells HNX.out.2.2 2; have y3 : w5.frozen? ⟨wr.heap.size, 3, none⟩ = false := frozen_cells HNX.out.2.2 3; clear hd hl5 hr5 hm5 hx5))
      all_goals
        first
          | (have HY := Lib.hid (HLA5.out.pure0 (box_below w5 (.cells #[.int .i64 r5.N, .int .i64 r5.next, .slice a6 r5.es.length k6, .slice a7 r5.sn.length k7] 43)))
             have HNB := Lib.hid (heap_alloc_new w5 (.cells #[.int .i64 r5.N, .int .i64 r5.next, .slice a6 r5.es.length k6, .slice a7 r5.sn.length k7] 43))
             generalize w5.alloc (.cells #[.int .i64 r5.N, .int .i64 r5.next, .slice a6 r5.es.length k6, .slice a7 r5.sn.length k7] 43) = Y at *
             generalize w5.heap.size = nb at *
             have n0 : Y.cell? ⟨nb, 0, none⟩ = some (.int .i64 r5.N) := mem_cells HNB.out 0
             have n1 : Y.cell? ⟨nb, 1, none⟩ = some (.int .i64 r5.next) := mem_cells HNB.out 1
             have n2 : Y.cell? ⟨nb, 2, none⟩ = some (.slice a6 r5.es.length k6) := mem_cells HNB.out 2
             have n3 : Y.cell? ⟨nb, 3, none⟩ = some (.slice a7 r5.sn.length k7) := mem_cells HNB.out 3
             go_wp2_with fail
             refine (same_any base p (k + 1) M5 Y h5 r5 _ _ (HY.out.run HR5.out) (by omega)).mono ?_
             rintro e w6 ⟨rfl, hb6⟩
             have HY6 := Lib.hid (HY.out.pure0 hb6)
             have HNB6 := Lib.hid ((hb6.block nb (Array.getElem?_eq_some_iff.1 HNB.out).1).trans HNB.out)
             clear hb6 n0 n1 n2 n3
             have n0 : w6.cell? ⟨nb, 0, none⟩ = some (.int .i64 r5.N) := mem_cells HNB6.out 0
             have n1 : w6.cell? ⟨nb, 1, none⟩ = some (.int .i64 r5.next) := mem_cells HNB6.out 1
             have n2 : w6.cell? ⟨nb, 2, none⟩ = some (.slice a6 r5.es.length k6) := mem_cells HNB6.out 2
             have n3 : w6.cell? ⟨nb, 3, none⟩ = some (.slice a7 r5.sn.length k7) := mem_cells HNB6.out 3
             have e0 : w6.cell? ⟨R, 0, none⟩ = some (.int .i64 r.N) := mem_cells HY6.out.hR 0
             have e1 : w6.cell? ⟨R, 1, none⟩ = some (.int .i64 r.next) := mem_cells HY6.out.hR 1
             have e2 : w6.cell? ⟨R, 2, none⟩ = some (.slice aa r.es.length ca) := mem_cells HY6.out.hR 2
             have e3 : w6.cell? ⟨R, 3, none⟩ = some (.slice aq r.sn.length cq) := mem_cells HY6.out.hR 3
             have z0 := frozen_cells HY6.out.hR 0
             have z1 := frozen_cells HY6.out.hR 1
             have z2 := frozen_cells HY6.out.hR 2
             have z3 := frozen_cells HY6.out.hR 3
             have HL7 := Lib.hid (HY6.out.store (store4_keeps w6 R (.int .i64 r5.N) (.int .i64 r5.next) (.slice a6 r5.es.length k6) (.slice a7 r5.sn.length k7)) (store4_block HY6.out.hR (.int .i64 r5.N) (.int .i64 r5.next) (.slice a6 r5.es.length k6) (.slice a7 r5.sn.length k7)) rs_noptr)
             go_wp2
             go_roundw
             case rel => exact ⟨k + 1, M5, h5, r5, a6, k6, a7, k7, by omega, by go_num, HL7, HR5, Lib.hid (tActs.mono _ _ _ _ HM5.out HA.out)⟩
             case measure => simp [intOf]; omega)
          | (have HY := Lib.hid (HLB5.out.store2 (store4_keeps w5 wr.heap.size (.int .i64 r5.N) (.int .i64 r5.next) (.slice a6 r5.es.length k6) (.slice a7 r5.sn.length k7)) HNX.out.1 HNX.out.2.1 (fun j x e => rs_noptr (N := 0) (nx := 0) (aa := none) (aq := none) (n := 0) (k := 0) (ca := 0) (cq := 0) j x ((mem_cells HNX.out.2.2 j).symm.trans e)) HBX.out.2.2.1 HBX.out.2.2.2)
             have HNB := Lib.hid (store4_block HNX.out.2.2 (.int .i64 r5.N) (.int .i64 r5.next) (.slice a6 r5.es.length k6) (.slice a7 r5.sn.length k7))
             unfold store4 at HY HNB
             generalize ((((w5.setCell ⟨wr.heap.size, 0, none⟩ (.int .i64 r5.N)).setCell ⟨wr.heap.size, 1, none⟩ (.int .i64 r5.next)).setCell ⟨wr.heap.size, 2, none⟩ (.slice a6 r5.es.length k6)).setCell ⟨wr.heap.size, 3, none⟩ (.slice a7 r5.sn.length k7)) = Y at *
             generalize wr.heap.size = nb at *
             have n0 : Y.cell? ⟨nb, 0, none⟩ = some (.int .i64 r5.N) := mem_cells HNB.out 0
             have n1 : Y.cell? ⟨nb, 1, none⟩ = some (.int .i64 r5.next) := mem_cells HNB.out 1
             have n2 : Y.cell? ⟨nb, 2, none⟩ = some (.slice a6 r5.es.length k6) := mem_cells HNB.out 2
             have n3 : Y.cell? ⟨nb, 3, none⟩ = some (.slice a7 r5.sn.length k7) := mem_cells HNB.out 3
             go_wp2_with fail
             refine (same_any base p (k + 1) M5 Y h5 r5 _ _ (HY.out.run HR5.out) (by omega)).mono ?_
             rintro e w6 ⟨rfl, hb6⟩
             have HY6 := Lib.hid (HY.out.pure0 hb6)
             have HNB6 := Lib.hid ((hb6.block nb (Array.getElem?_eq_some_iff.1 HNB.out).1).trans HNB.out)
             clear hb6 n0 n1 n2 n3
             have n0 : w6.cell? ⟨nb, 0, none⟩ = some (.int .i64 r5.N) := mem_cells HNB6.out 0
             have n1 : w6.cell? ⟨nb, 1, none⟩ = some (.int .i64 r5.next) := mem_cells HNB6.out 1
             have n2 : w6.cell? ⟨nb, 2, none⟩ = some (.slice a6 r5.es.length k6) := mem_cells HNB6.out 2
             have n3 : w6.cell? ⟨nb, 3, none⟩ = some (.slice a7 r5.sn.length k7) := mem_cells HNB6.out 3
             have e0 : w6.cell? ⟨R, 0, none⟩ = some (.int .i64 r.N) := mem_cells HY6.out.hR 0
             have e1 : w6.cell? ⟨R, 1, none⟩ = some (.int .i64 r.next) := mem_cells HY6.out.hR 1
             have e2 : w6.cell? ⟨R, 2, none⟩ = some (.slice aa r.es.length ca) := mem_cells HY6.out.hR 2
             have e3 : w6.cell? ⟨R, 3, none⟩ = some (.slice aq r.sn.length cq) := mem_cells HY6.out.hR 3
             have z0 := frozen_cells HY6.out.hR 0
             have z1 := frozen_cells HY6.out.hR 1
             have z2 := frozen_cells HY6.out.hR 2
             have z3 := frozen_cells HY6.out.hR 3
             have HL7 := Lib.hid (HY6.out.store (store4_keeps w6 R (.int .i64 r5.N) (.int .i64 r5.next) (.slice a6 r5.es.length k6) (.slice a7 r5.sn.length k7)) (store4_block HY6.out.hR (.int .i64 r5.N) (.int .i64 r5.next) (.slice a6 r5.es.length k6) (.slice a7 r5.sn.length k7)) rs_noptr)
             go_wp2
             go_roundw
             case rel => exact ⟨k + 1, M5, h5, r5, a6, k6, a7, k7, by omega, by go_num, HL7, HR5, Lib.hid (tActs.mono _ _ _ _ HM5.out HA.out)⟩
             case measure => simp [intOf]; omega)
    · obtain rfl : k = l1.length := by omega
      have HE := Lib.hid HL.out.bl
      go_wp2
      go_ret
      exact ⟨rfl, HE.out⟩
end Go.Proofs.YtbmpoecmjmmngaaGreat
/- The reference's SortedEntries (insertion sort): plain. -/
namespace Go.Proofs.YtbmpoecmjmmngaaGreat
open Go.RowKit Go.Maps

theorem entC_good : Good entC := lex_good (cmpInt_good.pull (fun a : Ent => a.g)) (lex_good (cmpBytes_good.pull (fun a : Ent => a.nm.toList)) (lex_good (cmpBytes_good.pull (fun a : Ent => a.key.toList)) (cmpBytes_good.pull (fun a : Ent => a.val.toList))))
def swapE (ys : List Ent) (j : Nat) : List Ent := (ys.set j (ys.getD (j + 1) default)).set (j + 1) (ys.getD j default)
theorem swapE_len (ys : List Ent) (j : Nat) : (swapE ys j).length = ys.length := by simp [swapE]
theorem swapE_perm {ys : List Ent} {j : Nat} (h : j + 1 < ys.length) : (swapE ys j).Perm ys := by
  have := List.set_set_perm (i := j) (j := j + 1) (show j < ys.length by omega) h
  unfold swapE
  rw [show ys.getD (j + 1) default = ys[j + 1] by simp [List.getD, h], show ys.getD j default = ys[j] by simp [List.getD, show j < ys.length by omega]]
  exact this
theorem swapE_get {ys : List Ent} {j : Nat} (h : j + 1 < ys.length) (k : Nat) : (swapE ys j).getD k default = if k = j then ys.getD (j + 1) default else if k = j + 1 then ys.getD j default else ys.getD k default := by
  unfold swapE
  simp only [List.getD_eq_getElem?_getD, List.getElem?_set]
  by_cases h1 : k = j + 1
  · subst h1; simp [h]
  · by_cases h2 : k = j
    · subst h2; simp [show ¬ k + 1 = k by omega]; simp [show k < ys.length by omega]
    · simp [Ne.symm h1, Ne.symm h2, h1, h2]
/-- In order up to i, but for the place j. -/
def ButE (ys : List Ent) (i j : Nat) : Prop := ∀ a b, a < b → b ≤ i → b ≠ j → entC (ys.getD a default) (ys.getD b default) ≤ 0
def ToE (ys : List Ent) (k : Nat) : Prop := ∀ a b, a < b → b < k → entC (ys.getD a default) (ys.getD b default) ≤ 0
theorem ToE.but {ys : List Ent} {k : Nat} (h : ToE ys k) : ButE ys k k := fun a b h1 h2 h3 => h a b h1 (by omega)
theorem ButE.swap {ys : List Ent} {i j : Nat} (h : ButE ys i (j + 1)) (hj : j + 1 ≤ i) (hi : i < ys.length) (hlt : 0 < entC (ys.getD j default) (ys.getD (j + 1) default)) : ButE (swapE ys j) i j := fun a b h1 h2 h3 => by
  rw [swapE_get (by omega), swapE_get (by omega), if_neg h3]
  by_cases hb : b = j + 1
  · rw [if_pos hb]
    by_cases ha : a = j
    · rw [if_pos ha]; have := entC_good.anti (ys.getD j default) (ys.getD (j + 1) default); omega
    · rw [if_neg ha, if_neg (by omega)]
      exact h a j (by omega) (by omega) (by omega)
  · rw [if_neg hb]
    by_cases ha : a = j
    · rw [if_pos ha]; exact h (j + 1) b (by omega) h2 hb
    · rw [if_neg ha]
      by_cases ha2 : a = j + 1
      · rw [if_pos ha2]; exact h j b (by omega) h2 hb
      · rw [if_neg ha2]; exact h a b h1 h2 hb
theorem ButE.done {ys : List Ent} {i j : Nat} (h : ButE ys i (j + 1)) (hj : j + 1 ≤ i) (hle : entC (ys.getD j default) (ys.getD (j + 1) default) ≤ 0) : ToE ys (i + 1) := fun a b h1 h2 => by
  by_cases hb : b = j + 1
  · subst hb
    by_cases ha : a = j
    · subst ha; exact hle
    · exact (entC_good.trans _ _ _ (h a j (by omega) (by omega) (by omega)) hle).1
  · exact h a b h1 (by omega) hb
theorem ButE.zero {ys : List Ent} {i : Nat} (h : ButE ys i 0) : ToE ys (i + 1) := fun a b h1 h2 => h a b h1 (by omega) (by omega)
theorem ToE.pairwise {ys : List Ent} {k : Nat} (h : ToE ys k) (hk : ys.length ≤ k) : ys.Pairwise (fun a b => entC a b ≤ 0) := by
  refine List.pairwise_iff_getElem.2 fun a b ha hb hab => ?_
  have := h a b hab (by omega)
  simpa [List.getD, ha, hb] using this
/-- A block's entries. -/
structure EntsC (W : World) (g o : Nat) (ys : List Ent) : Prop where
  cell : ∀ k (h : k < ys.length), W.cell? ⟨g, o + k * 4, none⟩ = some (.int .i64 ys[k].g) ∧ W.cell? ⟨g, o + k * 4 + 1, none⟩ = some (.string ys[k].nm) ∧ W.cell? ⟨g, o + k * 4 + 2, none⟩ = some (.string ys[k].key) ∧ W.cell? ⟨g, o + k * 4 + 3, none⟩ = some (.string ys[k].val)
  free : ∀ j, W.frozen? ⟨g, j, none⟩ = false
  ok : ∀ y ∈ ys, y.okE
def set4 (W : World) (g o : Nat) (x : Ent) : World := (((W.setCell ⟨g, o, none⟩ (.int .i64 x.g)).setCell ⟨g, o + 1, none⟩ (.string x.nm)).setCell ⟨g, o + 2, none⟩ (.string x.key)).setCell ⟨g, o + 3, none⟩ (.string x.val)
theorem set4_other {W : World} {g o : Nat} {x : Ent} {j : Nat} (h : j < o ∨ o + 4 ≤ j) : (set4 W g o x).cell? ⟨g, j, none⟩ = W.cell? ⟨g, j, none⟩ := by
  unfold set4
  rw [World.cell?_setCell_other _ _ _ _ (by intro e; injection e with e1 e2 e3; omega), World.cell?_setCell_other _ _ _ _ (by intro e; injection e with e1 e2 e3; omega), World.cell?_setCell_other _ _ _ _ (by intro e; injection e with e1 e2 e3; omega), World.cell?_setCell_other _ _ _ _ (by intro e; injection e with e1 e2 e3; omega)]
theorem set4_same {W : World} {g o : Nat} {x : Ent} {u0 u1 u2 u3 : Value} (h0 : W.cell? ⟨g, o, none⟩ = some u0) (h1 : W.cell? ⟨g, o + 1, none⟩ = some u1) (h2 : W.cell? ⟨g, o + 2, none⟩ = some u2) (h3 : W.cell? ⟨g, o + 3, none⟩ = some u3) :
    (set4 W g o x).cell? ⟨g, o, none⟩ = some (.int .i64 x.g) ∧ (set4 W g o x).cell? ⟨g, o + 1, none⟩ = some (.string x.nm) ∧ (set4 W g o x).cell? ⟨g, o + 2, none⟩ = some (.string x.key) ∧ (set4 W g o x).cell? ⟨g, o + 3, none⟩ = some (.string x.val) := by
  have n01 : ∀ (w : World) (i j : Nat) (v : Value), i ≠ j → (w.setCell ⟨g, o + i, none⟩ v).cell? ⟨g, o + j, none⟩ = w.cell? ⟨g, o + j, none⟩ := fun w i j v hij => World.cell?_setCell_other _ _ _ _ (by intro e; injection e with e1 e2 e3; omega)
  unfold set4
  refine ⟨?_, ?_, ?_, ?_⟩
  · have a3 := fun w v => n01 w 3 0 v (by decide)
    have a2 := fun w v => n01 w 2 0 v (by decide)
    have a1 := fun w v => n01 w 1 0 v (by decide)
    simp only [Nat.add_zero] at a1 a2 a3
    rw [a3, a2, a1, World.cell?_setCell_same _ _ _ h0]
  · rw [n01 _ 3 1 _ (by decide), n01 _ 2 1 _ (by decide)]
    refine World.cell?_setCell_same _ _ _ (u := u1) ?_
    have a0 := n01 W 0 1 (.int .i64 x.g) (by decide)
    simp only [Nat.add_zero] at a0
    rw [a0]; exact h1
  · rw [n01 _ 3 2 _ (by decide)]
    refine World.cell?_setCell_same _ _ _ (u := u2) ?_
    have a0 := n01 W 0 2 (.int .i64 x.g) (by decide)
    simp only [Nat.add_zero] at a0
    rw [n01 _ 1 2 _ (by decide), a0]; exact h2
  · refine World.cell?_setCell_same _ _ _ (u := u3) ?_
    have a0 := n01 W 0 3 (.int .i64 x.g) (by decide)
    simp only [Nat.add_zero] at a0
    rw [n01 _ 2 3 _ (by decide), n01 _ 1 3 _ (by decide), a0]; exact h3
theorem EntsC.set {W : World} {g o : Nat} {ys : List Ent} (h : EntsC W g o ys) {k : Nat} (hk : k < ys.length) {x : Ent} (hx : x.okE) : EntsC (set4 W g (o + k * 4) x) g o (ys.set k x) := by
  refine ⟨fun j hj0 => ?_, fun j => ?_, fun z hz => ?_⟩
  · have hj : j < ys.length := by simpa using hj0
    by_cases e : j = k
    · subst e
      obtain ⟨h0, h1, h2, h3⟩ := h.cell j hj
      rw [List.getElem_set_self]
      exact set4_same h0 h1 h2 h3
    · obtain ⟨h0, h1, h2, h3⟩ := h.cell j hj
      have hne : j * 4 + 4 ≤ k * 4 ∨ k * 4 + 4 ≤ j * 4 := by omega
      rw [List.getElem_set_ne (Ne.symm e)]
      rw [set4_other (by omega), set4_other (by omega), set4_other (by omega), set4_other (by omega)]
      exact ⟨h0, h1, h2, h3⟩
  · unfold set4
    rw [World.frozen?_setCell, World.frozen?_setCell, World.frozen?_setCell, World.frozen?_setCell]
    exact h.free j
  · rcases List.mem_or_eq_of_mem_set hz with e | e
    · exact h.ok z e
    · rw [e]; exact hx
theorem EntsC.below {W W' : World} {g o : Nat} {ys : List Ent} (h : EntsC W g o ys) (hg : g < W.heap.size) (hb : Below W.heap.size W W') : EntsC W' g o ys := by
  have hc : ∀ j, W'.cell? ⟨g, j, none⟩ = W.cell? ⟨g, j, none⟩ := fun j => mem_of_block (hb.block g hg) j
  refine ⟨fun k hk => ?_, fun j => ?_, h.ok⟩
  · rw [hc, hc, hc, hc]; exact h.cell k hk
  · have := h.free j
    unfold World.frozen? at this ⊢
    rw [hb.block g hg]; exact this
theorem set4_keeps (W : World) (g o : Nat) (x : Ent) : Keeps (· = g) W (set4 W g o x) := by
  unfold set4
  exact ((((Keeps.refl (· = g) W).setCell (p := ⟨g, o, none⟩) (fun _ => rfl) _).setCell (p := ⟨g, o + 1, none⟩) (fun _ => rfl) _).setCell (p := ⟨g, o + 2, none⟩) (fun _ => rfl) _).setCell (p := ⟨g, o + 3, none⟩) (fun _ => rfl) _
end Go.Proofs.YtbmpoecmjmmngaaGreat
/- The reference's SortedEntries: the walk. -/
namespace Go.Proofs.YtbmpoecmjmmngaaGreat
open Go.RowKit Go.Maps

theorem Owns.entsC {w : World} {B : Nat} {v : Value} {xs : List Ent} (h : Owns tEnt w B 34 v xs) : (xs = [] ∧ v = .slice none 0 0) ∨ ∃ g o c, v = .slice (some ⟨g, o, none⟩) xs.length c ∧ xs.length ≤ c ∧ c ≤ maxLen ∧ B ≤ g ∧ g < w.heap.size ∧ EntsC w g o xs := by
  have hrv := h.rv'
  obtain ⟨css, _, ⟨_, h3⟩, _, _⟩ := h
  rcases h3 with ⟨rfl, h6⟩ | ⟨g, cap, cur, rfl, hg, hh, hn, hm, hc, ht⟩
  · exact .inl ⟨List.eq_nil_of_length_eq_zero h6, rfl⟩
  · have hat : ∀ k (hk : k < xs.length), (∀ j v, xs[k].cs[j]? = some v → mem w g (0 + k * 4 + j) = some v) ∧ xs[k].okE := fun k hk => by
      obtain ⟨b, o, e, hat, hok⟩ := ents_at hrv hk
      simp only [Option.some.injEq, Addr.mk.injEq] at e
      obtain ⟨rfl, rfl, _⟩ := e
      exact ⟨hat, hok⟩
    refine .inr ⟨g, 0, cap, rfl, hn, hm, hg, (Array.getElem?_eq_some_iff.1 hh).1, ⟨fun k hk => ⟨(hat k hk).1 0 _ rfl, (hat k hk).1 1 _ rfl, (hat k hk).1 2 _ rfl, (hat k hk).1 3 _ rfl⟩, fun j => frozen_cells hh _, fun y hy => ?_⟩⟩
    obtain ⟨k, hk, rfl⟩ := List.mem_iff_getElem.1 hy
    exact (hat k hk).2
theorem EntsC.rv {w : World} {g o c B : Nat} {ys : List Ent} (h : EntsC w g o ys) (h1 : ys.length ≤ c) (h2 : c ≤ maxLen) (hg : B ≤ g) : tEnts.rv ((mem w).on (B ≤ ·)) [.slice (some ⟨g, o, none⟩) ys.length c] ys :=
  ⟨some ⟨g, o, none⟩, c, rfl, h1, h2, fun _ => ⟨g, o, rfl, fun k hk => ⟨ys[k].cs, fun j u hu => by
    obtain ⟨h0, h1, h2, h3⟩ := h.cell k hk
    refine Mem.on_some ?_ hg
    show mem w g (o + k * 4 + j) = some u
    match j, hu with
    | 0, hu => simp at hu; subst hu; exact h0
    | 1, hu => simp at hu; subst hu; exact h1
    | 2, hu => simp at hu; subst hu; exact h2
    | 3, hu => simp at hu; subst hu; exact h3, rfl, h.ok _ (List.getElem_mem hk)⟩⟩⟩
theorem srt_keeps (w5 : World) (g o p : Nat) (x y : Ent) : Keeps (· = g) w5 (set4 (set4 w5 g o y) g p x) := (set4_keeps w5 g o y).trans (set4_keeps _ g p x)
theorem srt_swap0 {w w5 w7 : World} {g o : Nat} {zs : List Ent} (kk : Keeps (· = g) w5 w7) (hg5 : g < w5.heap.size) (HB : Below w.heap.size w w5) (hg : w.heap.size ≤ g) (HS : EntsC w7 g o zs) :
    EntsC w7.drew g o zs ∧ Below w.heap.size w w7.drew ∧ w5.heap.size ≤ w7.drew.heap.size := by
  have hz := kk.size
  refine ⟨HS.below (Nat.lt_of_lt_of_le hg5 hz) (Below.refl _ _).drew, (Keeps.belowStep HB kk (fun k hk => ?_) HB.size).drew, hz⟩
  exact Nat.le_trans hg (Nat.le_of_eq hk.symm)
theorem srt_swap {w w5 w8 : World} {g o : Nat} {zs : List Ent} {x y : Ent} {j : Nat} (e8 : (set4 (set4 w5 g (o + j * 4) y) g (o + (j + 1) * 4) x).drew = w8) (hg5 : g < w5.heap.size) (HB : Below w.heap.size w w5) (hg : w.heap.size ≤ g)
    (HS : EntsC (set4 (set4 w5 g (o + j * 4) y) g (o + (j + 1) * 4) x) g o (swapE zs j)) :
    EntsC w8 g o (swapE zs j) ∧ Below w.heap.size w w8 ∧ w5.heap.size ≤ w8.heap.size := by
  have kk := srt_keeps w5 g (o + j * 4) (o + (j + 1) * 4) x y
  generalize set4 (set4 w5 g (o + j * 4) y) g (o + (j + 1) * 4) x = w7 at kk HS e8
  rw [← e8]
  exact srt_swap0 kk hg5 HB hg HS
set_option maxRecDepth 100000 in
set_option maxHeartbeats 8000000 in
theorem sortEnts_any (xs : List Ent) (v : Value) (w : World) (hv : tEnts.rv (mem w) [v] xs) (h8 : xs.length ≤ 100000) :
    Calls Tryz.prog 15 #[v] w fun e w' => ∃ x S, e = .returned x ∧ tEnts.rv ((mem w').on (w.heap.size ≤ ·)) [x] S ∧ S.Perm xs ∧ S.Pairwise (fun a b => entC a b ≤ 0) ∧ Below w.heap.size w w' := by
  have hb0 : ∀ o, Below w.heap.size w (w.alloc o) := fun o => (Below.refl _ _).alloc (Nat.le_refl _) o
  have hown : ∀ T, T = 34 → Owns tEnt (w.alloc (.cells #[] T)) w.heap.size 34 (.slice (some ⟨w.heap.size, 0, none⟩) 0 0) [] := fun T hT => by
    subst hT
    exact ⟨[], rfl, World.ownsRow_lit w #[] 0 (Nat.le_refl _) (Nat.zero_le _) (by simp), fun c h => absurd h (by simp), fun k h => absurd h (by simp)⟩
  obtain ⟨a1, cap1, rfl, hl1, hm1, hv⟩ := slice_form hv
  have HV := Lib.hid (fun o => (tEnts.mono _ _ _ _ (below_mem (hb0 o)) hv : tEnts.rv (mem (w.alloc o)) _ xs))
  clear hm1 hv
  go_enter Tryz.func15, Tryz.ntmps15
  go_wp2_with (at_builtin; refine wpList_append_flat rfl _ _ 22 rfl tEnt_flat tEnt_one Tryz.underlying22 infoEnt rfl (by decide) w.heap.size _ [] xs rfl (hown _ rfl) _ _ _ rfl rfl (HV.out _) ?c1 ?c2 ?c3 ?_)
  case c1 => simp; unfold maxLen; omega
  case c2 => simp; omega
  case c3 => simp
  intro v' w2 hown' hgrow
  have HB := Lib.hid (show Below w.heap.size w w2 from (hb0 _).grown hgrow (by simp) (fun k hk => by simp [Value.ownBlock] at hk; omega))
  clear hown hgrow HV
  rcases hown'.entsC with ⟨rfl, rfl⟩ | ⟨g, o, c, rfl, hlc, hcm, hg, hgw, hints⟩
  · clear hown'
    go_wp2
    go_loopw [4] (fun i wr => i = .int .i64 1 ∧ wr = w2) (fun _ _ => 0)
    case atStart => exact ⟨rfl, rfl⟩
    case round =>
      obtain ⟨rfl, rfl⟩ := hrel
      go_wp2
      go_ret
      exact ⟨_, [], rfl, slice_nil _ _, List.Perm.refl _, List.Pairwise.nil, HB.out⟩
  · clear hown'
    have hcm2 : c ≤ 9223372036854775807 := by unfold maxLen at hcm; exact hcm
    have HM := Lib.hid hcm
    have HI0 := Lib.hid hints
    clear hcm hints
    go_wp2
    go_loopw [4] (fun i wr => ∃ k : Nat, 1 ≤ k ∧ (k ≤ xs.length ∨ k = 1) ∧ i = .int .i64 k ∧ ∃ ys, Hid (EntsC wr g o ys) ∧ ys.length = xs.length ∧ Hid (ys.Perm xs) ∧ Hid (ToE ys k) ∧ Hid (Below w.heap.size w wr) ∧ w2.heap.size ≤ wr.heap.size) (fun i _ => xs.length - (intOf i).toNat)
    case atStart => exact ⟨1, by omega, .inr rfl, rfl, xs, HI0, rfl, Lib.hid (List.Perm.refl _), Lib.hid (fun a b h1 h2 => by omega), HB, Nat.le_refl _⟩
    case round =>
      clear HI0 HB
      obtain ⟨k, hk1, hk, rfl, ys, HI, hly, HP, HS, HB, hsz⟩ := hrel
      by_cases hlt : k < xs.length
      · go_wp2
        go_loopw [5] (fun i wx => ∃ j : Nat, j ≤ k ∧ i = .int .i64 j ∧ ∃ zs, Hid (EntsC wx g o zs) ∧ zs.length = xs.length ∧ Hid (zs.Perm xs) ∧ Hid (ButE zs k j) ∧ Hid (Below w.heap.size w wx) ∧ w2.heap.size ≤ wx.heap.size) (fun i _ => (intOf i).toNat)
        case atStart => exact ⟨k, by omega, rfl, ys, HI, hly, HP, Lib.hid HS.out.but, HB, hsz⟩
        case round =>
          clear HI HP HS HB hly hsz
          obtain ⟨j, hj, rfl, zs, HI, hlz, HP, HS, HB, hsz⟩ := hrel
          have hgr : g < wr.heap.size := by omega
          cases j with
          | zero =>
            go_wp2_with fail
            go_quiet (fail)
            all_goals
              have hbq : ∀ n, Below wr.heap.size wr (wr.drewN n) := fun n => ⟨rfl, rfl, rfl, Nat.le_refl _, fun _ _ => rfl⟩
              go_wp2
              go_roundw
              case rel => exact ⟨k + 1, by omega, .inl (by omega), by go_num, zs, Lib.hid (HI.out.below hgr (hbq _)), hlz, HP, Lib.hid HS.out.zero, Lib.hid (HB.out.trans ((hbq _).mono HB.out.size)), hsz⟩
              case measure => simp [intOf]; omega
          | succ j =>
            have hjl : j < zs.length := by omega
            have hjl2 : j + 1 < zs.length := by omega
            have HC1 := Lib.hid (fun (w' : World) (h : EntsC w' g o zs) => h.cell j hjl)
            have HC2 := Lib.hid (fun (w' : World) (h : EntsC w' g o zs) => h.cell (j + 1) hjl2)
            have HE1 := Lib.hid (show zs.getD j default = zs[j] by simp [List.getD, hjl])
            have HE2 := Lib.hid (show zs.getD (j + 1) default = zs[j + 1] by simp [List.getD, hjl2])
            have HO1 := Lib.hid (HI.out.ok _ (List.getElem_mem hjl))
            have HO2 := Lib.hid (HI.out.ok _ (List.getElem_mem hjl2))
            have HSET := Lib.hid (fun (w' : World) (h : EntsC w' g o zs) => (show EntsC (set4 (set4 w' g (o + j * 4) zs[j + 1]) g (o + (j + 1) * 4) zs[j]) g o (swapE zs j) from by
              unfold swapE
              rw [HE1.out, HE2.out]
              exact (h.set hjl HO2.out).set (by rw [List.length_set]; exact hjl2) HO1.out))
            have HSW := Lib.hid (fun (h : 0 < entC zs[j] zs[j + 1]) => (show ButE (swapE zs j) k j from HS.out.swap (by omega) (by omega) (by rw [HE1.out, HE2.out]; exact h)))
            have HDN := Lib.hid (fun (h : entC zs[j] zs[j + 1] ≤ 0) => (show ToE zs (k + 1) from HS.out.done (by omega) (by rw [HE1.out, HE2.out]; exact h)))
            have HCM := Lib.hid (fun w' => refCmp_any zs[j] zs[j + 1] w')
            have hrng := entC_good.range zs[j] zs[j + 1]
            clear HE1 HE2
            generalize hcc : entC zs[j] zs[j + 1] = cc at *
            clear hcc
            generalize zs[j + 1] = y at *
            generalize zs[j] = x at *
            obtain ⟨xg, x1, x2, x3⟩ := x
            obtain ⟨yg, y1, y2, y3⟩ := y
            have HSS := Lib.hid (fun (w' : World) (h : EntsC w' g o zs) => (show w'.cell? ⟨g, o + j * 4, none⟩ = some (.int .i64 xg) ∧ w'.cell? ⟨g, o + j * 4 + 1, none⟩ = some (.string x1) ∧ w'.cell? ⟨g, o + j * 4 + 2, none⟩ = some (.string x2) ∧ w'.cell? ⟨g, o + j * 4 + 3, none⟩ = some (.string x3) ∧ w'.cell? ⟨g, o + (j + 1) * 4, none⟩ = some (.int .i64 yg) ∧ w'.cell? ⟨g, o + (j + 1) * 4 + 1, none⟩ = some (.string y1) ∧ w'.cell? ⟨g, o + (j + 1) * 4 + 2, none⟩ = some (.string y2) ∧ w'.cell? ⟨g, o + (j + 1) * 4 + 3, none⟩ = some (.string y3) from
              ⟨(HC1.out w' h).1, (HC1.out w' h).2.1, (HC1.out w' h).2.2.1, (HC1.out w' h).2.2.2, (HC2.out w' h).1, (HC2.out w' h).2.1, (HC2.out w' h).2.2.1, (HC2.out w' h).2.2.2⟩))
            have hI0 := HI.out.below hgr (Below.refl wr.heap.size wr).drew
            have hsub : ((j + 1 : Nat) : Int) - 1 = (j : Int) := by omega
            have hwr : IntKind.i64.wrap (((j + 1 : Nat) : Int) - 1) = (j : Int) := by rw [hsub]; exact IntWalk.i64_in _ (by omega)
            have hj0 : (0 : Int) ≤ (j : Int) := by omega
            have hj1 : (j : Int) < (xs.length : Int) := by omega
            have hj2 : (0 : Int) ≤ (j : Int) + 1 := by omega
            have hj3 : (j : Int) + 1 < (xs.length : Int) := by omega
            have hs2 : (j : Int) + 1 - 1 = (j : Int) := by omega
            have hw2' : IntKind.i64.wrap ((j : Int) + 1 - 1) = (j : Int) := by rw [hs2]; exact IntWalk.i64_in _ (by omega)
            have hw3 : IntKind.i64.wrap (j : Int) = (j : Int) := IntWalk.i64_in _ (by omega)
            clear HC1 HC2
            go_wp2_with fail
            go_region_held3 (fun w' => w'.cell? ⟨g, o + j * 4, none⟩ = some (.int .i64 xg) ∧ w'.cell? ⟨g, o + j * 4 + 1, none⟩ = some (.string x1) ∧ w'.cell? ⟨g, o + j * 4 + 2, none⟩ = some (.string x2) ∧ w'.cell? ⟨g, o + j * 4 + 3, none⟩ = some (.string x3) ∧ w'.cell? ⟨g, o + (j + 1) * 4, none⟩ = some (.int .i64 yg) ∧ w'.cell? ⟨g, o + (j + 1) * 4 + 1, none⟩ = some (.string y1) ∧ w'.cell? ⟨g, o + (j + 1) * 4 + 2, none⟩ = some (.string y2) ∧ w'.cell? ⟨g, o + (j + 1) * 4 + 3, none⟩ = some (.string y3))
              (first | with_reducible exact HSS.out _ hI0 | with_reducible exact HSS.out _ hI5)
              ((first
                | (go_at_call 37; refine (HCM.out _).mono ?_; rintro e w5 ⟨rfl, hb5⟩; have hb55 := pure_trans (Below.refl wr.heap.size wr).drew hb5; have hI5 := HI.out.below hgr hb55; have HI5 := Lib.hid hI5; have HB5 := Lib.hid (HB.out.trans (hb55.mono HB.out.size)); have hz5 := hb55.size; clear hb5 hb55)))
            all_goals
              obtain ⟨c0, c1, c2, c3, c4, c5, c6, c7⟩ := HSS.out _ HI5.out
              have f0 : w5.frozen? ⟨g, o + j * 4, none⟩ = false := HI5.out.free _
              have f1 : w5.frozen? ⟨g, o + j * 4 + 1, none⟩ = false := HI5.out.free _
              have f2 : w5.frozen? ⟨g, o + j * 4 + 2, none⟩ = false := HI5.out.free _
              have f3 : w5.frozen? ⟨g, o + j * 4 + 3, none⟩ = false := HI5.out.free _
              have f4 : w5.frozen? ⟨g, o + (j + 1) * 4, none⟩ = false := HI5.out.free _
              have f5 : w5.frozen? ⟨g, o + (j + 1) * 4 + 1, none⟩ = false := HI5.out.free _
              have f6 : w5.frozen? ⟨g, o + (j + 1) * 4 + 2, none⟩ = false := HI5.out.free _
              have f7 : w5.frozen? ⟨g, o + (j + 1) * 4 + 3, none⟩ = false := HI5.out.free _
              have HZ := Lib.hid (show w2.heap.size ≤ w5.heap.size by omega)
              have hgw5 : g < w5.heap.size := by omega
              by_cases hc : 0 < cc
              · have HCC := Lib.hid hc
                clear hrng hsub hwr HDN
                go_upto_region 8 with fail
                go_region
                all_goals
                  generalize hW8 : ((((((((w5.setCell ⟨g, o + j * 4, none⟩ (.int .i64 yg)).setCell ⟨g, o + j * 4 + 1, none⟩ (.string y1)).setCell ⟨g, o + j * 4 + 2, none⟩ (.string y2)).setCell ⟨g, o + j * 4 + 3, none⟩ (.string y3)).setCell ⟨g, o + (j + 1) * 4, none⟩ (.int .i64 xg)).setCell ⟨g, o + (j + 1) * 4 + 1, none⟩ (.string x1)).setCell ⟨g, o + (j + 1) * 4 + 2, none⟩ (.string x2)).setCell ⟨g, o + (j + 1) * 4 + 3, none⟩ (.string x3)).drew = w8
                  have e8 : (set4 (set4 w5 g (o + j * 4) ⟨yg, y1, y2, y3⟩) g (o + (j + 1) * 4) ⟨xg, x1, x2, x3⟩).drew = w8 := hW8
                  have hF : EntsC w8 g o (swapE zs j) ∧ Below w.heap.size w w8 ∧ w2.heap.size ≤ w8.heap.size := by
                    have hq := srt_swap (x := ⟨xg, x1, x2, x3⟩) (y := ⟨yg, y1, y2, y3⟩) e8 hgw5 HB5.out hg (HSET.out w5 HI5.out)
                    exact ⟨hq.1, hq.2.1, Nat.le_trans HZ.out hq.2.2⟩
                  have HF := Lib.hid hF
                  have HBU := Lib.hid (HSW.out HCC.out)
                  have HPE := Lib.hid ((swapE_perm (ys := zs) (j := j) (by omega)).trans HP.out)
                  clear hF e8 hW8 HSET HSW c0 c1 c2 c3 c4 c5 c6 c7 f0 f1 f2 f3 f4 f5 f6 f7 hI5 hI0 HSS
                  go_wp2
                  go_roundw
                  case rel => exact ⟨j, by omega, by go_num, swapE zs j, Lib.hid HF.out.1, by rw [swapE_len]; exact hlz, HPE, HBU, Lib.hid HF.out.2.1, HF.out.2.2⟩
                  case measure => simp [intOf]
              · have HTE := Lib.hid (HDN.out (by omega))
                clear HSET HSW HDN
                go_wp2
                go_roundw
                case rel => exact ⟨k + 1, by omega, .inl (by omega), by go_num, zs, HI5, hlz, HP, HTE, HB5, HZ.out⟩
                case measure => simp [intOf]; omega
      · have hR := (HI.out.rv (c := c) (B := w.heap.size) (by omega) HM.out hg)
        rw [hly] at hR
        have HR := Lib.hid hR
        clear hR
        go_wp2
        go_ret
        exact ⟨_, ys, rfl, HR.out, HP.out, HS.out.pairwise (by omega), HB.out⟩
end Go.Proofs.YtbmpoecmjmmngaaGreat
/- The reference's ValidEntry and Twice. -/
namespace Go.Proofs.YtbmpoecmjmmngaaGreat
open Go.RowKit Go.Maps

set_option maxHeartbeats 4000000 in
theorem refValid_any (x : Ent) (w : World) (hok : x.okE) :
    Calls Tryz.prog 80 #[x.v] w fun e w' => e = .returned (.bool (validE x)) ∧ Below w.heap.size w w' := by
  obtain ⟨g, nm, key, val⟩ := x
  obtain ⟨s0, s1, s2, s3⟩ := hok
  have HB0 := Lib.hid (fun o => (show Below w.heap.size w (w.alloc o) from (Below.refl _ _).alloc (Nat.le_refl _) o))
  have HV := Lib.hid (show validE ⟨g, nm, key, val⟩ = (decide (0 ≤ g ∧ g < 128) && (isName nm && (!big key && !big val))) from rfl)
  have HN := Lib.hid (fun w => refName_any nm w s1)
  have hk1 : (key.size : Int) ≤ 9223372036854775807 := by have s2' : key.size ≤ maxLen := s2; unfold maxLen at s2'; omega
  have hv1 : (val.size : Int) ≤ 9223372036854775807 := by have s3' : val.size ≤ maxLen := s3; unfold maxLen at s3'; omega
  have HK := Lib.hid (show big key = decide (65536 < key.size) from rfl)
  have HL := Lib.hid (show big val = decide (65536 < val.size) from rfl)
  generalize validE ⟨g, nm, key, val⟩ = r at *
  clear s1 s2 s3
  by_cases h0 : 0 ≤ g
  case neg =>
    have HR := Lib.hid (show r = false by rw [HV.out, decide_eq_false (by omega)]; rfl)
    clear HK HL HV
    go_enter Tryz.func80, Tryz.ntmps80
    go_wp2
    go_ret
    exact ⟨by rw [HR.out] <;> rfl, HB0.out _⟩
  by_cases h1 : g < 128
  case neg =>
    have HR := Lib.hid (show r = false by rw [HV.out, decide_eq_false (by omega)]; rfl)
    clear HK HL HV
    go_enter Tryz.func80, Tryz.ntmps80
    go_wp2
    go_ret
    exact ⟨by rw [HR.out] <;> rfl, HB0.out _⟩
  have HV2 := Lib.hid (show r = (isName nm && (!big key && !big val)) by rw [HV.out, decide_eq_true ⟨h0, h1⟩]; rfl)
  clear HV
  generalize isName nm = b1 at *
  go_enter Tryz.func80, Tryz.ntmps80
  go_wp2_with fail
  refine (HN.out _).mono ?_
  rintro e w1 ⟨rfl, rfl⟩
  cases b1 with
  | false =>
    have HR := Lib.hid (show r = false by rw [HV2.out]; rfl)
    clear HK HL HV2
    go_wp2
    go_ret
    exact ⟨by rw [HR.out] <;> rfl, HB0.out _⟩
  | true =>
  by_cases h2 : (key.size : Int) ≤ 65536
  case neg =>
    have HR := Lib.hid (show r = false by rw [HV2.out, HK.out, decide_eq_true (by omega)]; rfl)
    clear HK HL HV2
    go_wp2
    go_ret
    exact ⟨by rw [HR.out] <;> rfl, HB0.out _⟩
  by_cases h3 : (val.size : Int) ≤ 65536
  case neg =>
    have HR := Lib.hid (show r = false by rw [HV2.out, HK.out, decide_eq_false (by omega), HL.out, decide_eq_true (by omega)]; rfl)
    clear HK HL HV2
    go_wp2
    go_ret
    exact ⟨by rw [HR.out] <;> simp [show ¬ (val.size : Int) ≤ 65536 by omega] <;> omega, HB0.out _⟩
  have HR := Lib.hid (show r = true by rw [HV2.out, HK.out, decide_eq_false (by omega), HL.out, decide_eq_false (by omega)]; rfl)
  clear HK HL HV2
  go_wp2
  go_ret
  exact ⟨by rw [HR.out] <;> rfl, HB0.out _⟩
end Go.Proofs.YtbmpoecmjmmngaaGreat
/- The reference's Twice. -/
namespace Go.Proofs.YtbmpoecmjmmngaaGreat
open Go.RowKit Go.Maps

/-- Two that stand side by side, of one place. -/
def Beside (l : List Ent) : Prop := ∃ k, k + 1 < l.length ∧ (l.getD k default).pl = (l.getD (k + 1) default).pl
set_option maxRecDepth 100000 in
set_option maxHeartbeats 8000000 in
theorem refTwice_any (l : List Ent) (v : Value) (w : World) (hv : tEnts.rv (mem w) [v] l) (h8 : l.length ≤ 100000) :
    Calls Tryz.prog 81 #[v] w fun e w' => ∃ b : Bool, e = .returned (.bool b) ∧ (b = true ↔ Beside l) ∧ Below w.heap.size w w' := by
  obtain ⟨a, cap, rfl, hlc, hm, hv⟩ := slice_form hv
  have hcap : cap ≤ 9223372036854775807 := by unfold maxLen at hm; exact hm
  clear hm
  go_enter Tryz.func81, Tryz.ntmps81
  go_wp2
  go_loopw [3] (fun i wr => ∃ k : Nat, (k + 1 ≤ l.length ∨ k = 0) ∧ i = .int .i64 (k + 1 : Nat) ∧ Hid (Below w.heap.size w wr) ∧ Hid (∀ j, j < k → (l.getD j default).pl ≠ (l.getD (j + 1) default).pl)) (fun i _ => l.length - (intOf i).toNat)
  case atStart => exact ⟨0, .inr rfl, rfl, Lib.hid (Below.refl _ _), Lib.hid (fun j h => absurd h (by omega))⟩
  case round =>
    obtain ⟨k, hk, rfl, HB, HT⟩ := hrel
    by_cases hlt : k + 1 < l.length
    · have hlt0 : k < l.length := by omega
      have hv2 := tEnts.mono _ _ _ _ (below_mem HB.out) hv
      obtain ⟨b, o, rfl, hat, -⟩ := ents_at hv2 hlt
      obtain ⟨b', o', e', hat', -⟩ := ents_at hv2 hlt0
      simp only [Option.some.injEq, Addr.mk.injEq, and_true] at e'
      obtain ⟨rfl, rfl⟩ := e'
      have d0 : wr.cell? ⟨b, o + (k + 1) * 4, none⟩ = some (.int .i64 l[k + 1].g) := hat 0 _ rfl
      have d1 : wr.cell? ⟨b, o + (k + 1) * 4 + 1, none⟩ = some (.string l[k + 1].nm) := hat 1 _ rfl
      have d2 : wr.cell? ⟨b, o + (k + 1) * 4 + 2, none⟩ = some (.string l[k + 1].key) := hat 2 _ rfl
      have c0 : wr.cell? ⟨b, o + k * 4, none⟩ = some (.int .i64 l[k].g) := hat' 0 _ rfl
      have c1 : wr.cell? ⟨b, o + k * 4 + 1, none⟩ = some (.string l[k].nm) := hat' 1 _ rfl
      have c2 : wr.cell? ⟨b, o + k * 4 + 2, none⟩ = some (.string l[k].key) := hat' 2 _ rfl
      have HE1 : l.getD k default = l[k] := by simp [List.getD, hlt0]
      have HE2 : l.getD (k + 1) default = l[k + 1] := by simp [List.getD, hlt]
      have HYES := Lib.hid (fun (h : l[k].pl = l[k + 1].pl) => (show Beside l from ⟨k, hlt, by rw [HE1, HE2]; exact h⟩))
      have HNO := Lib.hid (fun (h : l[k].pl ≠ l[k + 1].pl) => (show ∀ j, j < k + 1 → (l.getD j default).pl ≠ (l.getD (j + 1) default).pl from fun j hj => by
        rcases Nat.lt_succ_iff_lt_or_eq.1 hj with h' | rfl
        · exact HT.out j h'
        · rw [HE1, HE2]; exact h))
      clear hat hat' HE1 HE2 hv2
      generalize l[k + 1] = y at *
      generalize l[k] = x at *
      obtain ⟨xg, x1, x2, x3⟩ := x
      obtain ⟨yg, y1, y2, y3⟩ := y
      simp only at d0 d1 d2 c0 c1 c2
      simp only [Ent.pl] at HYES HNO
      have hsub : ((k + 1 : Nat) : Int) - 1 = (k : Int) := by omega
      have hwr : IntKind.i64.wrap (((k + 1 : Nat) : Int) - 1) = (k : Int) := by rw [hsub]; exact IntWalk.i64_in _ (by omega)
      have hj0 : (0 : Int) ≤ (k : Int) := by omega
      have hj1 : (k : Int) < (l.length : Int) := by omega
      have hj2 : (0 : Int) ≤ (k : Int) + 1 := by omega
      have hj3 : (k : Int) + 1 < (l.length : Int) := by omega
      have hs2 : (k : Int) + 1 - 1 = (k : Int) := by omega
      have hw2' : IntKind.i64.wrap ((k : Int) + 1 - 1) = (k : Int) := by rw [hs2]; exact IntWalk.i64_in _ (by omega)
      have hw3 : IntKind.i64.wrap (k : Int) = (k : Int) := IntWalk.i64_in _ (by omega)
      by_cases h1 : xg = yg
      case neg =>
        have h1b : (xg == yg) = false := by simp [h1]
        have h1d : decide (xg = yg) = false := by simp [h1]
        have HN := Lib.hid (HNO.out (by simp [h1]))
        clear HYES HNO
        go_wp2_with fail
        go_quiet (fail)
        all_goals
          have hbq : ∀ n, Below wr.heap.size wr (wr.drewN n) := fun n => ⟨rfl, rfl, rfl, Nat.le_refl _, fun _ _ => rfl⟩
          go_wp2
          go_roundw
          case rel => exact ⟨k + 1, .inl (by omega), by go_num, Lib.hid (HB.out.trans ((hbq _).mono HB.out.size)), HN⟩
          case measure => simp [intOf]; omega
      subst h1
      have h1b : (xg == xg) = true := by simp
      cases h2 : (x1.toList == y1.toList)
      case false =>
        have HN := Lib.hid (HNO.out (by intro e; simp only [Prod.mk.injEq] at e; rw [e.2.1] at h2; simp at h2))
        clear HYES HNO
        go_wp2_with fail
        go_quiet (fail)
        all_goals
          have hbq : ∀ n, Below wr.heap.size wr (wr.drewN n) := fun n => ⟨rfl, rfl, rfl, Nat.le_refl _, fun _ _ => rfl⟩
          go_wp2
          go_roundw
          case rel => exact ⟨k + 1, .inl (by omega), by go_num, Lib.hid (HB.out.trans ((hbq _).mono HB.out.size)), HN⟩
          case measure => simp [intOf]; omega
      cases h3 : (x2.toList == y2.toList)
      case false =>
        have HN := Lib.hid (HNO.out (by intro e; simp only [Prod.mk.injEq] at e; rw [e.2.2] at h3; simp at h3))
        clear HYES HNO
        go_wp2_with fail
        go_quiet (fail)
        all_goals
          have hbq : ∀ n, Below wr.heap.size wr (wr.drewN n) := fun n => ⟨rfl, rfl, rfl, Nat.le_refl _, fun _ _ => rfl⟩
          go_wp2
          go_roundw
          case rel => exact ⟨k + 1, .inl (by omega), by go_num, Lib.hid (HB.out.trans ((hbq _).mono HB.out.size)), HN⟩
          case measure => simp [intOf]; omega
      have HY := Lib.hid (HYES.out (by rw [toList_inj (eq_of_beq h2), toList_inj (eq_of_beq h3)]))
      clear HYES HNO
      go_wp2_with fail
      go_quiet (fail)
      all_goals
        have hbq : ∀ n, Below wr.heap.size wr (wr.drewN n) := fun n => ⟨rfl, rfl, rfl, Nat.le_refl _, fun _ _ => rfl⟩
        go_wp2
        go_ret
        exact ⟨true, rfl, ⟨fun _ => HY.out, fun _ => rfl⟩, HB.out.trans ((hbq _).mono HB.out.size)⟩
    · have HN := Lib.hid (show ¬ Beside l from fun ⟨j, h1, h2⟩ => HT.out j (by omega) h2)
      go_wp2
      go_ret
      exact ⟨false, rfl, ⟨fun h => (by cases h), fun h => absurd h HN.out⟩, HB.out⟩
end Go.Proofs.YtbmpoecmjmmngaaGreat
/- HeapKeeps, plainly: what Get answers behind Restore and Put. -/
namespace Go.Proofs.YtbmpoecmjmmngaaGreat
open Go.RowKit Go.Maps

theorem fold_not {k : Place} : ∀ (l : List Ent) (f : Place → Option ByteArray), k ∉ l.map Ent.pl → l.foldl (fun f e => putAt f e.pl e.val) f k = f k
  | [], _, _ => rfl
  | y :: l, f, h => by
    rw [List.map_cons, List.mem_cons, not_or] at h
    rw [List.foldl_cons, fold_not l _ h.2]
    unfold putAt
    rw [if_neg h.1]
theorem fold_mem {x : Ent} : ∀ (l : List Ent) (f : Place → Option ByteArray), (l.map Ent.pl).Nodup → x ∈ l → l.foldl (fun f e => putAt f e.pl e.val) f x.pl = some x.val
  | y :: l, f, hn, hx => by
    rw [List.map_cons, List.nodup_cons] at hn
    rw [List.foldl_cons]
    rcases List.mem_cons.1 hx with rfl | h
    · rw [fold_not _ _ hn.1]
      unfold putAt
      rw [if_pos rfl]
    · exact fold_mem l _ hn.2 h
theorem placesF_mem {l : List Ent} (hn : (l.map Ent.pl).Nodup) {x : Ent} (hx : x ∈ l) : placesF l x.pl = some x.val := fold_mem l _ hn hx
theorem restAns_ok {n : Int} {l : List Ent} (h : restAns n l = 0) : (∀ x ∈ l, validE x = true ∧ x.g < n) ∧ (1 ≤ n ∧ n ≤ 128) ∧ (l.map Ent.pl).Nodup := by
  unfold restAns at h
  split at h
  · cases h
  next h1 =>
  split at h
  · cases h
  next h2 =>
  split at h
  · cases h
  next h3 =>
  split at h
  · next h4 =>
    have h1' : l.all validE = true := by simpa using h1
    have h3' : l.any (fun x => decide (n ≤ x.g)) = false := by simpa using h3
    refine ⟨fun x hx => ⟨List.all_eq_true.1 h1' x hx, ?_⟩, by omega, h4⟩
    have := List.any_eq_false.1 h3' x hx
    simp at this
    exact this
  · cases h
theorem chk_one {N : Nat} {g : Int} {nm k v : ByteArray} (h : chk N g nm [k, v] = 0) : chk N g nm [k] = 0 := by
  obtain ⟨h1, h2, h3⟩ := chk_ok h
  unfold chk
  rw [if_pos ⟨h1, by simp at h2 ⊢; exact h2.1⟩, if_pos h3]
theorem chk_of {N : Nat} {x : Ent} (h : validE x = true) (hg : x.g < N) : chk N x.g x.nm [x.key, x.val] = 0 := by
  unfold validE at h
  simp only [Bool.and_eq_true, decide_eq_true_eq, Bool.not_eq_true'] at h
  unfold chk
  rw [if_pos ⟨h.2.1, by simp [h.2.2]⟩, if_pos ⟨h.1.1, hg⟩]
theorem grpF_put {r r' : HS} {N : Nat} (hN : r.cur.length = N) {x : Ent} (ha : putAns N (grpF r x.g) r.cnt x.g x.nm x.key x.val = 0) (h' : r'.view = r.view.put N (grpF r x.g) x.g x.nm x.key x.val) {i : Nat} (hi : i < N) :
    grpF r' i = if (i : Int) = x.g then putAt (grpF r x.g) (x.nm, x.key) x.val else grpF r i := by
  unfold PS.put at h'
  rw [show r.view.cnt = r.cnt from rfl, if_pos ha] at h'
  have hl : r'.cur.length = N := by rw [view_len h', List.length_set, ← view_len rfl]; exact hN
  have h1 := grps_at r' (i := i) (by omega)
  have h2 := grps_at r (i := i) (by omega)
  have hc : chk N x.g x.nm [x.key, x.val] = 0 := by
    unfold putAns at ha
    split at ha
    · next h => exact absurd ha h
    · next h => exact Classical.not_not.1 h
  obtain ⟨_, _, h0, h3⟩ := chk_ok hc
  rw [h'] at h1
  show _ = _
  have h1 : (r.view.grps.set x.g.toNat (putAt (grpF r x.g) (x.nm, x.key) x.val))[i]? = some (grpF r' i) := h1
  rw [List.getElem?_set] at h1
  by_cases e : (i : Int) = x.g
  · rw [if_pos e]
    rw [if_pos (show x.g.toNat = i by omega)] at h1
    split at h1
    · injection h1 with h1; exact h1.symm
    · cases h1
  · rw [if_neg e]
    rw [if_neg (show ¬ x.g.toNat = i by omega), h2] at h1
    injection h1 with h1; exact h1.symm
theorem getAns_some {N : Nat} {F : FMap} {g : Int} {nm key : ByteArray} {s : ByteArray} (hc : chk N g nm [key] = 0) (h : F (nm, key) = some s) : getAns N F g nm key = (s, 0) := by
  unfold getAns
  rw [if_pos hc, h]
  rfl
/-- The law, plainly. -/
theorem keeps_get {r r' : HS} {n : Int} {l : List Ent} {x : Ent} (hr : restAns n l = 0) (hv : r.view = restPS n.toNat l) (ha : putAns n.toNat (grpF r x.g) r.cnt x.g x.nm x.key x.val = 0)
    (h' : r'.view = r.view.put n.toNat (grpF r x.g) x.g x.nm x.key x.val) :
    getAns n.toNat (grpF r' x.g) x.g x.nm x.key = (x.val, 0) ∧ ∀ y ∈ l, ∃ s, getAns n.toNat (grpF r' y.g) y.g y.nm y.key = (s, 0) ∧ (y.pl ≠ x.pl → s = y.val) := by
  obtain ⟨hall, hn, hnd⟩ := restAns_ok hr
  have hN : r.cur.length = n.toNat := (view_len hv).trans (restPS_len _ _)
  have hc : chk n.toNat x.g x.nm [x.key, x.val] = 0 := by
    unfold putAns at ha
    split at ha
    · next h => exact absurd ha h
    · next h => exact Classical.not_not.1 h
  obtain ⟨_, _, h0, h3⟩ := chk_ok hc
  refine ⟨?_, fun y hy => ?_⟩
  · refine getAns_some (chk_one hc) ?_
    obtain ⟨i, hi⟩ := Int.eq_ofNat_of_zero_le h0
    have := grpF_put hN ha h' (i := i) (by omega)
    rw [← hi] at this
    rw [this, if_pos rfl]
    unfold putAt
    rw [if_pos rfl]
  · obtain ⟨hy1, hy2⟩ := hall y hy
    have hcy := chk_of (N := n.toNat) hy1 (by omega)
    obtain ⟨_, _, hy0, hy3⟩ := chk_ok hcy
    obtain ⟨i, hi⟩ := Int.eq_ofNat_of_zero_le hy0
    have hgp := grpF_put hN ha h' (i := i) (by omega)
    have hgv := grpF_view hv (i := i) (by omega)
    rw [← hi] at hgp hgv
    have hmem : grpF r y.g (y.nm, y.key) = some y.val := by
      rw [hgv]
      exact placesF_mem hnd hy
    by_cases e : y.g = x.g
    · rw [if_pos e] at hgp
      by_cases e2 : (y.nm, y.key) = (x.nm, x.key)
      · refine ⟨x.val, getAns_some (chk_one hcy) (by rw [hgp]; unfold putAt; rw [if_pos e2]), fun h => absurd ?_ h⟩
        simp only [Prod.mk.injEq] at e2
        unfold Ent.pl
        rw [e, e2.1, e2.2]
      · refine ⟨y.val, getAns_some (chk_one hcy) (by rw [hgp]; unfold putAt; rw [if_neg e2, ← e]; exact hmem), fun _ => rfl⟩
    · rw [if_neg e] at hgp
      exact ⟨y.val, getAns_some (chk_one hcy) (by rw [hgp]; exact hmem), fun _ => rfl⟩
end Go.Proofs.YtbmpoecmjmmngaaGreat
/- The reference's Right and Restore: plain. -/
namespace Go.Proofs.YtbmpoecmjmmngaaGreat
open Go.RowKit Go.Maps

theorem entC_split (a b : Ent) : entC a b = if placeC a b ≠ 0 then placeC a b else cmpBytes a.val.toList b.val.toList := by
  show (if cmpInt a.g b.g ≠ 0 then cmpInt a.g b.g else if cmpBytes a.nm.toList b.nm.toList ≠ 0 then cmpBytes a.nm.toList b.nm.toList else if cmpBytes a.key.toList b.key.toList ≠ 0 then cmpBytes a.key.toList b.key.toList else cmpBytes a.val.toList b.val.toList) =
    (if (if cmpInt a.g b.g ≠ 0 then cmpInt a.g b.g else if cmpBytes a.nm.toList b.nm.toList ≠ 0 then cmpBytes a.nm.toList b.nm.toList else cmpBytes a.key.toList b.key.toList) ≠ 0 then (if cmpInt a.g b.g ≠ 0 then cmpInt a.g b.g else if cmpBytes a.nm.toList b.nm.toList ≠ 0 then cmpBytes a.nm.toList b.nm.toList else cmpBytes a.key.toList b.key.toList) else cmpBytes a.val.toList b.val.toList)
  by_cases h1 : cmpInt a.g b.g = 0 <;> by_cases h2 : cmpBytes a.nm.toList b.nm.toList = 0 <;> by_cases h3 : cmpBytes a.key.toList b.key.toList = 0 <;> simp [h1, h2, h3]
theorem entC_le {a b : Ent} (h : entC a b ≤ 0) : placeC a b ≤ 0 := by
  rw [entC_split] at h
  split at h
  · exact h
  · omega
theorem asc_of {S : List Ent} (hp : S.Pairwise (fun a b => entC a b ≤ 0)) (hb : ¬ Beside S) : Asc S := by
  refine List.pairwise_iff_getElem.2 fun i j hi hj hij => ?_
  have hle := entC_le (List.pairwise_iff_getElem.1 hp i j hi hj hij)
  have hle1 := entC_le (List.pairwise_iff_getElem.1 hp i (i + 1) hi (by omega) (by omega))
  by_cases h0 : placeC S[i] S[j] = 0
  · exfalso
    have h1 : placeC S[i] S[i + 1] = 0 := by
      by_cases e : j = i + 1
      · subst e; exact h0
      · have hle2 := entC_le (List.pairwise_iff_getElem.1 hp (i + 1) j (by omega) hj (by omega))
        have ha := placeC_good.anti S[i] S[j]
        have := (placeC_good.trans _ _ _ hle2 (show placeC S[j] S[i] ≤ 0 by omega)).1
        have ha2 := placeC_good.anti S[i] S[i + 1]
        omega
    exact hb ⟨i, by omega, by
      rw [show S.getD i default = S[i] by simp [List.getD, hi], show S.getD (i + 1) default = S[i + 1] by simp [List.getD, show i + 1 < S.length by omega]]
      exact placeC_zero.1 h1⟩
  · omega
theorem asc_nodup {S : List Ent} (h : Asc S) : (S.map Ent.pl).Nodup := by
  refine List.pairwise_map.2 (h.imp fun {a b} h e => ?_)
  have := placeC_zero.2 e
  omega
theorem beside_not {S : List Ent} (h : Beside S) : ¬ (S.map Ent.pl).Nodup := fun hn => by
  obtain ⟨k, hk, e⟩ := h
  rw [show S.getD k default = S[k] by simp [List.getD, show k < S.length by omega], show S.getD (k + 1) default = S[k + 1] by simp [List.getD, hk]] at e
  have := List.pairwise_iff_getElem.1 hn k (k + 1) (by rw [List.length_map]; omega) (by rw [List.length_map]; omega) (by omega)
  simp only [List.getElem_map] at this
  exact this e
theorem beside_dup {S l : List Ent} (hs : S.Perm l) (hp : S.Pairwise (fun a b => entC a b ≤ 0)) : Beside S ↔ ¬ (l.map Ent.pl).Nodup := by
  have hm : (S.map Ent.pl).Nodup ↔ (l.map Ent.pl).Nodup := (hs.map _).nodup_iff
  refine ⟨fun h => mt hm.2 (beside_not h), fun h => Classical.byContradiction fun hb => h (hm.1 (asc_nodup (asc_of hp hb)))⟩
theorem ent_eq {x y : Ent} (h : x.pl = y.pl) (hv : x.val = y.val) : x = y := by
  obtain ⟨g, a, b, c⟩ := x
  obtain ⟨g', a', b', c'⟩ := y
  simp only [Ent.pl, Prod.mk.injEq] at h
  obtain ⟨rfl, rfl, rfl⟩ := h
  subst hv
  rfl
theorem placesF_iff {l : List Ent} (hn : (l.map Ent.pl).Nodup) (x : Ent) : placesF l x.pl = some x.val ↔ x ∈ l := by
  refine ⟨fun h => ?_, placesF_mem hn⟩
  have hm := (placesF_some l x.pl).2 (by rw [h]; rfl)
  obtain ⟨y, hy, e⟩ := List.mem_map.1 hm
  have h2 := placesF_mem hn hy
  rw [e, h] at h2
  rw [ent_eq e.symm (by injection h2)]
  exact hy
theorem Rel.restored {n : Int} {l S : List Ent} (hr : restAns n l = 0) (hl : l.length ≤ 4000) (hs : S.Perm l) (ha : Asc S) : Rel (restPS n.toNat l) ⟨n.toNat, 1, S, []⟩ := by
  obtain ⟨hv, hn, hd⟩ := restAns_ok hr
  refine ⟨restPS_len _ _, ⟨ha, fun x => ?_⟩, ?_, ?_, rfl, fun k => by simp [restPS], fun x hx => by simp at hx, fun x hx => by simp at hx, by simp, fun k hk => by simp at hk, by simp, Int.le_refl _, fun x hx => ?_, fun x hx => by simp at hx⟩
  · rw [hs.mem_iff, ← placesF_iff hd]
    constructor
    · intro h
      have hx := hv x ((placesF_iff hd x).1 h)
      have h0 : 0 ≤ x.g := by
        have := hx.1
        unfold validE at this
        simp only [Bool.and_eq_true, decide_eq_true_eq] at this
        exact this.1.1
      refine ⟨x.g.toNat, fun s => placesF l ((x.g.toNat : Int), s.1, s.2), ?_, by omega, ?_⟩
      · unfold restPS
        have := hx.2
        simp only [List.getElem?_map, List.getElem?_range (show x.g.toNat < n.toNat by omega), Option.map_some]
      · rw [Int.toNat_of_nonneg h0]; exact h
    · rintro ⟨i, F, hi, hg, hF⟩
      unfold restPS at hi
      simp only [List.getElem?_map, Option.map_eq_some_iff] at hi
      obtain ⟨j, hj, rfl⟩ := hi
      obtain ⟨hj1, hj2⟩ := List.getElem?_eq_some_iff.1 hj
      rw [List.getElem_range] at hj2
      subst hj2
      have e : x.pl = ((i : Int), x.nm, x.key) := by unfold Ent.pl; rw [hg]; simp
      rw [e]
      exact hF
  · show ((l.length : Nat) : Int) = S.length
    rw [hs.length_eq]
  · show S.length ≤ 4000
    rw [hs.length_eq]; exact hl
  · have := (hv x (hs.mem_iff.1 hx)).1
    unfold validE at this
    simp only [Bool.and_eq_true, Bool.not_eq_true'] at this
    exact this.2.2.1
end Go.Proofs.YtbmpoecmjmmngaaGreat
/- The reference's Right and Restore: the walks. -/
namespace Go.Proofs.YtbmpoecmjmmngaaGreat
open Go.RowKit Go.Maps

/-- Right's answer, case by case. -/
structure RightC (n : Int) (l : List Ent) (c : Int) : Prop where
  bad : ∀ x ∈ l, validE x = false → c = 1
  rng : (∀ x ∈ l, validE x = true) → ¬ (1 ≤ n ∧ n ≤ 128) → c = 7
  out : (∀ x ∈ l, validE x = true) → (1 ≤ n ∧ n ≤ 128) → ∀ x ∈ l, n ≤ x.g → c = 7
  end' : (∀ x ∈ l, validE x = true) → (1 ≤ n ∧ n ≤ 128) → (∀ x ∈ l, x.g < n) → ∀ S : List Ent, S.Perm l → S.Pairwise (fun a b => entC a b ≤ 0) → ∀ b : Bool, (b = true ↔ Beside S) → c = if b = true then 6 else 0
theorem rightC (n : Int) (l : List Ent) : RightC n l (restAns n l) := by
  have hall : (∀ x ∈ l, validE x = true) → ¬ (l.all validE = false) := fun h e => by rw [List.all_eq_true.2 h] at e; cases e
  refine ⟨fun x hx hv => ?_, fun h1 h2 => ?_, fun h1 h2 x hx h3 => ?_, fun h1 h2 h3 S hs hp b hb => ?_⟩ <;> unfold restAns
  · rw [if_pos]
    cases h : l.all validE
    · rfl
    · rw [List.all_eq_true] at h
      rw [h x hx] at hv; cases hv
  · rw [if_neg (hall h1), if_pos (by omega)]
  · rw [if_neg (hall h1), if_neg (by omega), if_pos (List.any_eq_true.2 ⟨x, hx, decide_eq_true h3⟩)]
  · rw [if_neg (hall h1), if_neg (by omega), if_neg (fun h => by obtain ⟨x, hx, h⟩ := List.any_eq_true.1 h; have := h3 x hx; have := of_decide_eq_true h; omega)]
    have hd := beside_dup hs hp
    by_cases hB : Beside S
    · rw [if_pos (hb.2 hB), if_neg (hd.1 hB)]
    · rw [if_neg (fun h => hB (hb.1 h)), if_pos (Classical.byContradiction fun h => hB (hd.2 h))]
set_option maxRecDepth 100000 in
set_option maxHeartbeats 8000000 in
theorem refRight_any (n : Int) (l : List Ent) (v : Value) (w : World) (hv : tEnts.rv (mem w) [v] l) (h8 : l.length ≤ 4000) :
    Calls Tryz.prog 56 #[.int .i64 n, v] w fun e w' => e = .returned (.int .i64 (restAns n l)) ∧ Below w.heap.size w w' := by
  have HC := Lib.hid (rightC n l)
  generalize restAns n l = c at *
  have HSO := Lib.hid (fun wr (hb : Below w.heap.size w wr) => sortEnts_any l v wr (tEnts.mono _ _ _ _ (below_mem hb) hv) (by omega))
  have HIN := Lib.hid (fun wr => refIn_any n 128 wr)
  obtain ⟨a, cap, rfl, hlc, hm, hv⟩ := slice_form hv
  have hcap : cap ≤ 9223372036854775807 := by unfold maxLen at hm; exact hm
  have HV := Lib.hid (fun wr (hb : Below w.heap.size w wr) => (tEnts.mono _ _ _ _ (below_mem hb) hv : tEnts.rv (mem wr) _ l))
  clear hm hv
  go_enter Tryz.func56, Tryz.ntmps56
  go_wp2
  go_loopw [5] (fun i wr => ∃ k : Nat, k ≤ l.length ∧ i = .int .i64 k ∧ Hid (Below w.heap.size w wr) ∧ Hid (∀ x ∈ l.take k, validE x = true)) (fun i _ => l.length - (intOf i).toNat)
  case atStart => exact ⟨0, by omega, rfl, Lib.hid (Below.refl _ _), Lib.hid (by simp)⟩
  case round =>
    obtain ⟨k, hk, rfl, HB, HT⟩ := hrel
    by_cases hlt : k < l.length
    · obtain ⟨b, o, rfl, hat, hok⟩ := ents_at (HV.out _ HB.out) hlt
      have d0 : wr.cell? ⟨b, o + k * 4, none⟩ = some (.int .i64 l[k].g) := hat 0 _ rfl
      have d1 : wr.cell? ⟨b, o + k * 4 + 1, none⟩ = some (.string l[k].nm) := hat 1 _ rfl
      have d2 : wr.cell? ⟨b, o + k * 4 + 2, none⟩ = some (.string l[k].key) := hat 2 _ rfl
      have d3 : wr.cell? ⟨b, o + k * 4 + 3, none⟩ = some (.string l[k].val) := hat 3 _ rfl
      have HVE := Lib.hid (fun wx => refValid_any l[k] wx hok)
      have HBAD := Lib.hid (HC.out.bad l[k] (List.getElem_mem hlt))
      have HNX := Lib.hid (fun (h : validE l[k] = true) => mem_take_snoc (q := fun x => validE x = true) hlt HT.out h)
      clear hat hok
      generalize validE l[k] = bb at *
      generalize l[k] = x at *
      obtain ⟨xg, x1, x2, x3⟩ := x
      simp only at d0 d1 d2 d3
      go_wp2_with fail
      refine (HVE.out _).mono ?_
      rintro e w1 ⟨rfl, hb⟩
      have HB1 := Lib.hid (pure_trans HB.out hb)
      clear hb
      cases bb with
      | false =>
        have hc1 := HBAD.out rfl
        subst hc1
        go_wp2
        go_ret
        exact ⟨rfl, HB1.out⟩
      | true =>
        have HN := Lib.hid (HNX.out rfl)
        clear HNX
        go_wp2
        go_roundw
        case rel => exact ⟨k + 1, by omega, by go_num, HB1, HN⟩
        case measure => simp [intOf]; omega
    · obtain rfl : k = l.length := by omega
      rw [List.take_length] at HT
      have HC1 := Lib.hid (HC.out.rng HT.out)
      have HC2 := Lib.hid (HC.out.out HT.out)
      have HC3 := Lib.hid (HC.out.end' HT.out)
      clear HC HT
      by_cases hn : 1 ≤ n ∧ n ≤ 128
      case neg =>
        have hd : decide (1 ≤ n ∧ n ≤ 128) = false := decide_eq_false hn
        have hc1 := HC1.out hn
        subst hc1
        rw [hd] at HIN
        clear hn
        go_wp2_with fail
        refine (HIN.out _).mono ?_
        rintro e w1 ⟨rfl, rfl⟩
        go_wp2
        go_ret
        exact ⟨rfl, HB.out⟩
      have hd : decide (1 ≤ n ∧ n ≤ 128) = true := decide_eq_true hn
      rw [hd] at HIN
      have HC4 := Lib.hid (HC2.out hn)
      have HC5 := Lib.hid (HC3.out hn)
      clear hd HC1 HC2 HC3
      go_wp2_with fail
      refine (HIN.out _).mono ?_
      rintro e w1 ⟨rfl, rfl⟩
      clear hn HIN
      go_wp2_with fail
      go_loopw [6] (fun i wr => ∃ k : Nat, k ≤ l.length ∧ i = .int .i64 k ∧ Hid (Below w.heap.size w wr) ∧ Hid (∀ x ∈ l.take k, x.g < n)) (fun i _ => l.length - (intOf i).toNat)
      case atStart => exact ⟨0, by omega, rfl, HB, Lib.hid (by simp)⟩
      case round =>
        clear HB
        obtain ⟨k, hk, rfl, HB, HT⟩ := hrel
        by_cases hlt : k < l.length
        · obtain ⟨b, o, rfl, hat, -⟩ := ents_at (HV.out _ HB.out) hlt
          have d0 : wr.cell? ⟨b, o + k * 4, none⟩ = some (.int .i64 l[k].g) := hat 0 _ rfl
          have HBAD := Lib.hid (HC4.out l[k] (List.getElem_mem hlt))
          have HNX := Lib.hid (fun (h : l[k].g < n) => mem_take_snoc (q := fun x => x.g < n) hlt HT.out h)
          clear hat
          generalize l[k].g = xg at *
          by_cases hx : n ≤ xg
          · have hc1 := HBAD.out hx
            subst hc1
            clear HNX
            go_wp2
            go_ret
            exact ⟨rfl, HB.out⟩
          · have HN := Lib.hid (HNX.out (by omega))
            clear HNX
            go_wp2
            go_roundw
            case rel => exact ⟨k + 1, by omega, by go_num, HB, HN⟩
            case measure => simp [intOf]; omega
        · obtain rfl : k = l.length := by omega
          rw [List.take_length] at HT
          have HC6 := Lib.hid (HC5.out HT.out)
          clear HT HC4 HC5
          go_wp2_with fail
          refine (HSO.out _ HB.out).mono ?_
          rintro e w2 ⟨x, S, rfl, hrv, hperm, hpw, hb⟩
          have HB2 := Lib.hid (pure_trans HB.out hb)
          have HTW := Lib.hid (refTwice_any S x w2 (tEnts.mono _ _ _ _ (Mem.on_le _ _) hrv) (by rw [hperm.length_eq]; omega))
          have HC7 := Lib.hid (HC6.out S hperm hpw)
          clear hb hrv hperm hpw HC6
          go_wp2_with fail
          refine HTW.out.mono ?_
          rintro e w3 ⟨bb, rfl, hbb, hb⟩
          have HB3 := Lib.hid (pure_trans HB2.out hb)
          have hcv := HC7.out bb hbb
          clear hb hbb HC7
          cases bb with
          | true =>
            rw [if_pos rfl] at hcv
            subst hcv
            go_wp2
            go_ret
            exact ⟨rfl, HB3.out⟩
          | false =>
            rw [if_neg (by decide)] at hcv
            subst hcv
            go_wp2
            go_ret
            exact ⟨rfl, HB3.out⟩
set_option maxRecDepth 100000 in
set_option maxHeartbeats 8000000 in
theorem refRestore_any (n : Int) (l : List Ent) (v : Value) (w : World) (hv : tEnts.rv (mem w) [v] l) (h8 : l.length ≤ 4000) :
    Calls Tryz.prog 21 #[.int .i64 n, v] w fun e w' => Below w.heap.size w w' ∧ ((restAns n l ≠ 0 ∧ e = .returned (.tuple #[.agg #[.int .i64 0, .int .i64 0, .slice none 0 0, .slice none 0 0], .int .i64 (restAns n l)])) ∨
      (restAns n l = 0 ∧ ∃ x S, e = .returned (.tuple #[.agg #[.int .i64 n, .int .i64 1, x, .slice none 0 0], .int .i64 0]) ∧ tEnts.rv ((mem w').on (w.heap.size ≤ ·)) [x] S ∧ S.Perm l ∧ Asc S)) := by
  have HR := Lib.hid (fun wr (hb : Below w.heap.size w wr) => refRight_any n l v wr (tEnts.mono _ _ _ _ (below_mem hb) hv) h8)
  have HSO := Lib.hid (fun wr (hb : Below w.heap.size w wr) => sortEnts_any l v wr (tEnts.mono _ _ _ _ (below_mem hb) hv) (by omega))
  have HASC := Lib.hid (fun (h : restAns n l = 0) (S : List Ent) (hs : S.Perm l) (hp : S.Pairwise (fun a b => entC a b ≤ 0)) => (show Asc S from asc_of hp (fun hb => (beside_dup hs hp).1 hb (restAns_ok h).2.2)))
  have HB0 := Lib.hid (fun o => (show Below w.heap.size w (w.alloc o) from (Below.refl _ _).alloc (Nat.le_refl _) o))
  have HBK := Lib.hid (heap_alloc_new w (.cells #[.int .i64 0, .int .i64 0, .slice none 0 0, .slice none 0 0] 43))
  generalize restAns n l = c at *
  go_enter Tryz.func21, Tryz.ntmps21
  go_wp2_with fail
  generalize hX : w.alloc (.cells #[.int .i64 0, .int .i64 0, .slice none 0 0, .slice none 0 0] 43) = X at *
  have HBX := Lib.hid (show Below w.heap.size w X from hX ▸ HB0.out _)
  clear HB0 hX
  refine (HR.out _ HBX.out).mono ?_
  rintro e w1 ⟨rfl, hb⟩
  have HB1 := Lib.hid (pure_trans HBX.out hb)
  have HBK1 := Lib.hid ((hb.block _ (Array.getElem?_eq_some_iff.1 HBK.out).1).trans HBK.out)
  clear hb HBK HR
  by_cases hc : c = 0
  case neg =>
    have hcb : (c == 0) = false := by simp [hc]
    have HCN := Lib.hid hc
    clear hc
    have c0 : w1.cell? ⟨w.heap.size, 0, none⟩ = some (.int .i64 0) := mem_cells HBK1.out 0
    have c1 : w1.cell? ⟨w.heap.size, 1, none⟩ = some (.int .i64 0) := mem_cells HBK1.out 1
    have c2 : w1.cell? ⟨w.heap.size, 2, none⟩ = some (.slice none 0 0) := mem_cells HBK1.out 2
    have c3 : w1.cell? ⟨w.heap.size, 3, none⟩ = some (.slice none 0 0) := mem_cells HBK1.out 3
    have z0 := frozen_cells HBK1.out 0
    have z1 := frozen_cells HBK1.out 1
    have z2 := frozen_cells HBK1.out 2
    have z3 := frozen_cells HBK1.out 3
    have HY := Lib.hid (store4_below HB1.out (Nat.le_refl _) (.int .i64 0) (.int .i64 0) (.slice none 0 0) (.slice none 0 0))
    have HYB := Lib.hid (store4_block HBK1.out (.int .i64 0) (.int .i64 0) (.slice none 0 0) (.slice none 0 0))
    unfold store4 at HY HYB
    go_wp2
    generalize ((((w1.setCell ⟨w.heap.size, 0, none⟩ (.int .i64 0)).setCell ⟨w.heap.size, 1, none⟩ (.int .i64 0)).setCell ⟨w.heap.size, 2, none⟩ (.slice none 0 0)).setCell ⟨w.heap.size, 3, none⟩ (.slice none 0 0)) = Y at *
    have g0 : Y.heap[w.heap.size]? = some (.cells #[.int .i64 0, .int .i64 0, .slice none 0 0, .slice none 0 0] 43 (0, 0)) := HYB.out
    have e0 : Y.cell? ⟨w.heap.size, 0, none⟩ = some (.int .i64 0) := mem_cells g0 0
    have e1 : Y.cell? ⟨w.heap.size, 1, none⟩ = some (.int .i64 0) := mem_cells g0 1
    have e2 : Y.cell? ⟨w.heap.size, 2, none⟩ = some (.slice none 0 0) := mem_cells g0 2
    have e3 : Y.cell? ⟨w.heap.size, 3, none⟩ = some (.slice none 0 0) := mem_cells g0 3
    exact bodyPost_ret (v := .tuple #[.agg #[.int .i64 0, .int .i64 0, .slice none 0 0, .slice none 0 0], .int .i64 c]) (by simp [results, Tryz.results21, go_sem, e0, e1, e2, e3]) rfl ⟨HY.out, .inl ⟨HCN.out, rfl⟩⟩
  subst hc
  have HAS := Lib.hid (HASC.out rfl)
  clear HASC
  go_wp2_with fail
  refine (HSO.out _ HB1.out).mono ?_
  rintro e w2 ⟨x, S, rfl, hrv, hperm, hpw, hb⟩
  obtain ⟨ax, cx, rfl, -, -, -⟩ := slice_form hrv
  have HRV := Lib.hid hrv
  have HPM := Lib.hid hperm
  have HA := Lib.hid (HAS.out S hperm hpw)
  have hs1 := HB1.out.size
  have HLT := Lib.hid (show w.heap.size < w1.heap.size from (Array.getElem?_eq_some_iff.1 HBK1.out).1)
  have HBK2 := Lib.hid ((hb.block _ (Array.getElem?_eq_some_iff.1 HBK1.out).1).trans HBK1.out)
  have HB2 := Lib.hid (pure_trans HB1.out hb)
  clear hb hrv hperm hpw HAS HSO HBK1 HB1
  have HB1 := HB2
  have HBK1 := HBK2
  clear HB2 HBK2
  have c0 : w2.cell? ⟨w.heap.size, 0, none⟩ = some (.int .i64 0) := mem_cells HBK1.out 0
  have c1 : w2.cell? ⟨w.heap.size, 1, none⟩ = some (.int .i64 0) := mem_cells HBK1.out 1
  have c2 : w2.cell? ⟨w.heap.size, 2, none⟩ = some (.slice none 0 0) := mem_cells HBK1.out 2
  have c3 : w2.cell? ⟨w.heap.size, 3, none⟩ = some (.slice none 0 0) := mem_cells HBK1.out 3
  have z0 := frozen_cells HBK1.out 0
  have z1 := frozen_cells HBK1.out 1
  have z2 := frozen_cells HBK1.out 2
  have z3 := frozen_cells HBK1.out 3
  have HY := Lib.hid (store4_below HB1.out (Nat.le_refl _) (.int .i64 n) (.int .i64 1) (.slice ax S.length cx) (.slice none 0 0))
  have HM := Lib.hid (show tEnts.rv ((mem (store4 w2 w.heap.size (.int .i64 n) (.int .i64 1) (.slice ax S.length cx) (.slice none 0 0))).on (w.heap.size ≤ ·)) [(.slice ax S.length cx)] S from tEnts.mono _ _ _ _ (fun b o u e => by
      obtain ⟨e2, e1⟩ := Mem.of_on e
      exact Mem.on_some ((mem_of_block (store4_other (w := w2) (b := w.heap.size) (k := b) (by have := HLT.out; omega) (.int .i64 n) (.int .i64 1) (.slice ax S.length cx) (.slice none 0 0)) o).trans e1) (by omega)) HRV.out)
  have HYB := Lib.hid (store4_block HBK1.out (.int .i64 n) (.int .i64 1) (.slice ax S.length cx) (.slice none 0 0))
  unfold store4 at HY HYB HM
  go_wp2
  generalize ((((w2.setCell ⟨w.heap.size, 0, none⟩ (.int .i64 n)).setCell ⟨w.heap.size, 1, none⟩ (.int .i64 1)).setCell ⟨w.heap.size, 2, none⟩ (.slice ax S.length cx)).setCell ⟨w.heap.size, 3, none⟩ (.slice none 0 0)) = Y at *
  have g0 : Y.heap[w.heap.size]? = some (.cells #[.int .i64 n, .int .i64 1, (.slice ax S.length cx), .slice none 0 0] 43 (0, 0)) := HYB.out
  have e0 : Y.cell? ⟨w.heap.size, 0, none⟩ = some (.int .i64 n) := mem_cells g0 0
  have e1 : Y.cell? ⟨w.heap.size, 1, none⟩ = some (.int .i64 1) := mem_cells g0 1
  have e2 : Y.cell? ⟨w.heap.size, 2, none⟩ = some (.slice ax S.length cx) := mem_cells g0 2
  have e3 : Y.cell? ⟨w.heap.size, 3, none⟩ = some (.slice none 0 0) := mem_cells g0 3
  exact bodyPost_ret (v := .tuple #[.agg #[.int .i64 n, .int .i64 1, (.slice ax S.length cx), .slice none 0 0], .int .i64 0]) (by simp [results, Tryz.results21, go_sem, e0, e1, e2, e3]) rfl ⟨HY.out, _, rfl, S, HM.out, HPM.out, HA.out⟩
end Go.Proofs.YtbmpoecmjmmngaaGreat
/- HeapRestores: the walk. -/
namespace Go.Proofs.YtbmpoecmjmmngaaGreat
open Go.RowKit Go.Maps

set_option maxRecDepth 100000 in
set_option maxHeartbeats 16000000 in
theorem heapRestores_any (n : Int) (l : List Ent) (vl : Value) (l1 : List HAct) (v1 : Value) (w : World) (hl : tEnts.rv (mem w) [vl] l) (h1 : tActs.rv (mem w) [v1] l1) :
    Calls Tryz.prog 5 #[.int .i64 n, vl, v1] w fun e w' => e = .returned (.bool true) ∧ Below w.heap.size w w' := by
  obtain ⟨a1, k1, rfl, hl1, hm1, -⟩ := slice_form h1
  have hk1 : k1 ≤ 9223372036854775807 := by unfold maxLen at hm1; exact hm1
  obtain ⟨ae, ke, rfl, hl2, hm2, -⟩ := slice_form hl
  have hke : ke ≤ 9223372036854775807 := by unfold maxLen at hm2; exact hm2
  have HV1 := Lib.hid (fun wr (hb : Below w.heap.size w wr) => (show tActs.rv (mem wr) [.slice a1 l1.length k1] l1 from tActs.mono _ _ _ _ (below_mem hb) h1))
  have HVE := Lib.hid (fun wr (hb : Below w.heap.size w wr) => (show tEnts.rv (mem wr) [.slice ae l.length ke] l from tEnts.mono _ _ _ _ (below_mem hb) hl))
  have H1 := Lib.hid h1
  clear h1 hm1 hl hm2
  go_enter Tryz.func5, Tryz.ntmps5
  go_wp2_with fail
  refine (awake_any _).mono ?_
  rintro e w1 ⟨rfl, hb⟩
  have HB1 := Lib.hid hb
  clear hb
  go_wp2_with fail
  refine (heavy_any l _ _ (HVE.out _ HB1.out)).mono ?_
  rintro e w2 ⟨bb, rfl, hb, hle⟩
  have HB2 := Lib.hid (pure_trans HB1.out hb)
  clear hb HB1
  cases bb
  case true =>
    go_wp2
    go_ret
    exact ⟨rfl, HB2.out⟩
  have hle0 := hle rfl
  clear hle
  go_wp2_with fail
  refine (many_any l1 _ _ (HV1.out _ HB2.out)).mono ?_
  rintro e w3 ⟨rfl, hb⟩
  have HB3 := Lib.hid (pure_trans HB2.out hb)
  clear hb HB2
  cases hq1 : manyOf l1
  case true =>
    go_wp2
    go_ret
    exact ⟨rfl, HB3.out⟩
  have hle1 := many_len hq1
  clear hq1
  have HRR := Lib.hid (fun wr (hb : Below w.heap.size w wr) => refRestore_any n l _ wr (HVE.out _ hb) (by omega))
  go_wp2_with fail
  refine (restore_any n l _ _ (HVE.out _ HB3.out) (by omega)).mono ?_
  rintro e w4 ⟨hb, hp⟩
  have HB4 := Lib.hid (pure_trans HB3.out hb)
  have HWB := Lib.hid HB3.out.size
  have HS3 := Lib.hid hb.size
  clear hb
  rcases hp with ⟨hne, rfl⟩ | ⟨h0, p, h, rfl, hI, hvw, hnn⟩
  · have HRN := Lib.hid ((HRR.out w4 HB4.out).mono (R' := fun e w' => e = .returned (.tuple #[.agg #[.int .i64 0, .int .i64 0, .slice none 0 0, .slice none 0 0], .int .i64 (restAns n l)]) ∧ Below w4.heap.size w4 w') (fun e w' h => by
      rcases h with ⟨h1, ⟨_, h2⟩ | ⟨h2, _⟩⟩
      · exact ⟨h2, h1⟩
      · exact absurd h2 hne))
    have hcb : (restAns n l == 0) = false := by simp [hne]
    have hcc : (restAns n l == restAns n l) = true := by simp
    clear HRR
    generalize restAns n l = c at *
    go_wp2_with fail
    refine HRN.out.mono ?_
    rintro e w5 ⟨rfl, hb⟩
    have HB5 := Lib.hid (pure_trans HB4.out hb)
    clear hb HB4
    go_wp2
    go_ret
    exact ⟨rfl, HB5.out.alloc HB5.out.size _⟩
  obtain ⟨hva, hnr, hnd⟩ := restAns_ok h0
  obtain ⟨m, rfl⟩ := Int.eq_ofNat_of_zero_le (show 0 ≤ n by omega)
  have hm1 : 1 ≤ m := by omega
  have hm2 : m ≤ 128 := by omega
  have HRL := Lib.hid (fun (S : List Ent) (hs : S.Perm l) (ha : Asc S) => (show Rel h.view ⟨m, 1, S, []⟩ from by have := Rel.restored h0 (by omega) hs ha; rw [Int.toNat_natCast] at this; rw [hvw, Int.toNat_natCast]; exact this))
  have HLST := Lib.hid (show h.last = 0 from congrArg PS.last hvw)
  have HNN := Lib.hid (show h.nn ≤ 60 from Nat.le_trans hnn hle0)
  have HRG := Lib.hid ((HRR.out w4 HB4.out).mono (R' := fun e w' => ∃ ax cx S, e = .returned (.tuple #[.agg #[.int .i64 m, .int .i64 1, .slice ax S.length cx, .slice none 0 0], .int .i64 0]) ∧ tEnts.rv ((mem w').on (w4.heap.size ≤ ·)) [.slice ax S.length cx] S ∧ S.Perm l ∧ Asc S ∧ Below w4.heap.size w4 w') (fun e w' h => by
      rcases h with ⟨h1, ⟨h2, _⟩ | ⟨_, x, S, h2, h3, h4, h5⟩⟩
      · exact absurd h0 h2
      · obtain ⟨ax, cx, rfl, -, -, -⟩ := slice_form h3
        exact ⟨ax, cx, S, h2, h3, h4, h5, h1⟩))
  have HI4 := Lib.hid hI
  clear HRR hva hnr hnd h0 hI hvw hnn
  generalize w3.heap.size = base at *
  go_wp2_with fail
  refine HRG.out.mono ?_
  rintro e w5 ⟨ax, cx, S, rfl, hrv, hperm, hasc, hb⟩
  have hRel := HRL.out S hperm hasc
  have hcx : cx ≤ 9223372036854775807 := by
    obtain ⟨a', k', e', h2, h3, -⟩ := slice_form hrv
    simp only [Value.slice.injEq] at e'
    unfold maxLen at h3
    rw [e'.2.2]; exact h3
  have hcx2 : S.length ≤ cx := by
    obtain ⟨a', k', e', h2, h3, -⟩ := slice_form hrv
    simp only [Value.slice.injEq] at e'
    rw [e'.2.2]; exact h2
  have HBX := Lib.hid (hb.alloc hb.size (.cells #[.int .i64 m, .int .i64 1, .slice ax S.length cx, .slice none 0 0] 43))
  have HIX := Lib.hid (HI4.out.pure HBX.out)
  have HRX := Lib.hid (heap_alloc_new w5 (.cells #[.int .i64 m, .int .i64 1, .slice ax S.length cx, .slice none 0 0] 43))
  have HS5 := Lib.hid hb.size
  have HRV := Lib.hid (show tEnts.rv ((mem (w5.alloc (.cells #[.int .i64 m, .int .i64 1, .slice ax S.length cx, .slice none 0 0] 43))).on (fun b => w4.heap.size ≤ b ∧ b < w5.heap.size)) [.slice ax S.length cx] S from tEnts.mono _ _ _ _ (fun b o u e => by
    obtain ⟨e2, e1⟩ := Mem.of_on e
    exact Mem.on_some (below_mem ((Below.refl w5.heap.size w5).alloc (Nat.le_refl _) (.cells #[.int .i64 m, .int .i64 1, .slice ax S.length cx, .slice none 0 0] 43)) _ _ _ e1) ⟨e2, mem_lt e1⟩) hrv)
  have HREL := Lib.hid hRel
  clear hb hrv hperm hasc hRel HRG HRL
  go_wp2_with fail
  generalize w5.alloc (.cells #[.int .i64 m, .int .i64 1, .slice ax S.length cx, .slice none 0 0] 43) = X at *
  have HNM := Lib.hid (fun (k : Nat) (e : mutB p h k) => (show k < w4.heap.size from HI4.out.cells_kind k e))
  have HNR := Lib.hid (fun (e : mutB p h w5.heap.size) => Nat.lt_irrefl _ (Nat.lt_of_lt_of_le (HNM.out _ e) HS5.out))
  generalize w5.heap.size = R at *
  have HBo := Lib.hid (show Below w.heap.size w X from HB4.out.trans (HBX.out.mono HB4.out.size))
  have HL0 := Lib.hid (show HLaw base p 60 ((safe X p h).on (· ≠ R)) R w X h ⟨m, 1, S, []⟩ #[.int .i64 (⟨m, 1, S, []⟩ : RS).N, .int .i64 (⟨m, 1, S, []⟩ : RS).next, .slice ax (⟨m, 1, S, []⟩ : RS).es.length cx, .slice none (⟨m, 1, S, []⟩ : RS).sn.length 0] from
    ⟨HIX.out, Mem.le_refl _, HREL.out, hm1, hm2, HNN.out, by rw [HLST.out]; decide, HRX.out, rs_noptr, HNR.out, HBo.out, HWB.out, Nat.le_trans HB4.out.size HS5.out⟩)
  have HR0 := Lib.hid (show RsAt ((safe X p h).on (· ≠ R)) ⟨m, 1, S, []⟩ (.slice ax S.length cx) (.slice none 0 0) from ⟨by show m ≤ 1000; omega, by unfold inI64; simp, tEnts.mono _ _ _ _ (fun b o u e => by
    obtain ⟨⟨e2, e3⟩, e1⟩ := Mem.of_on e
    exact Mem.on_some (Mem.on_some e1 (fun hm => Nat.lt_irrefl _ (Nat.lt_of_lt_of_le (HNM.out b hm) e2))) (fun e4 => Nat.lt_irrefl _ (e4 ▸ e3))) HRV.out, slice_nil _ _⟩)
  have HW0 := Lib.hid (show (mem w).le ((safe X p h).on (· ≠ R)) from fun b x v e => by
    have hlt := mem_lt e
    refine Mem.on_some (Mem.on_some (below_mem HBo.out _ _ _ e) (fun hm => ?_)) (fun e => ?_)
    · exact Nat.lt_irrefl _ (Nat.lt_of_lt_of_le hlt (Nat.le_trans HWB.out (HIX.out.ge b hm)))
    · exact Nat.lt_irrefl _ (Nat.lt_of_lt_of_le (e ▸ hlt) (Nat.le_trans HB4.out.size HS5.out)))
  have HA0 := Lib.hid (show tActs.rv ((safe X p h).on (· ≠ R)) [.slice a1 l1.length k1] l1 from tActs.mono _ _ _ _ HW0.out H1.out)
  clear HV1 HVE H1 HI4 HLST HNN HB4 HB3 HWB HBX HIX HRX HS5 HS3 HNM HNR HBo HW0 HREL HRV
  refine (same_any base p 60 _ X h _ _ _ (HL0.out.run HR0.out) (by omega)).mono ?_
  rintro e w6 ⟨rfl, hb6⟩
  have HL1 := Lib.hid (HL0.out.pure0 hb6)
  clear hb6 HL0
  have HST := Lib.hid (show ∃ (k : Nat) (M : Mem) (h : HS) (r : RS) (aa : Option Addr) (ca : Nat) (aq : Option Addr) (cq : Nat), k ≤ l1.length ∧ Value.int .i64 0 = .int .i64 k ∧ Hid (HLaw base p (60 + k) M R w w6 h r #[.int .i64 r.N, .int .i64 r.next, .slice aa r.es.length ca, .slice aq r.sn.length cq]) ∧ Hid (RsAt M r (.slice aa r.es.length ca) (.slice aq r.sn.length cq)) ∧ Hid (tActs.rv M [.slice a1 l1.length k1] l1) from
    ⟨0, _, h, ⟨m, 1, S, []⟩, ax, cx, none, 0, Nat.zero_le _, rfl, HL1, HR0, HA0⟩)
  clear HL1 HR0 HA0
  go_wp2_with fail
  go_loopw [11] (fun iv wr => ∃ (k : Nat) (M : Mem) (h : HS) (r : RS) (aa : Option Addr) (ca : Nat) (aq : Option Addr) (cq : Nat), k ≤ l1.length ∧ iv = .int .i64 k ∧ Hid (HLaw base p (60 + k) M R w wr h r #[.int .i64 r.N, .int .i64 r.next, .slice aa r.es.length ca, .slice aq r.sn.length cq]) ∧ Hid (RsAt M r (.slice aa r.es.length ca) (.slice aq r.sn.length cq)) ∧ Hid (tActs.rv M [.slice a1 l1.length k1] l1)) (fun iv _ => l1.length - (intOf iv).toNat)
  case atStart => exact HST.out
  case round =>
    clear HST
    obtain ⟨k, M, h, r, aa, ca, aq, cq, hk, rfl, HL, HRA, HA⟩ := hrel
    by_cases hlt : k < l1.length
    · obtain ⟨b, o, rfl, hat, hok⟩ := acts_at HA.out hlt
      have d0 : wr.cell? ⟨b, o + k * 6, none⟩ = some (.int .u8 l1[k].k) := HL.out.le _ _ _ (hat 0 _ rfl)
      have d1 : wr.cell? ⟨b, o + k * 6 + 1, none⟩ = some (.int .i64 l1[k].g) := HL.out.le _ _ _ (hat 1 _ rfl)
      have d2 : wr.cell? ⟨b, o + k * 6 + 2, none⟩ = some (.int .i64 l1[k].n) := HL.out.le _ _ _ (hat 2 _ rfl)
      have d3 : wr.cell? ⟨b, o + k * 6 + 3, none⟩ = some (.string l1[k].nm) := HL.out.le _ _ _ (hat 3 _ rfl)
      have d4 : wr.cell? ⟨b, o + k * 6 + 4, none⟩ = some (.string l1[k].key) := HL.out.le _ _ _ (hat 4 _ rfl)
      have d5 : wr.cell? ⟨b, o + k * 6 + 5, none⟩ = some (.string l1[k].val) := HL.out.le _ _ _ (hat 5 _ rfl)
      clear hat
      generalize l1[k] = x at *
      obtain ⟨xk, xg, xn, nm, key, val⟩ := x
      simp only at d0 d1 d2 d3 d4 d5
      have HBX := Lib.hid HL.out.box
      have HLA := Lib.hid (HL.out.pure0 (Below.refl wr.heap.size wr).drew)
      have HLB := Lib.hid (HL.out.pure0 ((box_below wr rsZ).drew))
      have HDA := Lib.hid (does_any base p (60 + k) M wr.drew h r _ _ ⟨xk, xg, xn, nm, key, val⟩ (HLA.out.run HRA.out) hok (by omega))
      have HDB := Lib.hid (does_any base p (60 + k) M (wr.alloc rsZ).drew h r _ _ ⟨xk, xg, xn, nm, key, val⟩ (HLB.out.run HRA.out) hok (by omega))
      have c0 : wr.cell? ⟨R, 0, none⟩ = some (.int .i64 r.N) := mem_cells HL.out.hR 0
      have c1 : wr.cell? ⟨R, 1, none⟩ = some (.int .i64 r.next) := mem_cells HL.out.hR 1
      have c2 : wr.cell? ⟨R, 2, none⟩ = some (.slice aa r.es.length ca) := mem_cells HL.out.hR 2
      have c3 : wr.cell? ⟨R, 3, none⟩ = some (.slice aq r.sn.length cq) := mem_cells HL.out.hR 3
      have c0' : (wr.alloc rsZ).cell? ⟨R, 0, none⟩ = some (.int .i64 r.N) := mem_cells HLB.out.hR 0
      have c1' : (wr.alloc rsZ).cell? ⟨R, 1, none⟩ = some (.int .i64 r.next) := mem_cells HLB.out.hR 1
      have c2' : (wr.alloc rsZ).cell? ⟨R, 2, none⟩ = some (.slice aa r.es.length ca) := mem_cells HLB.out.hR 2
      have c3' : (wr.alloc rsZ).cell? ⟨R, 3, none⟩ = some (.slice aq r.sn.length cq) := mem_cells HLB.out.hR 3
      have d0' : (wr.alloc rsZ).cell? ⟨b, o + k * 6, none⟩ = some (.int .u8 xk) := below_mem (box_below wr rsZ) _ _ _ d0
      have d1' : (wr.alloc rsZ).cell? ⟨b, o + k * 6 + 1, none⟩ = some (.int .i64 xg) := below_mem (box_below wr rsZ) _ _ _ d1
      have d2' : (wr.alloc rsZ).cell? ⟨b, o + k * 6 + 2, none⟩ = some (.int .i64 xn) := below_mem (box_below wr rsZ) _ _ _ d2
      have d3' : (wr.alloc rsZ).cell? ⟨b, o + k * 6 + 3, none⟩ = some (.string nm) := below_mem (box_below wr rsZ) _ _ _ d3
      have d4' : (wr.alloc rsZ).cell? ⟨b, o + k * 6 + 4, none⟩ = some (.string key) := below_mem (box_below wr rsZ) _ _ _ d4
      have d5' : (wr.alloc rsZ).cell? ⟨b, o + k * 6 + 5, none⟩ = some (.string val) := below_mem (box_below wr rsZ) _ _ _ d5
      go_wp2_with fail
      go_region_law (go_simp; go_at_call 19; first
        | (refine HDA.out.mono ?_; rintro e w5 hd; obtain ⟨h5, r5, a5, q5, M5, rfl, hl5, hr5, hm5, -, -⟩ := HLA.out.after2 hd; obtain ⟨a6, k6, rfl, -, -, -⟩ := slice_form hr5.ha; obtain ⟨a7, k7, rfl, -, -, -⟩ := slice_form hr5.hq; have HR5 := Lib.hid hr5; have HM5 := Lib.hid hm5; have HLA5 := Lib.hid hl5; clear hd hl5 hr5 hm5)
        | (refine HDB.out.mono ?_; rintro e w5 hd; obtain ⟨h5, r5, a5, q5, M5, rfl, hl5, hr5, hm5, -, hx5⟩ := HLB.out.after2 hd; obtain ⟨a6, k6, rfl, -, -, -⟩ := slice_form hr5.ha; obtain ⟨a7, k7, rfl, -, -, -⟩ := slice_form hr5.hq; have HR5 := Lib.hid hr5; have HM5 := Lib.hid hm5; have HLB5 := Lib.hid hl5; have HNX := Lib.hid (box_after HBX.out (hx5 wr.heap.size (by simp))); have x0 : w5.cell? ⟨wr.heap.size, 0, none⟩ = some (.int .i64 0) := mem_cells HNX.out.2.2 0; have x1 : w5.cell? ⟨wr.heap.size, 1, none⟩ = some (.int .i64 0) := mem_cells HNX.out.2.2 1; have x2 : w5.cell? ⟨wr.heap.size, 2, none⟩ = some (.slice none 0 0) := mem_cells HNX.out.2.2 2; have x3 : w5.cell? ⟨wr.heap.size, 3, none⟩ = some (.slice none 0 0) := mem_cells HNX.out.2.2 3; have y0 : w5.frozen? ⟨wr.heap.size, 0, none⟩ = false := frozen_cells HNX.out.2.2 0; have y1 : w5.frozen? ⟨wr.heap.size, 1, none⟩ = false := frozen_cells HNX.out.2.2 1; have y2 : w5.frozen? ⟨wr.heap.size, 2, none⟩ = false := frozen_cells HNX.out.2.2 2; have y3 : w5.frozen? ⟨wr.heap.size, 3, none⟩ = false := frozen_cells HNX.out.2.2 3; clear hd hl5 hr5 hm5 hx5))
      all_goals
        first
          | (have HY := Lib.hid (HLA5.out.pure0 (box_below w5 (.cells #[.int .i64 r5.N, .int .i64 r5.next, .slice a6 r5.es.length k6, .slice a7 r5.sn.length k7] 43)))
             have HNB := Lib.hid (heap_alloc_new w5 (.cells #[.int .i64 r5.N, .int .i64 r5.next, .slice a6 r5.es.length k6, .slice a7 r5.sn.length k7] 43))
             generalize w5.alloc (.cells #[.int .i64 r5.N, .int .i64 r5.next, .slice a6 r5.es.length k6, .slice a7 r5.sn.length k7] 43) = Y at *
             generalize w5.heap.size = nb at *
             have n0 : Y.cell? ⟨nb, 0, none⟩ = some (.int .i64 r5.N) := mem_cells HNB.out 0
             have n1 : Y.cell? ⟨nb, 1, none⟩ = some (.int .i64 r5.next) := mem_cells HNB.out 1
             have n2 : Y.cell? ⟨nb, 2, none⟩ = some (.slice a6 r5.es.length k6) := mem_cells HNB.out 2
             have n3 : Y.cell? ⟨nb, 3, none⟩ = some (.slice a7 r5.sn.length k7) := mem_cells HNB.out 3
             go_wp2_with fail
             refine (same_any base p ((60 + k) + 1) M5 Y h5 r5 _ _ (HY.out.run HR5.out) (by omega)).mono ?_
             rintro e w6 ⟨rfl, hb6⟩
             have HY6 := Lib.hid (HY.out.pure0 hb6)
             have HNB6 := Lib.hid ((hb6.block nb (Array.getElem?_eq_some_iff.1 HNB.out).1).trans HNB.out)
             clear hb6 n0 n1 n2 n3
             have n0 : w6.cell? ⟨nb, 0, none⟩ = some (.int .i64 r5.N) := mem_cells HNB6.out 0
             have n1 : w6.cell? ⟨nb, 1, none⟩ = some (.int .i64 r5.next) := mem_cells HNB6.out 1
             have n2 : w6.cell? ⟨nb, 2, none⟩ = some (.slice a6 r5.es.length k6) := mem_cells HNB6.out 2
             have n3 : w6.cell? ⟨nb, 3, none⟩ = some (.slice a7 r5.sn.length k7) := mem_cells HNB6.out 3
             have e0 : w6.cell? ⟨R, 0, none⟩ = some (.int .i64 r.N) := mem_cells HY6.out.hR 0
             have e1 : w6.cell? ⟨R, 1, none⟩ = some (.int .i64 r.next) := mem_cells HY6.out.hR 1
             have e2 : w6.cell? ⟨R, 2, none⟩ = some (.slice aa r.es.length ca) := mem_cells HY6.out.hR 2
             have e3 : w6.cell? ⟨R, 3, none⟩ = some (.slice aq r.sn.length cq) := mem_cells HY6.out.hR 3
             have z0 := frozen_cells HY6.out.hR 0
             have z1 := frozen_cells HY6.out.hR 1
             have z2 := frozen_cells HY6.out.hR 2
             have z3 := frozen_cells HY6.out.hR 3
             have HL7 := Lib.hid (HY6.out.store (store4_keeps w6 R (.int .i64 r5.N) (.int .i64 r5.next) (.slice a6 r5.es.length k6) (.slice a7 r5.sn.length k7)) (store4_block HY6.out.hR (.int .i64 r5.N) (.int .i64 r5.next) (.slice a6 r5.es.length k6) (.slice a7 r5.sn.length k7)) rs_noptr)
             go_wp2
             go_roundw
             case rel => exact ⟨k + 1, M5, h5, r5, a6, k6, a7, k7, by omega, by go_num, HL7, HR5, Lib.hid (tActs.mono _ _ _ _ HM5.out HA.out)⟩
             case measure => simp [intOf]; omega)
          | (have HY := Lib.hid (HLB5.out.store2 (store4_keeps w5 wr.heap.size (.int .i64 r5.N) (.int .i64 r5.next) (.slice a6 r5.es.length k6) (.slice a7 r5.sn.length k7)) HNX.out.1 HNX.out.2.1 (fun j x e => rs_noptr (N := 0) (nx := 0) (aa := none) (aq := none) (n := 0) (k := 0) (ca := 0) (cq := 0) j x ((mem_cells HNX.out.2.2 j).symm.trans e)) HBX.out.2.2.1 HBX.out.2.2.2)
             have HNB := Lib.hid (store4_block HNX.out.2.2 (.int .i64 r5.N) (.int .i64 r5.next) (.slice a6 r5.es.length k6) (.slice a7 r5.sn.length k7))
             unfold store4 at HY HNB
             generalize ((((w5.setCell ⟨wr.heap.size, 0, none⟩ (.int .i64 r5.N)).setCell ⟨wr.heap.size, 1, none⟩ (.int .i64 r5.next)).setCell ⟨wr.heap.size, 2, none⟩ (.slice a6 r5.es.length k6)).setCell ⟨wr.heap.size, 3, none⟩ (.slice a7 r5.sn.length k7)) = Y at *
             generalize wr.heap.size = nb at *
             have n0 : Y.cell? ⟨nb, 0, none⟩ = some (.int .i64 r5.N) := mem_cells HNB.out 0
             have n1 : Y.cell? ⟨nb, 1, none⟩ = some (.int .i64 r5.next) := mem_cells HNB.out 1
             have n2 : Y.cell? ⟨nb, 2, none⟩ = some (.slice a6 r5.es.length k6) := mem_cells HNB.out 2
             have n3 : Y.cell? ⟨nb, 3, none⟩ = some (.slice a7 r5.sn.length k7) := mem_cells HNB.out 3
             go_wp2_with fail
             refine (same_any base p ((60 + k) + 1) M5 Y h5 r5 _ _ (HY.out.run HR5.out) (by omega)).mono ?_
             rintro e w6 ⟨rfl, hb6⟩
             have HY6 := Lib.hid (HY.out.pure0 hb6)
             have HNB6 := Lib.hid ((hb6.block nb (Array.getElem?_eq_some_iff.1 HNB.out).1).trans HNB.out)
             clear hb6 n0 n1 n2 n3
             have n0 : w6.cell? ⟨nb, 0, none⟩ = some (.int .i64 r5.N) := mem_cells HNB6.out 0
             have n1 : w6.cell? ⟨nb, 1, none⟩ = some (.int .i64 r5.next) := mem_cells HNB6.out 1
             have n2 : w6.cell? ⟨nb, 2, none⟩ = some (.slice a6 r5.es.length k6) := mem_cells HNB6.out 2
             have n3 : w6.cell? ⟨nb, 3, none⟩ = some (.slice a7 r5.sn.length k7) := mem_cells HNB6.out 3
             have e0 : w6.cell? ⟨R, 0, none⟩ = some (.int .i64 r.N) := mem_cells HY6.out.hR 0
             have e1 : w6.cell? ⟨R, 1, none⟩ = some (.int .i64 r.next) := mem_cells HY6.out.hR 1
             have e2 : w6.cell? ⟨R, 2, none⟩ = some (.slice aa r.es.length ca) := mem_cells HY6.out.hR 2
             have e3 : w6.cell? ⟨R, 3, none⟩ = some (.slice aq r.sn.length cq) := mem_cells HY6.out.hR 3
             have z0 := frozen_cells HY6.out.hR 0
             have z1 := frozen_cells HY6.out.hR 1
             have z2 := frozen_cells HY6.out.hR 2
             have z3 := frozen_cells HY6.out.hR 3
             have HL7 := Lib.hid (HY6.out.store (store4_keeps w6 R (.int .i64 r5.N) (.int .i64 r5.next) (.slice a6 r5.es.length k6) (.slice a7 r5.sn.length k7)) (store4_block HY6.out.hR (.int .i64 r5.N) (.int .i64 r5.next) (.slice a6 r5.es.length k6) (.slice a7 r5.sn.length k7)) rs_noptr)
             go_wp2
             go_roundw
             case rel => exact ⟨k + 1, M5, h5, r5, a6, k6, a7, k7, by omega, by go_num, HL7, HR5, Lib.hid (tActs.mono _ _ _ _ HM5.out HA.out)⟩
             case measure => simp [intOf]; omega)
    · obtain rfl : k = l1.length := by omega
      have HE := Lib.hid HL.out.bl
      go_wp2
      go_ret
      exact ⟨rfl, HE.out⟩
end Go.Proofs.YtbmpoecmjmmngaaGreat
namespace Go.Proofs.YtbmpoecmjmmngaaGreat.lawHeapRestores
open Go.ChangeShapes Go.WideShapes Go.ChangeAt Go.RowKit
set_option maxRecDepth 100000 in
theorem lifted (os : Os) (started : os.Started) (H : Type) (enc : TypeId × Value → H) :
    ReturnsInHanded {} Tryz.checked os 5 .any (Rows.heapRestoresSpec.pre6 enc Tryz.prog Tryz.f5 Rows.heapRestoresRow.domain false) (Rows.heapRestoresSpec.post enc Tryz.prog Tryz.f5 false true false false) := by
  refine returnsInHanded_of_change (C := Tryz.checked) Tryz.own started (by kernel_rfl) Tryz.func5
    (ChangeSpec.witness6 (enc := enc) (C := Tryz.checked) false ⟨#[], #[.int .i64 0, .slice none 0 0, .slice none 0 0], []⟩ 8 (by kernel_rfl) (by kernel_rfl) (by kernel_rfl) (by kernel_rfl)) ?_
  intro W base args ds gs before hval0 hW hcnd _
  have hval : ∀ (j : Nat) t v, Tryz.f5.params[j]? = some t → args[j]? = some v → Value.okWide Tryz.prog W .any base t v := hval0
  have hW' := hW
  obtain ⟨p, q, hA0, hV, rfl, hfz, hnd⟩ := hW
  have hA : DataW.TrodAll enc Tryz.prog W 0 (fun _ => true) true Tryz.f5.params.toList args.toList ds p := hA0
  rw [Tryz.params5] at hA hval
  obtain ⟨v0, vs0, d0, ds0, p0, q0, hargs, rfl, rfl, h0, r0⟩ := trodAll_cons hA
  obtain ⟨v1, vs1, d1, ds1, p1, q1, rfl, rfl, rfl, h1, r1⟩ := trodAll_cons r0
  obtain ⟨v2, vs2, d2, ds2, p2, q2, rfl, rfl, rfl, h2, r2⟩ := trodAll_cons r1
  obtain ⟨rfl, rfl, rfl⟩ := trodAll_nil r2
  obtain rfl : args = #[v0, v1, v2] := by cases args; simp_all
  obtain ⟨rfl, rfl⟩ := trodVars_none hV
  obtain ⟨n0, rfl, w0⟩ := arg_int Tryz.underlying3 (hval 0 3 v0 rfl rfl) h0
  obtain ⟨x1, w1⟩ := arg_slice (t := tEnt) reads_ents Tryz.underlying22 (hval 1 22 v1 rfl rfl) h1
  obtain ⟨x2, w2⟩ := arg_slice (t := tAct) reads_hacts Tryz.underlying38 (hval 2 38 v2 rfl rfl) h2
  clear hA0 hval0
  refine (heapRestores_any n0 x1 v1 x2 v2 W w1 w2).mono fun e W' ⟨he, bel⟩ => ?_
  subst he
  exact ⟨_, rfl, law_post Tryz.laidOut rfl (by rw [Tryz.params5]; intro t ht; have hs : Tryz.prog.types.size = Tryz.prog.types.size := rfl; simp only [List.mem_cons, List.not_mem_nil, or_false] at ht; rcases ht with rfl | rfl | rfl <;> exact ⟨by kernel_rfl, of_decide_eq_true (by kernel_rfl)⟩) (by kernel_rfl) Tryz.underlying4 rfl rfl rfl hW' bel⟩

theorem proved : Rows.HeapRestoresSaid :=
  OpenClaim.holds_of_wide 5 Tryz.f5 rfl rfl rfl rfl rfl rfl rfl ⟨rfl, rfl, rfl, rfl, rfl⟩ rfl rfl rfl rfl rfl (by kernel_rfl) Tryz.func5 (by kernel_rfl)
    (of_decide_eq_true (by kernel_rfl)) (by unfold Func.isWrapper; first | (rw [if_pos (by decide +kernel)]; kernel_rfl) | (rw [if_neg (by decide +kernel)]; exact ⟨rfl, rfl⟩))
    (fun os started H enc _ => lifted os started H enc)
#print axioms proved
end Go.Proofs.YtbmpoecmjmmngaaGreat.lawHeapRestores
