/- The statement HeapRunsSaid: for every input the law HeapRuns returns true and leaves its arguments as they were. -/
import Derived.Test.YtbmpoecmjmmngaaGreatHr07
set_option linter.unusedVariables false
set_option linter.unusedSimpArgs false
/- HeapRuns: the walk. -/
namespace Go.Proofs.YtbmpoecmjmmngaaGreat
open Go.RowKit Go.Maps

theorem many_len {l : List HAct} (h : manyOf l = false) : l.length ≤ 60 := by
  unfold manyOf at h
  rw [Bool.or_eq_false_iff] at h
  have := h.2
  simp at this
  exact this
theorem box_after {p R : Nat} {M M5 : Mem} {o wr w5 : World} {h h5 : HS} (hb : ¬ mutB p h wr.heap.size ∧ (∀ x, M wr.heap.size x = none) ∧ R ≠ wr.heap.size ∧ o.heap.size ≤ wr.heap.size)
    (hx : ¬ mutB p h wr.heap.size → w5.heap[wr.heap.size]? = (wr.alloc rsZ).drew.heap[wr.heap.size]? ∧ ¬ mutB p h5 wr.heap.size ∧ ((∀ x, M wr.heap.size x = none) → ∀ x, M5 wr.heap.size x = none)) :
    ¬ mutB p h5 wr.heap.size ∧ (∀ x, M5 wr.heap.size x = none) ∧ w5.heap[wr.heap.size]? = some rsZ := by
  obtain ⟨h1, h2, h3⟩ := hx hb.1
  exact ⟨h2, h3 hb.2.1, h1.trans (heap_alloc_new wr rsZ)⟩
set_option maxRecDepth 100000 in
set_option maxHeartbeats 16000000 in
theorem heapRuns_any (n : Int) (l1 : List HAct) (v1 : Value) (w : World) (hn : inI64 n) (h1 : tActs.rv (mem w) [v1] l1) :
    Calls Tryz.prog 4 #[.int .i64 n, v1] w fun e w' => e = .returned (.bool true) ∧ Below w.heap.size w w' := by
  obtain ⟨a1, k1, rfl, hl1, hm1, -⟩ := slice_form h1
  have hk1 : k1 ≤ 9223372036854775807 := by unfold maxLen at hm1; exact hm1
  have HV1 := Lib.hid (fun wr (hb : Below w.heap.size w wr) => (show tActs.rv (mem wr) [.slice a1 l1.length k1] l1 from tActs.mono _ _ _ _ (below_mem hb) h1))
  have H1 := Lib.hid h1
  clear h1 hm1
  go_enter Tryz.func4, Tryz.ntmps4
  go_wp2_with fail
  refine (awake_any _).mono ?_
  rintro e w1 ⟨rfl, hb⟩
  have HB1 := Lib.hid hb
  clear hb
  go_wp2_with fail
  refine (many_any l1 _ _ (HV1.out _ HB1.out)).mono ?_
  rintro e w3 ⟨rfl, hb⟩
  have HB3 := Lib.hid (pure_trans HB1.out hb)
  clear hb HB1
  cases hq1 : manyOf l1
  case true =>
    go_wp2
    go_ret
    exact ⟨rfl, HB3.out⟩
  have hle1 := many_len hq1
  clear hq1
  by_cases hr : 1 ≤ n ∧ n ≤ 128
  case neg =>
    have HNR := Lib.hid (show n < 1 ∨ 128 < n by omega)
    have HRN := Lib.hid (fun (wr : World) => refNew_any n wr)
    rw [if_neg hr, if_neg hr] at HRN
    clear hr
    go_wp2_with fail
    refine (new_bad n _ HNR.out).mono ?_
    rintro e w4 ⟨rfl, hb⟩
    have HB4 := Lib.hid (pure_trans HB3.out hb)
    clear hb HB3
    go_wp2_with fail
    refine (HRN.out _).mono ?_
    rintro e w5 ⟨rfl, hb⟩
    have HB5 := Lib.hid (pure_trans HB4.out hb)
    clear hb HB4
    go_wp2
    go_ret
    exact ⟨rfl, HB5.out.alloc HB5.out.size _⟩
  obtain ⟨m, rfl⟩ := Int.eq_ofNat_of_zero_le (show 0 ≤ n by omega)
  have HRN := Lib.hid (fun (wr : World) => refNew_any (m : Int) wr)
  rw [if_pos hr, if_pos hr] at HRN
  have hm1 : 1 ≤ m := by omega
  have hm2 : m ≤ 128 := by omega
  clear hr
  go_wp2_with fail
  refine (new_any m _ hm1 hm2).mono ?_
  rintro e w4 ⟨rfl, h, hI, hvw, hnn0, hb⟩
  have HI4 := Lib.hid hI
  have HVW := Lib.hid hvw
  have HNN0 := Lib.hid hnn0
  have HB4 := Lib.hid (pure_trans HB3.out hb)
  have HWB := Lib.hid HB3.out.size
  clear hb HB3 hI hvw hnn0
  generalize w3.heap.size = base at *
  generalize base + 1 = p at *
  go_wp2_with fail
  refine (HRN.out _).mono ?_
  rintro e w5 ⟨rfl, hb⟩
  have HBX := Lib.hid (hb.alloc hb.size (.cells #[.int .i64 m, .int .i64 1, .slice none 0 0, .slice none 0 0] 43))
  have HIX := Lib.hid (HI4.out.pure HBX.out)
  have HRX := Lib.hid (heap_alloc_new w5 (.cells #[.int .i64 m, .int .i64 1, .slice none 0 0, .slice none 0 0] 43))
  have HS5 := Lib.hid hb.size
  clear hb
  go_wp2_with fail
  generalize w5.alloc (.cells #[.int .i64 m, .int .i64 1, .slice none 0 0, .slice none 0 0] 43) = X at *
  have HNM := Lib.hid (fun (k : Nat) (e : mutB p h k) => (show k < w5.heap.size from Nat.lt_of_lt_of_le (HI4.out.cells_kind k e) HS5.out))
  generalize w5.heap.size = R at *
  have HBo := Lib.hid (show Below w.heap.size w X from HB4.out.trans (HBX.out.mono HB4.out.size))
  have HL0 := Lib.hid (show HLaw base p 0 ((safe X p h).on (· ≠ R)) R w X h ⟨m, 1, [], []⟩ #[.int .i64 (⟨m, 1, [], []⟩ : RS).N, .int .i64 (⟨m, 1, [], []⟩ : RS).next, .slice none (⟨m, 1, [], []⟩ : RS).es.length 0, .slice none (⟨m, 1, [], []⟩ : RS).sn.length 0] from
    ⟨HIX.out, Mem.le_refl _, by rw [HVW.out]; exact Rel.new m, hm1, hm2, by rw [HNN0.out]; exact Nat.le_refl _, by have e : h.last = 0 := congrArg PS.last HVW.out; omega, HRX.out, rs_noptr, fun e => Nat.lt_irrefl _ (HNM.out R e), HBo.out, HWB.out, Nat.le_trans (Nat.le_trans HB4.out.size HS5.out) (Nat.le_refl _)⟩)
  have HR0 := Lib.hid (show RsAt ((safe X p h).on (· ≠ R)) ⟨m, 1, [], []⟩ (.slice none 0 0) (.slice none 0 0) from ⟨by show m ≤ 1000; omega, by unfold inI64; simp, slice_nil _ _, slice_nil _ _⟩)
  have HW0 := Lib.hid (show (mem w).le ((safe X p h).on (· ≠ R)) from fun b x v e => by
    have hlt := mem_lt e
    refine Mem.on_some (Mem.on_some (below_mem HBo.out _ _ _ e) (fun hm => ?_)) (fun e => ?_)
    · have := HIX.out.ge b hm; have := HWB.out; omega
    · have := HB4.out.size; have := HS5.out; omega)
  have HA0 := Lib.hid (show tActs.rv ((safe X p h).on (· ≠ R)) [.slice a1 l1.length k1] l1 from tActs.mono _ _ _ _ HW0.out H1.out)
  clear HV1 H1 HI4 HVW HNN0 HB4 HWB HBX HIX HRX HS5 HNM HBo HW0 HRN
  have HST := Lib.hid (show ∃ (k : Nat) (M : Mem) (h : HS) (r : RS) (aa : Option Addr) (ca : Nat) (aq : Option Addr) (cq : Nat), k ≤ l1.length ∧ Value.int .i64 0 = .int .i64 k ∧ Hid (HLaw base p k M R w X h r #[.int .i64 r.N, .int .i64 r.next, .slice aa r.es.length ca, .slice aq r.sn.length cq]) ∧ Hid (RsAt M r (.slice aa r.es.length ca) (.slice aq r.sn.length cq)) ∧ Hid (tActs.rv M [.slice a1 l1.length k1] l1) from
    ⟨0, _, h, ⟨m, 1, [], []⟩, none, 0, none, 0, Nat.zero_le _, rfl, HL0, HR0, HA0⟩)
  clear HL0 HR0 HA0
  go_loopw [9] (fun iv wr => ∃ (k : Nat) (M : Mem) (h : HS) (r : RS) (aa : Option Addr) (ca : Nat) (aq : Option Addr) (cq : Nat), k ≤ l1.length ∧ iv = .int .i64 k ∧ Hid (HLaw base p k M R w wr h r #[.int .i64 r.N, .int .i64 r.next, .slice aa r.es.length ca, .slice aq r.sn.length cq]) ∧ Hid (RsAt M r (.slice aa r.es.length ca) (.slice aq r.sn.length cq)) ∧ Hid (tActs.rv M [.slice a1 l1.length k1] l1)) (fun iv _ => l1.length - (intOf iv).toNat)
  case atStart => exact HST.out
  case round =>
    clear HST
    obtain ⟨k, M, h, r, aa, ca, aq, cq, hk, rfl, HL, HRA, HA⟩ := hrel
    by_cases hlt : k < l1.length
    · obtain ⟨b, o, rfl, hat, hok⟩ := acts_at HA.out hlt
      have d0 : wr.cell? ⟨b, o + k * 6, none⟩ = some (.int .u8 l1[k].k) := HL.out.le _ _ _ (hat 0 _ rfl)
      have d1 : wr.cell? ⟨b, o + k * 6 + 1, none⟩ = some (.int .i64 l1[k].g) := HL.out.le _ _ _ (hat 1 _ rfl)
      have d2 : wr.cell? ⟨b, o + k * 6 + 2, none⟩ = some (.int .i64 l1[k].n) := HL.out.le _ _ _ (hat 2 _ rfl)
      have d3 : wr.cell? ⟨b, o + k * 6 + 3, none⟩ = some (.string l1[k].nm) := HL.out.le _ _ _ (hat 3 _ rfl)
      have d4 : wr.cell? ⟨b, o + k * 6 + 4, none⟩ = some (.string l1[k].key) := HL.out.le _ _ _ (hat 4 _ rfl)
      have d5 : wr.cell? ⟨b, o + k * 6 + 5, none⟩ = some (.string l1[k].val) := HL.out.le _ _ _ (hat 5 _ rfl)
      clear hat
      generalize l1[k] = x at *
      obtain ⟨xk, xg, xn, nm, key, val⟩ := x
      simp only at d0 d1 d2 d3 d4 d5
      have HBX := Lib.hid HL.out.box
      have HLA := Lib.hid (HL.out.pure0 (Below.refl wr.heap.size wr).drew)
      have HLB := Lib.hid (HL.out.pure0 ((box_below wr rsZ).drew))
      have HDA := Lib.hid (does_any base p k M wr.drew h r _ _ ⟨xk, xg, xn, nm, key, val⟩ (HLA.out.run HRA.out) hok (by omega))
      have HDB := Lib.hid (does_any base p k M (wr.alloc rsZ).drew h r _ _ ⟨xk, xg, xn, nm, key, val⟩ (HLB.out.run HRA.out) hok (by omega))
      have c0 : wr.cell? ⟨R, 0, none⟩ = some (.int .i64 r.N) := mem_cells HL.out.hR 0
      have c1 : wr.cell? ⟨R, 1, none⟩ = some (.int .i64 r.next) := mem_cells HL.out.hR 1
      have c2 : wr.cell? ⟨R, 2, none⟩ = some (.slice aa r.es.length ca) := mem_cells HL.out.hR 2
      have c3 : wr.cell? ⟨R, 3, none⟩ = some (.slice aq r.sn.length cq) := mem_cells HL.out.hR 3
      have c0' : (wr.alloc rsZ).cell? ⟨R, 0, none⟩ = some (.int .i64 r.N) := mem_cells HLB.out.hR 0
      have c1' : (wr.alloc rsZ).cell? ⟨R, 1, none⟩ = some (.int .i64 r.next) := mem_cells HLB.out.hR 1
      have c2' : (wr.alloc rsZ).cell? ⟨R, 2, none⟩ = some (.slice aa r.es.length ca) := mem_cells HLB.out.hR 2
      have c3' : (wr.alloc rsZ).cell? ⟨R, 3, none⟩ = some (.slice aq r.sn.length cq) := mem_cells HLB.out.hR 3
      have d0' : (wr.alloc rsZ).cell? ⟨b, o + k * 6, none⟩ = some (.int .u8 xk) := below_mem (box_below wr rsZ) _ _ _ d0
      have d1' : (wr.alloc rsZ).cell? ⟨b, o + k * 6 + 1, none⟩ = some (.int .i64 xg) := below_mem (box_below wr rsZ) _ _ _ d1
      have d2' : (wr.alloc rsZ).cell? ⟨b, o + k * 6 + 2, none⟩ = some (.int .i64 xn) := below_mem (box_below wr rsZ) _ _ _ d2
      have d3' : (wr.alloc rsZ).cell? ⟨b, o + k * 6 + 3, none⟩ = some (.string nm) := below_mem (box_below wr rsZ) _ _ _ d3
      have d4' : (wr.alloc rsZ).cell? ⟨b, o + k * 6 + 4, none⟩ = some (.string key) := below_mem (box_below wr rsZ) _ _ _ d4
      have d5' : (wr.alloc rsZ).cell? ⟨b, o + k * 6 + 5, none⟩ = some (.string val) := below_mem (box_below wr rsZ) _ _ _ d5
      go_wp2_with fail
      go_region_law (go_simp; go_at_call 19; first
        | (refine HDA.out.mono ?_; rintro e w5 hd; obtain ⟨h5, r5, a5, q5, M5, rfl, hl5, hr5, hm5, -, -⟩ := HLA.out.after2 hd; obtain ⟨a6, k6, rfl, -, -, -⟩ := slice_form hr5.ha; obtain ⟨a7, k7, rfl, -, -, -⟩ := slice_form hr5.hq; have HR5 := Lib.hid hr5; have HM5 := Lib.hid hm5; have HLA5 := Lib.hid hl5; clear hd hl5 hr5 hm5)
        | (refine HDB.out.mono ?_; rintro e w5 hd; obtain ⟨h5, r5, a5, q5, M5, rfl, hl5, hr5, hm5, -, hx5⟩ := HLB.out.after2 hd; obtain ⟨a6, k6, rfl, -, -, -⟩ := slice_form hr5.ha; obtain ⟨a7, k7, rfl, -, -, -⟩ := slice_form hr5.hq; have HR5 := Lib.hid hr5; have HM5 := Lib.hid hm5; have HLB5 := Lib.hid hl5; have HNX := Lib.hid (box_after HBX.out (hx5 wr.heap.size (by simp))); have x0 : w5.cell? ⟨wr.heap.size, 0, none⟩ = some (.int .i64 0) := mem_cells HNX.out.2.2 0; have x1 : w5.cell? ⟨wr.heap.size, 1, none⟩ = some (.int .i64 0) := mem_cells HNX.out.2.2 1; have x2 : w5.cell? ⟨wr.heap.size, 2, none⟩ = some (.slice none 0 0) := mem_cells HNX.out.2.2 2; have x3 : w5.cell? ⟨wr.heap.size, 3, none⟩ = some (.slice none 0 0) := mem_cells HNX.out.2.2 3; have y0 : w5.frozen? ⟨wr.heap.size, 0, none⟩ = false := frozen_cells HNX.out.2.2 0; have y1 : w5.frozen? ⟨wr.heap.size, 1, none⟩ = false := frozen_cells HNX.out.2.2 1; have y2 : w5.frozen? ⟨wr.heap.size, 2, none⟩ = false := frozen_cells HNX.out.2.2 2; have y3 : w5.frozen? ⟨wr.heap.size, 3, none⟩ = false := frozen_cells HNX.out.2.2 3; clear hd hl5 hr5 hm5 hx5))
      all_goals
        first
          | (have HY := Lib.hid (HLA5.out.pure0 (box_below w5 (.cells #[.int .i64 r5.N, .int .i64 r5.next, .slice a6 r5.es.length k6, .slice a7 r5.sn.length k7] 43)))
             have HNB := Lib.hid (heap_alloc_new w5 (.cells #[.int .i64 r5.N, .int .i64 r5.next, .slice a6 r5.es.length k6, .slice a7 r5.sn.length k7] 43))
             generalize w5.alloc (.cells #[.int .i64 r5.N, .int .i64 r5.next, .slice a6 r5.es.length k6, .slice a7 r5.sn.length k7] 43) = Y at *
             generalize w5.heap.size = nb at *
             have n0 : Y.cell? ⟨nb, 0, none⟩ = some (.int .i64 r5.N) := mem_cells HNB.out 0
             have n1 : Y.cell? ⟨nb, 1, none⟩ = some (.int .i64 r5.next) := mem_cells HNB.out 1
             have n2 : Y.cell? ⟨nb, 2, none⟩ = some (.slice a6 r5.es.length k6) := mem_cells HNB.out 2
             have n3 : Y.cell? ⟨nb, 3, none⟩ = some (.slice a7 r5.sn.length k7) := mem_cells HNB.out 3
             go_wp2_with fail
             refine (same_any base p (k + 1) M5 Y h5 r5 _ _ (HY.out.run HR5.out) (by omega)).mono ?_
             rintro e w6 ⟨rfl, hb6⟩
             have HY6 := Lib.hid (HY.out.pure0 hb6)
             have HNB6 := Lib.hid ((hb6.block nb (Array.getElem?_eq_some_iff.1 HNB.out).1).trans HNB.out)
             clear hb6 n0 n1 n2 n3
             have n0 : w6.cell? ⟨nb, 0, none⟩ = some (.int .i64 r5.N) := mem_cells HNB6.out 0
             have n1 : w6.cell? ⟨nb, 1, none⟩ = some (.int .i64 r5.next) := mem_cells HNB6.out 1
             have n2 : w6.cell? ⟨nb, 2, none⟩ = some (.slice a6 r5.es.length k6) := mem_cells HNB6.out 2
             have n3 : w6.cell? ⟨nb, 3, none⟩ = some (.slice a7 r5.sn.length k7) := mem_cells HNB6.out 3
             have e0 : w6.cell? ⟨R, 0, none⟩ = some (.int .i64 r.N) := mem_cells HY6.out.hR 0
             have e1 : w6.cell? ⟨R, 1, none⟩ = some (.int .i64 r.next) := mem_cells HY6.out.hR 1
             have e2 : w6.cell? ⟨R, 2, none⟩ = some (.slice aa r.es.length ca) := mem_cells HY6.out.hR 2
             have e3 : w6.cell? ⟨R, 3, none⟩ = some (.slice aq r.sn.length cq) := mem_cells HY6.out.hR 3
             have z0 := frozen_cells HY6.out.hR 0
             have z1 := frozen_cells HY6.out.hR 1
             have z2 := frozen_cells HY6.out.hR 2
             have z3 := frozen_cells HY6.out.hR 3
             have HL7 := Lib.hid (HY6.out.store (store4_keeps w6 R (.int .i64 r5.N) (.int .i64 r5.next) (.slice a6 r5.es.length k6) (.slice a7 r5.sn.length k7)) (store4_block HY6.out.hR (.int .i64 r5.N) (.int .i64 r5.next) (.slice a6 r5.es.length k6) (.slice a7 r5.sn.length k7)) rs_noptr)
             go_wp2
             go_roundw
             case rel => exact ⟨k + 1, M5, h5, r5, a6, k6, a7, k7, by omega, by go_num, HL7, HR5, Lib.hid (tActs.mono _ _ _ _ HM5.out HA.out)⟩
             case measure => simp [intOf]; omega)
          | (have HY := Lib.hid (HLB5.out.store2 (store4_keeps w5 wr.heap.size (.int .i64 r5.N) (.int .i64 r5.next) (.slice a6 r5.es.length k6) (.slice a7 r5.sn.length k7)) HNX.out.1 HNX.out.2.1 (fun j x e => rs_noptr (N := 0) (nx := 0) (aa := none) (aq := none) (n := 0) (k := 0) (ca := 0) (cq := 0) j x ((mem_cells HNX.out.2.2 j).symm.trans e)) HBX.out.2.2.1 HBX.out.2.2.2)
             have HNB := Lib.hid (store4_block HNX.out.2.2 (.int .i64 r5.N) (.int .i64 r5.next) (.slice a6 r5.es.length k6) (.slice a7 r5.sn.length k7))
             unfold store4 at HY HNB
             generalize ((((w5.setCell ⟨wr.heap.size, 0, none⟩ (.int .i64 r5.N)).setCell ⟨wr.heap.size, 1, none⟩ (.int .i64 r5.next)).setCell ⟨wr.heap.size, 2, none⟩ (.slice a6 r5.es.length k6)).setCell ⟨wr.heap.size, 3, none⟩ (.slice a7 r5.sn.length k7)) = Y at *
             generalize wr.heap.size = nb at *
             have n0 : Y.cell? ⟨nb, 0, none⟩ = some (.int .i64 r5.N) := mem_cells HNB.out 0
             have n1 : Y.cell? ⟨nb, 1, none⟩ = some (.int .i64 r5.next) := mem_cells HNB.out 1
             have n2 : Y.cell? ⟨nb, 2, none⟩ = some (.slice a6 r5.es.length k6) := mem_cells HNB.out 2
             have n3 : Y.cell? ⟨nb, 3, none⟩ = some (.slice a7 r5.sn.length k7) := mem_cells HNB.out 3
             go_wp2_with fail
             refine (same_any base p (k + 1) M5 Y h5 r5 _ _ (HY.out.run HR5.out) (by omega)).mono ?_
             rintro e w6 ⟨rfl, hb6⟩
             have HY6 := Lib.hid (HY.out.pure0 hb6)
             have HNB6 := Lib.hid ((hb6.block nb (Array.getElem?_eq_some_iff.1 HNB.out).1).trans HNB.out)
             clear hb6 n0 n1 n2 n3
             have n0 : w6.cell? ⟨nb, 0, none⟩ = some (.int .i64 r5.N) := mem_cells HNB6.out 0
             have n1 : w6.cell? ⟨nb, 1, none⟩ = some (.int .i64 r5.next) := mem_cells HNB6.out 1
             have n2 : w6.cell? ⟨nb, 2, none⟩ = some (.slice a6 r5.es.length k6) := mem_cells HNB6.out 2
             have n3 : w6.cell? ⟨nb, 3, none⟩ = some (.slice a7 r5.sn.length k7) := mem_cells HNB6.out 3
             have e0 : w6.cell? ⟨R, 0, none⟩ = some (.int .i64 r.N) := mem_cells HY6.out.hR 0
             have e1 : w6.cell? ⟨R, 1, none⟩ = some (.int .i64 r.next) := mem_cells HY6.out.hR 1
             have e2 : w6.cell? ⟨R, 2, none⟩ = some (.slice aa r.es.length ca) := mem_cells HY6.out.hR 2
             have e3 : w6.cell? ⟨R, 3, none⟩ = some (.slice aq r.sn.length cq) := mem_cells HY6.out.hR 3
             have z0 := frozen_cells HY6.out.hR 0
             have z1 := frozen_cells HY6.out.hR 1
             have z2 := frozen_cells HY6.out.hR 2
             have z3 := frozen_cells HY6.out.hR 3
             have HL7 := Lib.hid (HY6.out.store (store4_keeps w6 R (.int .i64 r5.N) (.int .i64 r5.next) (.slice a6 r5.es.length k6) (.slice a7 r5.sn.length k7)) (store4_block HY6.out.hR (.int .i64 r5.N) (.int .i64 r5.next) (.slice a6 r5.es.length k6) (.slice a7 r5.sn.length k7)) rs_noptr)
             go_wp2
             go_roundw
             case rel => exact ⟨k + 1, M5, h5, r5, a6, k6, a7, k7, by omega, by go_num, HL7, HR5, Lib.hid (tActs.mono _ _ _ _ HM5.out HA.out)⟩
             case measure => simp [intOf]; omega)
    · obtain rfl : k = l1.length := by omega
      have HE := Lib.hid HL.out.bl
      go_wp2
      go_ret
      exact ⟨rfl, HE.out⟩
end Go.Proofs.YtbmpoecmjmmngaaGreat
namespace Go.Proofs.YtbmpoecmjmmngaaGreat.lawHeapRuns
open Go.ChangeShapes Go.WideShapes Go.ChangeAt Go.RowKit
set_option maxRecDepth 100000 in
theorem lifted (os : Os) (started : os.Started) (H : Type) (enc : TypeId × Value → H) :
    ReturnsInHanded {} Tryz.checked os 4 .any (Rows.heapRunsSpec.pre6 enc Tryz.prog Tryz.f4 Rows.heapRunsRow.domain false) (Rows.heapRunsSpec.post enc Tryz.prog Tryz.f4 false true false false) := by
  refine returnsInHanded_of_change (C := Tryz.checked) Tryz.own started (by kernel_rfl) Tryz.func4
    (ChangeSpec.witness6 (enc := enc) (C := Tryz.checked) false ⟨#[], #[.int .i64 0, .slice none 0 0], []⟩ 8 (by kernel_rfl) (by kernel_rfl) (by kernel_rfl) (by kernel_rfl)) ?_
  intro W base args ds gs before hval0 hW hcnd _
  have hval : ∀ (j : Nat) t v, Tryz.f4.params[j]? = some t → args[j]? = some v → Value.okWide Tryz.prog W .any base t v := hval0
  have hW' := hW
  obtain ⟨p, q, hA0, hV, rfl, hfz, hnd⟩ := hW
  have hA : DataW.TrodAll enc Tryz.prog W 0 (fun _ => true) true Tryz.f4.params.toList args.toList ds p := hA0
  rw [Tryz.params4] at hA hval
  obtain ⟨v0, vs0, d0, ds0, p0, q0, hargs, rfl, rfl, h0, r0⟩ := trodAll_cons hA
  obtain ⟨v1, vs1, d1, ds1, p1, q1, rfl, rfl, rfl, h1, r1⟩ := trodAll_cons r0
  obtain ⟨rfl, rfl, rfl⟩ := trodAll_nil r1
  obtain rfl : args = #[v0, v1] := by cases args; simp_all
  obtain ⟨rfl, rfl⟩ := trodVars_none hV
  obtain ⟨n0, rfl, w0⟩ := arg_int Tryz.underlying3 (hval 0 3 v0 rfl rfl) h0
  obtain ⟨x1, w1⟩ := arg_slice (t := tAct) reads_hacts Tryz.underlying38 (hval 1 38 v1 rfl rfl) h1
  clear hA0 hval0
  refine (heapRuns_any n0 x1 v1 W w0 w1).mono fun e W' ⟨he, bel⟩ => ?_
  subst he
  exact ⟨_, rfl, law_post Tryz.laidOut rfl (by rw [Tryz.params4]; intro t ht; have hs : Tryz.prog.types.size = Tryz.prog.types.size := rfl; simp only [List.mem_cons, List.not_mem_nil, or_false] at ht; rcases ht with rfl | rfl <;> exact ⟨by kernel_rfl, of_decide_eq_true (by kernel_rfl)⟩) (by kernel_rfl) Tryz.underlying4 rfl rfl rfl hW' bel⟩

theorem proved : Rows.HeapRunsSaid :=
  OpenClaim.holds_of_wide 4 Tryz.f4 rfl rfl rfl rfl rfl rfl rfl ⟨rfl, rfl, rfl, rfl, rfl⟩ rfl rfl rfl rfl rfl (by kernel_rfl) Tryz.func4 (by kernel_rfl)
    (of_decide_eq_true (by kernel_rfl)) (by unfold Func.isWrapper; first | (rw [if_pos (by decide +kernel)]; kernel_rfl) | (rw [if_neg (by decide +kernel)]; exact ⟨rfl, rfl⟩))
    (fun os started H enc _ => lifted os started H enc)
#print axioms proved
end Go.Proofs.YtbmpoecmjmmngaaGreat.lawHeapRuns
