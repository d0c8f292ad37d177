/- The statement WireCreditsSaid: for every input the law WireCredits returns true and leaves its arguments as they were. -/
import Derived.Test.YtfkphdmnelchmaaWc10
/- The law WireCredits, walked. -/
namespace Go.Proofs.Ytfkphdmnelchmaa
open Go.RowKit Go.Maps

set_option maxRecDepth 100000 in
set_option maxHeartbeats 8000000 in
theorem wireCredits_any (sz cr rm : Int) (xs : List Act20) (v : Value) (W : World) (hv : (tSlice tAct).rv (mem W) [v] xs) :
    Calls Try.prog 6 #[.int .i64 sz, .int .i64 cr, .int .i64 rm, v] W fun e W' => e = .returned (.bool true) ∧ Below W.heap.size W W' := by
  obtain ⟨a, cap, rfl, hl, hm, hv⟩ := slice_form hv
  have hcap : cap ≤ 9223372036854775807 := by unfold maxLen at hm; exact hm
  have HV := Lib.hid (fun (wq : World) (h : Below W.heap.size W wq) => (tSlice tAct).mono _ _ _ _ (below_mem h) hv)
  clear hm hv
  go_enter Try.func6, Try.ntmps6
  go_wp2_with fail
  refine (awake20 _).mono ?_
  rintro e w1 ⟨rfl, hb⟩
  have HB := Lib.hid hb
  clear hb
  go_wp2_with fail
  refine (many_any xs _ w1 (HV.out w1 HB.out)).mono ?_
  rintro e w2 ⟨⟨qq, rfl, hqq⟩, hb⟩
  have HB2 := Lib.hid (HB.out.trans (hb.mono HB.out.size))
  clear HB hb
  cases qq with
  | true =>
    go_wp2
    go_ret
    exact ⟨rfl, HB2.out⟩
  | false =>
    have hlen : xs.length ≤ 80 := hqq rfl
    clear hqq
    go_wp2_with fail
    refine (st_new sz cr rm (fun _ => False) w2 (fun _ h => h.elim)).mono ?_
    rintro e w3 ⟨hB3, ⟨hok, b, rfl, hS⟩ | ⟨hno, rfl⟩⟩
    rotate_left
    · have HB3 := Lib.hid (HB2.out.trans (hB3.mono HB2.out.size))
      clear hB3
      go_wp2_with fail
      refine (refNew_any sz cr rm w3).mono ?_
      rintro e w4 ⟨⟨h1, _⟩ | ⟨_, rfl⟩, hb4⟩
      · exact absurd h1 hno
      have HB4 := Lib.hid (fun o => (HB3.out.trans (hb4.mono HB3.out.size)).alloc (HB3.out.trans (hb4.mono HB3.out.size)).size o)
      clear hb4 HB3
      go_wp2
      go_ret
      exact ⟨rfl, HB4.out _⟩
    go_wp2_with fail
    refine (refNew_any sz cr rm w3).mono ?_
    rintro e w4 ⟨⟨_, rfl⟩ | ⟨h1, _⟩, hb4⟩
    rotate_left
    · exact absurd hok h1
    have HT := Lib.hid (both_new hok hS hB3 hb4)
    have HV2 := Lib.hid (show (tSlice tAct).rv ((mem w2).on (fun k => ¬ False)) _ xs from (tSlice tAct).mono _ _ _ _ (fun j o v e => Mem.on_some e (fun h => h)) (HV.out w2 HB2.out))
    clear hS hB3 HV hb4
    generalize ((mem w2).on (fun k => ¬ False)) = M0 at HT HV2
    have hcr := hok.2.1
    clear hok
    go_wp2
    go_loopg [13] xs.length (fun g i wr => ∃ k : Nat, k + g = xs.length ∧ i = .int .i64 k ∧ ∃ r ah ps m N M a q p, N ≤ k ∧ Hid (Both cr w2.heap.size b w4.heap.size k M0 w2 wr r ah ps m N M a q p))
    case atStart => exact ⟨0, by omega, by go_num, _, _, _, _, 0, _, _, _, _, Nat.le_refl _, HT⟩
    case round =>
      clear HT
      obtain ⟨k, hkg, rfl, r, ah, ps, m, N, M, a0, q0, p0, hN, HT⟩ := hrel
      cases gk with
      | zero =>
        obtain rfl : k = xs.length := by omega
        have hcl := HT.out.cnt
        have hcn := HT.out.so.cnt0
        have HD := Lib.hid (drained_any cr w2.heap.size b _ M wr r ah ps m N HT.out.st HT.out.so (by omega) (by omega))
        go_wp2_with fail
        refine HD.out.mono ?_
        rintro e w5 ⟨v5, M5, r5, N5, m5, rfl, hq5, _, hD⟩
        have hc5 : r5.credits = cr := by have := hD.so.cr; simpa using this
        have hb5 : r5.buffer = [] := by have := hD.so.buf; simpa using this
        have HS := Lib.hid (fun n => hD.st.drewN n)
        have HB5 := Lib.hid (HB2.out.trans ((HT.out.bel.trans hD.bel).mono HB2.out.size))
        have HQ5 := Lib.hid (show (r5.queue.length : Int) = 0 by rw [hq5]; rfl)
        have HBF := Lib.hid (show (r5.buffer.length : Int) = 0 by rw [hb5]; rfl)
        clear hD HD hq5 hb5
        go_wp2_with fail
        refine (st_credits (HS.out 0)).mono ?_
        rintro e w6 ⟨rfl, rfl⟩
        rw [hc5]
        go_wp2_with fail
        refine (st_queue (HS.out 0)).mono ?_
        rintro e w6 ⟨rfl, rfl⟩
        rw [HQ5.out]
        go_wp2_with fail
        refine (st_buffer (HS.out 0)).mono ?_
        rintro e w6 ⟨rfl, rfl⟩
        rw [HBF.out]
        go_wp2
        go_ret
        exact ⟨rfl, HB5.out⟩
      | succ g2 =>
        have hlt : k < xs.length := by omega
        obtain ⟨bb, o, rfl, hat⟩ := slice_at HV2.out hlt
        obtain ⟨ar, crr, hcr, q0, q1, q2, q3, q4, q5, q6, i1, i2, i3, hr⟩ := act_at hat
        clear hat
        generalize xs[k] = x at *
        have HC := Lib.hid (fun (wq : World) (h : M0.le (mem wq)) => And.intro (show wq.cell? ⟨bb, o + k * 7, none⟩ = some (.int .u8 x.kind) from h _ _ _ q0) (And.intro (show wq.cell? ⟨bb, o + k * 7 + 1, none⟩ = some (.int .i64 x.n) from h _ _ _ q1) (And.intro (show wq.cell? ⟨bb, o + k * 7 + 2, none⟩ = some (.int .i64 x.el.kind) from h _ _ _ q2) (And.intro (show wq.cell? ⟨bb, o + k * 7 + 3, none⟩ = some (.int .i64 x.el.n) from h _ _ _ q3)
                  (And.intro (show wq.cell? ⟨bb, o + k * 7 + 4, none⟩ = some (.int .i64 x.el.time) from h _ _ _ q4) (And.intro (show wq.cell? ⟨bb, o + k * 7 + 5, none⟩ = some (.slice ar x.el.row.length crr) from h _ _ _ q5) (show wq.cell? ⟨bb, o + k * 7 + 6, none⟩ = some (.int .i64 x.el.cn) from h _ _ _ q6)))))))
        have HD := Lib.hid ((HT.out.pure (Below.refl wr.heap.size wr).drew).does (by omega) (by omega) x (.slice ar x.el.row.length crr) i3 i2 i1 hr)
        have HBD := Lib.hid (HT.out.pure (Below.refl wr.heap.size wr).drew).bel
        clear q0 q1 q2 q3 q4 q5 q6 i1 i2 i3 hr
        go_upto_region 12 with fail
        obtain ⟨e0, e1, e2, e3, e4, e5, e6⟩ := HC.out wr.drew (Mem.le_trans HT.out.mm HT.out.st.mem)
        obtain ⟨aa, ca, rfl, _, hma, _⟩ := slice_form HT.out.rf.ha
        obtain ⟨aq, cq, rfl, _, hmq, _⟩ := slice_form HT.out.rf.hq
        obtain ⟨ap, cp, rfl, _, hmp, _⟩ := slice_form HT.out.rf.hp
        have hca : ca ≤ 9223372036854775807 := by unfold maxLen at hma; exact hma
        have hcq : cq ≤ 9223372036854775807 := by unfold maxLen at hmq; exact hmq
        have hcp : cp ≤ 9223372036854775807 := by unfold maxLen at hmp; exact hmp
        clear hma hmq hmp
        have c0 : wr.drew.cell? ⟨w4.heap.size, 0, none⟩ = some (.int .i64 (refOf r ah ps).size) := HT.out.cells 0
        have c1 : wr.drew.cell? ⟨w4.heap.size, 1, none⟩ = some (.int .i64 (refOf r ah ps).room) := HT.out.cells 1
        have c2 : wr.drew.cell? ⟨w4.heap.size, 2, none⟩ = some (.int .i64 (refOf r ah ps).credits) := HT.out.cells 2
        have c3 : wr.drew.cell? ⟨w4.heap.size, 3, none⟩ = some (.int .i64 (refOf r ah ps).next) := HT.out.cells 3
        have c4 : wr.drew.cell? ⟨w4.heap.size, 4, none⟩ = some (.slice aa (refOf r ah ps).ahead.length ca) := HT.out.cells 4
        have c5 : wr.drew.cell? ⟨w4.heap.size, 5, none⟩ = some (.slice aq (refOf r ah ps).queue.length cq) := HT.out.cells 5
        have c6 : wr.drew.cell? ⟨w4.heap.size, 6, none⟩ = some (.slice ap (refOf r ah ps).pk.length cp) := HT.out.cells 6
        go_region_law (go_simp; go_at_call 25; refine HD.out.mono ?_; rintro e w5 ⟨r5, ah5, ps5, m5, M5, a5, q5, p5, rfl, hrun5, hct5, hbr5, y0, y1, y2, y3, y4, y5, y6, hR5⟩; obtain ⟨a5a, a5c, rfl, _, hz1, _⟩ := slice_form hrun5.rf.ha; obtain ⟨q5a, q5c, rfl, _, hz2, _⟩ := slice_form hrun5.rf.hq; obtain ⟨p5a, p5c, rfl, _, hz3, _⟩ := slice_form hrun5.rf.hp; clear hz1 hz2 hz3; have f5 := frozen_cells hR5; have z0 : w5.cell? ⟨w4.heap.size, 0, none⟩ = some y0 := mem_cells hR5 0; have z1 : w5.cell? ⟨w4.heap.size, 1, none⟩ = some y1 := mem_cells hR5 1; have z2 : w5.cell? ⟨w4.heap.size, 2, none⟩ = some y2 := mem_cells hR5 2; have z3 : w5.cell? ⟨w4.heap.size, 3, none⟩ = some y3 := mem_cells hR5 3; have z4 : w5.cell? ⟨w4.heap.size, 4, none⟩ = some y4 := mem_cells hR5 4; have z55 : w5.cell? ⟨w4.heap.size, 5, none⟩ = some y5 := mem_cells hR5 5; have z6 : w5.cell? ⟨w4.heap.size, 6, none⟩ = some y6 := mem_cells hR5 6; have HT5 := Lib.hid (hrun5.stored HBD.out hct5 hbr5 hR5); clear hrun5 hct5 hbr5 hR5 HD)
        clear c0 c1 c2 c3 c4 c5 c6 e0 e1 e2 e3 e4 e5 e6
        all_goals
          go_upto_region 13 with fail
          have hcrd := HT5.out.so.cr
          have hc0 := HT5.out.so.c0
          have hpl5 : ((refOf r5 ah5 ps5).pk.length : Int) = ps5.length := by show (((ps5.map _).length : Nat) : Int) = _; rw [List.length_map]
          have g6 := HT5.out.cells 6
          have HST := Lib.hid (fun n => HT5.out.st.drewN n)
          show Code.wp _ _ _ _ (store7 w5 w4.heap.size (.int .i64 (refOf r5 ah5 ps5).size) (.int .i64 (refOf r5 ah5 ps5).room) (.int .i64 (refOf r5 ah5 ps5).credits) (.int .i64 (refOf r5 ah5 ps5).next) (.slice a5a (refOf r5 ah5 ps5).ahead.length a5c) (.slice q5a (refOf r5 ah5 ps5).queue.length q5c) (.slice p5a (refOf r5 ah5 ps5).pk.length p5c))
          generalize store7 w5 w4.heap.size (.int .i64 (refOf r5 ah5 ps5).size) (.int .i64 (refOf r5 ah5 ps5).room) (.int .i64 (refOf r5 ah5 ps5).credits) (.int .i64 (refOf r5 ah5 ps5).next) (.slice a5a (refOf r5 ah5 ps5).ahead.length a5c) (.slice q5a (refOf r5 ah5 ps5).queue.length q5c) (.slice p5a (refOf r5 ah5 ps5).pk.length p5c) = X at HT5 HST g6 ⊢
          have hcmp : (IntKind.i64.wrap (r5.credits + ((refOf r5 ah5 ps5).pk.length : Int)) != cr) = false := by rw [IntWalk.i64_in _ (by omega), hpl5, hcrd]; simp
          have hlt0 : decide (r5.credits < 0) = false := by simp; omega
          have g6 : X.cell? ⟨w4.heap.size, 6, none⟩ = some (.slice p5a (refOf r5 ah5 ps5).pk.length p5c) := g6
          have HCr := Lib.hid (fun n => st_credits (HST.out n))
          have HQu := Lib.hid (fun n => st_queue (HST.out n))
          have HWa := Lib.hid (fun n => st_waits (HST.out n))
          have HT6 := Lib.hid (fun n => HT5.out.pure (W' := X.drewN n) ⟨rfl, rfl, rfl, Nat.le_refl _, fun _ _ => rfl⟩)
          clear HT5 HST
          generalize hpl6 : (refOf r5 ah5 ps5).pk.length = pl at *
          generalize hql : r5.queue.length = ql at *
          generalize hrc : r5.credits = rc at *
          have hpl7 : pl ≤ 100 := by omega
          have hrc7 : rc ≤ 100 := by omega
          clear hpl6 hql hrc hpl5 hcrd
          rcases Nat.eq_zero_or_pos ql with rfl | hq
          · have hw : (decide (0 < 0) && decide (rc = 0)) = false := by simp
            rw [hw] at HWa
            clear hw
            go_quiet (first
              | (go_at_call 28; exact Calls.quiet_of_same (HCr.out _))
              | (go_at_call 29; exact Calls.quiet_of_same (HWa.out _))
              | (go_at_call 30; exact Calls.quiet_of_same (HQu.out _)))
            go_wp2
            go_roundg g2
            case measure => omega
            case rel => exact ⟨k + 1, by omega, by go_num, _, _, _, _, _, _, _, _, _, by omega, HT6.out _⟩
          · have hq1 : decide (0 < ql) = true := by simpa using hq
            have hq2 : decide ((0 : Int) < (ql : Int)) = true := by simp; omega
            by_cases hr : rc = 0
            · have hw : (decide (0 < ql) && decide (rc = 0)) = true := by rw [hq1, hr]; rfl
              rw [hw] at HWa
              have hr2 : (rc == 0) = true := by simpa using hr
              clear hw hr
              go_quiet (first
                | (go_at_call 28; exact Calls.quiet_of_same (HCr.out _))
                | (go_at_call 29; exact Calls.quiet_of_same (HWa.out _))
                | (go_at_call 30; exact Calls.quiet_of_same (HQu.out _)))
              go_wp2
              go_roundg g2
              case measure => omega
              case rel => exact ⟨k + 1, by omega, by go_num, _, _, _, _, _, _, _, _, _, by omega, HT6.out _⟩
            · have hw : (decide (0 < ql) && decide (rc = 0)) = false := by simp [hr]
              rw [hw] at HWa
              have hr2 : (rc == 0) = false := by simpa using hr
              clear hw hr
              go_quiet (first
                | (go_at_call 28; exact Calls.quiet_of_same (HCr.out _))
                | (go_at_call 29; exact Calls.quiet_of_same (HWa.out _))
                | (go_at_call 30; exact Calls.quiet_of_same (HQu.out _)))
              go_wp2
              go_roundg g2
              case measure => omega
              case rel => exact ⟨k + 1, by omega, by go_num, _, _, _, _, _, _, _, _, _, by omega, HT6.out _⟩
end Go.Proofs.Ytfkphdmnelchmaa
namespace Go.Proofs.Ytfkphdmnelchmaa.lawWireCredits
open Go.ChangeShapes Go.WideShapes Go.ChangeAt Go.RowKit
set_option maxRecDepth 100000 in
theorem lifted (os : Os) (started : os.Started) (H : Type) (enc : TypeId × Value → H) :
    ReturnsInHanded {} Try.checked os 6 .any (Rows.wireCreditsSpec.pre6 enc Try.prog Try.f6 Rows.wireCreditsRow.domain false) (Rows.wireCreditsSpec.post enc Try.prog Try.f6 false true false false) := by
  refine returnsInHanded_of_change (C := Try.checked) Try.own started (by kernel_rfl) Try.func6
    (ChangeSpec.witness6 (enc := enc) (C := Try.checked) false ⟨#[], #[.int .i64 0, .int .i64 0, .int .i64 0, .slice none 0 0], []⟩ 8 (by kernel_rfl) (by kernel_rfl) (by kernel_rfl) (by kernel_rfl)) ?_
  intro W base args ds gs before hval0 hW hcnd _
  have hval : ∀ (j : Nat) t v, Try.f6.params[j]? = some t → args[j]? = some v → Value.okWide Try.prog W .any base t v := hval0
  have hW' := hW
  obtain ⟨p, q, hA0, hV, rfl, hfz, hnd⟩ := hW
  have hA : DataW.TrodAll enc Try.prog W 0 (fun _ => true) true Try.f6.params.toList args.toList ds p := hA0
  rw [Try.params6] at hA hval
  obtain ⟨v0, vs0, d0, ds0, p0, q0, hargs, rfl, rfl, h0, r0⟩ := trodAll_cons hA
  obtain ⟨v1, vs1, d1, ds1, p1, q1, rfl, rfl, rfl, h1, r1⟩ := trodAll_cons r0
  obtain ⟨v2, vs2, d2, ds2, p2, q2, rfl, rfl, rfl, h2, r2⟩ := trodAll_cons r1
  obtain ⟨v3, vs3, d3, ds3, p3, q3, rfl, rfl, rfl, h3, r3⟩ := trodAll_cons r2
  obtain ⟨rfl, rfl, rfl⟩ := trodAll_nil r3
  obtain rfl : args = #[v0, v1, v2, v3] := by cases args; simp_all
  obtain ⟨rfl, rfl⟩ := trodVars_none hV
  obtain ⟨n0, rfl, w0⟩ := arg_int Try.underlying3 (hval 0 3 v0 rfl rfl) h0
  obtain ⟨n1, rfl, w1⟩ := arg_int Try.underlying3 (hval 1 3 v1 rfl rfl) h1
  obtain ⟨n2, rfl, w2⟩ := arg_int Try.underlying3 (hval 2 3 v2 rfl rfl) h2
  obtain ⟨x3, w3⟩ := arg_slice (t := tAct) reads_acts Try.underlying31 (hval 3 31 v3 rfl rfl) h3
  clear hA0 hval0
  refine (wireCredits_any n0 n1 n2 x3 v3 W w3).mono fun e W' ⟨he, bel⟩ => ?_
  subst he
  exact ⟨_, rfl, law_post Try.laidOut rfl (by rw [Try.params6]; intro t ht; have hs : Try.prog.types.size = Try.prog.types.size := rfl; simp only [List.mem_cons, List.not_mem_nil, or_false] at ht; rcases ht with rfl | rfl | rfl | rfl <;> exact ⟨by kernel_rfl, of_decide_eq_true (by kernel_rfl)⟩) (by kernel_rfl) Try.underlying4 rfl rfl rfl hW' bel⟩

theorem proved : Rows.WireCreditsSaid :=
  OpenClaim.holds_of_wide 6 Try.f6 rfl rfl rfl rfl rfl rfl rfl ⟨rfl, rfl, rfl, rfl, rfl⟩ rfl rfl rfl rfl rfl (by kernel_rfl) Try.func6 (by kernel_rfl)
    (of_decide_eq_true (by kernel_rfl)) (by unfold Func.isWrapper; first | (rw [if_pos (by decide +kernel)]; kernel_rfl) | (rw [if_neg (by decide +kernel)]; exact ⟨rfl, rfl⟩))
    (fun os started H enc _ => lifted os started H enc)
#print axioms proved
end Go.Proofs.Ytfkphdmnelchmaa.lawWireCredits
