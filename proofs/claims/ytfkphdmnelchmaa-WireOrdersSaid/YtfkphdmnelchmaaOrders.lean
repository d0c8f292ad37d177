/- The law WireOrders, walked. -/
import Derived.Test.YtfkphdmnelchmaaTwo
import Derived.Test.YtfkphdmnelchmaaMany20
namespace Go.Proofs.Ytfkphdmnelchmaa
open Go.RowKit Go.Maps

theorem sound_new {size credits room : Int} (h : okNew size credits room) : Sound credits 0 (newRaw size credits room) [] [] 0 :=
  ⟨sim_new size credits room, h.1, h.2.2, by show credits + _ = credits; simp, by show 0 ≤ credits; have := h.2.1; omega, h.2.1, by show 0 ≤ (0 : Int) - _; simp, by show (0 : Int) ≤ _; simp, by show (0 : Int) ≤ 4000; omega, fun x hx => by simp [contentsOf, newRaw] at hx, fun p hp => by simp [newRaw] at hp⟩
theorem own2_nil : own2 (.slice none 0 0) (.slice none 0 0) = fun _ => False := funext fun k => propext ⟨fun h => h.elim (fun e => by cases e) (fun e => by cases e), False.elim⟩
theorem two_new {size credits room : Int} (h : okNew size credits room) {base b : Nat} {w0 W : World} {M : Mem} (hS : St base b W (newRaw size credits room) 0 M (fun _ => False)) (hB : Below base w0 W) :
    Two credits base b 0 M w0 [] W (.slice none 0 0) [] (.slice none 0 0) [] (newRaw size credits room) [] [] 0 0 M :=
  ⟨by rw [own2_nil]; exact hS, sound_new h, OwnsO.nil _ _ _, OwnsO.nil _ _ _, by simp [contentsOf, newRaw], fun k e => (by cases e), fun k h => (by rw [own2_nil] at h; exact h.elim), hB, Mem.le_refl _, Nat.le_refl _⟩

set_option maxRecDepth 100000 in
set_option maxHeartbeats 8000000 in
theorem wireOrders_any (sz cr rm : Int) (xs : List Act20) (v : Value) (W : World) (hv : (tSlice tAct).rv (mem W) [v] xs) :
    Calls Try.prog 4 #[.int .i64 sz, .int .i64 cr, .int .i64 rm, v] W fun e W' => e = .returned (.bool true) ∧ Below W.heap.size W W' := by
  obtain ⟨a, cap, rfl, hl, hm, hv⟩ := slice_form hv
  have hcap : cap ≤ 9223372036854775807 := by unfold maxLen at hm; exact hm
  have HV := Lib.hid (fun (wq : World) (h : Below W.heap.size W wq) => (tSlice tAct).mono _ _ _ _ (below_mem h) hv)
  clear hm hv
  go_enter Try.func4, Try.ntmps4
  go_wp2_with fail
  refine (awake20 _).mono ?_
  rintro e w1 ⟨rfl, hb⟩
  have HB := Lib.hid hb
  clear hb
  go_wp2_with fail
  refine (many_any xs _ w1 (HV.out w1 HB.out)).mono ?_
  rintro e w2 ⟨⟨qq, rfl, hqq⟩, hb⟩
  have HB2 := Lib.hid (HB.out.trans (hb.mono HB.out.size))
  clear HB hb
  cases qq with
  | true =>
    go_wp2
    go_ret
    exact ⟨rfl, HB2.out⟩
  | false =>
    have hlen : xs.length ≤ 80 := hqq rfl
    clear hqq
    go_wp2_with fail
    refine (st_new sz cr rm (fun _ => False) w2 (fun _ h => h.elim)).mono ?_
    rintro e w3 ⟨hB3, ⟨hok, b, rfl, hS⟩ | ⟨_, rfl⟩⟩
    rotate_left
    · have HB3 := Lib.hid (HB2.out.trans (hB3.mono HB2.out.size))
      clear hB3
      go_wp2
      go_ret
      exact ⟨rfl, HB3.out⟩
    have HT := Lib.hid (two_new hok hS hB3)
    have HV2 := Lib.hid (show (tSlice tAct).rv ((mem w2).on (fun k => ¬ False)) _ xs from (tSlice tAct).mono _ _ _ _ (fun j o v e => Mem.on_some e (fun h => h)) (HV.out w2 HB2.out))
    clear hok hS hB3 HV
    generalize ((mem w2).on (fun k => ¬ False)) = M0 at HT HV2
    go_wp2
    go_loopg [11, 12, 13] xs.length (fun g p gt i wr => ∃ k : Nat, k + g = xs.length ∧ i = .int .i64 k ∧ ∃ puts gots r ah ps m N M ap cp ag cg, p = .slice ap (List.length puts) cp ∧ gt = .slice ag (List.length gots) cg ∧ N ≤ 2 * k ∧ Hid (Two cr w2.heap.size b k M0 w2 puts wr (.slice ap (List.length puts) cp) puts (.slice ag (List.length gots) cg) gots r ah ps m N M))
    case atStart => exact ⟨0, by omega, by go_num, [], [], _, _, _, _, 0, _, none, 0, none, 0, rfl, rfl, Nat.le_refl _, HT⟩
    case round =>
      clear HT
      obtain ⟨k, hkg, rfl, puts, gots, r, ah, ps, m, N, M, ap, cp, ag, cg, rfl, rfl, hN, HT⟩ := hrel
      cases gk with
      | zero =>
        obtain rfl : k = xs.length := by omega
        have hcl := HT.out.lens
        have hct := HT.out.ct
        have HD := Lib.hid (drained_any cr w2.heap.size b _ M wr r ah ps m N HT.out.st HT.out.so (by omega) (by omega))
        go_wp2_with fail
        refine HD.out.mono ?_
        rintro e w5 ⟨v5, M5, r5, N5, m5, rfl, _, _, hD⟩
        obtain ⟨a5, c5, rfl, _⟩ := hD.own.form
        have hgo := (HT.out.go.keeps (fun k e => hD.fk k (.inr e))).re hD.mm
        have hpo := (HT.out.po.keeps (fun k e => hD.fk k (.inl e))).re hD.mm
        have HGO := Lib.hid hgo
        have HPO := Lib.hid hpo
        have HD5 := Lib.hid hD
        have HL1 := Lib.hid (show gots.length + (contentsOf r ah ps).length ≤ maxLen by unfold maxLen; omega)
        have HL2 := Lib.hid (show (gots.length + (contentsOf r ah ps).length) * 56 ≤ 140737488355328 by omega)
        clear HD hgo hpo hD
        go_wp2_with (at_builtin; refine wpList_append_os rfl (.tmp 110) (.tmp 112) 36 rfl (tIn M5 tEl) (tIn_flat _ _) tElIn_one Try.underlying36 (infoEl _) rfl (Nat.succ_pos 4) _ gots (contentsOf r ah ps) rfl HGO.out _ _ _ rfl rfl (HD5.out.own.rv' (tIn_flat _ _)) HL1.out HL2.out ?_)
        intro v6 w6 own6 happ
        obtain ⟨s6, B6, _, k6⟩ := app_frame (F' := orOwn (own2 (.slice ap (List.length puts) cp) v6) (.slice a5 (contentsOf r ah ps).length c5)) HD5.out.st (fun k e => .inl (.inr e)) happ own6.lt (fun k hk => by
          rcases hk with (hk | hk) | hk
          · exact .inl (.inl (.inl hk))
          · exact .inr hk
          · exact .inl (.inr hk)) (fun k hk => by
          rcases hk with hk | hk
          · exact HT.out.ge k hk
          · exact Nat.le_trans HT.out.st.bw (HD5.out.ge k hk))
        have hp6 := HPO.out.keeps (fun j e => k6 j (HPO.out.lt j e) (HT.out.ne j e))
        have hall := HT.out.all
        rw [hall] at own6
        have HSE := Lib.hid (same_els puts _ _ w6 (slice_in (own6.rv' (tIn_flat _ _)) s6.mem) (slice_in (hp6.rv' (tIn_flat _ _)) s6.mem))
        have HB6 := Lib.hid (HB2.out.trans (((HT.out.bel.trans (HD5.out.bel.trans B6))).mono HB2.out.size))
        have hsz : w2.heap.size ≤ w6.heap.size := Nat.le_trans s6.bw (Nat.le_refl _)
        clear own6 happ s6 B6 k6 hp6 hall HGO HPO HD5 HL1 HL2 HT
        go_wp2_with fail
        refine HSE.out.mono ?_
        rintro e w7 ⟨rfl, hb⟩
        have HB7 := Lib.hid (HB6.out.trans (hb.mono HB6.out.size))
        clear hb HSE HB6
        go_wp2
        go_ret
        exact ⟨rfl, HB7.out⟩
      | succ g2 =>
        have hlt : k < xs.length := by omega
        obtain ⟨bb, o, rfl, hat⟩ := slice_at HV2.out hlt
        obtain ⟨ar, crr, hcr, q0, q1, q2, q3, q4, q5, q6, i1, i2, i3, hr⟩ := act_at hat
        clear hat
        generalize xs[k] = x at *
        have HC := Lib.hid (fun (wq : World) (h : M0.le (mem wq)) => And.intro (show wq.cell? ⟨bb, o + k * 7, none⟩ = some (.int .u8 x.kind) from h _ _ _ q0) (And.intro (show wq.cell? ⟨bb, o + k * 7 + 1, none⟩ = some (.int .i64 x.n) from h _ _ _ q1) (And.intro (show wq.cell? ⟨bb, o + k * 7 + 2, none⟩ = some (.int .i64 x.el.kind) from h _ _ _ q2) (And.intro (show wq.cell? ⟨bb, o + k * 7 + 3, none⟩ = some (.int .i64 x.el.n) from h _ _ _ q3)
          (And.intro (show wq.cell? ⟨bb, o + k * 7 + 4, none⟩ = some (.int .i64 x.el.time) from h _ _ _ q4) (And.intro (show wq.cell? ⟨bb, o + k * 7 + 5, none⟩ = some (.slice ar x.el.row.length crr) from h _ _ _ q5) (show wq.cell? ⟨bb, o + k * 7 + 6, none⟩ = some (.int .i64 x.el.cn) from h _ _ _ q6)))))))
        obtain ⟨e0, e1, e2, e3, e4, e5, e6⟩ := HC.out wr (Mem.le_trans HT.out.mm HT.out.st.mem)
        have HR := Lib.hid (And.intro i3 hr)
        have hkd8 : 0 ≤ x.kind % 8 ∧ x.kind % 8 < 8 := by omega
        have hN2 : N ≤ 200 := by omega
        have hpk : puts.length ≤ k := HT.out.ct
        have hpl : puts.length ≤ 80 := by have := HT.out.ct; omega
        have hgl : gots.length ≤ 80 := by have := HT.out.ct; have := HT.out.lens; omega
        clear q0 q1 q2 q3 q4 q5 q6 i3 hr
        go_upto_region 13 with fail
        clear i1
        generalize x.kind % 8 = kd at hkd8 ⊢
        clear e0
        rcases (by omega : kd = 0 ∨ kd = 1 ∨ kd = 2 ∨ kd = 3 ∨ kd = 4 ∨ kd = 5 ∨ kd = 6 ∨ kd = 7) with rfl | rfl | rfl | rfl | rfl | rfl | rfl | rfl
        · have HP := Lib.hid (HT.out.put (by omega) (by omega) x.el (.slice ar x.el.row.length crr) HR.out.1 (tRow.mono _ _ _ _ (Mem.le_trans HT.out.mm HT.out.st.mem) HR.out.2))
          clear HT
          go_wp2_with fail
          refine HP.out.mono ?_
          clear e1 e2 e3 e4 e5 e6 HP
          rintro e w5 (⟨r', rfl, hT⟩ | ⟨rfl, hT⟩)
          · obtain ⟨e0, e1, e2, e3, e4, e5, e6⟩ := HC.out w5 (Mem.le_trans hT.mm hT.st.mem)
            have HT1 := Lib.hid (hT.pure ((Below.refl w5.heap.size w5).alloc (Nat.le_refl _) (.cells #[.int .i64 x.el.kind, .int .i64 x.el.n, .int .i64 x.el.time, .slice ar x.el.row.length crr, .int .i64 x.el.cn] 42)))
            have HX := Lib.hid (show (tIn M tEl).rv noMem [.int .i64 x.el.kind, .int .i64 x.el.n, .int .i64 x.el.time, .slice ar x.el.row.length crr, .int .i64 x.el.cn] x.el from ⟨_, rfl, ⟨HR.out.1.k, HR.out.1.n, HR.out.1.t, HR.out.1.c⟩, tRow.mono _ _ _ _ hT.mm HR.out.2⟩)
            have HL1 := Lib.hid (show puts.length + 1 ≤ maxLen by unfold maxLen; omega)
            have HL2 := Lib.hid (show (puts.length + 1) * 56 ≤ 140737488355328 by omega)
            clear hT
            go_wp2_with (at_builtin; refine wpList_append_o1 rfl (.tmp 51) (.tmp 57) 36 rfl (tIn M tEl) Try.underlying36 (infoEl _) rfl _ puts rfl HT1.out.po _ _ x.el rfl _ el_cells HX.out el_one HL1.out HL2.out ?_)
            intro v' w7 own7 happ
            obtain ⟨a7, c7, rfl, _⟩ := own7.form
            have HT2 := Lib.hid (HT1.out.putA own7 happ)
            clear own7 happ HT1 HX HL1 HL2 e0 e1 e2 e3 e4 e5 e6
            go_wp2
            go_roundg g2
            case measure => omega
            case rel => exact ⟨k + 1, by omega, by go_num, puts ++ [x.el], gots, _, _, _, _, _, _, a7, c7, ag, cg, rfl, rfl, by omega, HT2⟩
          · have HT1 := Lib.hid hT
            clear hT
            go_wp2
            go_roundg g2
            case measure => omega
            case rel => exact ⟨k + 1, by omega, by go_num, puts, gots, _, _, _, _, _, _, ap, cp, ag, cg, rfl, rfl, by omega, HT1⟩
        · have HS := Lib.hid (HT.out.send (by omega))
          clear HT e1 e2 e3 e4 e5 e6
          go_wp2_with fail
          refine HS.out.mono ?_
          rintro e w5 ⟨⟨n1, k1, rfl⟩, r5, ah5, ps5, m5, hT⟩
          have HT1 := Lib.hid (hT.wide (Nat.le_succ k))
          clear hT HS
          go_wp2
          go_roundg g2
          case measure => omega
          case rel => exact ⟨k + 1, by omega, by go_num, puts, gots, _, _, _, _, _, _, ap, cp, ag, cg, rfl, rfl, by omega, HT1⟩
        · have HS := Lib.hid (HT.out.deliv (by omega) i2)
          clear HT
          go_wp2_with fail
          refine HS.out.mono ?_
          clear e1 e2 e3 e4 e5 e6
          rintro e w5 ⟨⟨k1, rfl⟩, r5, ah5, ps5, m5, hT⟩
          obtain ⟨e0, e1, e2, e3, e4, e5, e6⟩ := HC.out w5 (Mem.le_trans hT.mm hT.st.mem)
          have HS2 := Lib.hid (hT.deliv (by omega) i2)
          clear hT HS
          go_wp2_with fail
          refine HS2.out.mono ?_
          clear e0 e1 e2 e3 e4 e5 e6
          rintro e w6 ⟨⟨k2, rfl⟩, r6, ah6, ps6, m6, hT⟩
          have HT1 := Lib.hid (hT.wide (Nat.le_succ k))
          clear hT HS2
          go_wp2
          go_roundg g2
          case measure => omega
          case rel => exact ⟨k + 1, by omega, by go_num, puts, gots, _, _, _, _, _, _, ap, cp, ag, cg, rfl, rfl, by omega, HT1⟩
        · have HS := Lib.hid (HT.out.lose i2)
          clear HT
          go_wp2_with fail
          refine HS.out.mono ?_
          clear e1 e2 e3 e4 e5 e6
          rintro e w5 ⟨⟨k1, rfl⟩, r5, ah5, ps5, m5, hT⟩
          have HT1 := Lib.hid (hT.wide (Nat.le_succ k))
          clear hT HS
          go_wp2
          go_roundg g2
          case measure => omega
          case rel => exact ⟨k + 1, by omega, by go_num, puts, gots, _, _, _, _, _, _, ap, cp, ag, cg, rfl, rfl, by omega, HT1⟩
        · have HS := Lib.hid (HT.out.recv (by omega))
          clear HT e1 e2 e3 e4 e5 e6
          go_wp2_with fail
          refine HS.out.mono ?_
          rintro e w6 (⟨M6, rfl, r5, ah5, ps5, m5, hT⟩ | ⟨M6, y, a6, c6, r6, ah6, ps6, m6, rfl, hrow, hok, hP, hT⟩)
          · have HT1 := Lib.hid (fun o => (hT.wide (Nat.le_succ k)).pure ((Below.refl _ _).alloc (Nat.le_refl _) o))
            clear hT HS
            simp only [elV]
            go_wp2
            go_roundg g2
            case measure => omega
            case rel => exact ⟨k + 1, by omega, by go_num, puts, gots, _, _, _, _, _, _, ap, cp, ag, cg, rfl, rfl, by omega, HT1.out _⟩
          · have HB := Lib.hid (((Below.refl w6.heap.size w6).alloc (Nat.le_refl _) (.cells #[.int .i64 y.kind, .int .i64 y.n, .int .i64 y.time, .slice a6 y.row.length c6, .int .i64 y.cn] 42)).alloc (by simp) (.cells #[.int .i64 y.kind, .int .i64 y.n, .int .i64 y.time, .slice a6 y.row.length c6, .int .i64 y.cn] 42))
            have HT1 := Lib.hid (hT.pure HB.out)
            have HX := Lib.hid (show (tIn M6 tEl).rv noMem [.int .i64 y.kind, .int .i64 y.n, .int .i64 y.time, .slice a6 y.row.length c6, .int .i64 y.cn] y from ⟨_, rfl, ⟨hok.k, hok.n, hok.t, hok.c⟩, hrow⟩)
            have HP := Lib.hid hP
            have HL1 := Lib.hid (show gots.length + 1 ≤ maxLen by unfold maxLen; omega)
            have HL2 := Lib.hid (show (gots.length + 1) * 56 ≤ 140737488355328 by omega)
            clear hT hok hrow hP HB HS
            simp only [elV]
            go_wp2_with (at_builtin; refine wpList_append_o1 rfl (.tmp 97) (.tmp 99) 36 rfl (tIn M6 tEl) Try.underlying36 (infoEl _) rfl _ gots rfl HT1.out.go _ _ y rfl _ el_cells2 HX.out el_one HL1.out HL2.out ?_)
            intro v' w7 own7 happ
            obtain ⟨a7, c7, rfl, _⟩ := own7.form
            have HT2 := Lib.hid ((HT1.out.wide (Nat.le_succ k)).gotA own7 happ HP.out.symm (by omega))
            clear own7 happ HT1 HX HL1 HL2 HP
            go_wp2
            go_roundg g2
            case measure => omega
            case rel => exact ⟨k + 1, by omega, by go_num, puts, gots ++ [y], _, _, _, _, _, _, ap, cp, a7, c7, rfl, rfl, by omega, HT2⟩
        · have HT1 := Lib.hid (HT.out.wide (Nat.le_succ k))
          clear HT e1 e2 e3 e4 e5 e6
          go_wp2
          go_roundg g2
          case measure => omega
          case rel => exact ⟨k + 1, by omega, by go_num, puts, gots, _, _, _, _, _, _, ap, cp, ag, cg, rfl, rfl, by omega, HT1⟩
        · have HS := Lib.hid (HT.out.resize x.n)
          clear HT
          go_wp2_with fail
          refine HS.out.mono ?_
          clear e1 e2 e3 e4 e5 e6
          rintro e w5 ⟨⟨k1, rfl⟩, r5, ah5, ps5, m5, hT⟩
          have HT1 := Lib.hid (hT.wide (Nat.le_succ k))
          clear hT HS
          go_wp2
          go_roundg g2
          case measure => omega
          case rel => exact ⟨k + 1, by omega, by go_num, puts, gots, _, _, _, _, _, _, ap, cp, ag, cg, rfl, rfl, by omega, HT1⟩
        · have HT1 := Lib.hid (HT.out.wide (Nat.le_succ k))
          clear HT e1 e2 e3 e4 e5 e6
          go_wp2
          go_roundg g2
          case measure => omega
          case rel => exact ⟨k + 1, by omega, by go_num, puts, gots, _, _, _, _, _, _, ap, cp, ag, cg, rfl, rfl, by omega, HT1⟩
end Go.Proofs.Ytfkphdmnelchmaa
