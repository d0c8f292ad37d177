/- The statement WireOvertakesSaid: for every input the law WireOvertakes returns true and leaves its arguments as they were. -/
import Derived.Test.YtfkphdmnelchmaaWc10
/- The law WireOvertakes, walked. -/
namespace Go.Proofs.Ytfkphdmnelchmaa
open Go.RowKit Go.Maps

@[reducible] def barE (kk : Int) : El := ⟨3, kk, 0, [], 0⟩
theorem barE_ok {kk : Int} (h : 1 ≤ kk ∧ kk ≤ 1000000) : (barE kk).ok := ⟨by show inI64 3; unfold inI64; omega, by unfold inI64; show _ ≤ kk ∧ kk ≤ _; omega, by show inI64 0; unfold inI64; omega, by show inI64 0; unfold inI64; omega⟩
theorem barE_valid {kk : Int} (h : 1 ≤ kk ∧ kk ≤ 1000000) : validEl (barE kk) = true := by unfold validEl; simp [h.1, h.2]
theorem barE_lit {kk : Int} (h : 1 ≤ kk ∧ kk ≤ 1000000) (M : Mem) : (tIn M tEl).rv noMem [.int .i64 3, .int .i64 kk, .int .i64 0, .slice none 0 0, .int .i64 0] (barE kk) :=
  ⟨_, rfl, ⟨(barE_ok h).k, (barE_ok h).n, (barE_ok h).t, (barE_ok h).c⟩, slice_nil _ _⟩
/-- What is drained, and what it shall be, can be read. -/
def Ends (base : Nat) (X : List El) (w0 : World) (W : World) (v5 vA : Value) : Prop := tEls.rv (mem W) [v5] X ∧ tEls.rv (mem W) [vA] X ∧ Below base w0 W ∧ base ≤ W.heap.size
theorem ends_same {base : Nat} {X : List El} {w0 W Wi : World} {v5 vA : Value} (h : Ends base X w0 W v5 vA) (hb0 : Below Wi.heap.size Wi w0) (h0 : Wi.heap.size ≤ base) : Calls Try.prog 22 #[v5, vA] W fun e W' => e = .returned (.bool true) ∧ Below Wi.heap.size Wi W' :=
  (same_els X v5 vA W h.1 h.2.1).mono fun e W' ⟨he, hb⟩ => ⟨he, hb0.trans ((h.2.2.1.trans (hb.mono h.2.2.2)).mono h0)⟩
section
variable {c : Int} {base b m N N5 m5 : Nat} {M M5 : Mem} {w0 w8 W W' w5 w6 : World} {r r5 : Raw} {ah : List El} {ps : List PK} {F : Nat → Prop} {v v5 vA vl : Value} {x : El} {C : List El}
theorem own_ends {e : TypeId} {xs : List El} (h : OwnsO (tIn M tEl) W e v xs) (hM : M.le (mem W)) : tEls.rv (mem W) [v] xs := slice_in (h.rv' (tIn_flat _ _)) hM
/-- Drained, the literal, append. -/
theorem ends1 (hD : Dr c base b F M W (x :: C) w5 v5 (x :: C) r5 [] [] m5 N5 M5) (hz : Below w5.heap.size w5 W') (own6 : OwnsO (tIn M5 tEl) w6 42 vA ([x] ++ C)) (happ : AppAt W' w6 vl 1 C.length vA) (hl : ∀ k, vl.ownBlock = some k → w5.heap.size ≤ k) (hw : Below base w0 W) : Ends base (x :: C) w0 w6 v5 vA := by
  obtain ⟨hb6, _⟩ := app_below hz happ hl
  have h := hD.pure hb6
  exact ⟨own_ends h.own h.st.mem, own_ends own6 h.st.mem, hw.trans h.bel, h.st.bw⟩
/-- The literal, drained, append. -/
theorem ends2 {nb : Nat} (hD : Dr c base b (fun k => F k ∨ vl.ownBlock = some k) M W (x :: C) w5 v5 (x :: C) r5 [] [] m5 N5 M5) (own6 : OwnsO (tIn M5 tEl) w6 42 vA ([x] ++ C)) (happ : AppAt w5 w6 vl 1 C.length vA) (hl : vl.ownBlock = some nb) (hge : ∀ k, F k ∨ vl.ownBlock = some k → base ≤ k) (hw : Below base w0 W) : Ends base (x :: C) w0 w6 v5 vA := by
  have hnb := hD.fl nb (.inr hl)
  obtain ⟨s6, B6, _, k6⟩ := app_frame (F' := orOwn (fun k => F k ∨ vl.ownBlock = some k) v5) hD.st (fun k e => .inl (.inr e)) happ own6.lt (fun k hk => .inl hk) (fun k hk => by
    rcases hk with hk | hk
    · exact hge k hk
    · exact Nat.le_trans hD.b0 (hD.ge k hk))
  have o5 := hD.own.keeps (fun k e => k6 k (hD.own.lt k e) (fun e2 => by have := hD.ge k e; rw [hl] at e2; injection e2 with e2; omega))
  exact ⟨own_ends o5 s6.mem, own_ends own6 s6.mem, (hw.trans hD.bel).trans B6, s6.bw⟩
/-- The literal, append, drained. -/
theorem ends3 (hD : Dr c base b (fun k => F k ∨ vA.ownBlock = some k) M W (x :: C) w5 v5 (x :: C) r5 [] [] m5 N5 M5) (own : OwnsO (tIn M tEl) W 42 vA ([x] ++ C)) (hw : Below base w0 W) : Ends base (x :: C) w0 w5 v5 vA :=
  ⟨own_ends hD.own hD.st.mem, own_ends ((own.keeps (fun k e => hD.fk k (.inr e))).re hD.mm) hD.st.mem, hw.trans hD.bel, hD.st.bw⟩
theorem ends_st (h : St base b w8 r N M F) (hb : Below w8.heap.size w8 W) (hv : ∀ k, v.ownBlock = some k → w8.heap.size ≤ k) (hlt : ∀ k, v.ownBlock = some k → k < W.heap.size) : St base b W r N M (fun k => F k ∨ v.ownBlock = some k) :=
  (h.foreign (F' := fun k => F k ∨ v.ownBlock = some k) ((below_keeps hb).wide (fun k h1 h2 => by omega)) (fun k e => e.elim (fun e => ⟨.inl e, Nat.lt_of_lt_of_le (h.fl k e) hb.size⟩) (fun e => ⟨.inr (hv k e), hlt k e⟩))).1
end
set_option maxRecDepth 100000 in
set_option maxHeartbeats 8000000 in
theorem wireOvertakes_any (sz cr rm kk : Int) (xs : List Act20) (v : Value) (W : World) (hv : (tSlice tAct).rv (mem W) [v] xs) :
    Calls Try.prog 5 #[.int .i64 sz, .int .i64 cr, .int .i64 rm, v, .int .i64 kk] W fun e W' => e = .returned (.bool true) ∧ Below W.heap.size W W' := by
  obtain ⟨a, cap, rfl, hl, hm, hv⟩ := slice_form hv
  have hcap : cap ≤ 9223372036854775807 := by unfold maxLen at hm; exact hm
  have HV := Lib.hid (fun (wq : World) (h : Below W.heap.size W wq) => (tSlice tAct).mono _ _ _ _ (below_mem h) hv)
  clear hm hv
  go_enter Try.func5, Try.ntmps5
  go_wp2_with fail
  refine (awake20 _).mono ?_
  rintro e w1 ⟨rfl, hb⟩
  have HB := Lib.hid hb
  clear hb
  go_wp2_with fail
  refine (many_any xs _ w1 (HV.out w1 HB.out)).mono ?_
  rintro e w2 ⟨⟨qq, rfl, hqq⟩, hb⟩
  have HB2 := Lib.hid (HB.out.trans (hb.mono HB.out.size))
  clear HB hb
  cases qq with
  | true =>
    go_wp2
    go_ret
    exact ⟨rfl, HB2.out⟩
  | false =>
    have hlen : xs.length ≤ 80 := hqq rfl
    clear hqq
    go_wp2_with fail
    refine (st_new sz cr rm (fun _ => False) w2 (fun _ h => h.elim)).mono ?_
    rintro e w3 ⟨hB3, ⟨hok, b, rfl, hS⟩ | ⟨hno, rfl⟩⟩
    rotate_left
    · have HB3 := Lib.hid (HB2.out.trans (hB3.mono HB2.out.size))
      clear hB3
      go_wp2_with fail
      refine (refNew_any sz cr rm w3).mono ?_
      rintro e w4 ⟨⟨h1, _⟩ | ⟨_, rfl⟩, hb4⟩
      · exact absurd h1 hno
      have HB4 := Lib.hid (fun o => (HB3.out.trans (hb4.mono HB3.out.size)).alloc (HB3.out.trans (hb4.mono HB3.out.size)).size o)
      clear hb4 HB3
      go_wp2
      go_ret
      exact ⟨rfl, HB4.out _⟩
    go_wp2_with fail
    refine (refNew_any sz cr rm w3).mono ?_
    rintro e w4 ⟨⟨_, rfl⟩ | ⟨h1, _⟩, hb4⟩
    rotate_left
    · exact absurd hok h1
    have HT := Lib.hid (both_new hok hS hB3 hb4)
    have HV2 := Lib.hid (show (tSlice tAct).rv ((mem w2).on (fun k => ¬ False)) _ xs from (tSlice tAct).mono _ _ _ _ (fun j o v e => Mem.on_some e (fun h => h)) (HV.out w2 HB2.out))
    clear hS hB3 HV hb4
    generalize ((mem w2).on (fun k => ¬ False)) = M0 at HT HV2
    by_cases hk1 : kk < 1
    · have hd1 : decide (kk < 1) = true := by simpa using hk1
      have HB9 := Lib.hid (HB2.out.trans (HT.out.bel.mono HB2.out.size))
      clear hk1 HT
      go_wp2
      go_ret
      exact ⟨rfl, HB9.out⟩
    have hd1 : decide (kk < 1) = false := by simpa using hk1
    by_cases hk2 : kk > 1000000
    · have hd2 : decide (1000000 < kk) = true := by simpa using hk2
      have HB9 := Lib.hid (HB2.out.trans (HT.out.bel.mono HB2.out.size))
      clear hk1 hk2 HT
      go_wp2
      go_ret
      exact ⟨rfl, HB9.out⟩
    have hd2 : decide (1000000 < kk) = false := by simpa using hk2
    have HK := Lib.hid (show 1 ≤ kk ∧ kk ≤ 1000000 by omega)
    have hc1 := hok.2.1.1
    clear hok hk1 hk2
    go_wp2
    clear hd1 hd2
    go_loopg [15] xs.length (fun g i wr => ∃ k : Nat, k + g = xs.length ∧ i = .int .i64 k ∧ ∃ r ah ps m N M a q p, N ≤ k ∧ Hid (Both cr w2.heap.size b w4.heap.size k M0 w2 wr r ah ps m N M a q p))
    case atStart => exact ⟨0, by omega, by go_num, _, _, _, _, 0, _, _, _, _, Nat.le_refl _, HT⟩
    case round =>
      clear HT
      obtain ⟨k, hkg, rfl, r, ah, ps, m, N, M, a0, q0, p0, hN, HT⟩ := hrel
      cases gk with
      | zero =>
        obtain rfl : k = xs.length := by omega
        have hcl := HT.out.cnt
        have hcn := HT.out.so.cnt0
        have HC := Lib.hid (st_contents HT.out.st HT.out.so (by omega))
        go_wp2_with fail
        refine HC.out.mono ?_
        rintro e w5 ⟨v5, rfl, hb5, hr5⟩
        obtain ⟨M5, hS5, hM5, hn5, _⟩ := HT.out.st.grow hb5
        have hw5 := tEls.mono _ _ _ _ hn5 hr5
        obtain ⟨a5, c5, rfl, hl5, hm5, _⟩ := slice_form hw5
        have hc5 : c5 ≤ 9223372036854775807 := by unfold maxLen at hm5; exact hm5
        obtain ⟨M6, hS6, hM6, hn6, _⟩ := hS5.grow ((Below.refl w5.heap.size w5).alloc (Nat.le_refl _) (.cells #[.int .i64 3, .int .i64 kk, .int .i64 0, .slice none 0 0, .int .i64 0] 42))
        have HQ := Lib.hid (fun (wq : World) (h : M6.le (mem wq)) => And.intro (show wq.cell? ⟨w5.heap.size, 0, none⟩ = some (.int .i64 3) from h _ _ _ (hn6 _ _ _ (Mem.on_some (mem_cells (heap_alloc_new w5 _) 0) (Nat.le_refl _)))) (And.intro (show wq.cell? ⟨w5.heap.size, 1, none⟩ = some (.int .i64 kk) from h _ _ _ (hn6 _ _ _ (Mem.on_some (mem_cells (heap_alloc_new w5 _) 1) (Nat.le_refl _)))) (And.intro (show wq.cell? ⟨w5.heap.size, 2, none⟩ = some (.int .i64 0) from h _ _ _ (hn6 _ _ _ (Mem.on_some (mem_cells (heap_alloc_new w5 _) 2) (Nat.le_refl _))))
          (And.intro (show wq.cell? ⟨w5.heap.size, 3, none⟩ = some (.slice none 0 0) from h _ _ _ (hn6 _ _ _ (Mem.on_some (mem_cells (heap_alloc_new w5 _) 3) (Nat.le_refl _)))) (show wq.cell? ⟨w5.heap.size, 4, none⟩ = some (.int .i64 0) from h _ _ _ (hn6 _ _ _ (Mem.on_some (mem_cells (heap_alloc_new w5 _) 4) (Nat.le_refl _))))))))
        have HO := Lib.hid (st_over2 hS6 HT.out.so (by omega) (barE kk) (.slice none 0 0) (barE_ok HK.out) (slice_nil _ _) (by omega))
        have HSO := Lib.hid (HT.out.so.over (barE_ok HK.out) (barE_valid HK.out) (by omega))
        have HWAS := Lib.hid (tEls.mono _ _ _ _ hM6 hw5)
        have HB6 := Lib.hid (HT.out.bel.trans ((hb5.mono HT.out.st.bw).alloc (Nat.le_trans HT.out.st.bw hb5.size) (.cells #[.int .i64 3, .int .i64 kk, .int .i64 0, .slice none 0 0, .int .i64 0] 42)))
        have HCL := Lib.hid (show (contentsOf r ah ps).length ≤ 100 by omega)
        have HN := Lib.hid (show N + 1 ≤ 500000 by omega)
        have HGE := Lib.hid HT.out.bR
        have HMM := Lib.hid hS6.mem
        clear hb5 hr5 hS5 hM5 hn5 hw5 hl5 hm5 hS6 hM6 hn6 HT HC
        obtain ⟨q0, q1, q2, q3, q4⟩ := HQ.out (w5.alloc (.cells #[.int .i64 3, .int .i64 kk, .int .i64 0, .slice none 0 0, .int .i64 0] 42)) HMM.out
        go_wp2_with fail
        refine HO.out.mono ?_
        clear q0 q1 q2 q3 q4 HO
        rintro e w7 (⟨hno, _⟩ | ⟨_, _, v7, M7, rfl, hM7, ⟨hS7, hB7, hF7⟩, hr7⟩)
        · exact absurd hno (by unfold okOver; rw [barE_valid HK.out]; simp)
        obtain ⟨a7, c7, rfl, _, hm7, _⟩ := slice_form hr7
        have hc7 : c7 ≤ 9223372036854775807 := by unfold maxLen at hm7; exact hm7
        have HSE1 := Lib.hid (same_els _ _ _ w7 (tEls.mono _ _ _ _ hS7.mem (tEls.mono _ _ _ _ hM7 HWAS.out)) (tEls.mono _ _ _ _ hS7.mem hr7))
        have HS7 := Lib.hid hS7
        have HB7 := Lib.hid (HB6.out.trans hB7)
        have HM7 := Lib.hid hM7
        clear hS7 hB7 hF7 hr7 hm7 hM7 HB6
        go_wp2_with fail
        refine HSE1.out.mono ?_
        rintro e w8 ⟨rfl, hb8⟩
        have HS8 := Lib.hid (HS7.out.pure hb8)
        have HB8 := Lib.hid (HB7.out.trans (hb8.mono HS7.out.bw))
        have hSO := HSO.out.mono (Nat.le_succ N)
        have hlen : (contentsOf (overR r (barE kk)) (barE kk :: ah) ps).length ≤ 1000 := by rw [over_cont]; have := HCL.out; simp; omega
        have HW := Lib.hid (fun (Mx : Mem) (wq : World) (h1 : M7.le Mx) (h2 : Mx.le (mem wq)) => (tSlice (tIn Mx tEl)).mono _ _ _ _ h2 (tEls_in (tEls.mono _ _ _ _ h1 (tEls.mono _ _ _ _ HM7.out HWAS.out))))
        have HDf := Lib.hid (fun (F : Nat → Prop) (wq : World) (h : St w2.heap.size b wq (overR r (barE kk)) (N + 1) M7 F) => drained_any cr w2.heap.size b F M7 wq (overR r (barE kk)) (barE kk :: ah) ps m (N + 1) h hSO HN.out hlen)
        have HDa := Lib.hid (HDf.out _ w8.drew (HS8.out.pure (Below.refl _ _).drew))
        have HBL := Lib.hid (show Below w8.heap.size w8 (w8.alloc (.cells #[.int .i64 3, .int .i64 kk, .int .i64 0, .slice none 0 0, .int .i64 0] 42)).drew from ((Below.refl _ _).alloc (Nat.le_refl _) _).drew)
        have HDb := Lib.hid (HDf.out _ (w8.alloc (.cells #[.int .i64 3, .int .i64 kk, .int .i64 0, .slice none 0 0, .int .i64 0] 42)).drew (ends_st (v := .slice (some ⟨w8.heap.size, 0, none⟩) 1 1) HS8.out HBL.out (fun k e => by have e : some w8.heap.size = some k := e; injection e with e; omega) (fun k e => by have e : some w8.heap.size = some k := e; injection e with e; subst e; show w8.heap.size < (w8.alloc _).heap.size; simp)))
        have HL1 := Lib.hid (show [barE kk].length + (contentsOf r ah ps).length ≤ maxLen by have := HCL.out; unfold maxLen; simp; omega)
        have HL2 := Lib.hid (show ([barE kk].length + (contentsOf r ah ps).length) * 56 ≤ 140737488355328 by have := HCL.out; simp; omega)
        have HQ8 := Lib.hid (fun (wq : World) (h : M7.le (mem wq)) => HQ.out wq (Mem.le_trans HM7.out h))
        have HGEb := Lib.hid (show ∀ k, (k = w4.heap.size ∨ (Value.slice (some ⟨w8.heap.size, 0, none⟩) 1 1).ownBlock = some k) → w2.heap.size ≤ k from fun k h => h.elim (fun e => by rw [e]; exact HGE.out) (fun e => by have e : some w8.heap.size = some k := e; injection e with e; have := HS8.out.bw; omega))
        rw [over_cont] at HDf HDa HDb
        generalize contentsOf r ah ps = C at *
        have HBa := Lib.hid (show Below w2.heap.size w2 w8.drew from HB8.out.drew)
        have HBb := Lib.hid (HB8.out.trans (HBL.out.mono HS8.out.bw))
        clear hb8 hSO hlen HSE1 HS7 HB7 HSO HQ HM7 HGE HCL
        go_upto_region 18 with fail
        obtain ⟨q0, q1, q2, q3, q4⟩ := HQ8.out w8.drew HS8.out.mem
        go_region_law (first
          | (go_simp; go_at_call 22; refine HSE.out.mono ?_; rintro e w11 ⟨rfl, hb11⟩; have HB11 := Lib.hid hb11)
          | (go_simp; go_at_call 23; (first
              | (refine HDc.out.mono ?_; rintro e w9 ⟨v9, M9, r9, N9, m9, rfl, _, _, hD9⟩; obtain ⟨a9, c9, rfl, _⟩ := hD9.own.form; have hE := ends3 (w0 := w2) hD9 HOA.out HBc.out; have HSE := Lib.hid (ends_same hE HB2.out HB2.out.size); clear hD9 hE)
              | (refine HDa.out.mono ?_; rintro e w9 ⟨v9, M9, r9, N9, m9, rfl, _, _, hD9⟩; obtain ⟨a9, c9, rfl, _⟩ := hD9.own.form; obtain ⟨p0, p1, p2, p3, p4⟩ := HQ8.out w9 (Mem.le_trans hD9.mm hD9.st.mem); have HDx := Lib.hid hD9; clear hD9)
              | (refine HDb.out.mono ?_; rintro e w9 ⟨v9, M9, r9, N9, m9, rfl, _, _, hD9⟩; obtain ⟨a9, c9, rfl, _⟩ := hD9.own.form; have HDy := Lib.hid hD9; clear hD9)))
          | (refine step_append_os rfl (.tmp 92) (.tmp 93) 36 rfl (tIn M9 tEl) (tIn_flat _ _) tElIn_one Try.underlying36 (infoEl _) rfl (Nat.succ_pos 4) _ [barE kk] C rfl (OwnsO.lit1 w9 42 (barE_lit HK.out M9)) _ _ _ rfl rfl (HW.out M9 _ HDx.out.mm (Mem.le_trans HDx.out.st.mem (below_mem ((Below.refl w9.heap.size w9).alloc (Nat.le_refl _) (.cells #[.int .i64 3, .int .i64 kk, .int .i64 0, .slice none 0 0, .int .i64 0] 42))))) HL1.out HL2.out ?_; intro vA wA ownA happA; obtain ⟨aA, cA, rfl, _⟩ := ownA.form; have hE := ends1 (w0 := w2) HDx.out ((Below.refl w9.heap.size w9).alloc (Nat.le_refl _) (.cells #[.int .i64 3, .int .i64 kk, .int .i64 0, .slice none 0 0, .int .i64 0] 42)) ownA happA (fun k e => by have e : some w9.heap.size = some k := e; injection e with e; omega) HBa.out; have HSE := Lib.hid (ends_same hE HB2.out HB2.out.size); clear ownA happA hE)
          | (refine step_append_os rfl (.tmp 92) (.tmp 93) 36 rfl (tIn M9 tEl) (tIn_flat _ _) tElIn_one Try.underlying36 (infoEl _) rfl (Nat.succ_pos 4) _ [barE kk] C rfl ((OwnsO.lit1 w8 42 (barE_lit HK.out M9)).keeps (fun k e => HDy.out.fk k (.inr e))) _ _ _ rfl rfl (HW.out M9 _ HDy.out.mm HDy.out.st.mem) HL1.out HL2.out ?_; intro vA wA ownA happA; obtain ⟨aA, cA, rfl, _⟩ := ownA.form; have hE := ends2 (w0 := w2) HDy.out ownA happA rfl HGEb.out HBb.out; have HSE := Lib.hid (ends_same hE HB2.out HB2.out.size); clear ownA happA hE)
          | (refine step_append_os rfl (.tmp 92) (.tmp 93) 36 rfl (tIn M7 tEl) (tIn_flat _ _) tElIn_one Try.underlying36 (infoEl _) rfl (Nat.succ_pos 4) _ [barE kk] C rfl ((OwnsO.lit1 w8 42 (barE_lit HK.out M7)).keeps (fun k e => rfl)) _ _ _ rfl rfl (HW.out M7 _ (Mem.le_refl _) (Mem.le_trans HS8.out.mem (below_mem HBL.out))) HL1.out HL2.out ?_; intro vA wA ownA happA; obtain ⟨hbA, hgA⟩ := app_below HBL.out happA (fun k e => by have e : some w8.heap.size = some k := e; injection e with e; omega); obtain ⟨aA, cA, rfl, _⟩ := ownA.form; have HDc := Lib.hid (HDf.out _ wA (ends_st HS8.out hbA hgA ownA.lt)); have HOA := Lib.hid ownA; have HBc := Lib.hid (HB8.out.trans (hbA.mono HS8.out.bw)); clear ownA happA hbA hgA))
        all_goals
          go_wp2
          go_ret
          exact ⟨rfl, HB11.out⟩
      | succ g2 =>
        have hlt : k < xs.length := by omega
        obtain ⟨bb, o, rfl, hat⟩ := slice_at HV2.out hlt
        obtain ⟨ar, crr, hcr, q0, q1, q2, q3, q4, q5, q6, i1, i2, i3, hr⟩ := act_at hat
        clear hat
        generalize xs[k] = x at *
        have HC := Lib.hid (fun (wq : World) (h : M0.le (mem wq)) => And.intro (show wq.cell? ⟨bb, o + k * 7, none⟩ = some (.int .u8 x.kind) from h _ _ _ q0) (And.intro (show wq.cell? ⟨bb, o + k * 7 + 1, none⟩ = some (.int .i64 x.n) from h _ _ _ q1) (And.intro (show wq.cell? ⟨bb, o + k * 7 + 2, none⟩ = some (.int .i64 x.el.kind) from h _ _ _ q2) (And.intro (show wq.cell? ⟨bb, o + k * 7 + 3, none⟩ = some (.int .i64 x.el.n) from h _ _ _ q3)
                  (And.intro (show wq.cell? ⟨bb, o + k * 7 + 4, none⟩ = some (.int .i64 x.el.time) from h _ _ _ q4) (And.intro (show wq.cell? ⟨bb, o + k * 7 + 5, none⟩ = some (.slice ar x.el.row.length crr) from h _ _ _ q5) (show wq.cell? ⟨bb, o + k * 7 + 6, none⟩ = some (.int .i64 x.el.cn) from h _ _ _ q6)))))))
        have HD := Lib.hid ((HT.out.pure (Below.refl wr.heap.size wr).drew).does (by omega) (by omega) x (.slice ar x.el.row.length crr) i3 i2 i1 hr)
        have HBD := Lib.hid (HT.out.pure (Below.refl wr.heap.size wr).drew).bel
        clear q0 q1 q2 q3 q4 q5 q6 i1 i2 i3 hr
        go_upto_region 12 with fail
        obtain ⟨e0, e1, e2, e3, e4, e5, e6⟩ := HC.out wr.drew (Mem.le_trans HT.out.mm HT.out.st.mem)
        obtain ⟨aa, ca, rfl, _, hma, _⟩ := slice_form HT.out.rf.ha
        obtain ⟨aq, cq, rfl, _, hmq, _⟩ := slice_form HT.out.rf.hq
        obtain ⟨ap, cp, rfl, _, hmp, _⟩ := slice_form HT.out.rf.hp
        have hca : ca ≤ 9223372036854775807 := by unfold maxLen at hma; exact hma
        have hcq : cq ≤ 9223372036854775807 := by unfold maxLen at hmq; exact hmq
        have hcp : cp ≤ 9223372036854775807 := by unfold maxLen at hmp; exact hmp
        clear hma hmq hmp
        have c0 : wr.drew.cell? ⟨w4.heap.size, 0, none⟩ = some (.int .i64 (refOf r ah ps).size) := HT.out.cells 0
        have c1 : wr.drew.cell? ⟨w4.heap.size, 1, none⟩ = some (.int .i64 (refOf r ah ps).room) := HT.out.cells 1
        have c2 : wr.drew.cell? ⟨w4.heap.size, 2, none⟩ = some (.int .i64 (refOf r ah ps).credits) := HT.out.cells 2
        have c3 : wr.drew.cell? ⟨w4.heap.size, 3, none⟩ = some (.int .i64 (refOf r ah ps).next) := HT.out.cells 3
        have c4 : wr.drew.cell? ⟨w4.heap.size, 4, none⟩ = some (.slice aa (refOf r ah ps).ahead.length ca) := HT.out.cells 4
        have c5 : wr.drew.cell? ⟨w4.heap.size, 5, none⟩ = some (.slice aq (refOf r ah ps).queue.length cq) := HT.out.cells 5
        have c6 : wr.drew.cell? ⟨w4.heap.size, 6, none⟩ = some (.slice ap (refOf r ah ps).pk.length cp) := HT.out.cells 6
        go_region_law (go_simp; go_at_call 25; refine HD.out.mono ?_; rintro e w5 ⟨r5, ah5, ps5, m5, M5, a5, q5, p5, rfl, hrun5, hct5, hbr5, y0, y1, y2, y3, y4, y5, y6, hR5⟩; obtain ⟨a5a, a5c, rfl, _, hz1, _⟩ := slice_form hrun5.rf.ha; obtain ⟨q5a, q5c, rfl, _, hz2, _⟩ := slice_form hrun5.rf.hq; obtain ⟨p5a, p5c, rfl, _, hz3, _⟩ := slice_form hrun5.rf.hp; clear hz1 hz2 hz3; have f5 := frozen_cells hR5; have z0 : w5.cell? ⟨w4.heap.size, 0, none⟩ = some y0 := mem_cells hR5 0; have z1 : w5.cell? ⟨w4.heap.size, 1, none⟩ = some y1 := mem_cells hR5 1; have z2 : w5.cell? ⟨w4.heap.size, 2, none⟩ = some y2 := mem_cells hR5 2; have z3 : w5.cell? ⟨w4.heap.size, 3, none⟩ = some y3 := mem_cells hR5 3; have z4 : w5.cell? ⟨w4.heap.size, 4, none⟩ = some y4 := mem_cells hR5 4; have z55 : w5.cell? ⟨w4.heap.size, 5, none⟩ = some y5 := mem_cells hR5 5; have z6 : w5.cell? ⟨w4.heap.size, 6, none⟩ = some y6 := mem_cells hR5 6; have HT5 := Lib.hid (hrun5.stored HBD.out hct5 hbr5 hR5); clear hrun5 hct5 hbr5 hR5 HD)
        clear c0 c1 c2 c3 c4 c5 c6 e0 e1 e2 e3 e4 e5 e6
        all_goals
          go_upto_region 11 with fail
          show Code.wp _ _ _ _ (store7 w5 w4.heap.size (.int .i64 (refOf r5 ah5 ps5).size) (.int .i64 (refOf r5 ah5 ps5).room) (.int .i64 (refOf r5 ah5 ps5).credits) (.int .i64 (refOf r5 ah5 ps5).next) (.slice a5a (refOf r5 ah5 ps5).ahead.length a5c) (.slice q5a (refOf r5 ah5 ps5).queue.length q5c) (.slice p5a (refOf r5 ah5 ps5).pk.length p5c))
          generalize store7 w5 w4.heap.size (.int .i64 (refOf r5 ah5 ps5).size) (.int .i64 (refOf r5 ah5 ps5).room) (.int .i64 (refOf r5 ah5 ps5).credits) (.int .i64 (refOf r5 ah5 ps5).next) (.slice a5a (refOf r5 ah5 ps5).ahead.length a5c) (.slice q5a (refOf r5 ah5 ps5).queue.length q5c) (.slice p5a (refOf r5 ah5 ps5).pk.length p5c) = X at HT5 ⊢
          go_wp2
          go_roundg g2
          case measure => omega
          case rel => exact ⟨k + 1, by omega, by go_num, _, _, _, _, _, _, _, _, _, by omega, HT5⟩
end Go.Proofs.Ytfkphdmnelchmaa
namespace Go.Proofs.Ytfkphdmnelchmaa.lawWireOvertakes
open Go.ChangeShapes Go.WideShapes Go.ChangeAt Go.RowKit
set_option maxRecDepth 100000 in
theorem lifted (os : Os) (started : os.Started) (H : Type) (enc : TypeId × Value → H) :
    ReturnsInHanded {} Try.checked os 5 .any (Rows.wireOvertakesSpec.pre6 enc Try.prog Try.f5 Rows.wireOvertakesRow.domain false) (Rows.wireOvertakesSpec.post enc Try.prog Try.f5 false true false false) := by
  refine returnsInHanded_of_change (C := Try.checked) Try.own started (by kernel_rfl) Try.func5
    (ChangeSpec.witness6 (enc := enc) (C := Try.checked) false ⟨#[], #[.int .i64 0, .int .i64 0, .int .i64 0, .slice none 0 0, .int .i64 0], []⟩ 8 (by kernel_rfl) (by kernel_rfl) (by kernel_rfl) (by kernel_rfl)) ?_
  intro W base args ds gs before hval0 hW hcnd _
  have hval : ∀ (j : Nat) t v, Try.f5.params[j]? = some t → args[j]? = some v → Value.okWide Try.prog W .any base t v := hval0
  have hW' := hW
  obtain ⟨p, q, hA0, hV, rfl, hfz, hnd⟩ := hW
  have hA : DataW.TrodAll enc Try.prog W 0 (fun _ => true) true Try.f5.params.toList args.toList ds p := hA0
  rw [Try.params5] at hA hval
  obtain ⟨v0, vs0, d0, ds0, p0, q0, hargs, rfl, rfl, h0, r0⟩ := trodAll_cons hA
  obtain ⟨v1, vs1, d1, ds1, p1, q1, rfl, rfl, rfl, h1, r1⟩ := trodAll_cons r0
  obtain ⟨v2, vs2, d2, ds2, p2, q2, rfl, rfl, rfl, h2, r2⟩ := trodAll_cons r1
  obtain ⟨v3, vs3, d3, ds3, p3, q3, rfl, rfl, rfl, h3, r3⟩ := trodAll_cons r2
  obtain ⟨v4, vs4, d4, ds4, p4, q4, rfl, rfl, rfl, h4, r4⟩ := trodAll_cons r3
  obtain ⟨rfl, rfl, rfl⟩ := trodAll_nil r4
  obtain rfl : args = #[v0, v1, v2, v3, v4] := by cases args; simp_all
  obtain ⟨rfl, rfl⟩ := trodVars_none hV
  obtain ⟨n0, rfl, w0⟩ := arg_int Try.underlying3 (hval 0 3 v0 rfl rfl) h0
  obtain ⟨n1, rfl, w1⟩ := arg_int Try.underlying3 (hval 1 3 v1 rfl rfl) h1
  obtain ⟨n2, rfl, w2⟩ := arg_int Try.underlying3 (hval 2 3 v2 rfl rfl) h2
  obtain ⟨x3, w3⟩ := arg_slice (t := tAct) reads_acts Try.underlying31 (hval 3 31 v3 rfl rfl) h3
  obtain ⟨n4, rfl, w4⟩ := arg_int Try.underlying3 (hval 4 3 v4 rfl rfl) h4
  clear hA0 hval0
  refine (wireOvertakes_any n0 n1 n2 n4 x3 v3 W w3).mono fun e W' ⟨he, bel⟩ => ?_
  subst he
  exact ⟨_, rfl, law_post Try.laidOut rfl (by rw [Try.params5]; intro t ht; have hs : Try.prog.types.size = Try.prog.types.size := rfl; simp only [List.mem_cons, List.not_mem_nil, or_false] at ht; rcases ht with rfl | rfl | rfl | rfl | rfl <;> exact ⟨by kernel_rfl, of_decide_eq_true (by kernel_rfl)⟩) (by kernel_rfl) Try.underlying4 rfl rfl rfl hW' bel⟩

theorem proved : Rows.WireOvertakesSaid :=
  OpenClaim.holds_of_wide 5 Try.f5 rfl rfl rfl rfl rfl rfl rfl ⟨rfl, rfl, rfl, rfl, rfl⟩ rfl rfl rfl rfl rfl (by kernel_rfl) Try.func5 (by kernel_rfl)
    (of_decide_eq_true (by kernel_rfl)) (by unfold Func.isWrapper; first | (rw [if_pos (by decide +kernel)]; kernel_rfl) | (rw [if_neg (by decide +kernel)]; exact ⟨rfl, rfl⟩))
    (fun os started H enc _ => lifted os started H enc)
#print axioms proved
end Go.Proofs.Ytfkphdmnelchmaa.lawWireOvertakes
