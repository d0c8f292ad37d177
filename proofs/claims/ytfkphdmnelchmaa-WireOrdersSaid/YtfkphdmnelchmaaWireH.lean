/- Wires: Deliver, walked. -/
import Derived.Test.YtfkphdmnelchmaaWireG
namespace Go.Proofs.Ytfkphdmnelchmaa
open Go.RowKit Go.Maps

def withBuf (r : Raw) (bu : List Item) : Raw := { r with buffer := bu }
theorem PMap.drop_w {W : World} {b n : Nat} {f : Int → Option Nat} (h : PMap W b n f) : PMap W.drew b n f := h.at rfl
theorem infoItem (M : Mem) : (Try.prog.info? 94).map (fun i => (i.zero, i.size, i.bytes)) = some (some (.agg #[.int .i64 0, .int .i64 0, .int .i64 0, .slice none 0 0, .int .i64 0, .pointer none]), (tIn M tItem).sz, 64) := by
  show _ = some (some (Value.agg #[.int .i64 0, .int .i64 0, .int .i64 0, .slice none 0 0, .int .i64 0, .pointer none]), 6, 64)
  kernel_rfl
theorem item_cells {w : World} {x : El} {s : Value} {of : Value} {T : TypeId} : At (mem ((w.alloc (.cells #[.int .i64 x.kind, .int .i64 x.n, .int .i64 x.time, s, .int .i64 x.cn, of] T)).drew)) w.heap.size 0 [.int .i64 x.kind, .int .i64 x.n, .int .i64 x.time, s, .int .i64 x.cn, of] := fun j u hj => by
  rw [Nat.zero_add]
  show World.cell? (w.alloc _) ⟨w.heap.size, j, none⟩ = some u
  rw [cell_new j rfl]; simpa using hj
theorem item_one {x : El} {a : Option Addr} {n c : Nat} {p : Option Addr} : ∀ u ∈ [Value.int .i64 x.kind, .int .i64 x.n, .int .i64 x.time, .slice a n c, .int .i64 x.cn, .pointer p], u.oneCell' = true := fun u hu => by
  simp at hu; rcases hu with rfl | rfl | rfl | rfl | rfl | rfl <;> rfl

theorem WireInv.bufApp {A C : World} {base b : Nat} {L : WL} {r : Raw} {v' : Value} {n m : Nat} {o : Obj} (hI : WireInv A base b L r) (happ : AppAt (A.alloc o) C L.bv n m v') : C.cell? ⟨b, 7, none⟩ = some L.bv ∧ C.frozen? ⟨b, 7, none⟩ = false := by
  have h : C.heap[b]? = some (.cells (wCells L r) 87 (0, 0)) := (happ.grown.block b (by have := hI.mut_lt b (.inl rfl); simp; omega) (fun e => (hI.apart.2.2.2.1 b e.symm).1 rfl)).trans (hI.pure ((Below.refl _ _).alloc (Nat.le_refl _) o)).hb
  exact ⟨mem_cells h 7, frozen_cells h 7⟩
set_option maxRecDepth 100000 in
set_option maxHeartbeats 4000000 in
theorem deliver_any (base b : Nat) (n : Int) (L : WL) (r : Raw) (W : World) (hI : WireInv W base b L r) (hn : inI64 n) (hN0 : 0 ≤ r.next) (hN : r.next ≤ 1000000) (ht0 : 0 ≤ r.turn) (ht1 : r.turn ≤ r.next) (hne : L.ne ≤ 1000000000)
    (hway : ∀ k a, r.way k = some a → k < r.next ∧ ∃ p ∈ r.pt, p.ad = a) (hear : ∀ k a, r.early k = some a → k < r.next ∧ ∃ p ∈ r.pt, p.ad = a) (hbuf : r.buffer.length ≤ 4000) (hel : ∀ p ∈ r.pt, p.els.length ≤ 4000) :
    Calls Try.prog 18 #[.pointer (some ⟨b, 0, none⟩), .int .i64 n] W (DelivOut base b n W L r) := by
  have c4 : W.cell? ⟨b, 4, none⟩ = some (.int .i64 r.next) := hI.cell 4
  by_cases h0 : 0 ≤ n
  · by_cases h1 : n < r.next
    · have c8 : W.cell? ⟨b, 8, none⟩ = some (.map (some L.wm)) := hI.cell 8
      have hlk := hI.wm.lookOk hn
      have HI := Lib.hid hI
      cases hw : r.way n with
      | none =>
        rw [hw] at hlk
        simp only [ptrOr, Option.isSome] at hlk
        have HW := Lib.hid hw
        clear hw hI hway hear hel
        go_enter Try.func18, Try.ntmps18
        go_wp2
        go_ret
        exact .inr (.inl ⟨⟨h0, h1⟩, HW.out, rfl, let ⟨L', a1, a2, a3, a4, a5, a6⟩ := HI.out.pureS (Below.refl _ _); ⟨L', a1, a2, a3, by omega, by omega, a6⟩⟩)
      | some a =>
        rw [hw] at hlk
        simp only [ptrOr, Option.isSome, ptrTo] at hlk
        obtain ⟨w1, hdel, hM1, hg1⟩ := hI.wm.drop hn 0
        obtain ⟨L1, hI1, hB1, hs1, hn1, he1, hf1⟩ := hI.mapped (i := 0) (.inl rfl) hg1 hM1 (hI.mapOther hg1 hI.em hI.we.symm) (Nat.le_refl _) (Nat.le_refl _)
        obtain ⟨w2, hupd, hM2, hg2⟩ := hI1.em.put (by unfold maxLen; omega) hn a
        obtain ⟨L2, hI2, hB2, hs2, hn2, he2, hf2⟩ := hI1.mapped (i := 1) (.inr rfl) hg2 (hI1.mapOther hg2 hI1.wm hI1.we) hM2 (Nat.le_succ _) (Nat.le_refl _)
        have c6 : w1.cell? ⟨b, 6, none⟩ = some (.map (some L1.em)) := hI1.cell 6
        have HW := Lib.hid hw
        obtain ⟨pa, hpa, hpe⟩ := (hway n a hw).2
        have HRel := Lib.hid (show DRel r (takenR r n a) (takenR r n a) from ⟨fun _ h => h, fun k c e => by
          have e' : putAt r.early n a k = some c := e
          by_cases hk : k = n
          · subst hk; rw [putAt_same] at e'; cases e'; exact ⟨h1, pa, hpa, hpe⟩
          · rw [putAt_other _ _ hk] at e'; exact hear k c e', by show (r.buffer.length : Int) ≤ 4000 + 4000 * (r.turn - r.turn); omega, ht0, Int.le_refl _, ht1, hN, hel⟩)
        have HS := Lib.hid (show WS 1 base b W L r w2 (takenR r n a) from ⟨L2, hI2, hB1.trans hB2, Mem.le_trans hs1 hs2, by omega, by omega, hf1.trans hf2⟩)
        clear hw hI hI1 hI2 hway hear hel hM1 hM2 hg1 hg2 hs1 hs2 hB1 hB2
        go_enter Try.func18, Try.ntmps18
        go_wp2
        have HWa := Lib.hid HW.out
        clear hlk hdel hupd c6 c4 c8 hpa hpe
        generalize hr1 : takenR r n a = r1 at HRel HS
        have HR1 := Lib.hid hr1
        clear hr1
        go_loopw [7] (fun _ wr => ∃ rc, Hid (DRel r r1 rc) ∧ WS 1 base b W L r wr rc) (fun _ wr => (1000000 - intOf ((wr.cell? ⟨b, 5, none⟩).getD undef)).toNat)
        case atStart => exact ⟨r1, HRel, HS.out⟩
        case round =>
          clear HRel HS
          obtain ⟨rc, HR, L3, hI3, hB3, hs3, hn3, he3, hf3⟩ := hrel
          have c5 : wr.cell? ⟨b, 5, none⟩ = some (.int .i64 rc.turn) := hI3.cell 5
          have c6 : wr.cell? ⟨b, 6, none⟩ = some (.map (some L3.em)) := hI3.cell 6
          have ht3 : 0 ≤ rc.turn ∧ rc.turn ≤ 1000000 := ⟨by have := HR.out.t0; have := HR.out.t1; omega, by have := HR.out.t2; have := HR.out.n1; omega⟩
          have hk3 : inI64 rc.turn := by unfold inI64; omega
          cases he : rc.early rc.turn with
          | none =>
            have hl1 := (PMap.drop_w hI3.em).look hk3
            rw [he] at hl1
            simp only [ptrOr] at hl1
            have HE := Lib.hid he
            have HF := Lib.hid (show WS 1 base b W L r wr.drew rc from WS.trans hB3 hs3 hn3 he3 hf3 (hI3.pureS (Below.refl _ _).drew))
            clear he hI3 hB3 hs3
            go_wp2
            go_region
            go_wp2
            go_ret
            exact .inr (.inr ⟨⟨h0, h1⟩, a, HWa.out, rfl, rc, by rw [HR1.out]; exact HR.out.mv rc (.done HE.out), HF.out⟩)
          | some a2 =>
            obtain ⟨p, hp, rfl⟩ := (HR.out.ek _ _ he).2
            have hl1 := (PMap.drop_w hI3.em).look hk3
            have hl2 := (PMap.drop_w (PMap.drop_w hI3.em)).look hk3
            rw [he] at hl1 hl2
            simp only [ptrOr, ptrTo] at hl1 hl2
            obtain ⟨w3, hdel, hM3, hg3⟩ := (PMap.drop_w (PMap.drop_w (PMap.drop_w hI3.em))).drop hk3 0
            have hD : Below wr.heap.size wr wr.drew.drew.drew := (((Below.refl _ _).drew).drew).drew
            have hI3' := hI3.pure hD
            have hs3' := hI3.safePure hD
            obtain ⟨L4, hI4, hB4, hs4, hn4, he4, hf4⟩ := hI3'.mapped (i := 0) (.inr rfl) hg3 (hI3'.mapOther hg3 hI3'.wm hI3'.we) hM3 (Nat.le_refl _) (Nat.le_refl _)
            have c54 : w3.cell? ⟨b, 5, none⟩ = some (.int .i64 rc.turn) := hI4.cell 5
            have f54 : w3.frozen? ⟨b, 5, none⟩ = false := hI4.frozen 5
            obtain ⟨L5, hI5, hB5, hs5, hn5, he5, hf5⟩ := hI4.numsS (n := movedR rc) ((Keeps.refl (fun k => k = b) w3).setCell (p := ⟨b, 5, none⟩) (fun _ => rfl) (.int .i64 (rc.turn + 1))) rfl rfl rfl rfl rfl (set_block hI4.hb)
            have HW5 := Lib.hid (And.intro (((hB3.trans (hD.mono hI3.bw)).trans hB4).trans hB5) (And.intro (Mem.le_trans hs3 (Mem.le_trans hs3' (Mem.le_trans hs4 hs5))) (((hf3.trans (hI3.pureFr hD)).trans hf4).trans hf5)))
            have HI5 := Lib.hid hI5
            have HE := Lib.hid he
            have HP := Lib.hid hp
            have c5w := Lib.hid c5
            clear he hp hI3 hI3' hI4 hI5 hs3 hs3' hs4 hs5 hB3 hB4 hB5 hM3 hg3 hD
            go_wp2
            go_region
            go_wp2
            go_region
            go_wp2
            go_region
            go_upto_region 14 with fail
            generalize w3.setCell ⟨b, 5, none⟩ (.int .i64 (rc.turn + 1)) = X at HW5 HI5 ⊢
            clear c54 f54 hl1 hl2 hdel c5 c6
            obtain ⟨lv, hpB, hpE⟩ := HI5.out.pk p HP.out
            obtain ⟨al, capl, rfl, hl1, hl2, hpE⟩ := slice_form hpE
            have k0 : X.cell? ⟨p.ad, 0, none⟩ = some (.slice al p.els.length capl) := mem_cells hpB 0
            have hcl : capl ≤ 9223372036854775807 := by unfold maxLen at hl2; exact hl2
            have hel := HR.out.el p HP.out
            have hbl : (rc.buffer.length : Int) ≤ 4000004000 := by have := HR.out.bl; have := HR.out.t0; omega
            have HPE := Lib.hid hpE
            clear hpB hpE hl2
            go_wp2
            go_loopw [95] (fun i wx => ∃ j : Nat, j ≤ p.els.length ∧ i = .int .i64 j ∧ ∃ bu, Hid (bu = rc.buffer ++ (p.els.take j).map (fun x => ⟨x, some p.ad⟩)) ∧ WS 0 base b X L5 (movedR rc) wx (withBuf (movedR rc) bu)) (fun i _ => p.els.length - (intOf i).toNat)
            case atStart => exact ⟨0, by omega, rfl, rc.buffer, Lib.hid (by simp), HI5.out.pureS (Below.refl _ _)⟩
            case round =>
              obtain ⟨j, hj, rfl, bu, HBU, L6, hI6, hB6, hs6, hn6, he6, hf6⟩ := hrel
              have hbl2 : bu.length ≤ 4000008000 := by rw [HBU.out]; simp; omega
              by_cases hlt : j < p.els.length
              · obtain ⟨bb, o, rfl, hat⟩ := slice_at HPE.out hlt
                obtain ⟨ar, cr, e0, e1, e2, e3, e4, hok, hrow, _⟩ := el_at (tEl.at_mono hs6 hat)
                have e0 : wr.cell? ⟨bb, o + j * 5, none⟩ = some (.int .i64 p.els[j].kind) := (Mem.of_on e0).2
                have e1 : wr.cell? ⟨bb, o + j * 5 + 1, none⟩ = some (.int .i64 p.els[j].n) := (Mem.of_on e1).2
                have e2 : wr.cell? ⟨bb, o + j * 5 + 2, none⟩ = some (.int .i64 p.els[j].time) := (Mem.of_on e2).2
                have e3 : wr.cell? ⟨bb, o + j * 5 + 3, none⟩ = some (.slice ar p.els[j].row.length cr) := (Mem.of_on e3).2
                have e4 : wr.cell? ⟨bb, o + j * 5 + 4, none⟩ = some (.int .i64 p.els[j].cn) := (Mem.of_on e4).2
                have HT := Lib.hid (show bu ++ [⟨p.els[j], some p.ad⟩] = rc.buffer ++ (p.els.take (j + 1)).map (fun x => (⟨x, some p.ad⟩ : Item)) by rw [HBU.out, List.take_succ_eq_append_getElem hlt, List.map_append, List.append_assoc]; rfl)
                clear hat
                generalize p.els[j] = x at *
                obtain ⟨qv6, bv6, wm6, em6, nw6, ne6, fr6⟩ := L6
                obtain ⟨ab, cb, hbv, hb1, hb2⟩ := hI6.bf.form
                have hbv : bv6 = .slice ab bu.length cb := hbv
                subst hbv
                have hY : ∀ o, Below wr.heap.size wr ((wr.alloc o).drew) := fun o => ((Below.refl _ _).alloc (Nat.le_refl _) o).drew
                have HY := Lib.hid (hI6.pure (hY (.cells #[.int .i64 x.kind, .int .i64 x.n, .int .i64 x.time, .slice ar x.row.length cr, .int .i64 x.cn] 42)))
                have HYB := Lib.hid (hB6.trans ((hY (.cells #[.int .i64 x.kind, .int .i64 x.n, .int .i64 x.time, .slice ar x.row.length cr, .int .i64 x.cn] 42)).mono hI6.bw))
                have HYS := Lib.hid (Mem.le_trans hs6 (hI6.safePure (hY (.cells #[.int .i64 x.kind, .int .i64 x.n, .int .i64 x.time, .slice ar x.row.length cr, .int .i64 x.cn] 42))))
                have HYF := Lib.hid (hf6.trans (hI6.pureFr (hY (.cells #[.int .i64 x.kind, .int .i64 x.n, .int .i64 x.time, .slice ar x.row.length cr, .int .i64 x.cn] 42))))
                have y := heap_alloc_new wr (.cells #[.int .i64 x.kind, .int .i64 x.n, .int .i64 x.time, .slice ar x.row.length cr, .int .i64 x.cn] 42)
                have HROW := Lib.hid (tRow.mono _ _ _ _ (hI6.safePure (hY (.cells #[.int .i64 x.kind, .int .i64 x.n, .int .i64 x.time, .slice ar x.row.length cr, .int .i64 x.cn] 42))) hrow)
                have HOK := Lib.hid hok
                have HL1 := Lib.hid (show bu.length + 1 ≤ maxLen by unfold maxLen; omega)
                have HL2 := Lib.hid (show (bu.length + 1) * 64 ≤ 140737488355328 by omega)
                clear hI6 hB6 hs6 hY hrow hok hpE
                go_upto_region 17 with fail
                generalize (wr.alloc (.cells #[.int .i64 x.kind, .int .i64 x.n, .int .i64 x.time, .slice ar x.row.length cr, .int .i64 x.cn] 42)) = Y at HY HYB HYS HYF y HROW ⊢
                generalize wr.heap.size = yb at y ⊢
                clear e0 e1 e2 e3 e4 k0
                have y0 : Y.drew.cell? ⟨yb, 0, none⟩ = some (.int .i64 x.kind) := mem_cells y 0
                have y1 : Y.drew.cell? ⟨yb, 1, none⟩ = some (.int .i64 x.n) := mem_cells y 1
                have y2 : Y.drew.cell? ⟨yb, 2, none⟩ = some (.int .i64 x.time) := mem_cells y 2
                have y3 : Y.drew.cell? ⟨yb, 3, none⟩ = some (.slice ar x.row.length cr) := mem_cells y 3
                have y4 : Y.drew.cell? ⟨yb, 4, none⟩ = some (.int .i64 x.cn) := mem_cells y 4
                have c7 : Y.drew.cell? ⟨b, 7, none⟩ = some (.slice ab bu.length cb) := HY.out.cell 7
                have c7' : ∀ o, (Y.alloc o).cell? ⟨b, 7, none⟩ = some (.slice ab bu.length cb) := fun o => (HY.out.pure ((Below.refl _ _).alloc (Nat.le_refl _) o)).cell 7
                have HR6 := Lib.hid (show (tIn (safe (Y.drew.alloc (.cells #[.int .i64 x.kind, .int .i64 x.n, .int .i64 x.time, .slice ar x.row.length cr, .int .i64 x.cn, .pointer (some ⟨p.ad, 0, none⟩)] 94)) b ⟨qv6, .slice ab bu.length cb, wm6, em6, nw6, ne6, fr6⟩ (withBuf (movedR rc) bu)) tItem).rv noMem [.int .i64 x.kind, .int .i64 x.n, .int .i64 x.time, .slice ar x.row.length cr, .int .i64 x.cn, .pointer (some ⟨p.ad, 0, none⟩)] ⟨x, some p.ad⟩ from
                  ⟨_, rfl, HOK.out, tRow.mono _ _ _ _ (HY.out.safePure ((Below.refl _ _).alloc (Nat.le_refl _) _)) HROW.out⟩)
                have H6 := Lib.hid (HY.out.pure ((Below.refl _ _).alloc (Nat.le_refl _) (.cells #[.int .i64 x.kind, .int .i64 x.n, .int .i64 x.time, .slice ar x.row.length cr, .int .i64 x.cn, .pointer (some ⟨p.ad, 0, none⟩)] 94))).bf
                go_region_law (refine step_append_o1 (w := Y.drew.alloc (.cells #[.int .i64 x.kind, .int .i64 x.n, .int .i64 x.time, .slice ar x.row.length cr, .int .i64 x.cn, .pointer (some ⟨p.ad, 0, none⟩)] 94)) rfl (.tmp 104) (.tmp 108) 83 rfl (tIn (safe (Y.drew.alloc (.cells #[.int .i64 x.kind, .int .i64 x.n, .int .i64 x.time, .slice ar x.row.length cr, .int .i64 x.cn, .pointer (some ⟨p.ad, 0, none⟩)] 94)) b ⟨qv6, .slice ab bu.length cb, wm6, em6, nw6, ne6, fr6⟩ (withBuf (movedR rc) bu)) tItem) Try.underlying83 (infoItem _) rfl _ bu rfl H6.out _ _ ⟨x, some p.ad⟩ rfl _ item_cells HR6.out item_one HL1.out HL2.out ?_; intro v' w5 own5 happ; obtain ⟨a5, c5, rfl, _⟩ := own5.form; have HQ := Lib.hid (HY.out.buffered own5 happ); have c75 := (HY.out.bufApp happ).1; have f75 := (HY.out.bufApp happ).2; clear own5 happ)
                all_goals
                  go_wp2
                  go_roundw
                  case rel => exact ⟨j + 1, by omega, by go_num, bu ++ [⟨x, some p.ad⟩], Lib.hid HT.out, by have h := HQ.out; simp only [List.length_append, List.length_cons, List.length_nil, Nat.zero_add] at h; exact WS.trans HYB.out HYS.out hn6 he6 HYF.out h⟩
                  case measure => simp [intOf]; omega
              · obtain rfl : j = p.els.length := by omega
                have hbu : bu = rc.buffer ++ p.els.map (fun x => (⟨x, some p.ad⟩ : Item)) := by rw [HBU.out, List.take_length]
                have c5n : wr.cell? ⟨b, 5, none⟩ = some (.int .i64 (rc.turn + 1)) := hI6.cell 5
                have HC5 := Lib.hid c5n
                have HFin := Lib.hid (show WS 1 base b W L r wr (moveR rc p) from by
                  have e : withBuf (movedR rc) bu = moveR rc p := by rw [hbu]; rfl
                  rw [← e]
                  exact WS.trans HW5.out.1 HW5.out.2.1 (by omega) (by omega) HW5.out.2.2 ⟨L6, hI6, hB6, hs6, hn6, he6, hf6⟩)
                clear hI6 hB6 hs6 c5n hbu
                go_wp2
                go_roundw
                case rel => exact ⟨moveR rc p, Lib.hid (HR.out.move HP.out HE.out), HFin.out⟩
                case measure => have h8 := (HR.out.ek _ _ HE.out).1; have h9 := HR.out.n1; rw [HC5.out, c5w.out]; simp [intOf]; omega
    · have HI := Lib.hid hI
      clear hI hway hear hel
      go_enter Try.func18, Try.ntmps18
      go_wp2
      go_ret
      exact .inl ⟨.inr (by omega), rfl, let ⟨L', a1, a2, a3, a4, a5, a6⟩ := HI.out.pureS (Below.refl _ _); ⟨L', a1, a2, a3, by omega, by omega, a6⟩⟩
  · have HI := Lib.hid hI
    clear hI hway hear hel
    go_enter Try.func18, Try.ntmps18
    go_wp2
    go_ret
    exact .inl ⟨.inl (by omega), rfl, let ⟨L', a1, a2, a3, a4, a5, a6⟩ := HI.out.pureS (Below.refl _ _); ⟨L', a1, a2, a3, by omega, by omega, a6⟩⟩
end Go.Proofs.Ytfkphdmnelchmaa
