/- drained: all that a wire has is received. -/
import Derived.Test.YtfkphdmnelchmaaDrainA
import Derived.Test.YtfkphdmnelchmaaAwake20
import Derived.Deep.LoopGhost
import Derived.Deep.Cut
namespace Go.Proofs.Ytfkphdmnelchmaa
open Go.RowKit Go.Maps

def DrainedOut (c : Int) (base b : Nat) (F : Nat → Prop) (M0 : Mem) (W : World) (C : List El) (B : Nat) (e : Ending) (W' : World) : Prop :=
  ∃ v M r N m, e = .returned v ∧ r.queue = [] ∧ N ≤ B ∧ Dr c base b F M0 W C W' v C r [] [] m N M
theorem orOwn_nil (F : Nat → Prop) : orOwn F (.slice none 0 0) = F := funext fun k => propext ⟨fun h => h.elim id (fun e => by cases e), .inl⟩

theorem way_take {ss : List Int} {f : Int → Option Nat} {g : Nat} (hn : ss.Nodup) (hg : g < ss.length) (h : ∀ k, (f k).isSome = true ↔ k ∈ ss.take (g + 1)) : ∀ k, (delAt f ss[g] k).isSome = true ↔ k ∈ ss.take g := fun k => by
  rw [List.take_succ_eq_append_getElem hg] at h
  have hnt : ss[g] ∉ ss.take g := fun hm => by
    have h2 : (ss.take (g + 1)).Nodup := hn.sublist (List.take_sublist _ _)
    rw [List.take_succ_eq_append_getElem hg, List.nodup_append] at h2
    exact h2.2.2 _ hm _ (by simp) rfl
  by_cases hk : k = ss[g]
  · subst hk
    rw [delAt_same]
    exact ⟨fun e => (by cases e), fun e => absurd e hnt⟩
  · rw [delAt_other _ hk, h k, List.mem_append]
    exact ⟨fun h => h.elim id (fun e => absurd (List.mem_singleton.1 e) hk), .inl⟩

theorem el_cells2 {w : World} {x : El} {a : Option Addr} {c : Nat} {T : TypeId} {o : Obj} : At (mem ((w.alloc o).alloc (.cells #[.int .i64 x.kind, .int .i64 x.n, .int .i64 x.time, .slice a x.row.length c, .int .i64 x.cn] T))) (w.heap.size + 1) 0 [.int .i64 x.kind, .int .i64 x.n, .int .i64 x.time, .slice a x.row.length c, .int .i64 x.cn] := by
  have h := el_cells (w := w.alloc o) (x := x) (a := a) (c := c) (T := T)
  rw [World.size_alloc] at h
  exact h

set_option maxRecDepth 100000 in
set_option maxHeartbeats 8000000 in
theorem drained_any (c : Int) (base b : Nat) (F : Nat → Prop) (M0 : Mem) (W : World) (r : Raw) (ah : List El) (ps : List PK) (m N : Nat) (h : St base b W r N M0 F) (so : Sound c N r ah ps m) (hN : N ≤ 500000) (hC : (contentsOf r ah ps).length ≤ 1000) :
    Calls Try.prog 23 #[.pointer (some ⟨b, 0, none⟩)] W (DrainedOut c base b F M0 W (contentsOf r ah ps) (N + 4 * phi r ps + 2)) := by
  have hphi := so.phi_le
  have HD0 := Lib.hid (show Dr c base b F M0 W (contentsOf r ah ps) W (.slice none 0 0) [] r ah ps m N M0 from
    ⟨by rw [orOwn_nil]; exact h, so, OwnsO.nil _ _ _, rfl, fun k e => (by cases e), Below.refl _ _, fun _ _ => rfl, h.fl, h.bw, Mem.le_refl _⟩)
  generalize contentsOf r ah ps = C at *
  generalize hK : phi r ps = K at *
  have HK := Lib.hid hK
  have hK3 : K ≤ 3000 := by omega
  clear h so hphi hK
  go_enter Try.func23, Try.ntmps23
  go_wp2
  go_loopg [3, 4, 5] (2 * K + 1) (fun g u s a wr => ∃ outs r1 ah1 ps1 m1 N1 M1, ∃ sn : Nat, ∃ ag : Bool, s = .int .i64 sn ∧ a = .bool ag ∧ Hid (Dr c base b F M0 W C wr u outs r1 ah1 ps1 m1 N1 M1) ∧ Hid (2 * phi r1 ps1 + ag.toNat ≤ g ∧ sn + phi r1 ps1 ≤ K ∧ N1 + 4 * phi r1 ps1 ≤ N + 4 * K + (if ag then 0 else 2) ∧ (ag = false → r1.queue = [] ∧ ah1 = [] ∧ ps1 = [])))
  case atStart => exact ⟨[], r, ah, ps, m, N, M0, 0, true, by go_num, rfl, HD0, Lib.hid ⟨by rw [HK.out]; simp, by rw [HK.out]; simp, by rw [HK.out]; simp, fun h => by cases h⟩⟩
  case round =>
    clear HD0
    obtain ⟨outs, r1, ah1, ps1, m1, N1, M1, sn, ag, rfl, rfl, HD, HN⟩ := hrel
    have hlenC := HD.out.len
    obtain ⟨au, cu, rfl, _, _⟩ := HD.out.own.form
    cases ag with
    | false =>
      go_wp2
      go_ret
      exact ⟨_, M1, r1, N1, m1, rfl, (HN.out.2.2.2 (by first | rfl | trivial)).1, by have := HN.out.2.2.1; simp at this; omega, by
        have h1 := HD.out
        obtain ⟨q1, q2, q3⟩ := HN.out.2.2.2 (by first | rfl | trivial)
        have h2 : outs = C := by have := h1.all; rw [q2, q3] at this; unfold contentsOf at this; rw [q1] at this; simpa using this
        rw [q2, q3, h2] at h1
        rw [h2]; exact h1⟩
    | true =>
      have hsn : sn ≤ 3000 := by have := HN.out.2.1; omega
      go_wp2
      go_loopg [4, 5] (phi r1 ps1) (fun g s a wx => ∃ r2 ps2 N2, ∃ sn2 : Nat, ∃ ag2 : Bool, s = .int .i64 sn2 ∧ a = .bool ag2 ∧ Hid (Dr c base b F M0 W C wx (.slice au outs.length cu) outs r2 ah1 ps2 m1 N2 M1) ∧ Hid (phi r2 ps2 ≤ g ∧ sn2 + phi r2 ps2 ≤ K ∧ N2 + phi r2 ps2 ≤ N1 + phi r1 ps1 ∧ phi r2 ps2 + ag2.toNat ≤ phi r1 ps1))
      case atStart => exact ⟨r1, ps1, N1, sn, false, rfl, rfl, HD, Lib.hid ⟨Nat.le_refl _, HN.out.2.1, Nat.le_refl _, by simp⟩⟩
      case round =>
        clear HD
        obtain ⟨r2, ps2, N2, sn2, ag2, rfl, rfl, HD2, HN2⟩ := hrel
        have hsn2 : sn2 ≤ 3000 := by have := HN2.out.2.1; omega
        have hp1 : phi r1 ps1 ≤ 3000 := by have := HN.out.2.1; omega
        have hN1 : N1 ≤ 600000 := by have := HN.out.2.2.1; simp at this; omega
        have hN2 : N2 ≤ 700000 := by have := HN2.out.2.2.1; omega
        have HS := Lib.hid (HD2.out.send (by omega))
        clear HD2
        go_wp2_with fail
        refine HS.out.mono ?_
        rintro e w2 (⟨n, r3, ps3, rfl, hp, hD3⟩ | ⟨k, rfl, hk, hq, hD3⟩)
        · have HD3 := Lib.hid hD3
          have HP := Lib.hid hp
          clear HS hD3 hp
          go_wp2
          go_roundg (phi r3 ps3)
          case measure => have := HP.out; have := HN2.out.1; omega
          case rel => exact ⟨r3, ps3, N2 + 1, sn2 + 1, true, by go_num, rfl, HD3, Lib.hid (by have := HP.out; have := HN2.out; simp; omega)⟩
        · have hk0 : (k == 0) = false := by rcases hk with rfl | rfl <;> rfl
          have HQ := Lib.hid hq
          have HW := Lib.hid (st_way hD3.st (by omega))
          have HD3 := Lib.hid hD3
          clear HS hk hq hD3
          go_wp2_with fail
          refine HW.out.mono ?_
          rintro e w3 ⟨vw, ss, rfl, hr, hss, hb3⟩
          obtain ⟨M2, hD4, hnew, hM12⟩ := HD3.out.grow hb3
          have hrv := (tSlice tInt).mono _ _ _ _ hnew hr
          obtain ⟨aw, cw, rfl, hw1, hw2, hrv⟩ := slice_form hrv
          have hw3 : cw ≤ 9223372036854775807 := by unfold maxLen at hw2; exact hw2
          have HSS := Lib.hid hss
          have HRV := Lib.hid hrv
          have HD4 := Lib.hid hD4
          clear hw2 hss hrv hD4 hr hnew hM12 HD3 HW hb3 hk0
          go_wp2
          go_loopg [4, 5, 9] ss.length (fun g s a i wx => ∃ r4 ps4 m4 N4, ∃ sn4 : Nat, ∃ ag4 : Bool, s = .int .i64 sn4 ∧ a = .bool ag4 ∧ g ≤ ss.length ∧ i = .int .i64 ((g : Int) - 1) ∧ Hid (Dr c base b F M0 W C wx (.slice au outs.length cu) outs r4 ah1 ps4 m4 N4 M2) ∧
            Hid (sn4 + phi r4 ps4 ≤ K ∧ N4 + phi r4 ps4 ≤ N1 + phi r1 ps1 + 1 ∧ phi r4 ps4 + ag4.toNat ≤ phi r1 ps1) ∧ Hid ((r4.queue = [] ∨ r4.credits = 0) ∧ ∀ k, (r4.way k).isSome = true ↔ k ∈ ss.take g))
          case atStart => exact ⟨r2, ps2, m1, N2 + 1, sn2, ag2, rfl, rfl, Nat.le_refl _, by go_num, HD4, Lib.hid (by have := HN2.out; omega), Lib.hid ⟨HQ.out, fun k => by rw [List.take_length]; exact (HSS.out.mem k).symm⟩⟩
          case round =>
            clear HD4
            obtain ⟨r4, ps4, m4, N4, sn4, ag4, rfl, rfl, hgk, rfl, HD4, HN4, HW4⟩ := hrel
            have hsn4 : sn4 ≤ 3000 := by have := HN4.out.1; omega
            have hN4 : N4 ≤ 800000 := by have := HN4.out.2.1; omega
            cases gk with
            | zero =>
              have hwn : ∀ k, r4.way k = none := fun k => by
                cases e : r4.way k with
                | none => rfl
                | some q => have := (HW4.out.2 k).1 (by rw [e]; rfl); simp at this
              have HQ4 := Lib.hid (And.intro HW4.out.1 hwn)
              clear HW4 hwn HRV HSS
              go_wp2
              go_loopg [3, 5] (phi r4 ps4) (fun g u a wy => ∃ outs5 r5 ah5 ps5 m5 N5 M5 a5 c5, ∃ ag5 : Bool, a = .bool ag5 ∧ u = .slice a5 outs5.length c5 ∧ Hid (Dr c base b F M0 W C wy (.slice a5 outs5.length c5) outs5 r5 ah5 ps5 m5 N5 M5) ∧
                Hid (phi r5 ps5 ≤ g ∧ sn4 + phi r5 ps5 ≤ K ∧ N5 + phi r5 ps5 ≤ N1 + phi r1 ps1 + 1 ∧ phi r5 ps5 + ag5.toNat ≤ phi r1 ps1) ∧ Hid ((ag5 = false → r5.queue = [] ∨ r5.credits = 0) ∧ ∀ k, r5.way k = none))
              case atStart => exact ⟨outs, r4, ah1, ps4, m4, N4, M2, au, cu, ag4, rfl, rfl, HD4, Lib.hid ⟨Nat.le_refl _, HN4.out⟩, Lib.hid ⟨fun _ => HQ4.out.1, HQ4.out.2⟩⟩
              case round =>
                clear HD4 HQ4
                obtain ⟨outs5, r5, ah5, ps5, m5, N5, M5, a5, c5, ag5, rfl, rfl, HD5, HN5, HW5⟩ := hrel
                have hl5 : outs5.length ≤ 1000 := by have := HD5.out.len; omega
                have hN5 : N5 ≤ 800000 := by have := HN5.out.2.2.1; omega
                have HR := Lib.hid (HD5.out.recv (by omega))
                clear HD5
                go_wp2_with fail
                refine HR.out.mono ?_
                rintro e w6 (⟨M6, hb, rfl, hD6⟩ | ⟨M6, x, a6, c6, r6, ah6, ps6, m6, rfl, hrow, hok, hC6, hp6, hq6, hw6, hD6⟩)
                · have HD6 := Lib.hid (fun o => hD6.pure ((Below.refl _ _).alloc (Nat.le_refl _) o))
                  have HE := Lib.hid (fun h => hD6.so.empty (HW5.out.1 h) HW5.out.2 hb)
                  clear HR hb hD6
                  simp only [elV]
                  cases ag5 with
                  | false =>
                    go_wp2
                    go_roundg (2 * phi r5 ps5)
                    case measure => have := HN5.out.2.2.2; have := HN.out.1; simp at this; omega
                    case rel => exact ⟨outs5, r5, ah5, ps5, m5, N5 + 1, M6, sn4, false, rfl, rfl, HD6.out _, Lib.hid ⟨by simp, HN5.out.2.1, by have := HN5.out.2.2.1; have := HN5.out.2.2.2; have := HN.out.2.2.1; simp at *; omega, fun _ => let h := HE.out (by first | rfl | trivial); ⟨h.2.2.1, h.1, h.2.1⟩⟩⟩
                  | true =>
                    go_wp2
                    go_roundg (2 * phi r5 ps5 + 1)
                    case measure => have := HN5.out.2.2.2; have := HN.out.1; simp at *; omega
                    case rel => exact ⟨outs5, r5, ah5, ps5, m5, N5 + 1, M6, sn4, true, rfl, by simp; omega, HD6.out _, Lib.hid ⟨by simp, HN5.out.2.1, by have := HN5.out.2.2.1; have := HN5.out.2.2.2; have := HN.out.2.2.1; simp at *; omega, fun h => by cases h⟩⟩
                · have HB := Lib.hid (((Below.refl w6.heap.size w6).alloc (Nat.le_refl _) (.cells #[.int .i64 x.kind, .int .i64 x.n, .int .i64 x.time, .slice a6 x.row.length c6, .int .i64 x.cn] 42)).alloc (by simp) (.cells #[.int .i64 x.kind, .int .i64 x.n, .int .i64 x.time, .slice a6 x.row.length c6, .int .i64 x.cn] 42))
                  have HD7 := Lib.hid (hD6.pure HB.out)
                  have HX := Lib.hid (show (tIn M6 tEl).rv noMem [.int .i64 x.kind, .int .i64 x.n, .int .i64 x.time, .slice a6 x.row.length c6, .int .i64 x.cn] x from ⟨_, rfl, ⟨hok.2.k, hok.2.n, hok.2.t, hok.2.c⟩, hrow⟩)
                  have HP6 := Lib.hid (And.intro hC6 (And.intro hp6 hw6))
                  have HL1 := Lib.hid (show outs5.length + 1 ≤ maxLen by unfold maxLen; omega)
                  have HL2 := Lib.hid (show (outs5.length + 1) * 56 ≤ 140737488355328 by omega)
                  clear hD6 hok hrow hC6 hp6 hq6 hw6 HB HR
                  simp only [elV]
                  go_wp2_with (at_builtin; refine wpList_append_o1 rfl (.tmp 51) (.tmp 53) 36 rfl (tIn M6 tEl) Try.underlying36 (infoEl _) rfl _ outs5 rfl HD7.out.own _ _ x rfl _ el_cells2 HX.out el_one HL1.out HL2.out ?_)
                  intro v' w7 own7 happ
                  have HG := Lib.hid ((HD7.out.got own7 happ).as HP6.out.1.symm)
                  obtain ⟨a7, c7, rfl, _⟩ := own7.form
                  clear own7 happ HD7 HX HL1 HL2
                  go_wp2
                  go_roundg (phi r6 ps6)
                  case measure => have := HP6.out.2.1; have := HN5.out.1; omega
                  case rel => exact ⟨outs5 ++ [x], r6, ah6, ps6, m6, N5 + 1, M6, a7, c7, true, rfl, rfl, HG, Lib.hid (by have := HP6.out.2.1; have := HN5.out; simp at *; omega), Lib.hid ⟨fun h => (by cases h), by rw [HP6.out.2.2]; exact HW5.out.2⟩⟩
            | succ g2 =>
              have hlt : g2 < ss.length := by omega
              obtain ⟨bw, ow, rfl, cs, hcs, rfl, hin⟩ := slice_at HRV.out hlt
              have q := HD4.out.st.mem _ _ _ (hcs 0 _ rfl)
              have q : wr.cell? ⟨bw, ow + g2, none⟩ = some (.int .i64 ss[g2]) := by simpa [mem, tInt] using q
              have hway : (r4.way ss[g2]).isSome = true := (HW4.out.2 _).2 (by rw [List.take_succ_eq_append_getElem hlt]; exact List.mem_append_right _ (List.mem_singleton.2 rfl))
              have HV := Lib.hid (HD4.out.deliv (by omega) hin hway)
              have HT := Lib.hid (way_take HSS.out.nd hlt HW4.out.2)
              have hi : ((g2 + 1 : Nat) : Int) - 1 = g2 := by omega
              rw [hi]
              clear hcs hway HD4 hi
              generalize ss[g2] = x at *
              go_wp2_with fail
              refine HV.out.mono ?_
              rintro e w5 ⟨rfl, r5, ps5, m5, hp, hwy, al, hD5⟩
              have HD5 := Lib.hid hD5
              have HP := Lib.hid (And.intro hp (And.intro hwy al))
              clear HV hp hwy al hD5 q
              go_wp2
              go_roundg g2
              case measure => omega
              case rel => exact ⟨r5, ps5, m5, N4 + 1, sn4 + 1, true, by go_num, rfl, by omega, by go_num, HD5, Lib.hid (by have := HP.out.1; have := HN4.out; simp at *; omega), Lib.hid ⟨by rw [HP.out.2.2.queue, HP.out.2.2.credits]; exact HW4.out.1, by rw [HP.out.2.1]; exact HT.out⟩⟩
end Go.Proofs.Ytfkphdmnelchmaa
