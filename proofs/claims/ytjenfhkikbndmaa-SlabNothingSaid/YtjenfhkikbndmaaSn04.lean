/- Part 4 of the texts that the law's proof stands on, merged. -/
import Derived.OwnWalkIn
import Derived.TacticsInMore
import Derived.LoopNIn
import Derived.LoopIn
import Derived.RegionIn
import Derived.WalkMore
import Derived.Test.YtjenfhkikbndmaaSn03
set_option linter.unusedVariables false
set_option linter.unusedSimpArgs false
/- package slab: flush (for chapter 14; printed by gen_slfl.py). -/
namespace Go.Proofs.Ytjenfhkikbndmaa
open Go.RowKit Go.Maps Go.Shelf
attribute [local go_sem] Oper.semAt_some
theorem slice_one {α : Type} {t : Ty α} {m : Mem} {b : Nat} {cs : List Value} {x : α} (h : At m b 0 cs) (hx : t.rv m cs x) : (tSlice t).rv m [.slice (some ⟨b, 0, none⟩) 1 1] [x] := by
  refine ⟨some ⟨b, 0, none⟩, 1, rfl, Nat.le_refl 1, by unfold maxLen; decide, fun _ => ⟨b, 0, rfl, fun k hk => ?_⟩⟩
  have hk : k < 1 := hk
  obtain rfl : k = 0 := by omega
  rw [Nat.zero_mul]
  exact ⟨cs, h, hx⟩
theorem own_rvBlk {α : Type} {t : Ty α} (hf : t.flat) {w : World} {B : Nat} {e : TypeId} {v : Value} {xs : List α} (h : Owns t w B e v xs) : (tSlice t).rv ((mem w).on (fun b => v.ownBlock = some b)) [v] xs := by
  obtain ⟨a, c, e2, g1, g2, g3⟩ := h.rv'
  refine ⟨a, c, e2, g1, g2, fun hp => ?_⟩
  obtain ⟨b, o, ea, hat⟩ := g3 hp
  refine ⟨b, o, ea, fun k hk => ?_⟩
  obtain ⟨cs, hc1, hc2⟩ := hat k hk
  have hbg : v.ownBlock = some b := by
    simp only [List.cons.injEq, and_true] at e2
    rw [e2, ea]; rfl
  exact ⟨cs, fun j u hj => Mem.on_some (hc1 j u hj) hbg, hf _ _ _ _ hc2⟩
theorem leftL_eq (s : LS) (n : Nat) (b : Bool) (h : b = true ↔ s.past n) : s.leftL n = (mergeC recC ((lvL s.lv n).map s.rc)).filter (fun x => liveR x || b) := by
  unfold LS.leftL
  congr 1
  funext x
  cases b with
  | true => have h' := h.1 rfl; simp [h']
  | false => have h' : ¬ s.past n := (fun hp => by have := h.2 hp; cases this); simp [h']
/-- The lists of one level. -/
theorem lists_lvl (s : LS) (full : List Nat) : listsD [] [full.map (runD s)] = [] :: full.map s.rc := by
  unfold listsD
  congr 1
  simp only [List.flatten_cons, List.flatten_nil, List.append_nil, List.map_map]
  rfl
/-- What holds at the head of the merging loop. -/
def FlRel (W : World) (base p : Nat) (r : HL) (w L0 : Nat) (u2 : Value) (Ds : List Nat) (w' : World) : Prop :=
  ∃ (n : Nat) (rn : HL), u2 = .int .i64 n ∧ n ≤ L0 ∧ n ≤ rn.s.lv.length ∧ rn.tc = rn.tv ∧ rn.s.fan = r.s.fan ∧ rn.nn ≤ r.nn + 1 + n ∧ Hid (LStep W base p r w' rn) ∧ Hid (FlI rn.s L0 (w + 1) (r.s.runs + 1) n) ∧ Hid (LS.cascF (r.s.lv.length + 3) 0 r.s.tabled = LS.cascF (r.s.lv.length + 3 - n) n rn.s) ∧ Hid (Marks Ds w') ∧ Hid (∀ D ∈ Ds, W.heap.size ≤ D)
def FlInv (W : World) (base p : Nat) (r : HL) (w L0 : Nat) (a' : Act) (w' : World) : Prop :=
  ∃ (u1 u2 u3 u4 u5 u6 u7 u8 u9 u10 u11 u12 u13 u14 u15 u16 u17 u18 u19 u20 u21 u22 u23 u24 u25 u26 u27 u28 u29 u30 u31 u32 u33 u34 u35 u36 u37 u38 u39 u40 u41 u42 u43 u44 u45 u46 u47 u48 u49 u50 u51 u52 u53 u54 u55 u56 u57 u58 u59 u60 u61 u62 u63 u64 u65 u66 u67 u68 u69 u70 u71 u72 u73 u74 u75 u76 u77 u78 u79 u80 u81 u82 u83 u84 u85 u86 u87 u88 u89 u90 u91 u92 u93 u94 u95 u96 u97 u98 u99 u100 u101 : Value) (Ds : List Nat), FlRel W base p r w L0 u2 Ds w' ∧ a' = { tmps := #[ptrS p, u1, u2, u3, u4, u5, u6, u7, u8, u9, u10, u11, u12, u13, u14, u15, u16, u17, u18, u19, u20, u21, u22, u23, u24, u25, u26, u27, u28, u29, u30, u31, u32, u33, u34, u35, u36, u37, u38, u39, u40, u41, u42, u43, u44, u45, u46, u47, u48, u49, u50, u51, u52, u53, u54, u55, u56, u57, u58, u59, u60, u61, u62, u63, u64, u65, u66, u67, u68, u69, u70, u71, u72, u73, u74, u75, u76, u77, u78, u79, u80, u81, u82, u83, u84, u85, u86, u87, u88, u89, u90, u91, u92, u93, u94, u95, u96, u97, u98, u99, u100, u101], defers := Ds.map markD }
theorem row_le {L : List (List Nat)} {x : List Nat} (hx : x ∈ L) : x.length ≤ L.flatten.length := by
  obtain ⟨k, hk, rfl⟩ := List.getElem_of_mem hx
  have := wr_set (fun _ => 1) L k [] hk
  rw [wr_nil, wr_one, wr_one, wr_one, lvL_lt hk] at this
  omega
section
variable {base p : Nat} {r : HL}
set_option maxRecDepth 100000 in
set_option maxHeartbeats 2000000 in
theorem flush_any (W : World) (w : Nat) (hI : LInv W base p r) (ht : r.tc = r.tv) (hs : r.s.Sound) (hb : r.s.Bd w) (ha : AscC recC r.s.table) (h2 : 2 ≤ r.s.fan) (h8 : r.s.fan ≤ 8) (hw : w ≤ 10000000) (hnn : r.nn ≤ 1000000000000000) :
    Calls Try.prog 25 #[ptrS p] W fun e w' => e = .returned (.tuple #[]) ∧ ∃ r', LStep W base p r w' r' ∧ r'.s = r.s.flush ∧ r'.tc = r'.tv ∧ r'.nn ≤ r.nn + w + 4 := by
  obtain ⟨ta, tcp, htv, htm⟩ := hI.tb.len
  have c4 : W.cell? ⟨p, 4, none⟩ = some (.slice ta r.s.table.length tcp) := by rw [← htv, ← ht]; exact mem_cells hI.hb 4
  refine (callsIn_wide (n := 0)).1 (callsIn_of_wp_marks Try.func25 rfl trivial ?_ rfl)
  simp only [Try.ntmps25, List.size_toArray, List.length_cons, List.length_nil, Nat.reduceAdd, Nat.reduceSub, Array.replicate_succ, Array.replicate_zero, List.push_toArray, List.append_toArray, List.nil_append, List.cons_append]
  refine (wpIn_wide (n := 0)).2 ?_
  go_step3
  by_cases h0 : r.s.table = []
  · have hl : r.s.table.length = 0 := by rw [h0]; rfl
    have hE : r.s.flush = r.s := by unfold LS.flush; rw [if_pos h0]
    have HL := Lib.hid (LStep.refl hI)
    rw [hE]
    rw [hl] at c4
    clear hI hs hb
    go_wp2_with fail
    (try simp only [Exit.inBlock, Exit.then])
    (try rw [Exit.noGoto_ret])
    exact marks_end (fn := Try.f25) rfl _ [] W (Marks.nil W) (fun WF hk => ⟨rfl, r, LStep.pure HL.out.inv (hk.below (Nat.le_refl _) (fun k h => by cases h)), rfl, ht, by omega⟩)
  · have hl0 : 0 < r.s.table.length := List.length_pos_iff.2 h0
    have hrun : r.s.runs ≤ 200000000000000 := by
      have h3 := hb.run
      have h4 : w * (w + 2) ≤ 10000000 * 10000002 := Nat.mul_le_mul hw (by omega)
      omega
    have HF0 := Lib.hid (FlI.start hs hb ha)
    have HE := Lib.hid (LS.flush_eq r.s h0)
    have hlen := hb.len
    have hrows : ∀ x ∈ r.s.lv, x.length ≤ 1000000000 := fun x hx => by
      have h3 := hb.num
      have h4 := row_le hx
      omega
    have hst1 := LStep.letTable hI
    have hrv := letTable_rv hI
    obtain ⟨r1, hr1⟩ : ∃ r1 : HL, r1 = { r with s := { r.s with table := [] }, tv := .slice none 0 0, M := r.M.ext W (fun b => r.tv.ownBlock = some b) } := ⟨_, rfl⟩
    rw [← hr1] at hst1
    have e1 : r1.s = { r.s with table := [] } := by rw [hr1]
    have e2 : r1.M = r.M.ext W (fun b => r.tv.ownBlock = some b) := by rw [hr1]
    have e3 : r1.nn = r.nn := by rw [hr1]
    have e4 : r1.tv = .slice none 0 0 := by rw [hr1]
    have e5 : r1.tc = .slice ta r.s.table.length tcp := by rw [hr1]; exact ht.trans htv
    rw [← e2, htv] at hrv
    have HMD := Lib.hid (made_any W hst1.inv r.s.table ta tcp hrv (by rw [e1]; show r.s.runs ≤ _; omega) (by rw [e3]; unfold maxLen; omega))
    have HST1 := Lib.hid hst1
    have hN : ¬ ((r.s.table.length : Int) = 0) := by omega
    have HROWS := Lib.hid hrows
    have HBN := Lib.hid hb.len
    clear hI hs hb ha hst1 hrv hr1 e2 hrows htv hl0
    go_wp2_with fail
    refine HMD.out.mono ?_
    rintro e w1 ⟨a1, r2, rfl, hst2, es2, ea2, eM2, etc2, etv2, elv2, enn2⟩
    have es2' : r2.s = ({ r.s with table := [] } : LS).made r.s.table := by rw [es2, e1]
    have hr1n : r1.s.runs + 1 = r.s.runs + 1 := by rw [e1]
    have HPU := Lib.hid (put_any w1 hst2.inv 0 (r.s.runs + 1) a1 (by rw [← hr1n]; exact ea2) (by omega) (by rw [es2']; show r.s.lv.length ≤ _; omega) (by rw [es2']; exact HROWS.out))
    have HST2 := Lib.hid (HST1.out.trans hst2)
    clear hst2 HMD
    go_wp2_with fail
    refine HPU.out.mono ?_
    rintro e w2 ⟨rfl, r3, hst3, es3, ea3, etc3, etv3, enn3⟩
    have es3' : r3.s = r.s.tabled := by rw [es3, es2']; rfl
    have HST3 := Lib.hid (HST2.out.trans hst3)
    have c42 : w2.cell? ⟨p, 4, none⟩ = some r3.tc := mem_cells hst3.inv.hb 4
    have z4 := frozen_cells hst3.inv.hb 4
    have hset : Keeps (fun k => k = p) w2 (w2.setCell ⟨p, 4, none⟩ (.slice none 0 0)) := (Keeps.refl (fun k => k = p) w2).setCell (p := ⟨p, 4, none⟩) (fun _ => rfl) _
    have hst4 := LStep.own hst3.inv hset r3.s rfl rfl rfl rfl rfl rfl (Nat.le_refl _) (.slice none 0 0) (setS hst3.inv.hb)
    have HST4 := Lib.hid (HST3.out.trans hst4)
    have etv : r3.tv = .slice none 0 0 := by rw [etv3, etv2, e4]
    have enn : r3.nn = r.nn + 1 := by rw [enn3, enn2, e3]
    have hfan : r3.s.fan = r.s.fan := by rw [es3']; rfl
    have hl3 : r3.s.lv.length = max r.s.lv.length 1 := by rw [es3']; show (putLv r.s.lv 0 (r.s.runs + 1)).length = _; rw [putLv_len]
    obtain ⟨L0, hL0⟩ : ∃ L0, L0 = max r.s.lv.length 1 := ⟨_, rfl⟩
    rw [← hL0] at HF0 hl3
    rw [← es3'] at HF0
    have HL0 := Lib.hid hL0
    obtain ⟨r4, hr4⟩ : ∃ r4 : HL, r4 = { r3 with s := r3.s, tc := .slice none 0 0 } := ⟨_, rfl⟩
    rw [← hr4] at HST4
    have e4s : r4.s = r3.s := by rw [hr4]
    have e4t : r4.tc = r4.tv := by rw [hr4]; exact etv.symm
    have e4n : r4.nn = r.nn + 1 := by rw [hr4]; exact enn
    rw [← e4s] at HF0 hfan es3'
    have HES := Lib.hid es3'
    rw [show r3.tc = .slice ta r.s.table.length tcp by rw [etc3, etc2, e5]] at c42
    have hL0w : L0 ≤ w + 1 := by omega
    clear HPU hst3 hset hst4 HST1 HST2 HST3 es2 es2' ea2 eM2 etc2 etv2 elv2 enn2 es3 es3' ea3 etc3 etv3 enn3 e1 e3 e4 e5 c4 hL0 hr1n
    go_wp2_with fail
    generalize w2.setCell ⟨p, 4, none⟩ (.slice none 0 0) = X at *
    clear c42 z4
    go_step3
    go_wp2_with fail
    refine wp_loop (FlInv W base p r w L0) (fun a' _ => L0 + 1 - (intOf (a'.tmps.getD 2 undef)).toNat) ?_ ?_
    · (repeat apply Exists.intro)
      refine ⟨⟨0, r4, rfl, Nat.zero_le _, Nat.zero_le _, e4t, hfan, by rw [e4n]; omega, HST4, HF0, Lib.hid (by rw [HES.out]; rfl), Lib.hid (Marks.nil _), Lib.hid (fun D h => by cases h)⟩, rfl⟩
    · intro _ wr hinv
      obtain ⟨u1, hinv⟩ := hinv
      obtain ⟨u2, hinv⟩ := hinv
      obtain ⟨u3, hinv⟩ := hinv
      obtain ⟨u4, hinv⟩ := hinv
      obtain ⟨u5, hinv⟩ := hinv
      obtain ⟨u6, hinv⟩ := hinv
      obtain ⟨u7, hinv⟩ := hinv
      obtain ⟨u8, hinv⟩ := hinv
      obtain ⟨u9, hinv⟩ := hinv
      obtain ⟨u10, hinv⟩ := hinv
      obtain ⟨u11, hinv⟩ := hinv
      obtain ⟨u12, hinv⟩ := hinv
      obtain ⟨u13, hinv⟩ := hinv
      obtain ⟨u14, hinv⟩ := hinv
      obtain ⟨u15, hinv⟩ := hinv
      obtain ⟨u16, hinv⟩ := hinv
      obtain ⟨u17, hinv⟩ := hinv
      obtain ⟨u18, hinv⟩ := hinv
      obtain ⟨u19, hinv⟩ := hinv
      obtain ⟨u20, hinv⟩ := hinv
      obtain ⟨u21, hinv⟩ := hinv
      obtain ⟨u22, hinv⟩ := hinv
      obtain ⟨u23, hinv⟩ := hinv
      obtain ⟨u24, hinv⟩ := hinv
      obtain ⟨u25, hinv⟩ := hinv
      obtain ⟨u26, hinv⟩ := hinv
      obtain ⟨u27, hinv⟩ := hinv
      obtain ⟨u28, hinv⟩ := hinv
      obtain ⟨u29, hinv⟩ := hinv
      obtain ⟨u30, hinv⟩ := hinv
      obtain ⟨u31, hinv⟩ := hinv
      obtain ⟨u32, hinv⟩ := hinv
      obtain ⟨u33, hinv⟩ := hinv
      obtain ⟨u34, hinv⟩ := hinv
      obtain ⟨u35, hinv⟩ := hinv
      obtain ⟨u36, hinv⟩ := hinv
      obtain ⟨u37, hinv⟩ := hinv
      obtain ⟨u38, hinv⟩ := hinv
      obtain ⟨u39, hinv⟩ := hinv
      obtain ⟨u40, hinv⟩ := hinv
      obtain ⟨u41, hinv⟩ := hinv
      obtain ⟨u42, hinv⟩ := hinv
      obtain ⟨u43, hinv⟩ := hinv
      obtain ⟨u44, hinv⟩ := hinv
      obtain ⟨u45, hinv⟩ := hinv
      obtain ⟨u46, hinv⟩ := hinv
      obtain ⟨u47, hinv⟩ := hinv
      obtain ⟨u48, hinv⟩ := hinv
      obtain ⟨u49, hinv⟩ := hinv
      obtain ⟨u50, hinv⟩ := hinv
      obtain ⟨u51, hinv⟩ := hinv
      obtain ⟨u52, hinv⟩ := hinv
      obtain ⟨u53, hinv⟩ := hinv
      obtain ⟨u54, hinv⟩ := hinv
      obtain ⟨u55, hinv⟩ := hinv
      obtain ⟨u56, hinv⟩ := hinv
      obtain ⟨u57, hinv⟩ := hinv
      obtain ⟨u58, hinv⟩ := hinv
      obtain ⟨u59, hinv⟩ := hinv
      obtain ⟨u60, hinv⟩ := hinv
      obtain ⟨u61, hinv⟩ := hinv
      obtain ⟨u62, hinv⟩ := hinv
      obtain ⟨u63, hinv⟩ := hinv
      obtain ⟨u64, hinv⟩ := hinv
      obtain ⟨u65, hinv⟩ := hinv
      obtain ⟨u66, hinv⟩ := hinv
      obtain ⟨u67, hinv⟩ := hinv
      obtain ⟨u68, hinv⟩ := hinv
      obtain ⟨u69, hinv⟩ := hinv
      obtain ⟨u70, hinv⟩ := hinv
      obtain ⟨u71, hinv⟩ := hinv
      obtain ⟨u72, hinv⟩ := hinv
      obtain ⟨u73, hinv⟩ := hinv
      obtain ⟨u74, hinv⟩ := hinv
      obtain ⟨u75, hinv⟩ := hinv
      obtain ⟨u76, hinv⟩ := hinv
      obtain ⟨u77, hinv⟩ := hinv
      obtain ⟨u78, hinv⟩ := hinv
      obtain ⟨u79, hinv⟩ := hinv
      obtain ⟨u80, hinv⟩ := hinv
      obtain ⟨u81, hinv⟩ := hinv
      obtain ⟨u82, hinv⟩ := hinv
      obtain ⟨u83, hinv⟩ := hinv
      obtain ⟨u84, hinv⟩ := hinv
      obtain ⟨u85, hinv⟩ := hinv
      obtain ⟨u86, hinv⟩ := hinv
      obtain ⟨u87, hinv⟩ := hinv
      obtain ⟨u88, hinv⟩ := hinv
      obtain ⟨u89, hinv⟩ := hinv
      obtain ⟨u90, hinv⟩ := hinv
      obtain ⟨u91, hinv⟩ := hinv
      obtain ⟨u92, hinv⟩ := hinv
      obtain ⟨u93, hinv⟩ := hinv
      obtain ⟨u94, hinv⟩ := hinv
      obtain ⟨u95, hinv⟩ := hinv
      obtain ⟨u96, hinv⟩ := hinv
      obtain ⟨u97, hinv⟩ := hinv
      obtain ⟨u98, hinv⟩ := hinv
      obtain ⟨u99, hinv⟩ := hinv
      obtain ⟨u100, hinv⟩ := hinv
      obtain ⟨u101, hinv⟩ := hinv
      obtain ⟨Ds, hinv⟩ := hinv
      obtain ⟨hrel, ha⟩ := hinv
      subst ha
      obtain ⟨n, rn, hu2, hnL, hnl, hrt, hrf, hrn, HS, HF, HC, HMK, HGE⟩ := hrel
      subst hu2
      try dsimp only
      clear HST4 HF0 etv enn hfan hl3 HES e4s e4t e4n hr4
      obtain ⟨la, lc, hlv, hlm⟩ := HS.out.inv.lb.len
      have c5 : wr.cell? ⟨p, 5, none⟩ = some (.slice la rn.s.lv.length lc) := by rw [← hlv]; exact mem_cells HS.out.inv.hb 5
      have c2 : wr.cell? ⟨p, 2, none⟩ = some (.int .i64 r.s.fan) := by rw [← hrf]; exact mem_cells HS.out.inv.hb 2
      have hK : r.s.lv.length + 3 - n = (r.s.lv.length + 2 - n) + 1 := by have := HL0.out; omega
      have HEND := Lib.hid (fun (h : ¬ (n < rn.s.lv.length ∧ rn.s.fan ≤ ((lvL rn.s.lv n).length : Int))) => (show rn.s = r.s.flush by
        rw [HE.out, HC.out, hK]
        unfold LS.cascF
        rw [if_neg h]))
      have HFIN := Lib.hid (fun (h : rn.s = r.s.flush) (nq : Nat) => (show ∀ WF, Keeps (fun k => k ∈ Ds) (wr.drewN nq) WF → (∃ r', LStep W base p r WF r' ∧ r'.s = r.s.flush ∧ r'.tc = r'.tv ∧ r'.nn ≤ r.nn + w + 4) from
        fun WF hk => ⟨rn, LStep.close (HS.out.trans (LStep.pure HS.out.inv (below_drewN (Below.refl _ _) nq))) (HMK.out.below (below_drewN (Below.refl _ _) nq)) HGE.out hk, h, hrt, by omega⟩))
      by_cases he : n = rn.s.lv.length
      · have hd : ((n : Int) == (rn.s.lv.length : Int)) = true := by simp [he]
        have HX := Lib.hid (HEND.out (fun h => by omega))
        go_wp2_with fail
        go_quiet (fail)
        all_goals
          go_wp2_with fail
          exact marks_end (fn := Try.f25) rfl _ Ds _ (HMK.out.below (below_drewN (Below.refl _ _) _)) (fun WF hk => ⟨rfl, HFIN.out HX.out _ WF hk⟩)
      · have hd : ((n : Int) == (rn.s.lv.length : Int)) = false := by rw [beq_eq_false_iff_ne]; omega
        have hlt : n < rn.s.lv.length := by omega
        have hlt2 : (n : Int) < (rn.s.lv.length : Int) := by omega
        obtain ⟨g, lc2, cur, e1, hgc, hqc, hcm, -⟩ := HS.out.inv.lb.blk (by omega)
        rw [hlv] at e1
        simp only [Value.slice.injEq, true_and] at e1
        obtain ⟨rfl, rfl⟩ := e1
        have HLB := Lib.hid HS.out.inv.lb.rv'
        rw [hlv] at HLB
        obtain ⟨g2, o2, e2, cs, hat1, hat2⟩ := slice_at HLB.out hlt
        simp only [Option.some.injEq, Addr.mk.injEq, and_true] at e2
        obtain ⟨rfl, rfl⟩ := e2
        have hat2 : (tRow rn.ad).rv rn.M cs rn.s.lv[n] := hat2
        obtain ⟨u, rfl⟩ : ∃ u, cs = [u] := by
          match cs, (tRow rn.ad).len _ _ _ hat2 with
          | [u], _ => exact ⟨u, rfl⟩
        obtain ⟨ua, uc, rfl, huc, hum, hurv⟩ := slice_form hat2
        have hcell : wr.cell? ⟨g, n, none⟩ = some (.slice ua rn.s.lv[n].length uc) := by have := hat1 0 _ rfl; simpa [tIn, tRow, tSlice, mem] using this
        have hcp : lc ≤ 9223372036854775807 := by unfold maxLen at hcm; exact hcm
        have hup : uc ≤ 9223372036854775807 := by unfold maxLen at hum; exact hum
        have HROW := Lib.hid (show lvL rn.s.lv n = rn.s.lv[n] from lvL_lt hlt)
        have HRW := Lib.hid hurv
        have hmem : rn.s.lv[n] ∈ rn.s.lv := List.getElem_mem hlt
        have HMEM := Lib.hid hmem
        clear hat1 hat2 hurv hum hmem
        generalize rn.s.lv[n] = full at *
        by_cases hf : (full.length : Int) < r.s.fan
        · have hd2 : decide ((full.length : Int) < r.s.fan) = true := decide_eq_true hf
          have HX := Lib.hid (HEND.out (fun h => by rw [HROW.out] at h; omega))
          go_wp2_with fail
          go_quiet (fail)
          all_goals
            go_wp2_with fail
            exact marks_end (fn := Try.f25) rfl _ Ds _ (HMK.out.below (below_drewN (Below.refl _ _) _)) (fun WF hk => ⟨rfl, HFIN.out HX.out _ WF hk⟩)
        · have hd2 : decide ((full.length : Int) < r.s.fan) = false := decide_eq_false hf
          have HBY := Lib.hid (fun (w' : World) (h : Below wr.heap.size wr w') => beyond_any w' (HS.out.inv.pure h) n hlt (by have := HF.out.len; omega))
          go_wp2_with fail
          go_quiet (fail)
          all_goals
            go_wp2_with fail
            refine (HBY.out _ (below_drewN (Below.refl _ _) _)).mono ?_
            rintro e w3 ⟨b, rfl, rfl, hb⟩
            have hbW : Below wr.heap.size wr (wr.drewN nq) := below_drewN (Below.refl _ _) _
            have HPAST := Lib.hid hb
            have HIW := Lib.hid (HS.out.inv.pure hbW)
            have HSW := Lib.hid (HS.out.trans (LStep.pure HS.out.inv hbW))
            have HMW := Lib.hid (HMK.out.below hbW)
            have hcW : (wr.drewN nq).cell? ⟨g, n, none⟩ = some (.slice ua full.length uc) := below_mem hbW _ _ _ hcell
            clear hb hbW HBY HFIN HEND HS HMK hcell hgc c5 c2
            generalize wr.drewN nq = Wb at *
            obtain ⟨Y0, hY0⟩ : ∃ Y0, Y0 = ((Wb.alloc (.cells #[.bool b] 4)).alloc (.cells #[.slice none 0 0] 60)).alloc (.cells #[.slice ua full.length uc] 72) := ⟨_, rfl⟩
            have hY0s : Y0.heap.size = Wb.heap.size + 3 := by rw [hY0]; simp
            have hY0b : Below Wb.heap.size Wb Y0 := by rw [hY0]; exact (((Below.refl _ Wb).alloc (Nat.le_refl _) _).alloc (by simp) _).alloc (by simp; omega) _
            have hY00 : Y0.heap[Wb.heap.size]? = some (.cells #[.bool b] 4 (0, 0)) := by rw [hY0]; exact (Below.heap_alloc _ _ _ (by simp; omega)).trans ((Below.heap_alloc _ _ _ (by simp)).trans (heap_alloc_new Wb _))
            have hY01 : Y0.heap[Wb.heap.size + 1]? = some (.cells #[.slice none 0 0] 60 (0, 0)) := by
              rw [hY0]
              have := heap_alloc_new (Wb.alloc (.cells #[.bool b] 4)) (.cells #[.slice none 0 0] 60)
              rw [World.size_alloc] at this
              exact (Below.heap_alloc _ _ _ (by simp)).trans this
            have hY02 : Y0.heap[Wb.heap.size + 2]? = some (.cells #[.slice ua full.length uc] 72 (0, 0)) := by
              rw [hY0]
              have := heap_alloc_new ((Wb.alloc (.cells #[.bool b] 4)).alloc (.cells #[.slice none 0 0] 60)) (.cells #[.slice ua full.length uc] 72)
              rwa [World.size_alloc, World.size_alloc] at this
            have hM0 : (mem Wb).le ((mem Y0).on (fun k => k ≠ Wb.heap.size + 1)) := Mem.le_trans (mem_on_lt Wb) (fun b' o v e => by
              obtain ⟨h1, h2⟩ := Mem.of_on e
              exact Mem.on_some (below_mem hY0b _ _ _ h2) (by omega))
            have hkf : ∀ m ∈ full, m ∈ rn.s.kept := fun m hm => HF.out.snd.lvKept full HMEM.out m hm
            have hrowD : tRowD.rv ((mem Y0).on (fun k => k ≠ Wb.heap.size + 1)) [.slice ua full.length uc] (full.map (runD rn.s)) := tRowD.mono _ _ _ _ hM0 (HIW.out.rowD HRW.out hkf)
            have hlev : tLevD.rv ((mem Y0).on (fun k => k ≠ Wb.heap.size + 1)) [.slice (some ⟨Wb.heap.size + 2, 0, none⟩) 1 1] [full.map (runD rn.s)] := slice_one (t := tRowD) (cs := [.slice ua full.length uc]) (fun j v hj => by
              match j, hj with
              | 0, hj => simp at hj; subst hj; exact Mem.on_some (mem_cells hY02 0) (by omega)) hrowD
            have hfl : full.length ≤ w + 1 := Nat.le_trans (row_le HMEM.out) HF.out.num
            have HLS := Lib.hid (lists_anyS (fun k => k ≠ Wb.heap.size + 1) (ptrS p) [] [full.map (runD rn.s)] (.slice none 0 0) (.slice (some ⟨Wb.heap.size + 2, 0, none⟩) 1 1) Y0 (slice_nil _ _) hlev ⟨by simp, by simp; omega, fun x hx => by rw [List.mem_singleton.1 hx, List.length_map]; omega⟩)
            rw [lists_lvl] at HLS
            have HY00 := Lib.hid hY00
            have HY01 := Lib.hid hY01
            have HYB := Lib.hid hY0b
            have HKF := Lib.hid hkf
            subst hY0
            clear hY00 hY01 hY02 hM0 hrowD hlev hY0b hkf
            go_wp2_with fail
            refine HLS.out.mono ?_
            rintro e w5 ⟨la5, lc5, rfl, hrd, hb5⟩
            obtain ⟨ls, hls⟩ : ∃ ls, ls = [] :: full.map rn.s.rc := ⟨_, rfl⟩
            rw [← hls] at hrd
            rw [← hls]
            have h50 := (hb5.block _ (Array.getElem?_eq_some_iff.1 HY00.out).1).trans HY00.out
            have h51 := (hb5.block _ (Array.getElem?_eq_some_iff.1 HY01.out).1).trans HY01.out
            have hB5 : Below Wb.heap.size Wb w5 := HYB.out.trans (hb5.mono HYB.out.size)
            have hs5 : Wb.heap.size + 3 ≤ w5.heap.size := by rw [← hY0s]; exact hb5.size
            have HMG := Lib.hid (merged_any la5 ls.length lc5 w5)
            have hbX : Below w5.heap.size w5 (w5.alloc (.cells #[.slice la5 ls.length lc5] 77)) := (Below.refl _ _).alloc (Nat.le_refl _) _
            have hX5 := heap_alloc_new w5 (.cells #[.slice la5 ls.length lc5] 77)
            have hXs : (w5.alloc (.cells #[.slice la5 ls.length lc5] 77)).heap.size = w5.heap.size + 1 := by simp
            have hrX : (tSlice tRecSs).rv ((mem (w5.alloc (.cells #[.slice la5 ls.length lc5] 77))).on (fun k => k ≠ Wb.heap.size + 1 ∧ k < w5.heap.size)) [.slice la5 ls.length lc5] ls :=
              (tSlice tRecSs).mono _ _ _ _ (fun b' o v e => by
                obtain ⟨h1, h2⟩ := Mem.of_on e
                refine Mem.on_some (below_mem hbX _ _ _ h2) ⟨?_, mem_lt h2⟩
                rcases h1 with h1 | h1
                · exact h1
                · omega) hrd
            have hX0 := (hbX.block _ (Array.getElem?_eq_some_iff.1 h50).1).trans h50
            have hX1 := (hbX.block _ (Array.getElem?_eq_some_iff.1 h51).1).trans h51
            have hBX : Below Wb.heap.size Wb (w5.alloc (.cells #[.slice la5 ls.length lc5] 77)) := hB5.trans (hbX.mono hB5.size)
            have hasc : ∀ l ∈ ls, AscC recC l := fun l hl => by
              rw [hls] at hl
              rcases List.mem_cons.1 hl with rfl | hl
              · exact List.Pairwise.nil
              · obtain ⟨m, hm, rfl⟩ := List.mem_map.1 hl
                exact HF.out.snd.asc m (HKF.out m hm)
            have hlens : ∀ l ∈ ls, l.length ≤ 1000000000 := fun l hl => by
              rw [hls] at hl
              rcases List.mem_cons.1 hl with rfl | hl
              · simp
              · obtain ⟨m, hm, rfl⟩ := List.mem_map.1 hl
                have h1 := HF.out.rcd
                have h3 : (rn.s.rc m).length ≤ Go.Proofs.Ytjenfhkikbndmaa.wr (recW rn.s) rn.s.lv.flatten := wr_le (f := recW rn.s) (List.mem_flatten.2 ⟨full, HMEM.out, hm⟩)
                omega
            have hll : ls.length ≤ 1000000000 := by rw [hls, List.length_cons, List.length_map]; omega
            have hl0 : 0 < ls.length := by rw [hls, List.length_cons]; omega
            have HOK := Lib.hid (merge_ok (lists_ok hrd) hasc)
            have HMC := Lib.hid (show mergeC recC ls = mergeC recC (full.map rn.s.rc) by rw [hls]; rfl)
            have HML := Lib.hid (show (mergeC recC ls).length ≤ w + 1 by
              rw [HMC.out]
              have h1 := merge_wr rn.s full
              have h3 := wr_set (recW rn.s) rn.s.lv n [] hlt
              rw [wr_nil, HROW.out] at h3
              have := HF.out.rcd
              omega)
            have HLEFT := Lib.hid (show rn.s.leftL n = (mergeC recC ls).filter (fun x => liveR x || b) by
              rw [leftL_eq rn.s n b HPAST.out, HROW.out, HMC.out])
            have HGV := Lib.hid (merged1_gives ls w5.heap.size (fun k => k ≠ Wb.heap.size + 1 ∧ k < w5.heap.size) la5 lc5 (w5.alloc (.cells #[.slice la5 ls.length lc5] 77)) ⟨hX5, hrX⟩ (fun k hk => by rw [hXs]; omega) hasc hl0 hll hlens (fun k => k = Wb.heap.size + 1 ∨ w5.heap.size < k) (fun k hk h => by omega) (fun h => by omega))
            have HX0 := Lib.hid hX0
            have HX1 := Lib.hid hX1
            have HBX := Lib.hid hBX
            have HLSE := Lib.hid hls
            clear hls hrd hrX h50 h51 hB5 hbX hX5 hX0 hX1 hBX hasc hlens HLS HY00 HY01 HYB hb5
            go_wp2_with fail
            refine HMG.out.mono ?_
            rintro e w6 ⟨rfl, rfl⟩
            clear HMG
            generalize w5.alloc (.cells #[.slice la5 ls.length lc5] 77) = X5 at *
            go_wp2_with fail
            generalize w5.heap.size = cb at *
            refine wp_rangeK okI okI_loop (gf := 60) (lb := #[.pointer (some ⟨cb, 0, none⟩)]) (by first | rfl | simp) (fun _ _ => rfl) HGV.out (Below.refl _ _) (fun k hk => .inr (by omega)) (fun x => rfl)
              (fun pre W1 => AccAt tRecS 54 60 (Wb.heap.size + 1) (cb + 1) (pre.filter (fun x => liveR x || b)) W1 ∧ W1.heap[Wb.heap.size]? = some (.cells #[.bool b] 4 (0, 0)) ∧ Below Wb.heap.size Wb W1) ?closed ?start ?round ?done
            case closed =>
              rintro pre A C ⟨hI, hg0, hB⟩ hk
              refine ⟨hI.keeps tRecS_flat hk (fun h => by omega) (fun k h2 h3 h => ?_), (hk.block _ (Array.getElem?_eq_some_iff.1 hg0).1 (fun h => by omega)).trans hg0, hB.trans (hk.below hB.size (fun k h => by omega))⟩
              rcases h.2 with h4 | h4 | h4
              · have := kd_lt h3; omega
              · exact kd_not_cells h3 h4
              · exact kd_not_ok h3 (by decide) h4
            case start => exact ⟨⟨_, HX1.out, Owns.nil _ _ _ _⟩, HX0.out, HBX.out⟩
            case round =>
              rintro l pre x post W1 hx ⟨hI, hg0, hB⟩ hsz1
              have HPL := Lib.hid (show (pre.filter (fun x => liveR x || b)).length < 1000000000 from by
                have h1 := List.length_filter_le (fun x => liveR x || b) pre
                have h3 : pre.length < (mergeC recC ls).length := by rw [hx]; simp
                have := HML.out
                omega)
              have HXO := Lib.hid (HOK.out x (by rw [hx]; simp))
              have HTS := Lib.hid (show (pre ++ [x]).filter (fun x => liveR x || b) = pre.filter (fun x => liveR x || b) ++ (if (liveR x || b) = true then [x] else []) by
                rw [List.filter_append]; congr 1
                cases h : (liveR x || b) <;> simp [List.filter, h])
              clear hx HGV HX0 HX1 HBX
              obtain ⟨⟨xg, x1, x2, x3⟩, gr⟩ := x
              simp only at HXO
              gi_wp2
              refine ⟨(Keeps.refl _ _).alloc _, fun W3 hk => ?_⟩
              have hV1 : (W1.alloc (.cells #[.int .i64 xg, .string x1, .string x2, .string x3, .bool gr] 54)).heap[W1.heap.size]? = some (.cells #[.int .i64 xg, .string x1, .string x2, .string x3, .bool gr] 54 (0, 0)) := heap_alloc_new W1 _
              have hg1 := (Below.heap_alloc W1 (.cells #[.int .i64 xg, .string x1, .string x2, .string x3, .bool gr] 54) _ (Array.getElem?_eq_some_iff.1 hg0).1).trans hg0
              have hI2 : AccAt tRecS 54 60 (Wb.heap.size + 1) (cb + 1) (pre.filter (fun x => liveR x || b)) (W1.alloc (.cells #[.int .i64 xg, .string x1, .string x2, .string x3, .bool gr] 54)) := hI.keeps tRecS_flat (F := fun _ => False) ((Keeps.refl _ _).alloc _) (fun h => h) (fun k _ _ h => h)
              have hI3 := hI2.keeps tRecS_flat hk (fun h => by omega) (fun k h2 h3 h => kd_not_cells h3 h.2)
              have hg3 := (hk.block _ (Array.getElem?_eq_some_iff.1 hg1).1 (fun h => kd_not_cells (kd_cells hg1) h.2)).trans hg1
              have hB3 : Below Wb.heap.size Wb W3 := (hB.alloc hB.size _).trans (hk.below (by have := hB.size; simp; omega) (fun k h => by omega))
              have hV3 : W3.heap[W1.heap.size]? = some (.cells #[.int .i64 xg, .string x1, .string x2, .string x3, .bool gr] 54 (0, 0)) := (hk.block _ (by simp) (fun h => kd_not_cells (kd_cells hV1) h.2)).trans hV1
              have v0 : W3.cell? ⟨W1.heap.size, 0, none⟩ = some (.int .i64 xg) := mem_cells hV3 0
              have v1 : W3.cell? ⟨W1.heap.size, 1, none⟩ = some (.string x1) := mem_cells hV3 1
              have v2 : W3.cell? ⟨W1.heap.size, 2, none⟩ = some (.string x2) := mem_cells hV3 2
              have v3 : W3.cell? ⟨W1.heap.size, 3, none⟩ = some (.string x3) := mem_cells hV3 3
              have v4 : W3.cell? ⟨W1.heap.size, 4, none⟩ = some (.bool gr) := mem_cells hV3 4
              have vg : W3.cell? ⟨Wb.heap.size, 0, none⟩ = some (.bool b) := mem_cells hg3 0
              have HI3 := Lib.hid hI3
              have HB3 := Lib.hid hB3
              have HG3 := Lib.hid hg3
              clear hk hI2 hI hV1 hI3 hB3 hB hg0 hg1 hg3
              by_cases hkeep : (liveR ⟨⟨xg, x1, x2, x3⟩, gr⟩ || b) = true
              · rw [if_pos hkeep] at HTS
                obtain ⟨u, c3, o3⟩ := HI3.out
                obtain ⟨au, cu, rfl, hml⟩ := o3.len
                have c5 : W3.cell? ⟨Wb.heap.size + 1, 0, none⟩ = some (.slice au (pre.filter (fun x => liveR x || b)).length cu) := mem_cells c3 0
                have f5 : W3.frozen? ⟨Wb.heap.size + 1, 0, none⟩ = false := frozen_cells c3 0
                have hB3s : cb + 1 ≤ W3.heap.size := by
                  have h1 := (Array.getElem?_eq_some_iff.1 hV3).1
                  omega
                have hlt5 : Wb.heap.size + 1 < W3.heap.size := by omega
                have hpl := HPL.out
                have HC3 := Lib.hid c3
                have O4 := Lib.hid o3
                generalize pre.filter (fun x => liveR x || b) = qs at *
                clear c3 o3 hml HI3
                have hgr : gr = true → b = true := fun h => by subst h; simpa [liveR] using hkeep
                clear hkeep
                cases gr with
                | false =>
                  gi_wp2_with (gi_at_builtin; refine wpListIn_append_one rfl _ _ 60 rfl tRecS Try.underlying60 infoRec rfl (by decide) (cb + 1) _ qs rfl (O4.out.alloc _) _ _ (⟨⟨xg, x1, x2, x3⟩, false⟩ : RecS) rfl [.int .i64 xg, .string x1, .string x2, .string x3, .bool false] ?a2 ⟨rfl, HXO.out⟩ ?b2 ?c2 ?d2 ?e2 ?_)
                  case a2 => exact fun j u hj => by match j, hj with | 0, hj => simp at hj; subst hj; simp [mem] | 1, hj => simp at hj; subst hj; simp [mem] | 2, hj => simp at hj; subst hj; simp [mem] | 3, hj => simp at hj; subst hj; simp [mem] | 4, hj => simp at hj; subst hj; simp [mem]
                  case b2 => first | (refine ⟨rfl, rfl, rfl, rfl, rfl⟩) | (intro x hx; simp at hx; rcases hx with rfl | rfl | rfl | rfl | rfl <;> rfl)
                  case c2 => unfold maxLen; omega
                  case d2 => omega
                  case e2 => first | omega | (simp; omega)
                  intro v' W6 own6 hgrow hblk
                  obtain ⟨a6, cap6, rfl, _⟩ := own6.len
                  have i6 := AccAt.same HC3.out O4.out (by omega) hgrow
                  have k6 : W6.cell? ⟨Wb.heap.size + 1, 0, none⟩ = some (.slice au qs.length cu) := mem_cells i6 0
                  have l6 : W6.frozen? ⟨Wb.heap.size + 1, 0, none⟩ = false := frozen_cells i6 0
                  rw [← HTS.out] at own6
                  have HR6 := Lib.hid (AccAt.round HC3.out O4.out (by omega) tRecS_flat (by decide) (by decide) hB3s hgrow own6)
                  have HG6 := Lib.hid (fun (Z : World) (h : Keeps (fun k => k = Wb.heap.size + 1 ∨ cb + 1 ≤ k) W3 Z) => (h.block _ (Array.getElem?_eq_some_iff.1 HG3.out).1 (fun h => by omega)).trans HG3.out)
                  clear i6 own6 hgrow hblk
                  gi_wp2
                  have h := HR6.out
                  rw [HTS.out] at h
                  simp only [List.length_append, List.length_cons, List.length_nil, Nat.zero_add] at h
                  exact ⟨h.1, h.2.1, h.2.2.1.wide (fun k _ h => by omega), by rw [HTS.out]; exact h.2.2.2, HG6.out _ h.2.2.1, HB3.out.trans (h.2.2.1.below HB3.out.size (fun k h => by omega))⟩
                | true =>
                  obtain rfl := hgr rfl
                  gi_wp2_with (gi_at_builtin; refine wpListIn_append_one rfl _ _ 60 rfl tRecS Try.underlying60 infoRec rfl (by decide) (cb + 1) _ qs rfl (O4.out.alloc _) _ _ (⟨⟨xg, x1, x2, x3⟩, true⟩ : RecS) rfl [.int .i64 xg, .string x1, .string x2, .string x3, .bool true] ?a2 ⟨rfl, HXO.out⟩ ?b2 ?c2 ?d2 ?e2 ?_)
                  case a2 => exact fun j u hj => by match j, hj with | 0, hj => simp at hj; subst hj; simp [mem] | 1, hj => simp at hj; subst hj; simp [mem] | 2, hj => simp at hj; subst hj; simp [mem] | 3, hj => simp at hj; subst hj; simp [mem] | 4, hj => simp at hj; subst hj; simp [mem]
                  case b2 => first | (refine ⟨rfl, rfl, rfl, rfl, rfl⟩) | (intro x hx; simp at hx; rcases hx with rfl | rfl | rfl | rfl | rfl <;> rfl)
                  case c2 => unfold maxLen; omega
                  case d2 => omega
                  case e2 => first | omega | (simp; omega)
                  intro v' W6 own6 hgrow hblk
                  obtain ⟨a6, cap6, rfl, _⟩ := own6.len
                  have i6 := AccAt.same HC3.out O4.out (by omega) hgrow
                  have k6 : W6.cell? ⟨Wb.heap.size + 1, 0, none⟩ = some (.slice au qs.length cu) := mem_cells i6 0
                  have l6 : W6.frozen? ⟨Wb.heap.size + 1, 0, none⟩ = false := frozen_cells i6 0
                  rw [← HTS.out] at own6
                  have HR6 := Lib.hid (AccAt.round HC3.out O4.out (by omega) tRecS_flat (by decide) (by decide) hB3s hgrow own6)
                  have HG6 := Lib.hid (fun (Z : World) (h : Keeps (fun k => k = Wb.heap.size + 1 ∨ cb + 1 ≤ k) W3 Z) => (h.block _ (Array.getElem?_eq_some_iff.1 HG3.out).1 (fun h => by omega)).trans HG3.out)
                  clear i6 own6 hgrow hblk
                  gi_wp2
                  have h := HR6.out
                  rw [HTS.out] at h
                  simp only [List.length_append, List.length_cons, List.length_nil, Nat.zero_add] at h
                  exact ⟨h.1, h.2.1, h.2.2.1.wide (fun k _ h => by omega), by rw [HTS.out]; exact h.2.2.2, HG6.out _ h.2.2.1, HB3.out.trans (h.2.2.1.below HB3.out.size (fun k h => by omega))⟩
              · rw [if_neg hkeep, List.append_nil] at HTS
                have hgr : gr = true ∧ b = false := by
                  cases gr <;> cases b <;> simp [liveR] at hkeep ⊢
                obtain ⟨rfl, rfl⟩ := hgr
                gi_wp2
                exact ⟨KeepsOthers.refl _, KeepsB.refl _ _, Keeps.refl _ _, by rw [HTS.out]; exact HI3.out, HG3.out, HB3.out⟩
            case done =>
              rintro D Wd hDl ⟨⟨u, c, o4⟩, hg0, hB⟩ hD
              have hMb := HMW.out
              have hDb : Wb.heap.size ≤ D := by omega
              have hMd : Marks (D :: Ds) Wd := Marks.cons (n := 0) hMb (hMb.below hB) hD hDb
              have iD := HIW.out.pure hB
              have hWs : W.heap.size ≤ Wb.heap.size := HSW.out.kp.size
              have hnot : ∀ k, Wb.heap.size ≤ k → ¬ mutL p rn k := fun k hk hm => by have := HIW.out.kind k hm; omega
              obtain ⟨r5, hst5, es5, ead5, etc5, etv5, enn5, elv5⟩ := LStep.levSet iD (Below.refl Wd.heap.size Wd) hlv hlt (u := .slice none 0 0) (row := []) (Owns.nil _ _ _ _)
              have d5 : Wd.cell? ⟨p, 5, none⟩ = some (.slice (some ⟨g, 0, none⟩) rn.s.lv.length lc) := by rw [← hlv]; exact mem_cells iD.hb 5
              have dl : Wd.cell? ⟨g, n, none⟩ = some (.slice ua full.length uc) := below_mem hB _ _ _ hcW
              obtain ⟨g9, c9, cur9, e9, hg9, -, -, -⟩ := iD.lb.blk (by omega)
              have hgg : g9 = g := by rw [hlv] at e9; simp only [Value.slice.injEq, Option.some.injEq, Addr.mk.injEq] at e9; exact e9.1.1.symm
              rw [hgg] at hg9
              have dz := frozen_cells hg9 n
              have hM5 := hst5.marks iD hMd
              have hc5' := (hst5.kp.block _ (Array.getElem?_eq_some_iff.1 c).1 (hnot _ (by omega))).trans c
              have ho5 := o4.keepsFlat tRecS_flat hst5.kp (fun k hk => hnot k (by have := (o4.lt k hk).1; omega))
              have HS5 := Lib.hid ((HSW.out.trans (LStep.pure HIW.out hB)).trans hst5)
              have hsz5 : Wd.heap.size ≤ (Wd.setCell ⟨g, n, none⟩ (.slice none 0 0)).heap.size := hst5.kp.size
              have HM5 := Lib.hid hM5
              have HC5 := Lib.hid hc5'
              have HO5 := Lib.hid ho5
              have HNOT := Lib.hid hnot
              have hs1 : ({ rn.s with lv := rn.s.lv.set n [] } : LS).SoundX full := by
                have := HF.out.snd.bare hlt
                rwa [List.append_nil, HROW.out] at this
              have HS1 := Lib.hid hs1
              have HMLE := Lib.hid (Mem.le_trans (LStep.pure HIW.out hB).ml hst5.ml)
              have HST5 := Lib.hid hst5
              have hfl5 : (rn.s.lv.set n []).flatten.length ≤ w + 1 := by
                have h3 := wr_set (fun _ => 1) rn.s.lv n [] hlt
                rw [wr_nil, wr_one, wr_one, wr_one] at h3
                have := HF.out.num
                omega
              clear hD hDl hs1 hM5 hc5' ho5 hst5 hMd hMb c o4 hg0 hnot e9 hg9 iD HGV HX0 HX1 HBX HOK
              go_wp2_with fail
              generalize hX6 : Wd.setCell ⟨g, n, none⟩ (.slice none 0 0) = X6 at *
              go_loopw [84] (fun iv w6 => ∃ (j : Nat) (r6 : HL), j ≤ full.length ∧ iv = .int .i64 j ∧ Hid (LStep X6 base p r5 w6 r6) ∧ Hid (r6.s = ({ rn.s with lv := rn.s.lv.set n [] } : LS).lefts (full.take j)) ∧ Hid (r6.s.SoundX (full.drop j)) ∧ r6.ad = rn.ad ∧ r6.tc = rn.tc ∧ r6.tv = rn.tv ∧ r6.nn = rn.nn) (fun iv _ => full.length - (intOf iv).toNat)
              case atStart => exact ⟨0, r5, Nat.zero_le _, rfl, Lib.hid (LStep.refl HS5.out.inv), Lib.hid es5, Lib.hid (by rw [List.drop_zero, es5]; exact HS1.out), ead5, etc5, etv5, enn5⟩
              case round =>
                obtain ⟨j, r6, hj, rfl, HL6, HE6, HX6, ea6, et6, ev6, en6⟩ := hrel
                by_cases hjt : j < full.length
                · obtain ⟨rb, ro, e, cs, hr1, aa, hra, hrc⟩ := slice_at HRW.out hjt
                  subst e
                  subst hrc
                  have k0 : wr.cell? ⟨rb, ro + j, none⟩ = some (ptrS aa) := HL6.out.inv.ml _ _ _ (HL6.out.ml _ _ _ (HMLE.out _ _ _ (by have := hr1 0 _ rfl; simpa [tRun] using this)))
                  have hdr : full.drop j = full[j] :: full.drop (j + 1) := List.drop_eq_getElem_cons hjt
                  have hsx := HX6.out
                  rw [hdr] at hsx
                  obtain ⟨hkm, hu1⟩ := hsx.mem
                  have hu2 : r6.s.use full[j] ≤ 1000000000000 := by
                    rw [hsx.use _ hkm]
                    have h1 : r6.s.cnt full[j] ≤ (w + 1) + 20 * (w + 1) := by
                      have e1 : r6.s.lv = rn.s.lv.set n [] := by rw [HE6.out]; exact (lefts_same _ _).lv
                      have e2 : r6.s.sn = rn.s.sn := by rw [HE6.out]; exact (lefts_same _ _).sn
                      unfold LS.cnt
                      rw [e1, e2]
                      have h3 := cnt_le full[j] (rn.s.lv.set n []).flatten
                      have h4 := snCnt_le (n := full[j]) HF.out.sn
                      have h5 : rn.s.sn.length * (w + 1) ≤ 20 * (w + 1) := Nat.mul_le_mul_right _ HF.out.snl
                      omega
                    have h2 := cnt_le full[j] (full[j] :: full.drop (j + 1))
                    rw [List.length_cons, List.length_drop] at h2
                    omega
                  have hlt3 := HX6.out.lt _ hkm
                  have hrun6 : r6.s.runs = rn.s.runs := by rw [HE6.out]; exact (lefts_same _ _).runs
                  have hrl := HF.out.run
                  have HLV := Lib.hid (leave_any wr HL6.out.inv hkm (by rw [ea6]; exact hra) ⟨hu1, hu2⟩ (by unfold inI64; omega))
                  have HE7 := Lib.hid (show r6.s.left full[j] = ({ rn.s with lv := rn.s.lv.set n [] } : LS).lefts (full.take (j + 1)) by
                    rw [HE6.out, List.take_succ_eq_append_getElem hjt]
                    unfold LS.lefts
                    rw [List.foldl_append]; rfl)
                  have HX7 := Lib.hid hsx.left
                  clear hr1 hdr hsx hkm hu1 hu2 hlt3
                  generalize full[j] = m at *
                  go_wp2_with fail
                  refine HLV.out.mono ?_
                  rintro e w7 ⟨rfl, hst7⟩
                  have HL7 := Lib.hid (HL6.out.trans hst7)
                  clear hst7 HLV k0
                  go_wp2_with fail
                  go_roundw
                  case rel => exact ⟨j + 1, _, by omega, by go_num, HL7, HE7, HX7, ea6, et6, ev6, en6⟩
                  case measure => simp [intOf]; omega
                · obtain rfl : j = full.length := by omega
                  rw [List.take_length] at HE6
                  rw [List.drop_length] at HX6
                  have hnm : ∀ k, Wb.heap.size ≤ k → k < X6.heap.size → ¬ mutL p r5 k := fun k h1 h3 hm => by
                    rcases HST5.out.mb k hm with h4 | h4
                    · exact HNOT.out k h1 h4
                    · have : X6.heap.size = Wd.heap.size := by rw [← hX6]; simp [World.setCell]
                      omega
                  have hv6 := (HL6.out.kp.block _ (Array.getElem?_eq_some_iff.1 HC5.out).1 (hnm _ (by omega) (Array.getElem?_eq_some_iff.1 HC5.out).1)).trans HC5.out
                  have ho6 := HO5.out.keepsFlat tRecS_flat HL6.out.kp (fun k hk => hnm k (by have := (HO5.out.lt k hk).1; omega) (HO5.out.lt k hk).2)
                  have hm6 := HL6.out.marks HS5.out.inv HM5.out
                  have hst6 := HS5.out.trans HL6.out
                  have hbl6 : ∀ k, u.ownBlock = some k → (W.heap.size ≤ k ∨ mutL p r k) ∧ ¬ mutL p r6 k := fun k hk => by
                    have h1 := HO5.out.lt k hk
                    refine ⟨.inl (by omega), fun hm => ?_⟩
                    rcases HL6.out.mb k hm with h4 | h4
                    · exact hnm k (by omega) h1.2 h4
                    · omega
                  have hmg := HF.out.merge hlt (by rw [HROW.out, hrf]; omega) (by rw [hrf]; exact h2)
                  have HCN := Lib.hid (show LS.cascF (r.s.lv.length + 3) 0 r.s.tabled = LS.cascF (r.s.lv.length + 3 - (n + 1)) (n + 1) (rn.s.merge1 n) by
                    rw [HC.out, hK]
                    conv => lhs; unfold LS.cascF
                    rw [if_pos ⟨hlt, by rw [HROW.out, hrf]; omega⟩]
                    congr 1
                    omega)
                  have HGE2 := Lib.hid (show ∀ E ∈ D :: Ds, W.heap.size ≤ E from fun E hE => by
                    rcases List.mem_cons.1 hE with rfl | hE
                    · omega
                    · exact HGE.out E hE)
                  have HRND := Lib.hid (fun (Z : World) (rz : HL) (hz : LStep W base p r Z rz) (hzs : rz.s = rn.s.merge1 n) (hzt : rz.tc = rz.tv) (hzn : rz.nn ≤ rn.nn + 1) (hzm : Marks (D :: Ds) Z) =>
                    (show FlRel W base p r w L0 (.int .i64 ((n : Int) + 1)) (D :: Ds) Z from
                      ⟨n + 1, rz, by simp, by have := hmg.2.1; omega, by rw [hzs]; exact hmg.2.2.2, hzt, by rw [hzs, hmg.2.2.1, hrf], by omega, Lib.hid hz, by rw [hzs]; exact Lib.hid hmg.1, by rw [hzs]; exact HCN, Lib.hid hzm, HGE2⟩))
                  have hnL2 := hmg.2.1
                  obtain ⟨au, cu, hu, hum⟩ := HO5.out.len
                  have k1 : wr.cell? ⟨Wb.heap.size + 1, 0, none⟩ = some u := mem_cells hv6 0
                  rw [hu] at k1
                  have HLF := HLEFT
                  by_cases hle : rn.s.leftL n = []
                  · have hl0 : ((mergeC recC ls).filter (fun x => liveR x || b)).length = 0 := by rw [← HLF.out, hle]; rfl
                    rw [hl0] at k1
                    have HR9 := Lib.hid (HRND.out wr r6 hst6 (by unfold LS.merge1; rw [if_pos hle, HE6.out, HROW.out]) (by rw [et6, ev6]; exact hrt) (by omega) hm6)
                    clear HRND hv6 ho6 hm6 hst6 hbl6 hmg HCN HGE2
                    go_wp2_with fail
                    refine ⟨?_, ?_⟩
                    · exact ⟨_, _, _, _, _, _, _, _, _, _, _, _, _, _, _, _, _, _, _, _, _, _, _, _, _, _, _, _, _, _, _, _, _, _, _, _, _, _, _, _, _, _, _, _, _, _, _, _, _, _, _, _, _, _, _, _, _, _, _, _, _, _, _, _, _, _, _, _, _, _, _, _, _, _, _, _, _, _, _, _, _, _, _, _, _, _, _, _, _, _, _, _, _, _, _, _, _, _, _, _, _, D :: Ds, HR9.out, rfl⟩
                    · simp [intOf]; omega
                  · have hlst : (mergeC recC ls).filter (fun x => liveR x || b) = rn.s.leftL n := HLF.out.symm
                    have hpos : 0 < ((mergeC recC ls).filter (fun x => liveR x || b)).length := by rw [hlst]; exact List.length_pos_iff.2 hle
                    have hbd : ((mergeC recC ls).filter (fun x => liveR x || b)).length ≤ w + 1 := Nat.le_trans (List.length_filter_le _ _) HML.out
                    have h7 := hst6.grow (fun k => u.ownBlock = some k) hbl6
                    have hrv7 := tRecSs.mono _ _ _ _ (ext_new r6.M wr (fun k => u.ownBlock = some k)) (own_rvBlk tRecS_flat ho6)
                    rw [hu] at hrv7
                    obtain ⟨r7, hr7⟩ : ∃ r7 : HL, r7 = { r6 with M := r6.M.ext wr (fun k => u.ownBlock = some k) } := ⟨_, rfl⟩
                    rw [← hr7] at h7
                    have q1 : r7.s = r6.s := by rw [hr7]
                    have q2 : r7.M = r6.M.ext wr (fun k => u.ownBlock = some k) := by rw [hr7]
                    have q3 : r7.nn = r6.nn := by rw [hr7]
                    have q4 : r7.tc = r6.tc := by rw [hr7]
                    have q5 : r7.tv = r6.tv := by rw [hr7]
                    have hrun6 : r6.s.runs = rn.s.runs := by rw [HE6.out]; exact (lefts_same _ _).runs
                    have hlv6 : r6.s.lv = rn.s.lv.set n [] := by rw [HE6.out]; exact (lefts_same _ _).lv
                    have hrl := HF.out.run
                    have hlen6 := HF.out.len
                    rw [← hu, ← q2, hu] at hrv7
                    have HMD := Lib.hid (made_any wr h7.inv _ au cu hrv7 (by rw [q1, hrun6]; omega) (by rw [q3]; unfold maxLen; omega))
                    have H7 := Lib.hid h7
                    have HM6 := Lib.hid hm6
                    have HE8 := Lib.hid (show ({ (({ rn.s with lv := rn.s.lv.set n [] } : LS).lefts full).made (rn.s.leftL n) with lv := putLv (rn.s.lv.set n []) (n + 1) (rn.s.runs + 1) } : LS) = rn.s.merge1 n by unfold LS.merge1; rw [if_neg hle, HROW.out])
                    rw [hlst] at HMD k1 hpos hbd
                    generalize rn.s.leftL n = lst at *
                    have hpos2 : (0 : Int) < (lst.length : Int) := by omega
                    have hw1 : IntKind.i64.wrap ((n : Int) + 1) = ((n + 1 : Nat) : Int) := by rw [IntWalk.i64_in _ (by omega)]; rfl
                    clear hv6 ho6 hm6 hst6 hbl6 hmg HCN HGE2 hrv7 h7 hr7 q2 hlst HLF HLEFT
                    go_wp2_with fail
                    refine HMD.out.mono ?_
                    rintro e w8 ⟨a8, r8, rfl, hst8, es8, ea8, eM8, et8, ev8, elv8, en8⟩
                    have es8' : r8.s = (({ rn.s with lv := rn.s.lv.set n [] } : LS).lefts full).made lst := by rw [es8, q1, HE6.out]
                    have hlv8 : r8.s.lv = rn.s.lv.set n [] := by rw [es8, q1]; show r6.s.lv = _; exact hlv6
                    have hrows8 : ∀ x ∈ rn.s.lv.set n [], x.length ≤ 1000000000 := fun x hx => by have := row_le hx; omega
                    have HPU := Lib.hid (put_any w8 hst8.inv (n + 1) (rn.s.runs + 1) a8 (by rw [← hrun6, ← q1]; exact ea8) (by omega) (by rw [hlv8, List.length_set]; omega) (by rw [hlv8]; exact hrows8))
                    have HM8 := Lib.hid (hst8.marks H7.out.inv HM6.out)
                    have H8 := Lib.hid (H7.out.trans hst8)
                    have k8 : w8.cell? ⟨p, 0, none⟩ = w8.cell? ⟨p, 0, none⟩ := rfl
                    clear HMD
                    go_wp2_with fail
                    refine HPU.out.mono ?_
                    rintro e w9 ⟨rfl, r9, hst9, es9, ea9, et9, ev9, en9⟩
                    have es9' : r9.s = rn.s.merge1 n := by
                      rw [← HE8.out, es9, hlv8, es8']
                    have HR9 := Lib.hid (HRND.out w9 r9 (H8.out.trans hst9) es9' (by rw [et9, et8, q4, et6, ev9, ev8, q5, ev6]; exact hrt) (by rw [en9, en8, q3]; omega) (hst9.marks H8.out.inv HM8.out))
                    clear HRND HPU hst9 es9 HM8 H8 H7
                    go_wp2_with fail
                    refine ⟨?_, ?_⟩
                    · exact ⟨_, _, _, _, _, _, _, _, _, _, _, _, _, _, _, _, _, _, _, _, _, _, _, _, _, _, _, _, _, _, _, _, _, _, _, _, _, _, _, _, _, _, _, _, _, _, _, _, _, _, _, _, _, _, _, _, _, _, _, _, _, _, _, _, _, _, _, _, _, _, _, _, _, _, _, _, _, _, _, _, _, _, _, _, _, _, _, _, _, _, _, _, _, _, _, _, _, _, _, _, _, D :: Ds, HR9.out, rfl⟩
                    · simp [intOf]; omega
end
end Go.Proofs.Ytjenfhkikbndmaa
/- package slab: write (for chapter 14). -/
namespace Go.Proofs.Ytjenfhkikbndmaa
open Go.RowKit Go.Maps
/-- A record written into the table; then, where the table is full, a flush. -/
def LS.tab (s : LS) (x : RecS) : LS := { s with table := withC recC s.table x }
noncomputable def LS.write (s : LS) (x : RecS) : LS := if ((s.tab x).table.length : Int) = s.fill then (s.tab x).flush else s.tab x
theorem store5C {w : World} {g o : Nat} {cur : Array Value} {t : TypeId} {f : Nat × Nat} (h : w.heap[g]? = some (.cells cur t f)) (v0 v1 v2 v3 v4 : Value) :
    (((((w.setCell ⟨g, o, none⟩ v0).setCell ⟨g, o + 1, none⟩ v1).setCell ⟨g, o + 2, none⟩ v2).setCell ⟨g, o + 3, none⟩ v3).setCell ⟨g, o + 4, none⟩ v4).heap[g]? = some (.cells (((((cur.setIfInBounds o v0).setIfInBounds (o + 1) v1).setIfInBounds (o + 2) v2).setIfInBounds (o + 3) v3).setIfInBounds (o + 4) v4) t f) :=
  setS (setS (setS (setS (setS h))))
theorem store5K (w : World) (g o : Nat) (v0 v1 v2 v3 v4 : Value) : Keeps (fun k => k = g) w (((((w.setCell ⟨g, o, none⟩ v0).setCell ⟨g, o + 1, none⟩ v1).setCell ⟨g, o + 2, none⟩ v2).setCell ⟨g, o + 3, none⟩ v3).setCell ⟨g, o + 4, none⟩ v4) :=
  (((((Keeps.refl (fun k => k = g) w).setCell (p := ⟨g, o, none⟩) (fun _ => rfl) _).setCell (p := ⟨g, o + 1, none⟩) (fun _ => rfl) _).setCell (p := ⟨g, o + 2, none⟩) (fun _ => rfl) _).setCell (p := ⟨g, o + 3, none⟩) (fun _ => rfl) _).setCell (p := ⟨g, o + 4, none⟩) (fun _ => rfl) _
theorem store5At {cur : Array Value} {o : Nat} (h : o + 5 ≤ cur.size) (v0 v1 v2 v3 v4 : Value) (j : Nat) : (((((cur.setIfInBounds o v0).setIfInBounds (o + 1) v1).setIfInBounds (o + 2) v2).setIfInBounds (o + 3) v3).setIfInBounds (o + 4) v4)[j]? = if o ≤ j ∧ j < o + 5 then ([v0, v1, v2, v3, v4] : List Value)[j - o]? else cur[j]? := by
  simp only [Array.getElem?_setIfInBounds, Array.size_setIfInBounds]
  by_cases h0 : j < o
  · rw [if_neg (by omega), if_neg (by omega), if_neg (by omega), if_neg (by omega), if_neg (by omega), if_neg (by omega)]
  · by_cases h5 : o + 5 ≤ j
    · rw [if_neg (by omega), if_neg (by omega), if_neg (by omega), if_neg (by omega), if_neg (by omega), if_neg (by omega)]
    · rw [if_pos (show o ≤ j ∧ j < o + 5 by omega)]
      obtain ⟨d, rfl⟩ : ∃ d, j = o + d := ⟨j - o, by omega⟩
      rw [Nat.add_sub_cancel_left]
      have hd : d < 5 := by omega
      match d, hd with
      | 0, _ => simp; omega
      | 1, _ => simp; omega
      | 2, _ => simp; omega
      | 3, _ => simp; omega
      | 4, _ => simp; omega
theorem HL.tcEq (r : HL) (ht : r.tc = r.tv) : ({ r with tc := r.tv } : HL) = r := by
  cases r
  simp only at ht
  subst ht
  rfl
section
variable {base p : Nat} {r : HL}
/-- A record of the table replaced. -/
theorem LStep.tabSet {W : World} (h : LInv W base p r) (ht : r.tc = r.tv) {g c i : Nat} (hv : r.tv = .slice (some ⟨g, 0, none⟩) r.s.table.length c) (hi : i < r.s.table.length) (x : RecS) (hx : x.e.okE) :
    LStep W base p r (((((W.setCell ⟨g, i * 5, none⟩ (.int .i64 x.e.g)).setCell ⟨g, i * 5 + 1, none⟩ (.string x.e.nm)).setCell ⟨g, i * 5 + 2, none⟩ (.string x.e.key)).setCell ⟨g, i * 5 + 3, none⟩ (.string x.e.val)).setCell ⟨g, i * 5 + 4, none⟩ (.bool x.grave)) { r with s := { r.s with table := r.s.table.set i x }, tv := r.tv, tc := r.tv } := by
  have hk := store5K W g (i * 5) (.int .i64 x.e.g) (.string x.e.nm) (.string x.e.key) (.string x.e.val) (.bool x.grave)
  have hgo : r.tv.ownBlock = some g := by rw [hv]; rfl
  obtain ⟨g2, c2, cur, e1, hg, hlc, hm, hs⟩ := h.tb.blk (by omega)
  rw [hv] at e1
  simp only [Value.slice.injEq, Option.some.injEq, Addr.mk.injEq, and_true, true_and] at e1
  obtain ⟨rfl, rfl⟩ := e1
  have hown : OwnsT W base (.slice (some ⟨g, 0, none⟩) r.s.table.length c) r.s.table := hv ▸ h.tb
  have hs5 : cur.size = c * 5 := hs
  have hfit : i * 5 + 5 ≤ cur.size := by rw [hs5]; omega
  have ho : OwnsT _ base (.slice (some ⟨g, 0, none⟩) r.s.table.length c) (r.s.table.set i x) := hown.setN tRecS_flat hi (cs := x.cells) (y := x) ⟨rfl, hx⟩ hg (store5C hg (.int .i64 x.e.g) (.string x.e.nm) (.string x.e.key) (.string x.e.val) (.bool x.grave)) (by simp)
    (fun j => store5At (cur := cur) hfit (.int .i64 x.e.g) (.string x.e.nm) (.string x.e.key) (.string x.e.val) (.bool x.grave) j)
  refine LStep.setTable h (hk.wide (fun b _ e => .inr (by rw [e]; exact hgo))) r.tv (r.s.table.set i x) (fun b e => .inl e) (by rw [hv]; exact ho) ?_
  have hp := (hk.block p (h.kind p (.inl rfl)) (fun e => kd_ne h.kP (h.kT hgo) (by decide) e)).trans h.hb
  rw [HL.tcEq r ht]
  exact hp
/-- The table is another row. -/
theorem LStep.tabPut {W w5 : World} (h : LInv W base p r) {v : Value} {l : List RecS} (hg : W.grownBy w5 r.tv.ownBlock) (ho : OwnsT w5 base v l) (hb : v.ownBlock = r.tv.ownBlock ∨ ∀ k, v.ownBlock = some k → W.heap.size ≤ k) :
    LStep W base p r (w5.setCell ⟨p, 4, none⟩ v) { r with s := { r.s with table := l }, tv := v, tc := v } ∧ w5.heap[p]? = W.heap[p]? := by
  have hpl := h.kind p (.inl rfl)
  have hp5 : w5.heap[p]? = W.heap[p]? := hg.block p hpl (fun e => kd_ne (h.kT e.symm) h.kP (by decide) rfl)
  have hset : Keeps (fun k => k = p) w5 (w5.setCell ⟨p, 4, none⟩ v) := (Keeps.refl (fun k => k = p) w5).setCell (p := ⟨p, 4, none⟩) (fun _ => rfl) _
  have hb' : ∀ k, v.ownBlock = some k → r.tv.ownBlock = some k ∨ W.heap.size ≤ k := fun k e => by
    rcases hb with hb | hb
    · exact .inl (by rw [← hb]; exact e)
    · exact .inr (hb k e)
  refine ⟨LStep.setTable h ?_ v l hb' (ho.keepsFlat tRecS_flat hset (fun k e => ?_)) ?_, hp5⟩
  · refine ⟨hset.os.trans hg.os, hset.tape.trans hg.tape, hset.output.trans hg.output, Nat.le_trans hg.size hset.size, fun k hk hn => ?_⟩
    exact (hset.block k (Nat.lt_of_lt_of_le hk hg.size) (fun e => hn (.inl e))).trans (hg.block k hk (fun e => hn (.inr e.symm)))
  · intro e2
    subst e2
    rcases hb' k e with e | e
    · exact kd_ne (h.kT e) h.kP (by decide) rfl
    · omega
  · exact setS (hp5.trans h.hb)
end
end Go.Proofs.Ytjenfhkikbndmaa
/- package slab: write (for chapter 14; printed by gen_slwr.py). -/
namespace Go.Proofs.Ytjenfhkikbndmaa
open Go.RowKit Go.Maps
theorem LS.tab_sound {s : LS} (h : s.Sound) (x : RecS) : (s.tab x).Sound := h.same rfl rfl rfl rfl (fun _ => rfl)
theorem LS.tab_bd {s : LS} {w : Nat} (h : s.Bd w) (x : RecS) : (s.tab x).Bd (w + 1) := by
  refine ⟨by have := h.len; show s.lv.length ≤ _; omega, by have := h.num; show s.lv.flatten.length ≤ _; omega, ?_, fun y hy => by have := h.sn y hy; omega, h.snl, ?_⟩
  · show wr (recW s) s.lv.flatten + (withC recC s.table x).length ≤ _
    have := h.rcd
    have := withC_le s.table x
    omega
  · have h1 := h.run
    show s.runs ≤ _
    have : w * (w + 2) ≤ (w + 1) * (w + 1 + 2) := Nat.mul_le_mul (by omega) (by omega)
    omega
theorem findAt_hit {l : List RecS} {x : RecS} {i : Nat} (ha : AscC recC l) (h : FindAt l x.e i true) : i < l.length ∧ withC recC l x = l.set i x := by
  rcases h with ⟨-, hi, he⟩ | ⟨h, -⟩
  · exact ⟨hi, withC_set recC_good ha hi he⟩
  · cases h
theorem findAt_miss {l : List RecS} {x : RecS} {i : Nat} (h : FindAt l x.e i false) : i ≤ l.length ∧ withC recC l x = insL l i x := by
  rcases h with ⟨h, -⟩ | ⟨-, h⟩
  · cases h
  · refine ⟨h.len, withC_insert (c := recC) (x := x) (i := i) recC_good (fun j hj hji => ?_) (fun j hj hij => ?_)⟩
    · exact h.lo j hj hji
    · exact h.hi j hj hij
section
variable {base p : Nat} {r : HL}
set_option maxRecDepth 100000 in
set_option maxHeartbeats 2000000 in
theorem write_any (W : World) (w : Nat) (hI : LInv W base p r) (ht : r.tc = r.tv) (hs : r.s.Sound) (hb : r.s.Bd w) (ha : AscC recC r.s.table) (h2 : 2 ≤ r.s.fan) (h8 : r.s.fan ≤ 8) (hw : w ≤ 9000000) (hnn : r.nn ≤ 100000000000000) (hln : r.s.table.length ≤ 900) (x : RecS) (hx : x.e.okE) :
    Calls Try.prog 32 #[ptrS p, x.v] W fun e w' => e = .returned (.tuple #[]) ∧ ∃ r', LStep W base p r w' r' ∧ r'.s = r.s.write x ∧ r'.tc = r'.tv ∧ r'.nn ≤ r.nn + w + 5 := by
  obtain ⟨ta, tcp, htv, htm⟩ := hI.tb.len
  have HSND := Lib.hid (LS.tab_sound hs x)
  have HBD := Lib.hid (LS.tab_bd hb x)
  have HASC := Lib.hid (show AscC recC (r.s.tab x).table from withC_asc recC_good ha x)
  have HX := Lib.hid (show Below W.heap.size W (W.alloc (.cells x.cells.toArray 54)) from (Below.refl _ _).alloc (Nat.le_refl _) _)
  have HXC := Lib.hid (heap_alloc_new W (.cells x.cells.toArray 54))
  have hXs : (W.alloc (.cells x.cells.toArray 54)).heap.size = W.heap.size + 1 := by simp
  have HI := Lib.hid hI
  have HTV := Lib.hid htv
  have HC4 := Lib.hid (fun (Y : World) (h : Below W.heap.size W Y) => (show Y.cell? ⟨p, 4, none⟩ = some (.slice ta r.s.table.length tcp) from by rw [← htv, ← ht]; exact mem_cells (hI.pure h).hb 4))
  have HFD := Lib.hid (fun (Y : World) (h : Below W.heap.size W Y) => slabFind_any r.s.table x.e r.tv Y (hI.pure h).tb.rv' ha (by omega))
  rw [htv] at HFD
  have HHIT := Lib.hid (fun (i : Nat) (h : FindAt r.s.table x.e i true) => findAt_hit ha h)
  have HMISS := Lib.hid (fun (i : Nat) (h : FindAt r.s.table x.e i false) => findAt_miss h)
  have HOKX := Lib.hid hx
  have htb := hI.tb.css.1
  clear hI hs hb ha hx htb
  obtain ⟨⟨g1, n1, k1, v1⟩, gr⟩ := x
  go_enter Try.func32, Try.ntmps32
  go_wp2_with fail
  generalize W.alloc (.cells #[.int .i64 g1, .string n1, .string k1, .string v1, .bool gr] 54) = X at *
  have y0 : X.cell? ⟨W.heap.size, 0, none⟩ = some (.int .i64 g1) := mem_cells HXC.out 0
  have y1 : X.cell? ⟨W.heap.size, 1, none⟩ = some (.string n1) := mem_cells HXC.out 1
  have y2 : X.cell? ⟨W.heap.size, 2, none⟩ = some (.string k1) := mem_cells HXC.out 2
  have y3 : X.cell? ⟨W.heap.size, 3, none⟩ = some (.string v1) := mem_cells HXC.out 3
  have c4 := HC4.out X HX.out
  have hb0 : Below X.heap.size X X.drew := (Below.refl _ _).drew
  have HKP := Lib.hid (fun (w' : World) (hb : Below X.heap.size X w') => (show w'.cell? ⟨p, 4, none⟩ = some (.slice ta r.s.table.length tcp) ∧ w'.cell? ⟨W.heap.size, 0, none⟩ = some (.int .i64 g1) ∧ w'.cell? ⟨W.heap.size, 1, none⟩ = some (.string n1) ∧ w'.cell? ⟨W.heap.size, 2, none⟩ = some (.string k1) ∧ w'.cell? ⟨W.heap.size, 3, none⟩ = some (.string v1) from
    ⟨below_mem hb _ _ _ c4, below_mem hb _ _ _ y0, below_mem hb _ _ _ y1, below_mem hb _ _ _ y2, below_mem hb _ _ _ y3⟩))
  go_region_held3 (fun w' => w'.cell? ⟨p, 4, none⟩ = some (.slice ta r.s.table.length tcp) ∧ w'.cell? ⟨W.heap.size, 0, none⟩ = some (.int .i64 g1) ∧ w'.cell? ⟨W.heap.size, 1, none⟩ = some (.string n1) ∧ w'.cell? ⟨W.heap.size, 2, none⟩ = some (.string k1) ∧ w'.cell? ⟨W.heap.size, 3, none⟩ = some (.string v1))
    (first | with_reducible exact HKP.out _ hb0 | with_reducible exact HKP.out _ hb4)
    ((go_at_call 43; refine (HFD.out _ (pure_trans HX.out hb0)).mono ?_; rintro e w4 ⟨i, is, rfl, hb, hfa⟩; have hb4 := pure_trans hb0 hb; clear hb))
  have HB4 := Lib.hid (pure_trans HX.out hb4)
  have HX4 := Lib.hid ((hb4.block _ (Array.getElem?_eq_some_iff.1 HXC.out).1).trans HXC.out)
  have HFA := Lib.hid hfa
  rename_i hHeld
  clear hHeld hb4 hb0 HKP c4 y0 y1 y2 y3 HFD hfa HXC HX hXs
  have c4 := HC4.out w4 HB4.out
  have y0 : w4.cell? ⟨W.heap.size, 0, none⟩ = some (.int .i64 g1) := mem_cells HX4.out 0
  have y1 : w4.cell? ⟨W.heap.size, 1, none⟩ = some (.string n1) := mem_cells HX4.out 1
  have y2 : w4.cell? ⟨W.heap.size, 2, none⟩ = some (.string k1) := mem_cells HX4.out 2
  have y3 : w4.cell? ⟨W.heap.size, 3, none⟩ = some (.string v1) := mem_cells HX4.out 3
  have y4 : w4.cell? ⟨W.heap.size, 4, none⟩ = some (.bool gr) := mem_cells HX4.out 4
  have HI4 := Lib.hid (HI.out.pure HB4.out)
  have HS4 := Lib.hid (LStep.pure HI.out HB4.out)
  generalize hxx : (⟨⟨g1, n1, k1, v1⟩, gr⟩ : RecS) = x at *
  cases is with
  | true =>
    obtain ⟨hi, hwc⟩ := HHIT.out i HFA.out
    obtain ⟨g, c2, cur, e1, hg, hlc, hm, hsz⟩ := HI4.out.tb.blk (by omega)
    have e1' := e1
    rw [htv] at e1
    simp only [Value.slice.injEq, true_and] at e1
    obtain ⟨rfl, rfl⟩ := e1
    have hcp : tcp ≤ 9223372036854775807 := by unfold maxLen at hm; exact hm
    have hsz5 : cur.size = tcp * 5 := hsz
    have z0 := frozen_cells hg (i * 5)
    have z1 := frozen_cells hg (i * 5 + 1)
    have z2 := frozen_cells hg (i * 5 + 2)
    have z3 := frozen_cells hg (i * 5 + 3)
    have z4 := frozen_cells hg (i * 5 + 4)
    have hrv4 := HI4.out.tb.rv'
    rw [e1'] at hrv4
    obtain ⟨gb, go, eg, ⟨q0, q1, q2, q3, q4⟩, -⟩ := recs_at hrv4 hi
    simp only [Option.some.injEq, Addr.mk.injEq, and_true] at eg
    obtain ⟨rfl, rfl⟩ := eg
    simp only [Nat.zero_add] at q0 q1 q2 q3 q4
    have s0 : w4.cell? ⟨g, i * 5, none⟩ = some (.int .i64 r.s.table[i].e.g) := q0
    have s1 : w4.cell? ⟨g, i * 5 + 1, none⟩ = some (.string r.s.table[i].e.nm) := q1
    have s2 : w4.cell? ⟨g, i * 5 + 2, none⟩ = some (.string r.s.table[i].e.key) := q2
    have s3 : w4.cell? ⟨g, i * 5 + 3, none⟩ = some (.string r.s.table[i].e.val) := q3
    have s4 : w4.cell? ⟨g, i * 5 + 4, none⟩ = some (.bool r.s.table[i].grave) := q4
    have hset := LStep.tabSet HI4.out ht e1' hi x (by rw [← hxx]; exact HOKX.out)
    rw [← hwc] at hset
    have hset2 := (HS4.out.trans hset).trans (LStep.pure hset.inv ((Below.refl _ _).drew))
    rw [← hxx] at hset2
    have HST := Lib.hid hset2
    have hil : (i : Int) < (r.s.table.length : Int) := by omega
    clear hrv4 q0 q1 q2 q3 q4 hset hset2 e1' hsz hsz5 hwc HHIT HMISS
    simp only at HST
    go_wp2_with fail
    go_region
    generalize (((((w4.setCell ⟨g, i * 5, none⟩ (.int .i64 g1)).setCell ⟨g, i * 5 + 1, none⟩ (.string n1)).setCell ⟨g, i * 5 + 2, none⟩ (.string k1)).setCell ⟨g, i * 5 + 3, none⟩ (.string v1)).setCell ⟨g, i * 5 + 4, none⟩ (.bool gr)).drew = Z at *
    rw [hxx] at HST
    clear c4 y0 y1 y2 y3 y4 s0 s1 s2 s3 s4 z0 z1 z2 z3 z4
    have hlv := HST.out.inv.tb.len
    obtain ⟨t6, tc6, e6, -⟩ := hlv
    have c64 : Z.cell? ⟨p, 4, none⟩ = some (.slice t6 (withC recC r.s.table x).length tc6) := by
      have := mem_cells HST.out.inv.hb 4
      rw [← e6]; exact this
    have c61 : Z.cell? ⟨p, 1, none⟩ = some (.int .i64 r.s.fill) := mem_cells HST.out.inv.hb 1
    have HFL := Lib.hid (fun (Y : World) (hb : Below Z.heap.size Z Y) => flush_any Y (w + 1) (HST.out.inv.pure hb) rfl HSND.out HBD.out HASC.out h2 h8 (by omega) (show r.nn ≤ _ by omega))
    by_cases hfull : ((withC recC r.s.table x).length : Int) = r.s.fill
    · have hd : (((withC recC r.s.table x).length : Int) == r.s.fill) = true := by simp [hfull]
      have HWR := Lib.hid (show r.s.write x = (r.s.tab x).flush by unfold LS.write; exact if_pos hfull)
      clear e6 hfull
      go_wp2_with fail
      go_quiet (fail)
      all_goals
        go_wp2_with fail
        refine (HFL.out _ (below_drewN (Below.refl _ _) _)).mono ?_
        rintro e w9 ⟨rfl, r9, hst9, es9, et9, en9⟩
        have HF9 := Lib.hid ((HST.out.trans (LStep.pure HST.out.inv (below_drewN (Below.refl _ _) _))).trans hst9)
        have HE9 := Lib.hid (es9.trans HWR.out.symm)
        clear hst9 es9 HFL
        go_wp2
        go_end0
        exact ⟨rfl, r9, HF9.out, (by rw [hxx]; exact HE9.out), et9, by have en9 : r9.nn ≤ r.nn + (w + 1) + 4 := en9; omega⟩
    · have hd : (((withC recC r.s.table x).length : Int) == r.s.fill) = false := by simp [hfull]
      have HWR := Lib.hid (show r.s.write x = r.s.tab x by unfold LS.write; exact if_neg hfull)
      clear e6 hfull
      go_wp2_with fail
      go_quiet (fail)
      all_goals
        go_wp2
        go_end0
        exact ⟨rfl, _, HST.out.trans (LStep.pure HST.out.inv (below_drewN (Below.refl _ _) _)), (by rw [hxx]; exact HWR.out.symm), rfl, by show r.nn ≤ _; omega⟩
  | false =>
    obtain ⟨hi, hwc⟩ := HMISS.out i HFA.out
    have HBY := Lib.hid (show Below w4.heap.size w4 (w4.alloc (.cells #[.int .i64 g1, .string n1, .string k1, .string v1, .bool gr] 54)).drew from ((Below.refl _ w4).alloc (Nat.le_refl _) _).drew)
    have HVB := Lib.hid (show (w4.alloc (.cells #[.int .i64 g1, .string n1, .string k1, .string v1, .bool gr] 54)).drew.heap[w4.heap.size]? = some (.cells (x.cells.toArray) 54 (0, 0)) from by rw [← hxx]; exact heap_alloc_new w4 _)
    have hnb : (Value.slice ta r.s.table.length tcp).ownBlock ≠ some w4.heap.size := fun e => by
      have := (HI4.out.tb.lt w4.heap.size (by rw [htv]; exact e)).2; omega
    have HINS := Lib.hid (insert_any (w4.alloc (.cells #[.int .i64 g1, .string n1, .string k1, .string v1, .bool gr] 54)).drew base (.slice ta r.s.table.length tcp) r.s.table i x w4.heap.size (by rw [← htv]; exact (HI4.out.pure HBY.out).tb) (Nat.le_trans HI4.out.bw HBY.out.size) hi (by omega) (by rw [← hxx]; exact HOKX.out) HVB.out hnb)
    have HIY := Lib.hid (HI4.out.pure HBY.out)
    have HIN2 := Lib.hid (HINS.out.mono (R' := fun e w5 => ∃ a5 cp5, e = .returned (.slice a5 (withC recC r.s.table x).length cp5) ∧ w5.cell? ⟨p, 4, none⟩ = some (.slice ta r.s.table.length tcp) ∧ w5.frozen? ⟨p, 4, none⟩ = false ∧ LStep W base p r (w5.setCell ⟨p, 4, none⟩ (.slice a5 (withC recC r.s.table x).length cp5)) { r with s := { r.s with table := withC recC r.s.table x }, tv := .slice a5 (withC recC r.s.table x).length cp5, tc := .slice a5 (withC recC r.s.table x).length cp5 }) (fun e w5 hp => by
      obtain ⟨v5, rfl, ho5, hg5, hbl5⟩ := hp
      rw [← hwc] at ho5
      obtain ⟨a5, cp5, rfl, -⟩ := ho5.len
      have htp := LStep.tabPut HIY.out (by rw [htv]; exact hg5) ho5 (by rw [htv]; exact hbl5)
      exact ⟨a5, cp5, rfl, (mem_of_block htp.2 4).trans (HC4.out _ (pure_trans HB4.out HBY.out)), frozen_cells (htp.2.trans HIY.out.hb) 4, (HS4.out.trans (LStep.pure HS4.out.inv HBY.out)).trans htp.1⟩))
    have hpl : p < w4.heap.size := World.block_lt_of_cell? _ _ c4
    have hwl : W.heap.size < w4.heap.size := World.block_lt_of_cell? _ _ y0
    clear HHIT HMISS HINS hwc
    go_wp2_with fail
    generalize hwl2 : (withC recC r.s.table x).length = NL at *
    go_region_law (go_simp; go_at_call 50; refine HIN2.out.mono ?_; rintro e w5 ⟨a5, cp5, rfl, d4, z4, hst5⟩)
    all_goals
      have HST := Lib.hid hst5
      clear hst5 d4 z4 HIN2 HIY HVB HBY c4 y0 y1 y2 y3 y4
      subst hwl2
      generalize w5.setCell ⟨p, 4, none⟩ (.slice a5 (withC recC r.s.table x).length cp5) = Z at *
      have hlv := HST.out.inv.tb.len
      obtain ⟨t6, tc6, e6, -⟩ := hlv
      have c64 : Z.cell? ⟨p, 4, none⟩ = some (.slice t6 (withC recC r.s.table x).length tc6) := by
        have := mem_cells HST.out.inv.hb 4
        rw [← e6]; exact this
      have c61 : Z.cell? ⟨p, 1, none⟩ = some (.int .i64 r.s.fill) := mem_cells HST.out.inv.hb 1
      have HFL := Lib.hid (fun (Y : World) (hb : Below Z.heap.size Z Y) => flush_any Y (w + 1) (HST.out.inv.pure hb) rfl HSND.out HBD.out HASC.out h2 h8 (by omega) (show r.nn ≤ _ by omega))
      by_cases hfull : ((withC recC r.s.table x).length : Int) = r.s.fill
      · have hd : (((withC recC r.s.table x).length : Int) == r.s.fill) = true := by simp [hfull]
        have HWR := Lib.hid (show r.s.write x = (r.s.tab x).flush by unfold LS.write; exact if_pos hfull)
        clear e6 hfull
        go_wp2_with fail
        go_quiet (fail)
        all_goals
          go_wp2_with fail
          refine (HFL.out _ (below_drewN (Below.refl _ _) _)).mono ?_
          rintro e w9 ⟨rfl, r9, hst9, es9, et9, en9⟩
          have HF9 := Lib.hid ((HST.out.trans (LStep.pure HST.out.inv (below_drewN (Below.refl _ _) _))).trans hst9)
          have HE9 := Lib.hid (es9.trans HWR.out.symm)
          clear hst9 es9 HFL
          go_wp2
          go_end0
          exact ⟨rfl, r9, HF9.out, (by rw [hxx]; exact HE9.out), et9, by have en9 : r9.nn ≤ r.nn + (w + 1) + 4 := en9; omega⟩
      · have hd : (((withC recC r.s.table x).length : Int) == r.s.fill) = false := by simp [hfull]
        have HWR := Lib.hid (show r.s.write x = r.s.tab x by unfold LS.write; exact if_neg hfull)
        clear e6 hfull
        go_wp2_with fail
        go_quiet (fail)
        all_goals
          go_wp2
          go_end0
          exact ⟨rfl, _, HST.out.trans (LStep.pure HST.out.inv (below_drewN (Below.refl _ _) _)), (by rw [hxx]; exact HWR.out.symm), rfl, by show r.nn ≤ _; omega⟩
end
end Go.Proofs.Ytjenfhkikbndmaa
