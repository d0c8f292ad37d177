/- The statement VaultRunsSaid: for every input the law VaultRuns returns true and leaves its arguments as they were. -/
import Derived.Deep.RegionLaw
import Derived.StillTailTactics
import Derived.Test.YtnfolemblnnejaaGreatVr10
set_option linter.unusedVariables false
set_option linter.unusedSimpArgs false
/- VaultRuns: the walk (printed by gen_vruns.py). -/
namespace Go.Proofs.YtnfolemblnnejaaGreat
open Go.RowKit Go.Maps

section
variable {base p N R nb : Nat} {M M' : Mem} {o W W' W2 : World} {r r' : HV} {a a' : Value} {arr arr' : Array Value}
theorem VLaw.after2 {x : VAct} {e : Ending} (c : VLaw base p N M R o W r a arr) (d : DoesOut base p N M W r x e W') (hnb : nb < W.heap.size) (hn : ¬ mutV p r nb) (hM : ∀ x, M nb x = none) :
    ∃ r' a' M', e = .returned (.tuple #[rvV r'.vs a', .bool true]) ∧ VLaw base p (N + 1) M' R o W' r' a' arr ∧ M.le M' ∧ r'.vs = actVS r.vs x ∧ W'.heap[nb]? = W.heap[nb]? ∧ ¬ mutV p r' nb ∧ ∀ x, M' nb x = none := by
  obtain ⟨r', a', M', rfl, hr, hm, kt, hv⟩ := d
  have hRl := (Array.getElem?_eq_some_iff.1 c.hR).1
  refine ⟨r', a', M', rfl, ⟨hr.inv, fun b x v e => Mem.on_some (hr.mem _ _ _ e) (fun hb => ?_), hr.last, hr.rat, (kt.kt.kp.block R hRl c.nR).trans c.hR, c.hz, fun hm => ?_, c.bl.trans (kt.kt.bl.mono c.ob), c.ob, c.oR⟩, hm, hv, kt.kt.kp.block nb hnb hn, fun hm => ?_, fun x => ?_⟩
  · subst hb
    have e2 := kt.nw b x v hRl e
    exact (Mem.of_on (c.mem _ _ _ e2)).1 rfl
  · rcases kt.kt.mb R hm with e | e
    · exact c.nR e
    · have e : W.heap.size ≤ R := e
      omega
  · rcases kt.kt.mb nb hm with e | e
    · exact hn e
    · have e : W.heap.size ≤ nb := e
      omega
  · cases hx : M' nb x with
    | none => rfl
    | some v =>
      have h1 : M nb x = some v := kt.nw nb x v hnb hx
      rw [hM x] at h1
      cases h1
/-- The law's next state is written in a cell of its own. -/
theorem VLaw.store2 (c : VLaw base p N M R o W r a arr) (hk : Keeps (· = nb) W W2) (hn : ¬ mutV p r nb) (hM : ∀ x, M nb x = none) (hz : ∀ j s, W.cell? ⟨nb, j, none⟩ ≠ some (.string s)) (hne : R ≠ nb) (hon : o.heap.size ≤ nb) : VLaw base p N M R o W2 r a arr := by
  obtain ⟨hi, hs⟩ := c.inv.other hk hn hz
  have hRl := (Array.getElem?_eq_some_iff.1 c.hR).1
  refine ⟨hi, fun b x v e => ?_, c.last, c.rat, (hk.block R hRl hne).trans c.hR, c.hz, c.nR, c.bl.trans (hk.below c.bl.size (fun k e => e ▸ hon)), c.ob, c.oR⟩
  obtain ⟨h1, e2⟩ := Mem.of_on (c.mem _ _ _ e)
  refine Mem.on_some (hs _ _ _ (Mem.on_some e2 (fun hb => ?_))) h1
  subst hb
  rw [hM x] at e
  cases e
theorem VLaw.fresh (c : VLaw base p N M R o W r a arr) : ¬ mutV p r W.heap.size ∧ (∀ x, M W.heap.size x = none) ∧ R ≠ W.heap.size ∧ o.heap.size ≤ W.heap.size := by
  have hRl := (Array.getElem?_eq_some_iff.1 c.hR).1
  refine ⟨fun hm => Nat.lt_irrefl _ (c.inv.kind _ hm), fun x => ?_, by omega, c.bl.size⟩
  cases hx : M W.heap.size x with
  | none => rfl
  | some v => exact absurd (mem_lt (c.le _ _ _ hx)) (Nat.lt_irrefl _)
end
set_option maxRecDepth 100000 in
set_option maxHeartbeats 16000000 in
theorem vaultRuns_any (tasks most keep : Int) (l : List VAct) (v : Value) (parts groups : Int) (w : World) (h0 : inI64 tasks) (h1 : inI64 most) (h2 : inI64 keep) (hv : tVActs.rv (mem w) [v] l) (h4 : inI64 parts) (h5 : inI64 groups) :
    Calls Tryz.prog 3 #[.int .i64 tasks, .int .i64 most, .int .i64 keep, v, .int .i64 parts, .int .i64 groups] w fun e w' => e = .returned (.bool true) ∧ Below w.heap.size w w' := by
  obtain ⟨av, kv, rfl, hlv, hmv, -⟩ := slice_form hv
  have hkv : kv ≤ 9223372036854775807 := by unfold maxLen at hmv; exact hmv
  have HV := Lib.hid hv
  clear hv hmv
  go_enter Tryz.func3, Tryz.ntmps3
  go_wp2_with fail
  refine (awake_any _).mono ?_
  rintro e w1 ⟨rfl, hb⟩
  have HB1 := Lib.hid hb
  clear hb
  go_wp2_with fail
  refine (many_any l _ _ (tVActs.mono _ _ _ _ (below_mem HB1.out) HV.out)).mono ?_
  rintro e w2 ⟨bb, rfl, hb, hmany⟩
  have HB2 := Lib.hid (pure_trans HB1.out hb)
  have HMY := Lib.hid hmany
  clear hb HB1 hmany
  cases bb
  case true =>
    go_wp2
    go_ret
    exact ⟨rfl, HB2.out⟩
  obtain ⟨hl80, hsm⟩ := HMY.out rfl
  have HSM := Lib.hid hsm
  clear hsm HMY
  by_cases h4 : 40 < tasks ∧ tasks ≤ 400
  case pos =>
    obtain ⟨h41, h42⟩ := h4
    go_wp2
    go_ret
    exact ⟨rfl, HB2.out⟩
  by_cases hna : newAns tasks most keep = 0
  case neg =>
    have HRN := Lib.hid (fun wr => refNew_any tasks most keep wr)
    have HNA := Lib.hid hna
    have HBAD := Lib.hid (vNew_bad tasks most keep w2 hna)
    have hn0 : (newAns tasks most keep == 0) = false := by rw [beq_eq_false_iff_ne]; exact hna
    have hnn : (newAns tasks most keep == newAns tasks most keep) = true := by simp
    clear hna
    rcases (show tasks ≤ 40 ∨ 400 < tasks from by omega) with h4 | h4
    all_goals
      go_wp2_with fail
      refine HBAD.out.mono ?_
      rintro e w3 ⟨rfl, rfl⟩
      go_wp2_with fail
      refine (HRN.out _).mono ?_
      rintro e w4 ⟨hb, hor⟩
      obtain ⟨-, rfl⟩ : newAns tasks most keep ≠ 0 ∧ e = _ := by
        rcases hor with h | h
        · exact h
        · exact absurd h.1 HNA.out
      have HB4 := Lib.hid (HB2.out.trans (hb.mono HB2.out.size))
      clear hb hor HRN HBAD HNA
      generalize newAns tasks most keep = na at *
      go_wp2
      go_ret
      exact ⟨rfl, HB4.out.alloc HB4.out.size _⟩
  have h40 : ¬ 40 < tasks := fun h => by
    unfold newAns at hna
    by_cases hc : (1 ≤ tasks ∧ tasks ≤ 400) ∧ (1 ≤ most ∧ most ≤ 5) ∧ (1 ≤ keep ∧ keep ≤ 10)
    · exact h4 ⟨h, hc.1.2⟩
    · rw [if_neg hc] at hna; cases hna
  have HRN := Lib.hid (fun wr => refNew_any tasks most keep wr)
  have HNA := Lib.hid hna
  have hkk : 1 ≤ keep ∧ keep ≤ 10 := by
    unfold newAns at hna
    by_cases hc : (1 ≤ tasks ∧ tasks ≤ 400) ∧ (1 ≤ most ∧ most ≤ 5) ∧ (1 ≤ keep ∧ keep ≤ 10)
    · exact hc.2.2
    · rw [if_neg hc] at hna; cases hna
  have htt : 0 ≤ tasks := by
    unfold newAns at hna
    by_cases hc : (1 ≤ tasks ∧ tasks ≤ 400) ∧ (1 ≤ most ∧ most ≤ 5) ∧ (1 ≤ keep ∧ keep ≤ 10)
    · omega
    · rw [if_neg hc] at hna; cases hna
  clear hna
  go_wp2_with fail
  refine (vNew_any tasks most keep w2 HNA.out (by omega)).mono ?_
  rintro e w3 ⟨p, r, rfl, hI, hvs, hb, hoff⟩
  have HOFF := Lib.hid hoff
  clear hoff
  have HI3 := Lib.hid hI
  have HVS := Lib.hid hvs
  have HB3 := Lib.hid (HB2.out.trans (hb.mono HB2.out.size))
  have HWB := Lib.hid HB2.out.size
  have HS3 := Lib.hid hb.size
  clear hI hvs hb HB2
  generalize w2.heap.size = base at *
  go_wp2_with fail
  refine (HRN.out _).mono ?_
  rintro e w4 ⟨hb, hor⟩
  obtain ⟨-, rfl⟩ : newAns tasks most keep = 0 ∧ e = _ := by
    rcases hor with h | h
    · exact absurd HNA.out h.1
    · exact h
  have HBX := Lib.hid (hb.alloc hb.size (.cells #[.int .i64 tasks, .int .i64 most, .int .i64 keep, .int .i64 1, .slice none 0 0] 31))
  have HIX := Lib.hid (HI3.out.pure HBX.out)
  have HRX := Lib.hid (heap_alloc_new w4 (.cells #[.int .i64 tasks, .int .i64 most, .int .i64 keep, .int .i64 1, .slice none 0 0] 31))
  have HS5 := Lib.hid hb.size
  clear hb hor HRN HNA
  go_wp2_with fail
  generalize w4.alloc (.cells #[.int .i64 tasks, .int .i64 most, .int .i64 keep, .int .i64 1, .slice none 0 0] 31) = X at *
  have HNM := Lib.hid (fun (k : Nat) (e : mutV p r k) => (show k < w4.heap.size from Nat.lt_of_lt_of_le (HI3.out.kind k e) HS5.out))
  generalize w4.heap.size = R at *
  have HBo := Lib.hid (show Below w.heap.size w X from HB3.out.trans (HBX.out.mono HB3.out.size))
  have HAR := Lib.hid (show (#[.int .i64 tasks, .int .i64 most, .int .i64 keep, .int .i64 1, .slice none 0 0] : Array Value) = #[.int .i64 r.vs.tasks, .int .i64 r.vs.most, .int .i64 r.vs.keep, .int .i64 ((r.vs.last : Int) + 1), .slice none r.vs.all.length 0] from by
    rw [HVS.out]
    show _ = (#[.int .i64 ((tasks.toNat : Nat) : Int), .int .i64 most, .int .i64 keep, .int .i64 1, .slice none 0 0] : Array Value)
    rw [Int.toNat_of_nonneg htt])
  have HL0 := Lib.hid (show VLaw base p 0 ((safeV X p r).on (· ≠ R)) R w X r (.slice none r.vs.all.length 0) #[.int .i64 r.vs.tasks, .int .i64 r.vs.most, .int .i64 r.vs.keep, .int .i64 ((r.vs.last : Int) + 1), .slice none r.vs.all.length 0] from
    ⟨HIX.out, Mem.le_refl _, by rw [HVS.out]; exact Nat.le_refl _, ⟨by rw [HVS.out]; exact slice_nil _ _, HIX.out.ok⟩, by rw [← HAR.out]; exact HRX.out, rv_notext, fun e => Nat.lt_irrefl _ (HNM.out R e), HBo.out, HWB.out, by have := HB3.out.size; have := HS5.out; omega⟩)
  have HW0 := Lib.hid (show (mem w).le ((safeV X p r).on (· ≠ R)) from fun b x v e => by
    have hlt := mem_lt e
    refine Mem.on_some (Mem.on_some (below_mem HBo.out _ _ _ e) ⟨fun hm => ?_, HOFF.out b⟩) (fun e => ?_)
    · have := HIX.out.ge b hm; have := HWB.out; omega
    · have := HB3.out.size; have := HS5.out; omega)
  have HA0 := Lib.hid (tVActs.mono _ _ _ _ HW0.out HV.out)
  have HF0 := Lib.hid (show TellsOk r.vs from by
    rw [HVS.out]
    exact fun x hx => by cases hx)
  clear HV HI3 HVS HB3 HWB HBX HIX HRX HS5 HNM HBo HW0 HAR HS3
  go_loopw [17] (fun iv wr => ∃ (k : Nat) (M : Mem) (r : HV) (aa : Option Addr) (ca : Nat), k ≤ l.length ∧ iv = .int .i64 k ∧ Hid (VLaw base p k M R w wr r (.slice aa r.vs.all.length ca) #[.int .i64 r.vs.tasks, .int .i64 r.vs.most, .int .i64 r.vs.keep, .int .i64 ((r.vs.last : Int) + 1), .slice aa r.vs.all.length ca]) ∧ Hid (tVActs.rv M [.slice av l.length kv] l) ∧ Hid (TellsOk r.vs)) (fun iv _ => l.length - (intOf iv).toNat)
  case atStart => exact ⟨0, _, r, none, 0, Nat.zero_le _, rfl, HL0, HA0, HF0⟩
  case round =>
    clear HL0 HA0 HF0
    obtain ⟨k, M, r, aa, ca, hk, rfl, HL, HA, HF⟩ := hrel
    by_cases hlt : k < l.length
    · obtain ⟨b, o, ve, e, ⟨q0, q1, q2, q3, q4, q5⟩, hok, hve⟩ := vacts_at HA.out hlt
      subst e
      have d0 : wr.cell? ⟨b, o + k * 6, none⟩ = some (.int .u8 l[k].k) := HL.out.le _ _ _ q0
      have d1 : wr.cell? ⟨b, o + k * 6 + 1, none⟩ = some (.int .i64 l[k].n) := HL.out.le _ _ _ q1
      have d2 : wr.cell? ⟨b, o + k * 6 + 2, none⟩ = some (.int .i64 l[k].t) := HL.out.le _ _ _ q2
      have d3 : wr.cell? ⟨b, o + k * 6 + 3, none⟩ = some (.string l[k].nm) := HL.out.le _ _ _ q3
      have d4 : wr.cell? ⟨b, o + k * 6 + 4, none⟩ = some (.string l[k].tx) := HL.out.le _ _ _ q4
      have d5 : wr.cell? ⟨b, o + k * 6 + 5, none⟩ = some ve := HL.out.le _ _ _ q5
      have hsx := HSM.out _ (List.getElem_mem hlt)
      have HQ := Lib.hid (And.intro q1 q3)
      clear q0 q1 q2 q3 q4 q5
      generalize l[k] = x at *
      obtain ⟨xk, xn, xt, nm, tx, es⟩ := x
      simp only at d0 d1 d2 d3 d4 d5 HQ
      have hk0 : 0 ≤ xk := hok.1.1
      have hkm : xk.tmod 10 = xk % 10 := Int.tmod_eq_emod_of_nonneg hk0
      by_cases hskip : xk % 10 = 9 ∧ 40 < xt ∧ xt ≤ 400
      case pos =>
        obtain ⟨hs9, hs40, hs400⟩ := hskip
        rw [hs9] at hkm
        have HLM := Lib.hid HL.out.more
        clear hok hve hsx d3 d4 d5
        go_wp2_with fail
        go_roundw
        case rel => exact ⟨k + 1, M, r, aa, ca, by omega, by go_num, HLM, HA, HF⟩
        case measure => simp [intOf]; omega
      have h49 : xk % 10 = 9 → xt ≤ 40 ∨ 400 < xt := fun e => by
        by_cases h1 : xt ≤ 40
        · exact .inl h1
        · by_cases h2 : 400 < xt
          · exact .inr h2
          · exact absurd ⟨e, by omega, by omega⟩ hskip
      have hnx : inI64 xn ∧ nm.size ≤ maxLen := ⟨hok.2.1, hok.2.2.2.1⟩
      have HNX := Lib.hid hnx
      have HTA := Lib.hid (act_tells HF.out ⟨xk, xn, xt, nm, tx, es⟩ hsx.2.2)
      have HFR := Lib.hid HL.out.fresh
      have HBN := Lib.hid (heap_alloc_new wr rvZ)
      have HLD := Lib.hid (HL.out.pure0 (Below.refl wr.heap.size wr).drew)
      have HLB := Lib.hid (HL.out.pure0 ((box_below wr rvZ).drew))
      obtain ⟨ae, ke, rfl, -⟩ := slice_form hve
      have HD := Lib.hid (does_any base p k M wr.drew r _ ⟨xk, xn, xt, nm, tx, es⟩ _ HLD.out.run hok hsx hve (by omega) h49)
      have HDB := Lib.hid (does_any base p k M (wr.alloc rvZ).drew r _ ⟨xk, xn, xt, nm, tx, es⟩ _ HLB.out.run hok hsx hve (by omega) h49)
      have c0 : wr.cell? ⟨R, 0, none⟩ = some (.int .i64 r.vs.tasks) := mem_cells HL.out.hR 0
      have c1 : wr.cell? ⟨R, 1, none⟩ = some (.int .i64 r.vs.most) := mem_cells HL.out.hR 1
      have c2 : wr.cell? ⟨R, 2, none⟩ = some (.int .i64 r.vs.keep) := mem_cells HL.out.hR 2
      have c3 : wr.cell? ⟨R, 3, none⟩ = some (.int .i64 ((r.vs.last : Int) + 1)) := mem_cells HL.out.hR 3
      have c4 : wr.cell? ⟨R, 4, none⟩ = some (.slice aa r.vs.all.length ca) := mem_cells HL.out.hR 4
      have c0' : (wr.alloc rvZ).cell? ⟨R, 0, none⟩ = some (.int .i64 r.vs.tasks) := mem_cells HLB.out.hR 0
      have c1' : (wr.alloc rvZ).cell? ⟨R, 1, none⟩ = some (.int .i64 r.vs.most) := mem_cells HLB.out.hR 1
      have c2' : (wr.alloc rvZ).cell? ⟨R, 2, none⟩ = some (.int .i64 r.vs.keep) := mem_cells HLB.out.hR 2
      have c3' : (wr.alloc rvZ).cell? ⟨R, 3, none⟩ = some (.int .i64 ((r.vs.last : Int) + 1)) := mem_cells HLB.out.hR 3
      have c4' : (wr.alloc rvZ).cell? ⟨R, 4, none⟩ = some (.slice aa r.vs.all.length ca) := mem_cells HLB.out.hR 4
      have d0' : (wr.alloc rvZ).cell? ⟨b, o + k * 6, none⟩ = some (.int .u8 xk) := below_mem (box_below wr rvZ) _ _ _ d0
      have d1' : (wr.alloc rvZ).cell? ⟨b, o + k * 6 + 1, none⟩ = some (.int .i64 xn) := below_mem (box_below wr rvZ) _ _ _ d1
      have d2' : (wr.alloc rvZ).cell? ⟨b, o + k * 6 + 2, none⟩ = some (.int .i64 xt) := below_mem (box_below wr rvZ) _ _ _ d2
      have d3' : (wr.alloc rvZ).cell? ⟨b, o + k * 6 + 3, none⟩ = some (.string nm) := below_mem (box_below wr rvZ) _ _ _ d3
      have d4' : (wr.alloc rvZ).cell? ⟨b, o + k * 6 + 4, none⟩ = some (.string tx) := below_mem (box_below wr rvZ) _ _ _ d4
      have d5' : (wr.alloc rvZ).cell? ⟨b, o + k * 6 + 5, none⟩ = some (.slice ae es.length ke) := below_mem (box_below wr rvZ) _ _ _ d5
      clear hok hve hsx
      rcases (show (xk % 10 = 9 ∧ xt ≤ 40) ∨ (xk % 10 = 9 ∧ 400 < xt) ∨ ¬ xk % 10 = 9 from by by_cases e : xk % 10 = 9; exact (h49 e).elim (fun h => .inl ⟨e, h⟩) (fun h => .inr (.inl ⟨e, h⟩)); exact .inr (.inr e)) with ⟨hs9, hs40⟩ | ⟨hs9, hs40⟩ | hs9
      · rw [hs9] at hkm
        clear h49 hskip hk0
        go_wp2_with fail
        go_region_law (go_simp; go_at_call 8; first
          | (refine HD.out.mono ?_; rintro e w5 hd; obtain ⟨r5, a5, M5, rfl, hl5, hm5, hv5⟩ := HLD.out.after hd; obtain ⟨a6, k6, rfl, -, -, -⟩ := slice_form hl5.rat.ha; have HLA5 := Lib.hid hl5; have HM5 := Lib.hid hm5; have HV5 := Lib.hid hv5; clear hd hl5 hm5 hv5)
          | (refine HDB.out.mono ?_; rintro e w5 hd; obtain ⟨r5, a5, M5, rfl, hl5, hm5, hv5, hx1, hx2, hx3⟩ := HLB.out.after2 (nb := wr.heap.size) hd (by simp) HFR.out.1 HFR.out.2.1; obtain ⟨a6, k6, rfl, -, -, -⟩ := slice_form hl5.rat.ha; have HLB5 := Lib.hid hl5; have HM5 := Lib.hid hm5; have HV5 := Lib.hid hv5; have HNB5 := Lib.hid (show w5.heap[wr.heap.size]? = some rvZ from hx1.trans HBN.out); have HX5 := Lib.hid (And.intro hx2 hx3); have x0 : w5.cell? ⟨wr.heap.size, 0, none⟩ = some (.int .i64 0) := mem_cells HNB5.out 0; have x1 : w5.cell? ⟨wr.heap.size, 1, none⟩ = some (.int .i64 0) := mem_cells HNB5.out 1; have x2 : w5.cell? ⟨wr.heap.size, 2, none⟩ = some (.int .i64 0) := mem_cells HNB5.out 2; have x3 : w5.cell? ⟨wr.heap.size, 3, none⟩ = some (.int .i64 0) := mem_cells HNB5.out 3; have x4 : w5.cell? ⟨wr.heap.size, 4, none⟩ = some (.slice none 0 0) := mem_cells HNB5.out 4; have y0 : w5.frozen? ⟨wr.heap.size, 0, none⟩ = false := frozen_cells HNB5.out 0; have y1 : w5.frozen? ⟨wr.heap.size, 1, none⟩ = false := frozen_cells HNB5.out 1; have y2 : w5.frozen? ⟨wr.heap.size, 2, none⟩ = false := frozen_cells HNB5.out 2; have y3 : w5.frozen? ⟨wr.heap.size, 3, none⟩ = false := frozen_cells HNB5.out 3; have y4 : w5.frozen? ⟨wr.heap.size, 4, none⟩ = false := frozen_cells HNB5.out 4; clear hd hl5 hm5 hv5 hx1 hx2 hx3))
        all_goals
          first
            | (have HY := Lib.hid (HLA5.out.pure0 (box_below w5 (.cells #[.int .i64 r5.vs.tasks, .int .i64 r5.vs.most, .int .i64 r5.vs.keep, .int .i64 ((r5.vs.last : Int) + 1), .slice a6 r5.vs.all.length k6] 31)))
               have HNB := Lib.hid (heap_alloc_new w5 (.cells #[.int .i64 r5.vs.tasks, .int .i64 r5.vs.most, .int .i64 r5.vs.keep, .int .i64 ((r5.vs.last : Int) + 1), .slice a6 r5.vs.all.length k6] 31))
               generalize w5.alloc (.cells #[.int .i64 r5.vs.tasks, .int .i64 r5.vs.most, .int .i64 r5.vs.keep, .int .i64 ((r5.vs.last : Int) + 1), .slice a6 r5.vs.all.length k6] 31) = Y at *
               generalize w5.heap.size = nb at *
               clear HLA5
               have hTO : TellsOk r5.vs := by rw [HV5.out]; exact HTA.out
               have HTO := Lib.hid hTO
               have HSA := Lib.hid (fun w' (hb : Below Y.heap.size Y w') => lawSame_any (.slice a6 r5.vs.all.length k6) w' xn nm parts groups (HY.out.pure0 hb).inv ((HY.out.pure0 hb).rat.mono (HY.out.pure0 hb).le) (hTO.small HY.out.inv.ok) HNX.out.1 HNX.out.2)
               have HS := Lib.hid (fun (w' : World) (hb : Below Y.heap.size Y w') => (show w'.cell? ⟨nb, 0, none⟩ = some (.int .i64 r5.vs.tasks) ∧ w'.cell? ⟨nb, 1, none⟩ = some (.int .i64 r5.vs.most) ∧ w'.cell? ⟨nb, 2, none⟩ = some (.int .i64 r5.vs.keep) ∧ w'.cell? ⟨nb, 3, none⟩ = some (.int .i64 ((r5.vs.last : Int) + 1)) ∧ w'.cell? ⟨nb, 4, none⟩ = some (.slice a6 r5.vs.all.length k6) ∧ w'.cell? ⟨b, o + k * 6 + 1, none⟩ = some (.int .i64 xn) ∧ w'.cell? ⟨b, o + k * 6 + 3, none⟩ = some (.string nm) from by
                 have h := (hb.block nb (Array.getElem?_eq_some_iff.1 HNB.out).1).trans HNB.out
                 have hle := Mem.le_trans HM5.out (HY.out.pure0 hb).le
                 exact ⟨mem_cells h 0, mem_cells h 1, mem_cells h 2, mem_cells h 3, mem_cells h 4, hle _ _ _ HQ.out.1, hle _ _ _ HQ.out.2⟩))
               have hb0 : Below Y.heap.size Y Y.drew := (Below.refl _ _).drew
               clear hTO HD HDB HLD HLB HL HTA HV5 HBN HFR HF c0 c1 c2 c3 c4 c0' c1' c2' c3' c4' d0 d1 d2 d3 d4 d5 d0' d1' d2' d3' d4' d5'
               obtain ⟨n0, n1, n2, n3, n4, m1, m3⟩ := HS.out Y (Below.refl _ _)
               have hj0 : (0 : Int) ≤ (k : Int) := by omega
               have hj1 : (k : Int) < (l.length : Int) := by omega
               go_wp2_with fail
               go_still_tail 17, (by kernel_rfl)
               change wpList _ _ _ _ _ Y.drew
               go_wp2_with fail
               refine (HSA.out _ hb0).mono ?_
               rintro e w6 ⟨rfl, hb⟩
               have hb6 := pure_trans hb0 hb
               clear hb n0 n1 n2 n3 n4 m1 m3 hj0 hj1
               focus
                 have HY6 := Lib.hid (HY.out.pure0 hb6)
                 have HNB6 := Lib.hid ((hb6.block nb (Array.getElem?_eq_some_iff.1 HNB.out).1).trans HNB.out)
                 have HA5 := Lib.hid (tVActs.mono _ _ _ _ HM5.out HA.out)
                 clear hb0 hb6 HS HSA HY HNB HQ
                 have n0 : w6.cell? ⟨nb, 0, none⟩ = some (.int .i64 r5.vs.tasks) := mem_cells HNB6.out 0
                 have n1 : w6.cell? ⟨nb, 1, none⟩ = some (.int .i64 r5.vs.most) := mem_cells HNB6.out 1
                 have n2 : w6.cell? ⟨nb, 2, none⟩ = some (.int .i64 r5.vs.keep) := mem_cells HNB6.out 2
                 have n3 : w6.cell? ⟨nb, 3, none⟩ = some (.int .i64 ((r5.vs.last : Int) + 1)) := mem_cells HNB6.out 3
                 have n4 : w6.cell? ⟨nb, 4, none⟩ = some (.slice a6 r5.vs.all.length k6) := mem_cells HNB6.out 4
                 have e0 : w6.cell? ⟨R, 0, none⟩ = some (.int .i64 r.vs.tasks) := mem_cells HY6.out.hR 0
                 have e1 : w6.cell? ⟨R, 1, none⟩ = some (.int .i64 r.vs.most) := mem_cells HY6.out.hR 1
                 have e2 : w6.cell? ⟨R, 2, none⟩ = some (.int .i64 r.vs.keep) := mem_cells HY6.out.hR 2
                 have e3 : w6.cell? ⟨R, 3, none⟩ = some (.int .i64 ((r.vs.last : Int) + 1)) := mem_cells HY6.out.hR 3
                 have e4 : w6.cell? ⟨R, 4, none⟩ = some (.slice aa r.vs.all.length ca) := mem_cells HY6.out.hR 4
                 have z0 := frozen_cells HY6.out.hR 0
                 have z1 := frozen_cells HY6.out.hR 1
                 have z2 := frozen_cells HY6.out.hR 2
                 have z3 := frozen_cells HY6.out.hR 3
                 have z4 := frozen_cells HY6.out.hR 4
                 have HL7 := Lib.hid (HY6.out.store (store5_keeps w6 R (.int .i64 r5.vs.tasks) (.int .i64 r5.vs.most) (.int .i64 r5.vs.keep) (.int .i64 ((r5.vs.last : Int) + 1)) (.slice a6 r5.vs.all.length k6)) (store5_block HY6.out.hR (.int .i64 r5.vs.tasks) (.int .i64 r5.vs.most) (.int .i64 r5.vs.keep) (.int .i64 ((r5.vs.last : Int) + 1)) (.slice a6 r5.vs.all.length k6)) rv_notext)
                 unfold store5 at HL7
                 go_wp2
                 go_roundw
                 case rel => exact ⟨k + 1, M5, r5, a6, k6, by omega, by go_num, HL7, HA5, HTO⟩
                 case measure => simp [intOf]; omega)
            | (have HY := Lib.hid (HLB5.out.store2 (store5_keeps w5 wr.heap.size (.int .i64 r5.vs.tasks) (.int .i64 r5.vs.most) (.int .i64 r5.vs.keep) (.int .i64 ((r5.vs.last : Int) + 1)) (.slice a6 r5.vs.all.length k6)) HX5.out.1 HX5.out.2 (rvz_notext HNB5.out) HFR.out.2.2.1 HFR.out.2.2.2)
               have HNB := Lib.hid (store5_block HNB5.out (.int .i64 r5.vs.tasks) (.int .i64 r5.vs.most) (.int .i64 r5.vs.keep) (.int .i64 ((r5.vs.last : Int) + 1)) (.slice a6 r5.vs.all.length k6))
               unfold store5 at HY HNB
               generalize (((((w5.setCell ⟨wr.heap.size, 0, none⟩ (.int .i64 r5.vs.tasks)).setCell ⟨wr.heap.size, 1, none⟩ (.int .i64 r5.vs.most)).setCell ⟨wr.heap.size, 2, none⟩ (.int .i64 r5.vs.keep)).setCell ⟨wr.heap.size, 3, none⟩ (.int .i64 ((r5.vs.last : Int) + 1))).setCell ⟨wr.heap.size, 4, none⟩ (.slice a6 r5.vs.all.length k6)) = Y at *
               generalize wr.heap.size = nb at *
               clear HLB5 HNB5 HX5 x0 y0 x1 y1 x2 y2 x3 y3 x4 y4
               have hTO : TellsOk r5.vs := by rw [HV5.out]; exact HTA.out
               have HTO := Lib.hid hTO
               have HSA := Lib.hid (fun w' (hb : Below Y.heap.size Y w') => lawSame_any (.slice a6 r5.vs.all.length k6) w' xn nm parts groups (HY.out.pure0 hb).inv ((HY.out.pure0 hb).rat.mono (HY.out.pure0 hb).le) (hTO.small HY.out.inv.ok) HNX.out.1 HNX.out.2)
               have HS := Lib.hid (fun (w' : World) (hb : Below Y.heap.size Y w') => (show w'.cell? ⟨nb, 0, none⟩ = some (.int .i64 r5.vs.tasks) ∧ w'.cell? ⟨nb, 1, none⟩ = some (.int .i64 r5.vs.most) ∧ w'.cell? ⟨nb, 2, none⟩ = some (.int .i64 r5.vs.keep) ∧ w'.cell? ⟨nb, 3, none⟩ = some (.int .i64 ((r5.vs.last : Int) + 1)) ∧ w'.cell? ⟨nb, 4, none⟩ = some (.slice a6 r5.vs.all.length k6) ∧ w'.cell? ⟨b, o + k * 6 + 1, none⟩ = some (.int .i64 xn) ∧ w'.cell? ⟨b, o + k * 6 + 3, none⟩ = some (.string nm) from by
                 have h := (hb.block nb (Array.getElem?_eq_some_iff.1 HNB.out).1).trans HNB.out
                 have hle := Mem.le_trans HM5.out (HY.out.pure0 hb).le
                 exact ⟨mem_cells h 0, mem_cells h 1, mem_cells h 2, mem_cells h 3, mem_cells h 4, hle _ _ _ HQ.out.1, hle _ _ _ HQ.out.2⟩))
               have hb0 : Below Y.heap.size Y Y.drew := (Below.refl _ _).drew
               clear hTO HD HDB HLD HLB HL HTA HV5 HBN HFR HF c0 c1 c2 c3 c4 c0' c1' c2' c3' c4' d0 d1 d2 d3 d4 d5 d0' d1' d2' d3' d4' d5'
               obtain ⟨n0, n1, n2, n3, n4, m1, m3⟩ := HS.out Y (Below.refl _ _)
               have hj0 : (0 : Int) ≤ (k : Int) := by omega
               have hj1 : (k : Int) < (l.length : Int) := by omega
               go_wp2_with fail
               go_still_tail 17, (by kernel_rfl)
               change wpList _ _ _ _ _ Y.drew
               go_wp2_with fail
               refine (HSA.out _ hb0).mono ?_
               rintro e w6 ⟨rfl, hb⟩
               have hb6 := pure_trans hb0 hb
               clear hb n0 n1 n2 n3 n4 m1 m3 hj0 hj1
               focus
                 have HY6 := Lib.hid (HY.out.pure0 hb6)
                 have HNB6 := Lib.hid ((hb6.block nb (Array.getElem?_eq_some_iff.1 HNB.out).1).trans HNB.out)
                 have HA5 := Lib.hid (tVActs.mono _ _ _ _ HM5.out HA.out)
                 clear hb0 hb6 HS HSA HY HNB HQ
                 have n0 : w6.cell? ⟨nb, 0, none⟩ = some (.int .i64 r5.vs.tasks) := mem_cells HNB6.out 0
                 have n1 : w6.cell? ⟨nb, 1, none⟩ = some (.int .i64 r5.vs.most) := mem_cells HNB6.out 1
                 have n2 : w6.cell? ⟨nb, 2, none⟩ = some (.int .i64 r5.vs.keep) := mem_cells HNB6.out 2
                 have n3 : w6.cell? ⟨nb, 3, none⟩ = some (.int .i64 ((r5.vs.last : Int) + 1)) := mem_cells HNB6.out 3
                 have n4 : w6.cell? ⟨nb, 4, none⟩ = some (.slice a6 r5.vs.all.length k6) := mem_cells HNB6.out 4
                 have e0 : w6.cell? ⟨R, 0, none⟩ = some (.int .i64 r.vs.tasks) := mem_cells HY6.out.hR 0
                 have e1 : w6.cell? ⟨R, 1, none⟩ = some (.int .i64 r.vs.most) := mem_cells HY6.out.hR 1
                 have e2 : w6.cell? ⟨R, 2, none⟩ = some (.int .i64 r.vs.keep) := mem_cells HY6.out.hR 2
                 have e3 : w6.cell? ⟨R, 3, none⟩ = some (.int .i64 ((r.vs.last : Int) + 1)) := mem_cells HY6.out.hR 3
                 have e4 : w6.cell? ⟨R, 4, none⟩ = some (.slice aa r.vs.all.length ca) := mem_cells HY6.out.hR 4
                 have z0 := frozen_cells HY6.out.hR 0
                 have z1 := frozen_cells HY6.out.hR 1
                 have z2 := frozen_cells HY6.out.hR 2
                 have z3 := frozen_cells HY6.out.hR 3
                 have z4 := frozen_cells HY6.out.hR 4
                 have HL7 := Lib.hid (HY6.out.store (store5_keeps w6 R (.int .i64 r5.vs.tasks) (.int .i64 r5.vs.most) (.int .i64 r5.vs.keep) (.int .i64 ((r5.vs.last : Int) + 1)) (.slice a6 r5.vs.all.length k6)) (store5_block HY6.out.hR (.int .i64 r5.vs.tasks) (.int .i64 r5.vs.most) (.int .i64 r5.vs.keep) (.int .i64 ((r5.vs.last : Int) + 1)) (.slice a6 r5.vs.all.length k6)) rv_notext)
                 unfold store5 at HL7
                 go_wp2
                 go_roundw
                 case rel => exact ⟨k + 1, M5, r5, a6, k6, by omega, by go_num, HL7, HA5, HTO⟩
                 case measure => simp [intOf]; omega)
      · rw [hs9] at hkm
        clear h49 hskip hk0
        go_wp2_with fail
        go_region_law (go_simp; go_at_call 8; first
          | (refine HD.out.mono ?_; rintro e w5 hd; obtain ⟨r5, a5, M5, rfl, hl5, hm5, hv5⟩ := HLD.out.after hd; obtain ⟨a6, k6, rfl, -, -, -⟩ := slice_form hl5.rat.ha; have HLA5 := Lib.hid hl5; have HM5 := Lib.hid hm5; have HV5 := Lib.hid hv5; clear hd hl5 hm5 hv5)
          | (refine HDB.out.mono ?_; rintro e w5 hd; obtain ⟨r5, a5, M5, rfl, hl5, hm5, hv5, hx1, hx2, hx3⟩ := HLB.out.after2 (nb := wr.heap.size) hd (by simp) HFR.out.1 HFR.out.2.1; obtain ⟨a6, k6, rfl, -, -, -⟩ := slice_form hl5.rat.ha; have HLB5 := Lib.hid hl5; have HM5 := Lib.hid hm5; have HV5 := Lib.hid hv5; have HNB5 := Lib.hid (show w5.heap[wr.heap.size]? = some rvZ from hx1.trans HBN.out); have HX5 := Lib.hid (And.intro hx2 hx3); have x0 : w5.cell? ⟨wr.heap.size, 0, none⟩ = some (.int .i64 0) := mem_cells HNB5.out 0; have x1 : w5.cell? ⟨wr.heap.size, 1, none⟩ = some (.int .i64 0) := mem_cells HNB5.out 1; have x2 : w5.cell? ⟨wr.heap.size, 2, none⟩ = some (.int .i64 0) := mem_cells HNB5.out 2; have x3 : w5.cell? ⟨wr.heap.size, 3, none⟩ = some (.int .i64 0) := mem_cells HNB5.out 3; have x4 : w5.cell? ⟨wr.heap.size, 4, none⟩ = some (.slice none 0 0) := mem_cells HNB5.out 4; have y0 : w5.frozen? ⟨wr.heap.size, 0, none⟩ = false := frozen_cells HNB5.out 0; have y1 : w5.frozen? ⟨wr.heap.size, 1, none⟩ = false := frozen_cells HNB5.out 1; have y2 : w5.frozen? ⟨wr.heap.size, 2, none⟩ = false := frozen_cells HNB5.out 2; have y3 : w5.frozen? ⟨wr.heap.size, 3, none⟩ = false := frozen_cells HNB5.out 3; have y4 : w5.frozen? ⟨wr.heap.size, 4, none⟩ = false := frozen_cells HNB5.out 4; clear hd hl5 hm5 hv5 hx1 hx2 hx3))
        all_goals
          first
            | (have HY := Lib.hid (HLA5.out.pure0 (box_below w5 (.cells #[.int .i64 r5.vs.tasks, .int .i64 r5.vs.most, .int .i64 r5.vs.keep, .int .i64 ((r5.vs.last : Int) + 1), .slice a6 r5.vs.all.length k6] 31)))
               have HNB := Lib.hid (heap_alloc_new w5 (.cells #[.int .i64 r5.vs.tasks, .int .i64 r5.vs.most, .int .i64 r5.vs.keep, .int .i64 ((r5.vs.last : Int) + 1), .slice a6 r5.vs.all.length k6] 31))
               generalize w5.alloc (.cells #[.int .i64 r5.vs.tasks, .int .i64 r5.vs.most, .int .i64 r5.vs.keep, .int .i64 ((r5.vs.last : Int) + 1), .slice a6 r5.vs.all.length k6] 31) = Y at *
               generalize w5.heap.size = nb at *
               clear HLA5
               have hTO : TellsOk r5.vs := by rw [HV5.out]; exact HTA.out
               have HTO := Lib.hid hTO
               have HSA := Lib.hid (fun w' (hb : Below Y.heap.size Y w') => lawSame_any (.slice a6 r5.vs.all.length k6) w' xn nm parts groups (HY.out.pure0 hb).inv ((HY.out.pure0 hb).rat.mono (HY.out.pure0 hb).le) (hTO.small HY.out.inv.ok) HNX.out.1 HNX.out.2)
               have HS := Lib.hid (fun (w' : World) (hb : Below Y.heap.size Y w') => (show w'.cell? ⟨nb, 0, none⟩ = some (.int .i64 r5.vs.tasks) ∧ w'.cell? ⟨nb, 1, none⟩ = some (.int .i64 r5.vs.most) ∧ w'.cell? ⟨nb, 2, none⟩ = some (.int .i64 r5.vs.keep) ∧ w'.cell? ⟨nb, 3, none⟩ = some (.int .i64 ((r5.vs.last : Int) + 1)) ∧ w'.cell? ⟨nb, 4, none⟩ = some (.slice a6 r5.vs.all.length k6) ∧ w'.cell? ⟨b, o + k * 6 + 1, none⟩ = some (.int .i64 xn) ∧ w'.cell? ⟨b, o + k * 6 + 3, none⟩ = some (.string nm) from by
                 have h := (hb.block nb (Array.getElem?_eq_some_iff.1 HNB.out).1).trans HNB.out
                 have hle := Mem.le_trans HM5.out (HY.out.pure0 hb).le
                 exact ⟨mem_cells h 0, mem_cells h 1, mem_cells h 2, mem_cells h 3, mem_cells h 4, hle _ _ _ HQ.out.1, hle _ _ _ HQ.out.2⟩))
               have hb0 : Below Y.heap.size Y Y.drew := (Below.refl _ _).drew
               clear hTO HD HDB HLD HLB HL HTA HV5 HBN HFR HF c0 c1 c2 c3 c4 c0' c1' c2' c3' c4' d0 d1 d2 d3 d4 d5 d0' d1' d2' d3' d4' d5'
               obtain ⟨n0, n1, n2, n3, n4, m1, m3⟩ := HS.out Y (Below.refl _ _)
               have hj0 : (0 : Int) ≤ (k : Int) := by omega
               have hj1 : (k : Int) < (l.length : Int) := by omega
               go_wp2_with fail
               go_still_tail 17, (by kernel_rfl)
               change wpList _ _ _ _ _ Y.drew
               go_wp2_with fail
               refine (HSA.out _ hb0).mono ?_
               rintro e w6 ⟨rfl, hb⟩
               have hb6 := pure_trans hb0 hb
               clear hb n0 n1 n2 n3 n4 m1 m3 hj0 hj1
               focus
                 have HY6 := Lib.hid (HY.out.pure0 hb6)
                 have HNB6 := Lib.hid ((hb6.block nb (Array.getElem?_eq_some_iff.1 HNB.out).1).trans HNB.out)
                 have HA5 := Lib.hid (tVActs.mono _ _ _ _ HM5.out HA.out)
                 clear hb0 hb6 HS HSA HY HNB HQ
                 have n0 : w6.cell? ⟨nb, 0, none⟩ = some (.int .i64 r5.vs.tasks) := mem_cells HNB6.out 0
                 have n1 : w6.cell? ⟨nb, 1, none⟩ = some (.int .i64 r5.vs.most) := mem_cells HNB6.out 1
                 have n2 : w6.cell? ⟨nb, 2, none⟩ = some (.int .i64 r5.vs.keep) := mem_cells HNB6.out 2
                 have n3 : w6.cell? ⟨nb, 3, none⟩ = some (.int .i64 ((r5.vs.last : Int) + 1)) := mem_cells HNB6.out 3
                 have n4 : w6.cell? ⟨nb, 4, none⟩ = some (.slice a6 r5.vs.all.length k6) := mem_cells HNB6.out 4
                 have e0 : w6.cell? ⟨R, 0, none⟩ = some (.int .i64 r.vs.tasks) := mem_cells HY6.out.hR 0
                 have e1 : w6.cell? ⟨R, 1, none⟩ = some (.int .i64 r.vs.most) := mem_cells HY6.out.hR 1
                 have e2 : w6.cell? ⟨R, 2, none⟩ = some (.int .i64 r.vs.keep) := mem_cells HY6.out.hR 2
                 have e3 : w6.cell? ⟨R, 3, none⟩ = some (.int .i64 ((r.vs.last : Int) + 1)) := mem_cells HY6.out.hR 3
                 have e4 : w6.cell? ⟨R, 4, none⟩ = some (.slice aa r.vs.all.length ca) := mem_cells HY6.out.hR 4
                 have z0 := frozen_cells HY6.out.hR 0
                 have z1 := frozen_cells HY6.out.hR 1
                 have z2 := frozen_cells HY6.out.hR 2
                 have z3 := frozen_cells HY6.out.hR 3
                 have z4 := frozen_cells HY6.out.hR 4
                 have HL7 := Lib.hid (HY6.out.store (store5_keeps w6 R (.int .i64 r5.vs.tasks) (.int .i64 r5.vs.most) (.int .i64 r5.vs.keep) (.int .i64 ((r5.vs.last : Int) + 1)) (.slice a6 r5.vs.all.length k6)) (store5_block HY6.out.hR (.int .i64 r5.vs.tasks) (.int .i64 r5.vs.most) (.int .i64 r5.vs.keep) (.int .i64 ((r5.vs.last : Int) + 1)) (.slice a6 r5.vs.all.length k6)) rv_notext)
                 unfold store5 at HL7
                 go_wp2
                 go_roundw
                 case rel => exact ⟨k + 1, M5, r5, a6, k6, by omega, by go_num, HL7, HA5, HTO⟩
                 case measure => simp [intOf]; omega)
            | (have HY := Lib.hid (HLB5.out.store2 (store5_keeps w5 wr.heap.size (.int .i64 r5.vs.tasks) (.int .i64 r5.vs.most) (.int .i64 r5.vs.keep) (.int .i64 ((r5.vs.last : Int) + 1)) (.slice a6 r5.vs.all.length k6)) HX5.out.1 HX5.out.2 (rvz_notext HNB5.out) HFR.out.2.2.1 HFR.out.2.2.2)
               have HNB := Lib.hid (store5_block HNB5.out (.int .i64 r5.vs.tasks) (.int .i64 r5.vs.most) (.int .i64 r5.vs.keep) (.int .i64 ((r5.vs.last : Int) + 1)) (.slice a6 r5.vs.all.length k6))
               unfold store5 at HY HNB
               generalize (((((w5.setCell ⟨wr.heap.size, 0, none⟩ (.int .i64 r5.vs.tasks)).setCell ⟨wr.heap.size, 1, none⟩ (.int .i64 r5.vs.most)).setCell ⟨wr.heap.size, 2, none⟩ (.int .i64 r5.vs.keep)).setCell ⟨wr.heap.size, 3, none⟩ (.int .i64 ((r5.vs.last : Int) + 1))).setCell ⟨wr.heap.size, 4, none⟩ (.slice a6 r5.vs.all.length k6)) = Y at *
               generalize wr.heap.size = nb at *
               clear HLB5 HNB5 HX5 x0 y0 x1 y1 x2 y2 x3 y3 x4 y4
               have hTO : TellsOk r5.vs := by rw [HV5.out]; exact HTA.out
               have HTO := Lib.hid hTO
               have HSA := Lib.hid (fun w' (hb : Below Y.heap.size Y w') => lawSame_any (.slice a6 r5.vs.all.length k6) w' xn nm parts groups (HY.out.pure0 hb).inv ((HY.out.pure0 hb).rat.mono (HY.out.pure0 hb).le) (hTO.small HY.out.inv.ok) HNX.out.1 HNX.out.2)
               have HS := Lib.hid (fun (w' : World) (hb : Below Y.heap.size Y w') => (show w'.cell? ⟨nb, 0, none⟩ = some (.int .i64 r5.vs.tasks) ∧ w'.cell? ⟨nb, 1, none⟩ = some (.int .i64 r5.vs.most) ∧ w'.cell? ⟨nb, 2, none⟩ = some (.int .i64 r5.vs.keep) ∧ w'.cell? ⟨nb, 3, none⟩ = some (.int .i64 ((r5.vs.last : Int) + 1)) ∧ w'.cell? ⟨nb, 4, none⟩ = some (.slice a6 r5.vs.all.length k6) ∧ w'.cell? ⟨b, o + k * 6 + 1, none⟩ = some (.int .i64 xn) ∧ w'.cell? ⟨b, o + k * 6 + 3, none⟩ = some (.string nm) from by
                 have h := (hb.block nb (Array.getElem?_eq_some_iff.1 HNB.out).1).trans HNB.out
                 have hle := Mem.le_trans HM5.out (HY.out.pure0 hb).le
                 exact ⟨mem_cells h 0, mem_cells h 1, mem_cells h 2, mem_cells h 3, mem_cells h 4, hle _ _ _ HQ.out.1, hle _ _ _ HQ.out.2⟩))
               have hb0 : Below Y.heap.size Y Y.drew := (Below.refl _ _).drew
               clear hTO HD HDB HLD HLB HL HTA HV5 HBN HFR HF c0 c1 c2 c3 c4 c0' c1' c2' c3' c4' d0 d1 d2 d3 d4 d5 d0' d1' d2' d3' d4' d5'
               obtain ⟨n0, n1, n2, n3, n4, m1, m3⟩ := HS.out Y (Below.refl _ _)
               have hj0 : (0 : Int) ≤ (k : Int) := by omega
               have hj1 : (k : Int) < (l.length : Int) := by omega
               go_wp2_with fail
               go_still_tail 17, (by kernel_rfl)
               change wpList _ _ _ _ _ Y.drew
               go_wp2_with fail
               refine (HSA.out _ hb0).mono ?_
               rintro e w6 ⟨rfl, hb⟩
               have hb6 := pure_trans hb0 hb
               clear hb n0 n1 n2 n3 n4 m1 m3 hj0 hj1
               focus
                 have HY6 := Lib.hid (HY.out.pure0 hb6)
                 have HNB6 := Lib.hid ((hb6.block nb (Array.getElem?_eq_some_iff.1 HNB.out).1).trans HNB.out)
                 have HA5 := Lib.hid (tVActs.mono _ _ _ _ HM5.out HA.out)
                 clear hb0 hb6 HS HSA HY HNB HQ
                 have n0 : w6.cell? ⟨nb, 0, none⟩ = some (.int .i64 r5.vs.tasks) := mem_cells HNB6.out 0
                 have n1 : w6.cell? ⟨nb, 1, none⟩ = some (.int .i64 r5.vs.most) := mem_cells HNB6.out 1
                 have n2 : w6.cell? ⟨nb, 2, none⟩ = some (.int .i64 r5.vs.keep) := mem_cells HNB6.out 2
                 have n3 : w6.cell? ⟨nb, 3, none⟩ = some (.int .i64 ((r5.vs.last : Int) + 1)) := mem_cells HNB6.out 3
                 have n4 : w6.cell? ⟨nb, 4, none⟩ = some (.slice a6 r5.vs.all.length k6) := mem_cells HNB6.out 4
                 have e0 : w6.cell? ⟨R, 0, none⟩ = some (.int .i64 r.vs.tasks) := mem_cells HY6.out.hR 0
                 have e1 : w6.cell? ⟨R, 1, none⟩ = some (.int .i64 r.vs.most) := mem_cells HY6.out.hR 1
                 have e2 : w6.cell? ⟨R, 2, none⟩ = some (.int .i64 r.vs.keep) := mem_cells HY6.out.hR 2
                 have e3 : w6.cell? ⟨R, 3, none⟩ = some (.int .i64 ((r.vs.last : Int) + 1)) := mem_cells HY6.out.hR 3
                 have e4 : w6.cell? ⟨R, 4, none⟩ = some (.slice aa r.vs.all.length ca) := mem_cells HY6.out.hR 4
                 have z0 := frozen_cells HY6.out.hR 0
                 have z1 := frozen_cells HY6.out.hR 1
                 have z2 := frozen_cells HY6.out.hR 2
                 have z3 := frozen_cells HY6.out.hR 3
                 have z4 := frozen_cells HY6.out.hR 4
                 have HL7 := Lib.hid (HY6.out.store (store5_keeps w6 R (.int .i64 r5.vs.tasks) (.int .i64 r5.vs.most) (.int .i64 r5.vs.keep) (.int .i64 ((r5.vs.last : Int) + 1)) (.slice a6 r5.vs.all.length k6)) (store5_block HY6.out.hR (.int .i64 r5.vs.tasks) (.int .i64 r5.vs.most) (.int .i64 r5.vs.keep) (.int .i64 ((r5.vs.last : Int) + 1)) (.slice a6 r5.vs.all.length k6)) rv_notext)
                 unfold store5 at HL7
                 go_wp2
                 go_roundw
                 case rel => exact ⟨k + 1, M5, r5, a6, k6, by omega, by go_num, HL7, HA5, HTO⟩
                 case measure => simp [intOf]; omega)
      · have hkb : (xk.tmod 10 == 9) = false := by rw [beq_eq_false_iff_ne, hkm]; exact hs9
        clear h49 hskip hk0
        go_wp2_with fail
        go_region_law (go_simp; go_at_call 8; first
          | (refine HD.out.mono ?_; rintro e w5 hd; obtain ⟨r5, a5, M5, rfl, hl5, hm5, hv5⟩ := HLD.out.after hd; obtain ⟨a6, k6, rfl, -, -, -⟩ := slice_form hl5.rat.ha; have HLA5 := Lib.hid hl5; have HM5 := Lib.hid hm5; have HV5 := Lib.hid hv5; clear hd hl5 hm5 hv5)
          | (refine HDB.out.mono ?_; rintro e w5 hd; obtain ⟨r5, a5, M5, rfl, hl5, hm5, hv5, hx1, hx2, hx3⟩ := HLB.out.after2 (nb := wr.heap.size) hd (by simp) HFR.out.1 HFR.out.2.1; obtain ⟨a6, k6, rfl, -, -, -⟩ := slice_form hl5.rat.ha; have HLB5 := Lib.hid hl5; have HM5 := Lib.hid hm5; have HV5 := Lib.hid hv5; have HNB5 := Lib.hid (show w5.heap[wr.heap.size]? = some rvZ from hx1.trans HBN.out); have HX5 := Lib.hid (And.intro hx2 hx3); have x0 : w5.cell? ⟨wr.heap.size, 0, none⟩ = some (.int .i64 0) := mem_cells HNB5.out 0; have x1 : w5.cell? ⟨wr.heap.size, 1, none⟩ = some (.int .i64 0) := mem_cells HNB5.out 1; have x2 : w5.cell? ⟨wr.heap.size, 2, none⟩ = some (.int .i64 0) := mem_cells HNB5.out 2; have x3 : w5.cell? ⟨wr.heap.size, 3, none⟩ = some (.int .i64 0) := mem_cells HNB5.out 3; have x4 : w5.cell? ⟨wr.heap.size, 4, none⟩ = some (.slice none 0 0) := mem_cells HNB5.out 4; have y0 : w5.frozen? ⟨wr.heap.size, 0, none⟩ = false := frozen_cells HNB5.out 0; have y1 : w5.frozen? ⟨wr.heap.size, 1, none⟩ = false := frozen_cells HNB5.out 1; have y2 : w5.frozen? ⟨wr.heap.size, 2, none⟩ = false := frozen_cells HNB5.out 2; have y3 : w5.frozen? ⟨wr.heap.size, 3, none⟩ = false := frozen_cells HNB5.out 3; have y4 : w5.frozen? ⟨wr.heap.size, 4, none⟩ = false := frozen_cells HNB5.out 4; clear hd hl5 hm5 hv5 hx1 hx2 hx3))
        all_goals
          first
            | (have HY := Lib.hid (HLA5.out.pure0 (box_below w5 (.cells #[.int .i64 r5.vs.tasks, .int .i64 r5.vs.most, .int .i64 r5.vs.keep, .int .i64 ((r5.vs.last : Int) + 1), .slice a6 r5.vs.all.length k6] 31)))
               have HNB := Lib.hid (heap_alloc_new w5 (.cells #[.int .i64 r5.vs.tasks, .int .i64 r5.vs.most, .int .i64 r5.vs.keep, .int .i64 ((r5.vs.last : Int) + 1), .slice a6 r5.vs.all.length k6] 31))
               generalize w5.alloc (.cells #[.int .i64 r5.vs.tasks, .int .i64 r5.vs.most, .int .i64 r5.vs.keep, .int .i64 ((r5.vs.last : Int) + 1), .slice a6 r5.vs.all.length k6] 31) = Y at *
               generalize w5.heap.size = nb at *
               clear HLA5
               have hTO : TellsOk r5.vs := by rw [HV5.out]; exact HTA.out
               have HTO := Lib.hid hTO
               have HSA := Lib.hid (fun w' (hb : Below Y.heap.size Y w') => lawSame_any (.slice a6 r5.vs.all.length k6) w' xn nm parts groups (HY.out.pure0 hb).inv ((HY.out.pure0 hb).rat.mono (HY.out.pure0 hb).le) (hTO.small HY.out.inv.ok) HNX.out.1 HNX.out.2)
               have HS := Lib.hid (fun (w' : World) (hb : Below Y.heap.size Y w') => (show w'.cell? ⟨nb, 0, none⟩ = some (.int .i64 r5.vs.tasks) ∧ w'.cell? ⟨nb, 1, none⟩ = some (.int .i64 r5.vs.most) ∧ w'.cell? ⟨nb, 2, none⟩ = some (.int .i64 r5.vs.keep) ∧ w'.cell? ⟨nb, 3, none⟩ = some (.int .i64 ((r5.vs.last : Int) + 1)) ∧ w'.cell? ⟨nb, 4, none⟩ = some (.slice a6 r5.vs.all.length k6) ∧ w'.cell? ⟨b, o + k * 6 + 1, none⟩ = some (.int .i64 xn) ∧ w'.cell? ⟨b, o + k * 6 + 3, none⟩ = some (.string nm) from by
                 have h := (hb.block nb (Array.getElem?_eq_some_iff.1 HNB.out).1).trans HNB.out
                 have hle := Mem.le_trans HM5.out (HY.out.pure0 hb).le
                 exact ⟨mem_cells h 0, mem_cells h 1, mem_cells h 2, mem_cells h 3, mem_cells h 4, hle _ _ _ HQ.out.1, hle _ _ _ HQ.out.2⟩))
               have hb0 : Below Y.heap.size Y Y.drew := (Below.refl _ _).drew
               clear hTO HD HDB HLD HLB HL HTA HV5 HBN HFR HF c0 c1 c2 c3 c4 c0' c1' c2' c3' c4' d0 d1 d2 d3 d4 d5 d0' d1' d2' d3' d4' d5'
               obtain ⟨n0, n1, n2, n3, n4, m1, m3⟩ := HS.out Y (Below.refl _ _)
               have hj0 : (0 : Int) ≤ (k : Int) := by omega
               have hj1 : (k : Int) < (l.length : Int) := by omega
               go_wp2_with fail
               go_still_tail 17, (by kernel_rfl)
               change wpList _ _ _ _ _ Y.drew
               go_wp2_with fail
               refine (HSA.out _ hb0).mono ?_
               rintro e w6 ⟨rfl, hb⟩
               have hb6 := pure_trans hb0 hb
               clear hb n0 n1 n2 n3 n4 m1 m3 hj0 hj1
               focus
                 have HY6 := Lib.hid (HY.out.pure0 hb6)
                 have HNB6 := Lib.hid ((hb6.block nb (Array.getElem?_eq_some_iff.1 HNB.out).1).trans HNB.out)
                 have HA5 := Lib.hid (tVActs.mono _ _ _ _ HM5.out HA.out)
                 clear hb0 hb6 HS HSA HY HNB HQ
                 have n0 : w6.cell? ⟨nb, 0, none⟩ = some (.int .i64 r5.vs.tasks) := mem_cells HNB6.out 0
                 have n1 : w6.cell? ⟨nb, 1, none⟩ = some (.int .i64 r5.vs.most) := mem_cells HNB6.out 1
                 have n2 : w6.cell? ⟨nb, 2, none⟩ = some (.int .i64 r5.vs.keep) := mem_cells HNB6.out 2
                 have n3 : w6.cell? ⟨nb, 3, none⟩ = some (.int .i64 ((r5.vs.last : Int) + 1)) := mem_cells HNB6.out 3
                 have n4 : w6.cell? ⟨nb, 4, none⟩ = some (.slice a6 r5.vs.all.length k6) := mem_cells HNB6.out 4
                 have e0 : w6.cell? ⟨R, 0, none⟩ = some (.int .i64 r.vs.tasks) := mem_cells HY6.out.hR 0
                 have e1 : w6.cell? ⟨R, 1, none⟩ = some (.int .i64 r.vs.most) := mem_cells HY6.out.hR 1
                 have e2 : w6.cell? ⟨R, 2, none⟩ = some (.int .i64 r.vs.keep) := mem_cells HY6.out.hR 2
                 have e3 : w6.cell? ⟨R, 3, none⟩ = some (.int .i64 ((r.vs.last : Int) + 1)) := mem_cells HY6.out.hR 3
                 have e4 : w6.cell? ⟨R, 4, none⟩ = some (.slice aa r.vs.all.length ca) := mem_cells HY6.out.hR 4
                 have z0 := frozen_cells HY6.out.hR 0
                 have z1 := frozen_cells HY6.out.hR 1
                 have z2 := frozen_cells HY6.out.hR 2
                 have z3 := frozen_cells HY6.out.hR 3
                 have z4 := frozen_cells HY6.out.hR 4
                 have HL7 := Lib.hid (HY6.out.store (store5_keeps w6 R (.int .i64 r5.vs.tasks) (.int .i64 r5.vs.most) (.int .i64 r5.vs.keep) (.int .i64 ((r5.vs.last : Int) + 1)) (.slice a6 r5.vs.all.length k6)) (store5_block HY6.out.hR (.int .i64 r5.vs.tasks) (.int .i64 r5.vs.most) (.int .i64 r5.vs.keep) (.int .i64 ((r5.vs.last : Int) + 1)) (.slice a6 r5.vs.all.length k6)) rv_notext)
                 unfold store5 at HL7
                 go_wp2
                 go_roundw
                 case rel => exact ⟨k + 1, M5, r5, a6, k6, by omega, by go_num, HL7, HA5, HTO⟩
                 case measure => simp [intOf]; omega)
            | (have HY := Lib.hid (HLB5.out.store2 (store5_keeps w5 wr.heap.size (.int .i64 r5.vs.tasks) (.int .i64 r5.vs.most) (.int .i64 r5.vs.keep) (.int .i64 ((r5.vs.last : Int) + 1)) (.slice a6 r5.vs.all.length k6)) HX5.out.1 HX5.out.2 (rvz_notext HNB5.out) HFR.out.2.2.1 HFR.out.2.2.2)
               have HNB := Lib.hid (store5_block HNB5.out (.int .i64 r5.vs.tasks) (.int .i64 r5.vs.most) (.int .i64 r5.vs.keep) (.int .i64 ((r5.vs.last : Int) + 1)) (.slice a6 r5.vs.all.length k6))
               unfold store5 at HY HNB
               generalize (((((w5.setCell ⟨wr.heap.size, 0, none⟩ (.int .i64 r5.vs.tasks)).setCell ⟨wr.heap.size, 1, none⟩ (.int .i64 r5.vs.most)).setCell ⟨wr.heap.size, 2, none⟩ (.int .i64 r5.vs.keep)).setCell ⟨wr.heap.size, 3, none⟩ (.int .i64 ((r5.vs.last : Int) + 1))).setCell ⟨wr.heap.size, 4, none⟩ (.slice a6 r5.vs.all.length k6)) = Y at *
               generalize wr.heap.size = nb at *
               clear HLB5 HNB5 HX5 x0 y0 x1 y1 x2 y2 x3 y3 x4 y4
               have hTO : TellsOk r5.vs := by rw [HV5.out]; exact HTA.out
               have HTO := Lib.hid hTO
               have HSA := Lib.hid (fun w' (hb : Below Y.heap.size Y w') => lawSame_any (.slice a6 r5.vs.all.length k6) w' xn nm parts groups (HY.out.pure0 hb).inv ((HY.out.pure0 hb).rat.mono (HY.out.pure0 hb).le) (hTO.small HY.out.inv.ok) HNX.out.1 HNX.out.2)
               have HS := Lib.hid (fun (w' : World) (hb : Below Y.heap.size Y w') => (show w'.cell? ⟨nb, 0, none⟩ = some (.int .i64 r5.vs.tasks) ∧ w'.cell? ⟨nb, 1, none⟩ = some (.int .i64 r5.vs.most) ∧ w'.cell? ⟨nb, 2, none⟩ = some (.int .i64 r5.vs.keep) ∧ w'.cell? ⟨nb, 3, none⟩ = some (.int .i64 ((r5.vs.last : Int) + 1)) ∧ w'.cell? ⟨nb, 4, none⟩ = some (.slice a6 r5.vs.all.length k6) ∧ w'.cell? ⟨b, o + k * 6 + 1, none⟩ = some (.int .i64 xn) ∧ w'.cell? ⟨b, o + k * 6 + 3, none⟩ = some (.string nm) from by
                 have h := (hb.block nb (Array.getElem?_eq_some_iff.1 HNB.out).1).trans HNB.out
                 have hle := Mem.le_trans HM5.out (HY.out.pure0 hb).le
                 exact ⟨mem_cells h 0, mem_cells h 1, mem_cells h 2, mem_cells h 3, mem_cells h 4, hle _ _ _ HQ.out.1, hle _ _ _ HQ.out.2⟩))
               have hb0 : Below Y.heap.size Y Y.drew := (Below.refl _ _).drew
               clear hTO HD HDB HLD HLB HL HTA HV5 HBN HFR HF c0 c1 c2 c3 c4 c0' c1' c2' c3' c4' d0 d1 d2 d3 d4 d5 d0' d1' d2' d3' d4' d5'
               obtain ⟨n0, n1, n2, n3, n4, m1, m3⟩ := HS.out Y (Below.refl _ _)
               have hj0 : (0 : Int) ≤ (k : Int) := by omega
               have hj1 : (k : Int) < (l.length : Int) := by omega
               go_wp2_with fail
               go_still_tail 17, (by kernel_rfl)
               change wpList _ _ _ _ _ Y.drew
               go_wp2_with fail
               refine (HSA.out _ hb0).mono ?_
               rintro e w6 ⟨rfl, hb⟩
               have hb6 := pure_trans hb0 hb
               clear hb n0 n1 n2 n3 n4 m1 m3 hj0 hj1
               focus
                 have HY6 := Lib.hid (HY.out.pure0 hb6)
                 have HNB6 := Lib.hid ((hb6.block nb (Array.getElem?_eq_some_iff.1 HNB.out).1).trans HNB.out)
                 have HA5 := Lib.hid (tVActs.mono _ _ _ _ HM5.out HA.out)
                 clear hb0 hb6 HS HSA HY HNB HQ
                 have n0 : w6.cell? ⟨nb, 0, none⟩ = some (.int .i64 r5.vs.tasks) := mem_cells HNB6.out 0
                 have n1 : w6.cell? ⟨nb, 1, none⟩ = some (.int .i64 r5.vs.most) := mem_cells HNB6.out 1
                 have n2 : w6.cell? ⟨nb, 2, none⟩ = some (.int .i64 r5.vs.keep) := mem_cells HNB6.out 2
                 have n3 : w6.cell? ⟨nb, 3, none⟩ = some (.int .i64 ((r5.vs.last : Int) + 1)) := mem_cells HNB6.out 3
                 have n4 : w6.cell? ⟨nb, 4, none⟩ = some (.slice a6 r5.vs.all.length k6) := mem_cells HNB6.out 4
                 have e0 : w6.cell? ⟨R, 0, none⟩ = some (.int .i64 r.vs.tasks) := mem_cells HY6.out.hR 0
                 have e1 : w6.cell? ⟨R, 1, none⟩ = some (.int .i64 r.vs.most) := mem_cells HY6.out.hR 1
                 have e2 : w6.cell? ⟨R, 2, none⟩ = some (.int .i64 r.vs.keep) := mem_cells HY6.out.hR 2
                 have e3 : w6.cell? ⟨R, 3, none⟩ = some (.int .i64 ((r.vs.last : Int) + 1)) := mem_cells HY6.out.hR 3
                 have e4 : w6.cell? ⟨R, 4, none⟩ = some (.slice aa r.vs.all.length ca) := mem_cells HY6.out.hR 4
                 have z0 := frozen_cells HY6.out.hR 0
                 have z1 := frozen_cells HY6.out.hR 1
                 have z2 := frozen_cells HY6.out.hR 2
                 have z3 := frozen_cells HY6.out.hR 3
                 have z4 := frozen_cells HY6.out.hR 4
                 have HL7 := Lib.hid (HY6.out.store (store5_keeps w6 R (.int .i64 r5.vs.tasks) (.int .i64 r5.vs.most) (.int .i64 r5.vs.keep) (.int .i64 ((r5.vs.last : Int) + 1)) (.slice a6 r5.vs.all.length k6)) (store5_block HY6.out.hR (.int .i64 r5.vs.tasks) (.int .i64 r5.vs.most) (.int .i64 r5.vs.keep) (.int .i64 ((r5.vs.last : Int) + 1)) (.slice a6 r5.vs.all.length k6)) rv_notext)
                 unfold store5 at HL7
                 go_wp2
                 go_roundw
                 case rel => exact ⟨k + 1, M5, r5, a6, k6, by omega, by go_num, HL7, HA5, HTO⟩
                 case measure => simp [intOf]; omega)
    · obtain rfl : k = l.length := by omega
      go_wp2
      go_ret
      exact ⟨rfl, HL.out.bl⟩
end Go.Proofs.YtnfolemblnnejaaGreat
namespace Go.Proofs.YtnfolemblnnejaaGreat.lawVaultRuns
open Go.ChangeShapes Go.WideShapes Go.ChangeAt Go.RowKit
set_option maxRecDepth 100000 in
theorem lifted (os : Os) (started : os.Started) (H : Type) (enc : TypeId × Value → H) :
    ReturnsInHanded {} Tryz.checked os 3 .any (Rows.vaultRunsSpec.pre6 enc Tryz.prog Tryz.f3 Rows.vaultRunsRow.domain false) (Rows.vaultRunsSpec.post enc Tryz.prog Tryz.f3 false true false false) := by
  refine returnsInHanded_of_change (C := Tryz.checked) Tryz.own started (by kernel_rfl) Tryz.func3
    (ChangeSpec.witness6 (enc := enc) (C := Tryz.checked) false ⟨#[], #[.int .i64 0, .int .i64 0, .int .i64 0, .slice none 0 0, .int .i64 0, .int .i64 0], []⟩ 8 (by kernel_rfl) (by kernel_rfl) (by kernel_rfl) (by kernel_rfl)) ?_
  intro W base args ds gs before hval0 hW hcnd _
  have hval : ∀ (j : Nat) t v, Tryz.f3.params[j]? = some t → args[j]? = some v → Value.okWide Tryz.prog W .any base t v := hval0
  have hW' := hW
  obtain ⟨p, q, hA0, hV, rfl, hfz, hnd⟩ := hW
  have hA : DataW.TrodAll enc Tryz.prog W 0 (fun _ => true) true Tryz.f3.params.toList args.toList ds p := hA0
  rw [Tryz.params3] at hA hval
  obtain ⟨v0, vs0, d0, ds0, p0, q0, hargs, rfl, rfl, h0, r0⟩ := trodAll_cons hA
  obtain ⟨v1, vs1, d1, ds1, p1, q1, rfl, rfl, rfl, h1, r1⟩ := trodAll_cons r0
  obtain ⟨v2, vs2, d2, ds2, p2, q2, rfl, rfl, rfl, h2, r2⟩ := trodAll_cons r1
  obtain ⟨v3, vs3, d3, ds3, p3, q3, rfl, rfl, rfl, h3, r3⟩ := trodAll_cons r2
  obtain ⟨v4, vs4, d4, ds4, p4, q4, rfl, rfl, rfl, h4, r4⟩ := trodAll_cons r3
  obtain ⟨v5, vs5, d5, ds5, p5, q5, rfl, rfl, rfl, h5, r5⟩ := trodAll_cons r4
  obtain ⟨rfl, rfl, rfl⟩ := trodAll_nil r5
  obtain rfl : args = #[v0, v1, v2, v3, v4, v5] := by cases args; simp_all
  obtain ⟨rfl, rfl⟩ := trodVars_none hV
  obtain ⟨n0, rfl, w0⟩ := arg_int Tryz.underlying3 (hval 0 3 v0 rfl rfl) h0
  obtain ⟨n1, rfl, w1⟩ := arg_int Tryz.underlying3 (hval 1 3 v1 rfl rfl) h1
  obtain ⟨n2, rfl, w2⟩ := arg_int Tryz.underlying3 (hval 2 3 v2 rfl rfl) h2
  obtain ⟨x3, w3⟩ := arg_slice (t := tVAct) reads_vacts Tryz.underlying22 (hval 3 22 v3 rfl rfl) h3
  obtain ⟨n4, rfl, w4⟩ := arg_int Tryz.underlying3 (hval 4 3 v4 rfl rfl) h4
  obtain ⟨n5, rfl, w5⟩ := arg_int Tryz.underlying3 (hval 5 3 v5 rfl rfl) h5
  clear hA0 hval0
  refine (vaultRuns_any n0 n1 n2 x3 v3 n4 n5 W w0 w1 w2 w3 w4 w5).mono fun e W' ⟨he, bel⟩ => ?_
  subst he
  exact ⟨_, rfl, law_post Tryz.laidOut rfl (by rw [Tryz.params3]; intro t ht; have hs : Tryz.prog.types.size = Tryz.prog.types.size := rfl; simp only [List.mem_cons, List.not_mem_nil, or_false] at ht; rcases ht with rfl | rfl | rfl | rfl | rfl | rfl <;> exact ⟨by kernel_rfl, of_decide_eq_true (by kernel_rfl)⟩) (by kernel_rfl) Tryz.underlying4 rfl rfl rfl hW' bel⟩

theorem proved : Rows.VaultRunsSaid :=
  OpenClaim.holds_of_wide 3 Tryz.f3 rfl rfl rfl rfl rfl rfl rfl ⟨rfl, rfl, rfl, rfl, rfl⟩ rfl rfl rfl rfl rfl (by kernel_rfl) Tryz.func3 (by kernel_rfl)
    (of_decide_eq_true (by kernel_rfl)) (by unfold Func.isWrapper; first | (rw [if_pos (by decide +kernel)]; kernel_rfl) | (rw [if_neg (by decide +kernel)]; exact ⟨rfl, rfl⟩))
    (fun os started H enc _ => lifted os started H enc)
#print axioms proved
end Go.Proofs.YtnfolemblnnejaaGreat.lawVaultRuns
