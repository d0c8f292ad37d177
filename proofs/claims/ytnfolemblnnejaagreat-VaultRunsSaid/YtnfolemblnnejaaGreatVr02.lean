/- Part 2 of the texts that the law's proof stands on, merged. -/
import Derived.Shelf.Small.Bits
import Derived.Shelf.Sort.Plain
import Derived.Shelf.Slices.In.SortNone
import Derived.Test.YtnfolemblnnejaaGreatProg
import Derived.Lib.SortBridge
import Derived.Deep.AppendSrc
import Derived.Test.YtnfolemblnnejaaGreatVr01
set_option linter.unusedVariables false
set_option linter.unusedSimpArgs false
/- package vault: Trigger. -/
namespace Go.Proofs.YtnfolemblnnejaaGreat
open Go.RowKit Go.Maps

theorem box_below (W : World) (o : Obj) : Below W.heap.size W (W.alloc o) := (Below.refl _ _).alloc (Nat.le_refl _) o
theorem infoPart : (Tryz.prog.info? 96).map (fun i => (i.zero, i.size, i.bytes)) = some (some (.pointer none), 1, 8) := by kernel_rfl
theorem make_parts (n : Nat) (hn : n ≤ 1000) (w : World) : (Instr.makeSlice 86 (.int .i64 (n : Int)) (.int .i64 (n : Int))).run Tryz.prog w = .ok (.slice (some ⟨w.heap.size, 0, none⟩) n n) (w.alloc (.cells (madeCells (Value.pointer none).cells n) 96)) := by
  have h := infoPart
  obtain ⟨i, hi, e⟩ := Option.map_eq_some_iff.1 h
  simp only [Prod.mk.injEq] at e
  obtain ⟨e1, e2, e3⟩ := e
  have := run_makeSlice (P := Tryz.prog) (w := w) 86 96 i (.pointer none) Tryz.underlying86 hi e1 .i64 .i64 (n : Int) (n : Int) (by omega) (by omega) (by rw [e2]; simp; omega) (by rw [e3]; omega) (by omega)
  rw [this]
  simp [e2]
theorem made_nil (n : Nat) : ∀ i, i < n → (madeCells (Value.pointer none).cells n)[i]? = some (.pointer none) := fun i hi => by
  unfold madeCells
  simp [hi, Value.cells, Nat.mod_one]
/-- What Trigger answers: the number, the error. -/
def trigAns (s : VS) (nm : ByteArray) : Int × Int :=
  if (!(nm.toList == []) && !isName nm) = true then (0, 1) else if ((s.pend.length : Int) == s.most) = true then (0, 10)
  else if (!(nm.toList == []) && decide (0 < (s.those (fun t => t.name.toList == nm.toList)).length)) = true then (0, 6) else if s.last = 1000000 then (0, 4) else ((s.last : Int) + 1, 0)
def VS.trigged (s : VS) (nm : ByteArray) : VS := if (trigAns s nm).2 = 0 then s.trig nm else s
set_option maxRecDepth 100000 in
set_option maxHeartbeats 8000000 in
theorem vTrigger_any {base p : Nat} {r : HV} (nm : ByteArray) (w : World) (hI : VInv w base p r) (hn : nm.size ≤ maxLen) :
    Calls Tryz.prog 10 #[ptrTo p, .string nm] w fun e w' => e = .returned (.tuple #[.int .i64 (trigAns r.vs nm).1, .int .i64 (trigAns r.vs nm).2]) ∧ ∃ r', VStep w base p r w' r' ∧ r'.vs = r.vs.trigged nm := by
  have HB0 := Lib.hid (show Below w.heap.size w (w.alloc (.cells #[.string nm] 9)) from (Below.refl _ _).alloc (Nat.le_refl _) _)
  have hbx : (w.alloc (.cells #[.string nm] 9)).heap[w.heap.size]? = some (.cells #[.string nm] 9 (0, 0)) := heap_alloc_new w _
  have HI := Lib.hid hI
  have HI0 := Lib.hid (hI.pure HB0.out)
  have HA := Lib.hid (show trigAns r.vs nm = if (!(nm.toList == []) && !isName nm) = true then (0, 1) else if ((r.vs.pend.length : Int) == r.vs.most) = true then (0, 10)
    else if (!(nm.toList == []) && decide (0 < (r.vs.those (fun t => t.name.toList == nm.toList)).length)) = true then (0, 6) else if r.vs.last = 1000000 then (0, 4) else ((r.vs.last : Int) + 1, 0) from rfl)
  have HV := Lib.hid (show r.vs.trigged nm = if (trigAns r.vs nm).2 = 0 then r.vs.trig nm else r.vs from rfl)
  generalize trigAns r.vs nm = A at *
  have hcl := those_len hI.ok (fun t => !t.done)
  have hcl2 := those_len hI.ok (fun t => t.name.toList == nm.toList)
  change r.vs.pend.length ≤ 1000000 at hcl
  have hla := hI.ok.l
  generalize hX : w.alloc (.cells #[.string nm] 9) = X at *
  have d0 : X.cell? ⟨w.heap.size, 0, none⟩ = some (.string nm) := mem_cells hbx 0
  have HRN := Lib.hid (rowName_any nm X hn)
  have HXD := Lib.hid (show Below X.heap.size X X.drew from (Below.refl _ _).drew)
  have HPD := Lib.hid (vPending_any X.drew (HI0.out.pure HXD.out))
  have HCS := Lib.hid (fun (w' : World) (hb : Below X.heap.size X w') => (show w'.cell? ⟨p, 0, none⟩ = some (.int .i64 r.vs.tasks) ∧ w'.cell? ⟨p, 1, none⟩ = some (.int .i64 r.vs.most) ∧ w'.cell? ⟨p, 3, none⟩ = some (.map (some r.mb)) ∧ w'.cell? ⟨p, 4, none⟩ = some (.int .i64 r.vs.last) ∧ w'.frozen? ⟨p, 4, none⟩ = false ∧ w'.cell? ⟨w.heap.size, 0, none⟩ = some (.string nm) from by
    have h := (HI0.out.pure hb).hb
    exact ⟨mem_cells h 0, mem_cells h 1, mem_cells h 3, mem_cells h 4, frozen_cells h 4, mem_cells ((hb.block _ (Array.getElem?_eq_some_iff.1 hbx).1).trans hbx) 0⟩))
  have HNU := Lib.hid (fun (w' : World) (hb : Below X.heap.size X w') => numbers_any 41 #[.pointer (some ⟨w.heap.size, 0, none⟩)] (fun t => t.name.toList == nm.toList) w' (HI0.out.pure hb) (takes_trig (HI0.out.pure hb) (HCS.out w' hb).2.2.2.2.2))
  have HTR := Lib.hid (fun (w' : World) (hb : Below X.heap.size X w') (hl : r.vs.last < 1000000) => (HI0.out.pure hb).trig hl hn (arr := madeCells (Value.pointer none).cells r.vs.tasks) (size_madeCells _ _) (made_nil _))
  have HMK := Lib.hid (fun (w' : World) => make_parts r.vs.tasks (by have := hI.ok.t40; omega) w')
  have HPL := Lib.hid (show p < w.heap.size from HI.out.kind p (.inl rfl))
  have HST := Lib.hid (fun (w' : World) (hb : Below X.heap.size X w') => (VStep.pure HI.out (HB0.out.trans (hb.mono HB0.out.size)) : VStep w base p r w' r))
  generalize madeCells (Value.pointer none).cells r.vs.tasks = arr at *
  have hnp : ¬ w.heap.size = p := fun e => Nat.lt_irrefl _ (e ▸ HPL.out)
  have hnp' : ¬ p = w.heap.size := fun e => hnp e.symm
  obtain ⟨-, c1, -⟩ := HCS.out _ HXD.out
  clear hI hbx HI
  go_enter Tryz.func10, Tryz.ntmps10
  cases hq : (nm.toList == []) with
  | true =>
    rw [hq] at HA
    simp only [Bool.not_true, Bool.false_and, Bool.false_eq_true, if_false] at HA
    go_wp2_with fail
    try rw [hX]
    go_region_held3 (fun w' => w'.cell? ⟨p, 1, none⟩ = some (.int .i64 r.vs.most))
      (first | assumption | go_keep)
      ((first | (go_at_call 35; refine HPD.out.mono ?_; rintro e w1 ⟨a1, k1, rfl, ho1, hb1⟩; have HB1 := Lib.hid (pure_trans HXD.out hb1); have e1 : w1.cell? ⟨p, 1, none⟩ = some (.int .i64 r.vs.most) := (HCS.out _ HB1.out).2.1)))
    rename_i hHeld
    clear hHeld e1 c1 hb1 ho1 HPD
    simp only [Exit.then]
    go_at_K
    obtain ⟨f0, f1, f3, f4, fz, fn⟩ := HCS.out _ HB1.out
    cases hp : ((r.vs.pend.length : Int) == r.vs.most) with
    | true =>
      obtain rfl : A = (0, 10) := by rw [HA.out, if_pos hp]
      go_wp2
      go_ret2
      exact ⟨rfl, r, HST.out _ HB1.out, by rw [HV.out]; rfl⟩
    | false =>
      rw [if_neg (by rw [hp]; simp)] at HA
      have HBv := HB1
      by_cases h6 : r.vs.last = 1000000
      · obtain rfl : A = (0, 4) := by rw [HA.out, if_pos h6]
        have h6i : ((r.vs.last : Int) == 1000000) = true := by rw [h6]; rfl
        go_wp2
        go_ret2
        exact ⟨rfl, r, HST.out _ HB1.out, by rw [HV.out]; rfl⟩
      · obtain rfl : A = ((r.vs.last : Int) + 1, 0) := by rw [HA.out, if_neg h6]
        have h6i : ((r.vs.last : Int) == 1000000) = false := by rw [beq_eq_false_iff_ne]; omega
        obtain ⟨Z, hrun, r', hst, hvs⟩ := HTR.out w1 HB1.out (by omega)
        have hmk := HMK.out
        have hn1 : (w1.setCell ⟨p, 4, none⟩ (.int .i64 ((r.vs.last : Int) + 1))).cell? ⟨w.heap.size, 0, none⟩ = some (.string nm) := (mem_of_block (set_block_other hnp) 0).trans fn
        have hblk := set_block (o := 4) (v := .int .i64 ((r.vs.last : Int) + 1)) (HI0.out.pure HB1.out).hb
        have hq0 : (w1.setCell ⟨p, 4, none⟩ (.int .i64 ((r.vs.last : Int) + 1))).cell? ⟨p, 0, none⟩ = some (.int .i64 r.vs.tasks) := mem_cells hblk 0
        have hq3 : (w1.setCell ⟨p, 4, none⟩ (.int .i64 ((r.vs.last : Int) + 1))).cell? ⟨p, 3, none⟩ = some (.map (some r.mb)) := mem_cells hblk 3
        have hq4 : (w1.setCell ⟨p, 4, none⟩ (.int .i64 ((r.vs.last : Int) + 1))).cell? ⟨p, 4, none⟩ = some (.int .i64 ((r.vs.last : Int) + 1)) := mem_cells hblk 4
        have hVs : (w1.setCell ⟨p, 4, none⟩ (.int .i64 ((r.vs.last : Int) + 1))).heap.size = w1.heap.size := by simp [World.setCell]
        have z4 : Z.cell? ⟨p, 4, none⟩ = some (.int .i64 ((r.vs.last : Int) + 1)) := by
          have := mem_cells hst.inv.hb 4
          rw [hvs] at this
          exact this
        have HF := Lib.hid ((HST.out _ HB1.out).trans hst)
        have HV2 := Lib.hid (show r'.vs = r.vs.trigged nm by rw [hvs, HV.out]; simp)
        clear hst hvs HTR HMK HST HNU HCS HV HA hblk
        go_wp2_with fail
        generalize w1.setCell ⟨p, 4, none⟩ (.int .i64 ((r.vs.last : Int) + 1)) = V at *
        rw [← hVs] at hrun
        have hw1 := fun o : Obj => below_mem (box_below V o) _ _ _ hn1
        have hw3 := fun o : Obj => below_mem (box_below V o) _ _ _ hq3
        have hw4 := fun o : Obj => below_mem (box_below V o) _ _ _ hq4
        have hx3 := fun o o' : Obj => below_mem (box_below (V.alloc o) o') _ _ _ (hw3 o)
        have hx4 := fun o o' : Obj => below_mem (box_below (V.alloc o) o') _ _ _ (hw4 o)
        simp only [mem] at hw1 hw3 hw4 hx3 hx4
        clear f0 f1 f3 f4 fz fn hVs
        go_region
        go_wp2
        go_ret2
        exact ⟨rfl, r', HF.out, HV2.out⟩
  | false =>
    rw [hq] at HA
    simp only [Bool.not_false, Bool.true_and] at HA
    go_wp2_with fail
    try rw [hX]
    refine HRN.out.mono ?_
    rintro e w0 ⟨rfl, rfl⟩
    cases hn0 : isName nm with
    | false =>
      obtain rfl : A = (0, 1) := by rw [HA.out, hn0]; rfl
      go_wp2
      go_ret2
      exact ⟨rfl, r, HST.out _ (Below.refl _ _), by rw [HV.out]; rfl⟩
    | true =>
      rw [hn0] at HA
      simp only [Bool.not_true, Bool.false_eq_true, if_false] at HA
      go_wp2_with fail
      try rw [hX]
      go_region_held3 (fun w' => w'.cell? ⟨p, 1, none⟩ = some (.int .i64 r.vs.most))
        (first | assumption | go_keep)
        ((first | (go_at_call 35; refine HPD.out.mono ?_; rintro e w1 ⟨a1, k1, rfl, ho1, hb1⟩; have HB1 := Lib.hid (pure_trans HXD.out hb1); have e1 : w1.cell? ⟨p, 1, none⟩ = some (.int .i64 r.vs.most) := (HCS.out _ HB1.out).2.1)))
      rename_i hHeld
      clear hHeld e1 c1 hb1 ho1 HPD
      simp only [Exit.then]
      go_at_K
      obtain ⟨f0, f1, f3, f4, fz, fn⟩ := HCS.out _ HB1.out
      cases hp : ((r.vs.pend.length : Int) == r.vs.most) with
      | true =>
        obtain rfl : A = (0, 10) := by rw [HA.out, if_pos hp]
        go_wp2
        go_ret2
        exact ⟨rfl, r, HST.out _ HB1.out, by rw [HV.out]; rfl⟩
      | false =>
        rw [if_neg (by rw [hp]; simp)] at HA
        go_wp2_with fail
        refine (HNU.out _ HB1.out).mono ?_
        rintro e w2 ⟨a2, k2, rfl, -, hb2⟩
        have HB2 := Lib.hid (pure_trans HB1.out hb2)
        clear hb2 f0 f1 f3 f4 fz fn
        obtain ⟨f0, f1, f3, f4, fz, fn⟩ := HCS.out _ HB2.out
        by_cases h5 : 0 < (r.vs.those (fun t => t.name.toList == nm.toList)).length
        · obtain rfl : A = (0, 6) := by rw [HA.out, if_pos (decide_eq_true h5)]
          generalize (r.vs.those (fun t => t.name.toList == nm.toList)).length = ln at *
          go_wp2
          go_ret2
          exact ⟨rfl, r, HST.out _ HB2.out, by rw [HV.out]; rfl⟩
        · rw [if_neg (by simp only [decide_eq_true_eq]; exact h5)] at HA
          generalize (r.vs.those (fun t => t.name.toList == nm.toList)).length = ln at *
          obtain rfl : ln = 0 := by omega
          by_cases h6 : r.vs.last = 1000000
          · obtain rfl : A = (0, 4) := by rw [HA.out, if_pos h6]
            have h6i : ((r.vs.last : Int) == 1000000) = true := by rw [h6]; rfl
            go_wp2
            go_ret2
            exact ⟨rfl, r, HST.out _ HB2.out, by rw [HV.out]; rfl⟩
          · obtain rfl : A = ((r.vs.last : Int) + 1, 0) := by rw [HA.out, if_neg h6]
            have h6i : ((r.vs.last : Int) == 1000000) = false := by rw [beq_eq_false_iff_ne]; omega
            obtain ⟨Z, hrun, r', hst, hvs⟩ := HTR.out w2 HB2.out (by omega)
            have hmk := HMK.out
            have hn1 : (w2.setCell ⟨p, 4, none⟩ (.int .i64 ((r.vs.last : Int) + 1))).cell? ⟨w.heap.size, 0, none⟩ = some (.string nm) := (mem_of_block (set_block_other hnp) 0).trans fn
            have hblk := set_block (o := 4) (v := .int .i64 ((r.vs.last : Int) + 1)) (HI0.out.pure HB2.out).hb
            have hq0 : (w2.setCell ⟨p, 4, none⟩ (.int .i64 ((r.vs.last : Int) + 1))).cell? ⟨p, 0, none⟩ = some (.int .i64 r.vs.tasks) := mem_cells hblk 0
            have hq3 : (w2.setCell ⟨p, 4, none⟩ (.int .i64 ((r.vs.last : Int) + 1))).cell? ⟨p, 3, none⟩ = some (.map (some r.mb)) := mem_cells hblk 3
            have hq4 : (w2.setCell ⟨p, 4, none⟩ (.int .i64 ((r.vs.last : Int) + 1))).cell? ⟨p, 4, none⟩ = some (.int .i64 ((r.vs.last : Int) + 1)) := mem_cells hblk 4
            have hVs : (w2.setCell ⟨p, 4, none⟩ (.int .i64 ((r.vs.last : Int) + 1))).heap.size = w2.heap.size := by simp [World.setCell]
            have z4 : Z.cell? ⟨p, 4, none⟩ = some (.int .i64 ((r.vs.last : Int) + 1)) := by
              have := mem_cells hst.inv.hb 4
              rw [hvs] at this
              exact this
            have HF := Lib.hid ((HST.out _ HB2.out).trans hst)
            have HV2 := Lib.hid (show r'.vs = r.vs.trigged nm by rw [hvs, HV.out]; simp)
            clear hst hvs HTR HMK HST HNU HCS HV HA hblk
            go_wp2_with fail
            generalize w2.setCell ⟨p, 4, none⟩ (.int .i64 ((r.vs.last : Int) + 1)) = V at *
            rw [← hVs] at hrun
            have hw1 := fun o : Obj => below_mem (box_below V o) _ _ _ hn1
            have hw3 := fun o : Obj => below_mem (box_below V o) _ _ _ hq3
            have hw4 := fun o : Obj => below_mem (box_below V o) _ _ _ hq4
            have hx3 := fun o o' : Obj => below_mem (box_below (V.alloc o) o') _ _ _ (hw3 o)
            have hx4 := fun o o' : Obj => below_mem (box_below (V.alloc o) o') _ _ _ (hw4 o)
            simp only [mem] at hw1 hw3 hw4 hx3 hx4
            clear f0 f1 f3 f4 fz fn hVs
            go_region
            go_wp2
            go_ret2
            exact ⟨rfl, r', HF.out, HV2.out⟩
end Go.Proofs.YtnfolemblnnejaaGreat
/- package vault: Tell. -/
namespace Go.Proofs.YtnfolemblnnejaaGreat
open Go.RowKit Go.Maps

/-- What Tell answers where the entries are valid: whether it completed, the error. -/
def tellAns (s : VS) (k task : Int) (x : Part) : Bool × Int :=
  if x.2.all validE = false then (false, 1) else match s.find k with
    | none => if task < 0 ∨ (s.tasks : Int) ≤ task then (false, 7) else (false, 8)
    | some t => if task < 0 ∨ (t.told.length : Int) ≤ task then (false, 7) else if t.bits.getD task.toNat false = true then (false, 6) else ((t.tell task.toNat x).done, 0)
theorem tellAns_bad {s : VS} {k task : Int} {x : Part} (h : x.2.all validE = false) : tellAns s k task x = (false, 1) := by
  unfold tellAns; rw [if_pos h]
theorem tellAns_none {s : VS} {k task : Int} {x : Part} (h : x.2.all validE = true) (hf : s.find k = none) : tellAns s k task x = if task < 0 ∨ (s.tasks : Int) ≤ task then (false, 7) else (false, 8) := by
  unfold tellAns; rw [if_neg (by rw [h]; simp), hf]
theorem tellAns_some {s : VS} {k task : Int} {x : Part} {t : Sn} (h : x.2.all validE = true) (hf : s.find k = some t) : tellAns s k task x = if task < 0 ∨ (t.told.length : Int) ≤ task then (false, 7) else if t.bits.getD task.toNat false = true then (false, 6) else ((t.tell task.toNat x).done, 0) := by
  unfold tellAns; rw [if_neg (by rw [h]; simp), hf]
/-- Behind Tell. -/
def VS.told (s : VS) (k task : Int) (x : Part) : VS :=
  if (tellAns s k task x).2 ≠ 0 then s else if (tellAns s k task x).1 = true then
    ((s.upd k (fun t => t.tell task.toNat x)).dels ((s.upd k (fun t => t.tell task.toNat x)).pend.filter (fun j => decide (j < k)))).dropped
  else s.upd k (fun t => t.tell task.toNat x)
theorem tell_bits {t : Sn} {i : Nat} (hi : i < t.told.length) (x : Part) : bw (t.tell i x).bits = bw t.bits ||| 2 ^ i := by
  have : (t.tell i x).bits = t.bits.set i true := by
    unfold Sn.bits Sn.tell
    rw [List.map_set]
    rfl
  rw [this, bw_set]
  unfold Sn.bits
  simpa using hi
theorem bits_lt {t : Sn} (h : t.told.length ≤ 40) : bw t.bits < 18446744073709551616 := by
  have h1 := bw_lt t.bits
  have h2 : t.bits.length = t.told.length := by unfold Sn.bits; simp
  rw [h2] at h1
  have := pow40 h
  omega
/-- The loop of Tell behind a snapshot that is complete. -/
theorem dels_filter {s : VS} {ks : List Int} {k j : Int} (h : j < k) : (s.dels (ks.filter (fun j => decide (j < k)))).del j = s.dels ((ks ++ [j]).filter (fun j => decide (j < k))) := by
  rw [dels_snoc, List.filter_append]
  simp [h]
theorem dels_filter_no {ks : List Int} {k j : Int} (h : ¬ j < k) : (ks ++ [j]).filter (fun j => decide (j < k)) = ks.filter (fun j => decide (j < k)) := by
  rw [List.filter_append]
  simp [h]
set_option maxRecDepth 100000 in
set_option maxHeartbeats 8000000 in
theorem vTell_bad {base p : Nat} {r : HV} (k task : Int) (x : Part) (v : Value) (w : World) (hI : VInv w base p r) (hk : inI64 k) (htk : inI64 task) (ht : x.1.size ≤ 65536) (hv : tEnts.rv (mem w) [v] x.2) (hl : x.2.length ≤ 4000) (hc : (tellAns r.vs k task x).2 ≠ 0) :
    Calls Tryz.prog 11 #[ptrTo p, .int .i64 k, .int .i64 task, .string x.1, v] w fun e w' => e = .returned (.tuple #[.bool (tellAns r.vs k task x).1, .int .i64 (tellAns r.vs k task x).2]) ∧ Below w.heap.size w w' := by
  have HC := Lib.hid (containsFuncEnt 43 #[] (fun y => !validE y) x.2 v w hv (fun _ _ => rfl) (fun y hy wr _ => tell1_any y wr hy))
  have HAL := Lib.hid (show x.2.all validE = !x.2.any (fun y => !validE y) by rw [List.all_eq_not_any_not])
  have HA1 := Lib.hid (fun h => tellAns_bad (s := r.vs) (k := k) (task := task) (x := x) h)
  have HA2 := Lib.hid (fun h hf => tellAns_none (s := r.vs) (k := k) (task := task) (x := x) h hf)
  have HA3 := Lib.hid (fun h t hf => tellAns_some (s := r.vs) (k := k) (task := task) (x := x) (t := t) h hf)
  generalize tellAns r.vs k task x = A at *
  obtain ⟨text, es⟩ := x
  simp only at HC HAL ht hv hl HA1 HA2 HA3 ⊢
  obtain ⟨ae, ke, rfl, hl1, hm1, -⟩ := slice_form hv
  have hke : ke ≤ 9223372036854775807 := by unfold maxLen at hm1; exact hm1
  have hti : (text.size : Int) ≤ 65536 := by omega
  have hli : (es.length : Int) ≤ 4000 := by omega
  generalize es.any (fun y => !validE y) = bad at *
  clear hm1 hv
  cases bad with
  | true =>
    obtain rfl : A = (false, 1) := HA1.out (by rw [HAL.out]; rfl)
    clear hI
    go_enter Tryz.func11, Tryz.ntmps11
    go_wp2_with fail
    refine HC.out.mono ?_
    rintro e w1 ⟨rfl, hb⟩
    go_wp2
    go_ret2
    exact ⟨rfl, hb⟩
  | false =>
    have hva : es.all validE = true := by rw [HAL.out]; rfl
    have HI := Lib.hid hI
    have hdr : ∀ w' : World, Below w'.heap.size w' w'.drew := fun w' => (Below.refl _ _).drew
    have HCS := Lib.hid (fun (w' : World) (hb : Below w.heap.size w w') => (show w'.cell? ⟨p, 0, none⟩ = some (.int .i64 r.vs.tasks) ∧ w'.cell? ⟨p, 3, none⟩ = some (.map (some r.mb)) from by
      have h := (hI.pure hb).hb
      exact ⟨mem_cells h 0, mem_cells h 3⟩))
    cases hf : r.vs.find k with
    | none =>
      have HA := Lib.hid (HA2.out hva hf)
      have HLK := Lib.hid (fun (w' : World) (hb : Below w.heap.size w w') => (hI.pure hb).look_none hk hf)
      clear hI
      go_enter Tryz.func11, Tryz.ntmps11
      go_wp2_with fail
      refine HC.out.mono ?_
      rintro e w1 ⟨rfl, hb⟩
      obtain ⟨c0, c3⟩ := HCS.out _ hb
      have hlk := HLK.out _ (pure_trans hb (hdr w1))
      go_wp2_with fail
      go_region
      by_cases h1 : task < 0
      · obtain rfl := HA.out.trans (if_pos (.inl h1))
        go_wp2
        go_ret2
        exact ⟨rfl, hb.drew⟩
      by_cases h2 : (r.vs.tasks : Int) ≤ task
      · obtain rfl := HA.out.trans (if_pos (.inr h2))
        go_wp2
        go_ret2
        exact ⟨rfl, hb.drew⟩
      · obtain rfl := HA.out.trans (if_neg (by omega))
        go_wp2
        go_ret2
        exact ⟨rfl, hb.drew⟩
    | some t =>
      have HA := Lib.hid (HA3.out hva t hf)
      have hm := find_mem hf
      have hta := (hI.ok.tk _ hm).2.1
      simp only at hta
      have HLK := Lib.hid (fun (w' : World) (hb : Below w.heap.size w w') => (hI.pure hb).look_some hf)
      have HSN := Lib.hid (fun (w' : World) (hb : Below w.heap.size w w') => ((hI.pure hb).sb _ hm).1)
      simp only at HSN
      have hbl := bits_lt hta
      have HBT := Lib.hid (bw_bit t.bits)
      unfold snCells at HSN
      clear hI hf hm
      go_enter Tryz.func11, Tryz.ntmps11
      go_wp2_with fail
      refine HC.out.mono ?_
      rintro e w1 ⟨rfl, hb⟩
      obtain ⟨c0, c3⟩ := HCS.out _ hb
      have hlk := HLK.out _ (pure_trans hb (hdr w1))
      have hsn := HSN.out _ (pure_trans hb (hdr w1))
      have d1 : w1.drew.cell? ⟨r.ad k, 1, none⟩ = some (.int .u64 (bw t.bits)) := mem_cells hsn 1
      have d2 : w1.drew.cell? ⟨r.ad k, 2, none⟩ = some (.int .u64 0) := mem_cells hsn 2
      have d3 : w1.drew.cell? ⟨r.ad k, 3, none⟩ = some (.int .u64 0) := mem_cells hsn 3
      have d4 : w1.drew.cell? ⟨r.ad k, 4, none⟩ = some (.int .u64 0) := mem_cells hsn 4
      have d5 : w1.drew.cell? ⟨r.ad k, 5, none⟩ = some (.int .u64 0) := mem_cells hsn 5
      have d6 : w1.drew.cell? ⟨r.ad k, 6, none⟩ = some (.int .u64 0) := mem_cells hsn 6
      have d7 : w1.drew.cell? ⟨r.ad k, 7, none⟩ = some (.int .u64 0) := mem_cells hsn 7
      have d8 : w1.drew.cell? ⟨r.ad k, 8, none⟩ = some (.slice (some ⟨r.pb k, 0, none⟩) t.told.length t.told.length) := mem_cells hsn 8
      clear hsn
      go_wp2_with fail
      go_region
      by_cases h1 : task < 0
      · obtain rfl := HA.out.trans (if_pos (.inl h1))
        go_wp2
        go_ret2
        exact ⟨rfl, hb.drew⟩
      by_cases h2 : (t.told.length : Int) ≤ task
      · obtain rfl := HA.out.trans (if_pos (.inr h2))
        go_wp2
        go_ret2
        exact ⟨rfl, hb.drew⟩
      · rw [if_neg (by omega)] at HA
        obtain ⟨i, rfl⟩ := Int.eq_ofNat_of_zero_le (show 0 ≤ task by omega)
        rw [Int.toNat_natCast] at HA
        have HH := Lib.hid (has_any (bw t.bits) i w1.drew (by omega) hbl)
        rw [HBT.out] at HH
        cases hb2 : t.bits.getD i false with
        | false =>
          exfalso
          rw [hb2] at HA
          rw [HA.out] at hc
          exact hc rfl
        | true =>
          rw [hb2] at HH
          obtain rfl := HA.out.trans (if_pos hb2)
          go_wp2_with fail
          refine HH.out.mono ?_
          rintro e w2 ⟨rfl, hb3⟩
          have HB3 := Lib.hid (pure_trans hb.drew hb3)
          go_wp2
          go_ret2
          exact ⟨rfl, HB3.out⟩
end Go.Proofs.YtnfolemblnnejaaGreat
/- package vault: Tell, where it is told. -/
namespace Go.Proofs.YtnfolemblnnejaaGreat
open Go.RowKit Go.Maps

theorem tell_cells (t : Sn) (i : Nat) (x : Part) (b : Nat) : snCells (t.tell i x) b = #[.string t.name, .int .u64 (bw (t.tell i x).bits), .int .u64 0, .int .u64 0, .int .u64 0, .int .u64 0, .int .u64 0, .int .u64 0, .slice (some ⟨b, 0, none⟩) t.told.length t.told.length] := by
  have hl : (t.tell i x).told.length = t.told.length := by simp [Sn.tell]
  unfold snCells
  rw [hl]
  rfl
theorem tell_world {W V w4 : World} {base p : Nat} {r : HV} (h : VInv W base p r) {k : Int} {t : Sn} {i : Nat} {x : Part} (hm : (k, t) ∈ r.vs.all) (hi : i < t.told.length) (ht : x.1.size ≤ 65536) (hk : Keeps (fun b => b = r.ad k) W V)
    (hvb : V.heap[r.ad k]? = some (.cells #[.string t.name, .int .u64 (bw (t.tell i x).bits), .int .u64 0, .int .u64 0, .int .u64 0, .int .u64 0, .int .u64 0, .int .u64 0, .slice (some ⟨r.pb k, 0, none⟩) t.told.length t.told.length] 88 (0, 0))) (hb4 : Below V.drew.heap.size V.drew w4) {a4 : Option Addr} {k4 : Nat} (ho : Owns tEnt w4 V.drew.heap.size 92 (.slice a4 x.2.length k4) x.2) :
    VStep W base p r ((w4.alloc (.cells #[.string x.1, .slice a4 x.2.length k4] 99)).setCell ⟨r.pb k, i, none⟩ (.pointer (some ⟨w4.heap.size, 0, none⟩))) { r with vs := r.vs.upd k (fun t => t.tell i x) } := by
  have hkn := mem_nums hm
  have hne := (h.apart.2 k hkn).2.2.2.2 k hkn
  have hpl := h.kind _ (.inr (.inr ⟨k, hkn, .inr rfl⟩))
  have hwV := hk.size
  have hVs : V.drew.heap.size = V.heap.size := rfl
  have hV4 := hb4.size
  rw [hVs] at hV4
  have hb4' : Below V.heap.size V w4 := (Below.refl V.heap.size V).drew.trans hb4
  have hal : V.heap.size ≤ w4.heap.size := hV4
  have hpn : w4.heap.size ≠ r.pb k := fun e => Nat.lt_irrefl _ (Nat.lt_of_lt_of_le hpl (Nat.le_trans hwV (Nat.le_trans hal (Nat.le_of_eq e))))
  have hzp : ((w4.alloc (.cells #[.string x.1, .slice a4 x.2.length k4] 99)).setCell ⟨r.pb k, i, none⟩ (.pointer (some ⟨w4.heap.size, 0, none⟩))).heap[w4.heap.size]? = some (.cells #[.string x.1, .slice a4 x.2.length k4] 99 (0, 0)) := (set_block_other hpn).trans (heap_alloc_new w4 _)
  have hW4 : W.heap.size ≤ w4.heap.size := Nat.le_trans hwV hal
  refine h.tell hm (a := w4.heap.size) hi ?_ ?_ (fun arr harr => ?_) ?_
  · exact (((hk.wide (fun b _ e => .inl e)).trans ((below_keeps hb4').wide (fun b h1 h2 => absurd h2 (Nat.not_le_of_lt h1)))).alloc _).setCell (p := ⟨r.pb k, i, none⟩) (fun _ => .inr rfl) _
  · rw [tell_cells]
    exact (set_block_other (Ne.symm hne)).trans ((Below.heap_alloc _ _ _ (Nat.lt_of_lt_of_le (Array.getElem?_eq_some_iff.1 hvb).1 hal)).trans ((hb4'.block _ (Array.getElem?_eq_some_iff.1 hvb).1).trans hvb))
  · have h1 := (hk.block _ hpl hne).trans harr
    have hlV := (Array.getElem?_eq_some_iff.1 h1).1
    exact set_block (o := i) ((Below.heap_alloc _ _ _ (Nat.lt_of_lt_of_le hlV hal)).trans ((hb4'.block _ hlV).trans h1))
  · refine ⟨w4.heap.size, .slice a4 x.2.length k4, rfl, Mem.on_some (mem_cells hzp 0) hW4, Mem.on_some (mem_cells hzp 1) hW4, tEnts.mono _ _ _ _ (fun b o u e => ?_) (ho.rv (S := (V.drew.heap.size ≤ ·)) (fun b h => h) (fun _ _ _ h => h)), by unfold maxLen; omega⟩
    obtain ⟨hb, e⟩ := Mem.of_on e
    have hlt := mem_lt e
    have hVb : V.heap.size ≤ b := hb
    have h2 : b ≠ r.pb k := fun e2 => Nat.lt_irrefl _ (Nat.lt_of_lt_of_le hpl (Nat.le_trans hwV (e2 ▸ hVb)))
    exact Mem.on_some ((mem_of_block (set_block_other h2) o).trans (below_mem (box_below w4 _) _ _ _ e)) (Nat.le_trans hwV hVb)
set_option maxRecDepth 100000 in
set_option maxHeartbeats 16000000 in
theorem vTell_ok {base p : Nat} {r : HV} (k : Int) (i : Nat) (x : Part) (v : Value) (w : World) (t : Sn) (hI : VInv w base p r) (hf : r.vs.find k = some t) (hi : i < t.told.length) (hbit : t.bits.getD i false = false) (hva : x.2.all validE = true) (ht : x.1.size ≤ 65536) (hv0 : tEnts.rv (safeV w p r) [v] x.2) (hl : x.2.length ≤ 4000) :
    Calls Tryz.prog 11 #[ptrTo p, .int .i64 k, .int .i64 i, .string x.1, v] w fun e w' => e = .returned (.tuple #[.bool (t.tell i x).done, .int .i64 0]) ∧ ∃ r', VStep w base p r w' r' ∧ r'.vs = r.vs.told k i x := by
  have hv : tEnts.rv (mem w) [v] x.2 := tEnts.mono _ _ _ _ (Mem.on_le _ _) hv0
  have hm := find_mem hf
  have hta := (hI.ok.tk _ hm).2.1
  simp only at hta
  have HTD := Lib.hid (show r.vs.told k i x = if (t.tell i x).done = true then ((r.vs.upd k (fun t => t.tell i x)).dels ((r.vs.upd k (fun t => t.tell i x)).pend.filter (fun j => decide (j < k)))).dropped else r.vs.upd k (fun t => t.tell i x) from by
    have ha : tellAns r.vs k i x = ((t.tell i x).done, 0) := by
      rw [tellAns_some hva hf, if_neg (by omega), Int.toNat_natCast, if_neg (by rw [hbit]; simp)]
    unfold VS.told
    rw [ha]
    simp)
  have HC := Lib.hid (containsFuncEnt 43 #[] (fun y => !validE y) x.2 v w hv (fun _ _ => rfl) (fun y hy wr _ => tell1_any y wr hy))
  rw [show x.2.any (fun y => !validE y) = false by rw [List.all_eq_not_any_not] at hva; simpa using hva] at HC
  have HVV := Lib.hid (fun (w' : World) (hb : Below w.heap.size w w') => (show tEnts.rv (mem w') [v] x.2 from tEnts.mono _ _ _ _ (below_mem hb) hv))
  have HI := Lib.hid hI
  have HM := Lib.hid hm
  have hdr : ∀ w' : World, Below w'.heap.size w' w'.drew := fun w' => (Below.refl _ _).drew
  have HCS := Lib.hid (fun (w' : World) (hb : Below w.heap.size w w') => (show w'.cell? ⟨p, 0, none⟩ = some (.int .i64 r.vs.tasks) ∧ w'.cell? ⟨p, 3, none⟩ = some (.map (some r.mb)) from by
    have h := (hI.pure hb).hb
    exact ⟨mem_cells h 0, mem_cells h 3⟩))
  have HLK := Lib.hid (fun (w' : World) (hb : Below w.heap.size w w') => (hI.pure hb).look_some hf)
  have HSN := Lib.hid (fun (w' : World) (hb : Below w.heap.size w w') => ((hI.pure hb).sb _ hm).1)
  simp only at HSN
  have hbl := bits_lt hta
  have HTB := Lib.hid (tell_bits hi x)
  have HBT := Lib.hid ((bw_bit t.bits i).trans hbit)
  obtain ⟨arr, HPB, HPS⟩ : ∃ arr, Hid (w.heap[r.pb k]? = some (.cells arr 96 (0, 0))) ∧ Hid (arr.size = t.told.length) := by
    obtain ⟨_, arr, h2, h3, _⟩ := hI.sb _ hm
    exact ⟨arr, Lib.hid h2, Lib.hid h3⟩
  have HNE := Lib.hid ((hI.apart.2 k (mem_nums hm)).2.2.2.2 k (mem_nums hm))
  have HKA := Lib.hid (show r.ad k < w.heap.size ∧ r.pb k < w.heap.size from ⟨hI.kind _ (.inr (.inr ⟨k, mem_nums hm, .inl rfl⟩)), hI.kind _ (.inr (.inr ⟨k, mem_nums hm, .inr rfl⟩))⟩)
  unfold snCells at HSN
  obtain ⟨ae, ke, rfl, hl1, hm1, -⟩ := slice_form hv
  have hke : ke ≤ 9223372036854775807 := by unfold maxLen at hm1; exact hm1
  have hti : (x.1.size : Int) ≤ 65536 := by omega
  have hli : (x.2.length : Int) ≤ 4000 := by omega
  have HV0 := Lib.hid hv0
  have HKN := Lib.hid (mem_nums hm)
  clear hI hf hm hv hm1 hbit hva hv0
  go_enter Tryz.func11, Tryz.ntmps11
  go_wp2_with fail
  refine HC.out.mono ?_
  rintro e w1 ⟨rfl, hb⟩
  obtain ⟨c0, c3⟩ := HCS.out _ hb
  have hlk := HLK.out _ (pure_trans hb (hdr w1))
  have hsn := HSN.out _ (pure_trans hb (hdr w1))
  have d1 : w1.drew.cell? ⟨r.ad k, 1, none⟩ = some (.int .u64 (bw t.bits)) := mem_cells hsn 1
  have d2 : w1.drew.cell? ⟨r.ad k, 2, none⟩ = some (.int .u64 0) := mem_cells hsn 2
  have d3 : w1.drew.cell? ⟨r.ad k, 3, none⟩ = some (.int .u64 0) := mem_cells hsn 3
  have d4 : w1.drew.cell? ⟨r.ad k, 4, none⟩ = some (.int .u64 0) := mem_cells hsn 4
  have d5 : w1.drew.cell? ⟨r.ad k, 5, none⟩ = some (.int .u64 0) := mem_cells hsn 5
  have d6 : w1.drew.cell? ⟨r.ad k, 6, none⟩ = some (.int .u64 0) := mem_cells hsn 6
  have d7 : w1.drew.cell? ⟨r.ad k, 7, none⟩ = some (.int .u64 0) := mem_cells hsn 7
  have d8 : w1.drew.cell? ⟨r.ad k, 8, none⟩ = some (.slice (some ⟨r.pb k, 0, none⟩) t.told.length t.told.length) := mem_cells hsn 8
  have HH := Lib.hid (has_any (bw t.bits) i w1.drew (by omega) hbl)
  rw [HBT.out] at HH
  have HB1 := Lib.hid hb.drew
  clear hsn hb HC
  go_wp2_with fail
  go_region
  go_wp2_with fail
  refine HH.out.mono ?_
  rintro e w2 ⟨rfl, hb3⟩
  have HB2 := Lib.hid (pure_trans HB1.out hb3)
  clear d1 d2 d3 d4 d5 d6 d7 d8 c0 c3 hlk hb3 HH HB1
  have hsn := HSN.out _ HB2.out
  have d1 : w2.cell? ⟨r.ad k, 1, none⟩ = some (.int .u64 (bw t.bits)) := mem_cells hsn 1
  have d2 : w2.cell? ⟨r.ad k, 2, none⟩ = some (.int .u64 0) := mem_cells hsn 2
  have d3 : w2.cell? ⟨r.ad k, 3, none⟩ = some (.int .u64 0) := mem_cells hsn 3
  have d4 : w2.cell? ⟨r.ad k, 4, none⟩ = some (.int .u64 0) := mem_cells hsn 4
  have d5 : w2.cell? ⟨r.ad k, 5, none⟩ = some (.int .u64 0) := mem_cells hsn 5
  have d6 : w2.cell? ⟨r.ad k, 6, none⟩ = some (.int .u64 0) := mem_cells hsn 6
  have d7 : w2.cell? ⟨r.ad k, 7, none⟩ = some (.int .u64 0) := mem_cells hsn 7
  have HW := Lib.hid (with_any (bw t.bits) i w2 (by omega) hbl)
  clear hsn
  go_wp2_with fail
  refine HW.out.mono ?_
  rintro e w3 ⟨rfl, hb3⟩
  have HB3 := Lib.hid (pure_trans HB2.out hb3)
  clear d1 d2 d3 d4 d5 d6 d7 hb3 HW HB2
  rw [← HTB.out]
  have hsn := HSN.out _ HB3.out
  have d1 : w3.cell? ⟨r.ad k, 1, none⟩ = some (.int .u64 (bw t.bits)) := mem_cells hsn 1
  have d2 : w3.cell? ⟨r.ad k, 2, none⟩ = some (.int .u64 0) := mem_cells hsn 2
  have d3 : w3.cell? ⟨r.ad k, 3, none⟩ = some (.int .u64 0) := mem_cells hsn 3
  have d4 : w3.cell? ⟨r.ad k, 4, none⟩ = some (.int .u64 0) := mem_cells hsn 4
  have d5 : w3.cell? ⟨r.ad k, 5, none⟩ = some (.int .u64 0) := mem_cells hsn 5
  have d6 : w3.cell? ⟨r.ad k, 6, none⟩ = some (.int .u64 0) := mem_cells hsn 6
  have d7 : w3.cell? ⟨r.ad k, 7, none⟩ = some (.int .u64 0) := mem_cells hsn 7
  have z1 := frozen_cells hsn 1
  have z2 := frozen_cells hsn 2
  have z3 := frozen_cells hsn 3
  have z4 := frozen_cells hsn 4
  have z5 := frozen_cells hsn 5
  have z6 := frozen_cells hsn 6
  have z7 := frozen_cells hsn 7
  have HVB := Lib.hid (store7_block9 hsn (.int .u64 (bw (t.tell i x).bits)) (.int .u64 0) (.int .u64 0) (.int .u64 0) (.int .u64 0) (.int .u64 0) (.int .u64 0))
  have HVK := Lib.hid (store7_keeps w3 (r.ad k) 1 (.int .u64 (bw (t.tell i x).bits)) (.int .u64 0) (.int .u64 0) (.int .u64 0) (.int .u64 0) (.int .u64 0) (.int .u64 0))
  have HVB : Hid ((((((((w3.setCell ⟨r.ad k, 1, none⟩ (.int .u64 (bw (t.tell i x).bits))).setCell ⟨r.ad k, 2, none⟩ (.int .u64 0)).setCell ⟨r.ad k, 3, none⟩ (.int .u64 0)).setCell ⟨r.ad k, 4, none⟩ (.int .u64 0)).setCell ⟨r.ad k, 5, none⟩ (.int .u64 0)).setCell ⟨r.ad k, 6, none⟩ (.int .u64 0)).setCell ⟨r.ad k, 7, none⟩ (.int .u64 0)).heap[r.ad k]? = some (.cells #[.string t.name, .int .u64 (bw (t.tell i x).bits), .int .u64 0, .int .u64 0, .int .u64 0, .int .u64 0, .int .u64 0, .int .u64 0, .slice (some ⟨r.pb k, 0, none⟩) t.told.length t.told.length] 88 (0, 0))) := Lib.hid HVB.out
  have HVK : Hid (Keeps (fun b => b = r.ad k) w3 (((((((w3.setCell ⟨r.ad k, 1, none⟩ (.int .u64 (bw (t.tell i x).bits))).setCell ⟨r.ad k, 2, none⟩ (.int .u64 0)).setCell ⟨r.ad k, 3, none⟩ (.int .u64 0)).setCell ⟨r.ad k, 4, none⟩ (.int .u64 0)).setCell ⟨r.ad k, 5, none⟩ (.int .u64 0)).setCell ⟨r.ad k, 6, none⟩ (.int .u64 0)).setCell ⟨r.ad k, 7, none⟩ (.int .u64 0))) := Lib.hid HVK.out
  clear hsn
  go_wp2_with fail
  generalize (((((((w3.setCell ⟨r.ad k, 1, none⟩ (.int .u64 (bw (t.tell i x).bits))).setCell ⟨r.ad k, 2, none⟩ (.int .u64 0)).setCell ⟨r.ad k, 3, none⟩ (.int .u64 0)).setCell ⟨r.ad k, 4, none⟩ (.int .u64 0)).setCell ⟨r.ad k, 5, none⟩ (.int .u64 0)).setCell ⟨r.ad k, 6, none⟩ (.int .u64 0)).setCell ⟨r.ad k, 7, none⟩ (.int .u64 0)) = V at *
  have HWV := Lib.hid (show Keeps (fun b => b = r.ad k) w V from ((below_keeps HB3.out).wide (fun b h1 h2 => by omega)).trans HVK.out)
  have HVW := Lib.hid (show tEnts.rv (mem V.drew) [.slice ae x.2.length ke] x.2 from tEnts.mono _ _ _ _ (fun b o u e => by
    obtain ⟨⟨hs, -⟩, e⟩ := Mem.of_on e
    exact (mem_of_block (HWV.out.block b (mem_lt e) (fun h => hs (.inr (.inr ⟨k, HKN.out, .inl h⟩)))) o).trans e) HV0.out)
  have HCL := Lib.hid (cloneEnts_any x.2 _ V.drew HVW.out (by omega))
  have HVD := Lib.hid (fun (w' : World) (hb : Below V.drew.heap.size V.drew w') => (show w'.heap[r.ad k]? = some (.cells #[.string t.name, .int .u64 (bw (t.tell i x).bits), .int .u64 0, .int .u64 0, .int .u64 0, .int .u64 0, .int .u64 0, .int .u64 0, .slice (some ⟨r.pb k, 0, none⟩) t.told.length t.told.length] 88 (0, 0)) ∧ w'.heap[r.pb k]? = some (.cells arr 96 (0, 0)) from by
    refine ⟨(hb.block _ (Array.getElem?_eq_some_iff.1 HVB.out).1).trans HVB.out, ?_⟩
    have h := (HWV.out.block _ HKA.out.2 HNE.out).trans HPB.out
    exact (hb.block _ (Array.getElem?_eq_some_iff.1 h).1).trans h))
  obtain ⟨pv, hpv⟩ : ∃ pv, arr[i]? = some pv := ⟨arr[i]'(by have := HPS.out; omega), Array.getElem?_eq_getElem (by have := HPS.out; omega)⟩
  have HPV := Lib.hid hpv
  have d8 : V.drew.cell? ⟨r.ad k, 8, none⟩ = some (.slice (some ⟨r.pb k, 0, none⟩) t.told.length t.told.length) := mem_cells (HVD.out _ (Below.refl _ _)).1 8
  clear d1 d2 d3 d4 d5 d6 d7 z1 z2 z3 z4 z5 z6 z7 hpv
  go_region_law (go_simp; go_at_call 47; refine HCL.out.mono ?_; rintro e w4 ⟨xv, rfl, ho4, hb4⟩; obtain ⟨a4, k4, rfl, _⟩ := ho4.len; have HO4 := Lib.hid ho4; have HB4 := Lib.hid hb4; have e8 : w4.cell? ⟨r.ad k, 8, none⟩ = some (.slice (some ⟨r.pb k, 0, none⟩) t.told.length t.told.length) := mem_cells (HVD.out _ HB4.out).1 8; have e9 := fun o : Obj => (show (w4.alloc o).cell? ⟨r.ad k, 8, none⟩ = some (.slice (some ⟨r.pb k, 0, none⟩) t.told.length t.told.length) from mem_cells (HVD.out _ (HB4.out.alloc HB4.out.size o)).1 8); have ep := fun o : Obj => (show (w4.alloc o).cell? ⟨r.pb k, i, none⟩ = some pv from (mem_cells (HVD.out _ (HB4.out.alloc HB4.out.size o)).2 i).trans HPV.out); have ez := fun o : Obj => frozen_cells (HVD.out _ (HB4.out.alloc HB4.out.size o)).2 i; clear ho4 hb4)
  all_goals
    have HSTP := Lib.hid (show VStep w base p r ((w4.alloc (.cells #[.string x.1, .slice a4 x.2.length k4] 99)).setCell ⟨r.pb k, i, none⟩ (.pointer (some ⟨w4.heap.size, 0, none⟩))) { r with vs := r.vs.upd k (fun t => t.tell i x) } from tell_world HI.out HM.out hi ht HWV.out HVB.out HB4.out HO4.out)
    clear e8 e9 ep ez HO4 HB4 HVD HCL HVW HWV HVK HVB HPB HPS HV0 HKN HKA HLK HSN HCS HB3 HVV HPV d8
    simp only [Exit.then]
    go_at_K
    generalize ((w4.alloc (.cells #[.string x.1, .slice a4 x.2.length k4] 99)).setCell ⟨r.pb k, i, none⟩ (.pointer (some ⟨w4.heap.size, 0, none⟩))) = Y at *
    have HMU := Lib.hid (show (k, t.tell i x) ∈ (r.vs.upd k (fun t => t.tell i x)).all from by
      refine List.mem_map.2 ⟨(k, t), HM.out, ?_⟩
      simp)
    have HC2 := Lib.hid (complete_any (r.ad k) (r.pb k) (t.tell i x) Y (HSTP.out.inv.sb _ HMU.out).1 (by simp [Sn.tell]; exact hta))
    generalize hdn : (t.tell i x).done = dn at *
    have HDN := Lib.hid hdn
    clear hdn
    go_wp2_with fail
    refine HC2.out.mono ?_
    rintro e w5 ⟨rfl, hb5⟩
    have HS5 := Lib.hid (HSTP.out.trans (VStep.pure HSTP.out.inv hb5))
    clear hb5 HC2
    cases dn with
    | false =>
      have HVT := Lib.hid (show r.vs.upd k (fun t => t.tell i x) = r.vs.told k i x by rw [HTD.out]; simp)
      go_wp2
      go_ret2
      exact ⟨by rw [HDN.out] <;> rfl, _, HS5.out, HVT.out⟩
    | true =>
      have HVT := Lib.hid (show r.vs.told k i x = ((r.vs.upd k (fun t => t.tell i x)).dels ((r.vs.upd k (fun t => t.tell i x)).pend.filter (fun j => decide (j < k)))).dropped by rw [HTD.out]; simp)
      have HP := Lib.hid (vPending_any w5 HS5.out.inv)
      simp only at HP
      generalize hs1 : r.vs.upd k (fun t => t.tell i x) = s1 at *
      have hok1 := HS5.out.inv.ok
      have hcl := those_len hok1 (fun t => !t.done)
      change s1.pend.length ≤ 1000000 at hcl
      have HIN := Lib.hid (fun (j : Int) (hj : j ∈ s1.pend) => those_i64 hok1 hj)
      have HML := Lib.hid (fun (b : Nat) (h : mutV p { r with vs := s1 } b) => (show b < w5.heap.size from HS5.out.inv.kind b h))
      clear hok1 hs1 HTD HSTP
      go_wp2_with fail
      refine HP.out.mono ?_
      rintro e X ⟨a6, cap, rfl, ho, hb⟩
      generalize hsp : s1.pend = l at *
      have HKR := Lib.hid ho.rv'
      have HOB := Lib.hid (fun (b : Nat) (h : (Value.slice a6 l.length cap).ownBlock = some b) => (show w5.heap.size ≤ b ∧ b < X.heap.size from ho.lt b h))
      have hcp : cap ≤ 9223372036854775807 ∧ l.length ≤ cap := by
        obtain ⟨a', k', e', h2, h3, -⟩ := slice_form ho.rv'
        simp only [Value.slice.injEq] at e'
        unfold maxLen at h3
        rw [e'.2.2]; exact ⟨h3, h2⟩
      obtain ⟨hc1, hc2⟩ := hcp
      have HS6 := Lib.hid (HS5.out.trans (VStep.pure HS5.out.inv hb))
      clear ho hb HP hsp
      go_wp2_with fail
      go_loopw [93] (fun iv wr => ∃ (j : Nat) (r' : HV), j ≤ l.length ∧ iv = .int .i64 j ∧ Hid (VStep X base p { r with vs := s1 } wr r') ∧ Hid (r'.vs = s1.dels ((l.take j).filter (fun j => decide (j < k))))) (fun iv _ => l.length - (intOf iv).toNat)
      case atStart => exact ⟨0, { r with vs := s1 }, Nat.zero_le _, rfl, Lib.hid (VStep.pure HS6.out.inv (Below.refl _ _)), Lib.hid (by rw [List.take_zero]; exact (dels_nil s1).symm)⟩
      case round =>
        obtain ⟨j, r', hj, rfl, HST, HV⟩ := hrel
        by_cases hlt : j < l.length
        · obtain ⟨b, o, e, hat⟩ := slice_at HKR.out hlt
          subst e
          have hob := HOB.out b rfl
          have d3 : wr.cell? ⟨b, o + j, none⟩ = some (.int .i64 l[j]) := by
            refine (HST.out.cell (b := b) (by omega) (fun h => by have := HML.out _ h; omega) (o + j)).trans ?_
            have := (int_at hat).1
            simpa [tInt, mem] using this
          have hin := HIN.out _ (List.getElem_mem hlt)
          have HTK := Lib.hid (show l.take (j + 1) = l.take j ++ [l[j]] from List.take_succ_eq_append_getElem hlt)
          clear hat hob
          generalize l[j] = y at *
          have x3 : wr.cell? ⟨p, 3, none⟩ = some (.map (some r'.mb)) := mem_cells HST.out.inv.hb 3
          by_cases hyk : y < k
          · obtain ⟨Z, hrun, hst⟩ := HST.out.inv.del hin 0
            have HS4 := Lib.hid (HST.out.trans hst)
            have HV2 := Lib.hid (show r'.vs.del y = s1.dels ((l.take (j + 1)).filter (fun j => decide (j < k))) by rw [HV.out, dels_filter hyk, HTK.out])
            clear HTK HV hst HST
            go_wp2
            go_roundw
            case rel => exact ⟨j + 1, _, by omega, by go_num, HS4, HV2⟩
            case measure => simp [intOf]; omega
          · have HV2 := Lib.hid (show r'.vs = s1.dels ((l.take (j + 1)).filter (fun j => decide (j < k))) by rw [HV.out, HTK.out, dels_filter_no hyk])
            clear HTK HV
            go_wp2
            go_roundw
            case rel => exact ⟨j + 1, r', by omega, by go_num, HST, HV2⟩
            case measure => simp [intOf]; omega
        · obtain rfl : j = l.length := by omega
          rw [List.take_length] at HV
          have HF := Lib.hid (HS6.out.trans HST.out)
          have HD := Lib.hid (drop_any wr HST.out.inv)
          clear HST
          go_wp2_with fail
          refine HD.out.mono ?_
          rintro e w7 ⟨rfl, r7, hst, hvs⟩
          have HF7 := Lib.hid (HF.out.trans hst)
          have HV7 := Lib.hid (show r7.vs = r.vs.told k i x by rw [hvs, HV.out, HVT.out])
          clear hst hvs HD
          go_wp2
          go_ret2
          exact ⟨by rw [HDN.out] <;> rfl, r7, HF7.out, HV7.out⟩
end Go.Proofs.YtnfolemblnnejaaGreat
/- package vault: Tell, whatever it answers. -/
namespace Go.Proofs.YtnfolemblnnejaaGreat
open Go.RowKit Go.Maps

/-- When Tell is heard. -/
theorem tell_heard {s : VS} {k task : Int} {x : Part} (h : (tellAns s k task x).2 = 0) :
    ∃ (t : Sn) (i : Nat), task = i ∧ s.find k = some t ∧ i < t.told.length ∧ t.bits.getD i false = false ∧ x.2.all validE = true ∧ tellAns s k task x = ((t.tell i x).done, 0) := by
  cases hv : x.2.all validE with
  | false => rw [tellAns_bad hv] at h; simp at h
  | true =>
    cases hf : s.find k with
    | none => rw [tellAns_none hv hf] at h; split at h <;> simp at h
    | some t =>
      have ha := tellAns_some (k := k) (task := task) hv hf
      rw [ha] at h
      by_cases h2 : task < 0 ∨ (t.told.length : Int) ≤ task
      · rw [if_pos h2] at h; simp at h
      rw [if_neg h2] at h ha
      by_cases h3 : t.bits.getD task.toNat false = true
      · rw [if_pos h3] at h; simp at h
      rw [if_neg h3] at ha
      exact ⟨t, task.toNat, by omega, rfl, by omega, by simpa using h3, rfl, ha⟩
theorem vTell_any {base p : Nat} {r : HV} (k task : Int) (x : Part) (v : Value) (w : World) (hI : VInv w base p r) (hk : inI64 k) (htk : inI64 task) (ht : x.1.size ≤ 65536) (hv : tEnts.rv (safeV w p r) [v] x.2) (hl : x.2.length ≤ 4000) :
    Calls Tryz.prog 11 #[ptrTo p, .int .i64 k, .int .i64 task, .string x.1, v] w fun e w' => e = .returned (.tuple #[.bool (tellAns r.vs k task x).1, .int .i64 (tellAns r.vs k task x).2]) ∧ ∃ r', VStep w base p r w' r' ∧ r'.vs = r.vs.told k task x := by
  by_cases hc : (tellAns r.vs k task x).2 ≠ 0
  · refine (vTell_bad k task x v w hI hk htk ht (tEnts.mono _ _ _ _ (Mem.on_le _ _) hv) hl hc).mono ?_
    rintro e w' ⟨rfl, hb⟩
    exact ⟨rfl, r, VStep.pure hI hb, by unfold VS.told; rw [if_pos hc]⟩
  · have hc : (tellAns r.vs k task x).2 = 0 := by simpa using hc
    obtain ⟨t, i, rfl, hf, hi, hbit, hva, ha⟩ := tell_heard hc
    rw [ha]
    exact vTell_ok k i x v w t hI hf hi hbit hva ht hv hl
end Go.Proofs.YtnfolemblnnejaaGreat
/- package vault: Texts. -/
namespace Go.Proofs.YtnfolemblnnejaaGreat
open Go.RowKit Go.Maps

theorem infoStr : (Tryz.prog.info? 9).map (fun i => (i.zero, i.size, i.bytes)) = some (some (.string ⟨#[]⟩), tStr.sz, 16) := by kernel_rfl
def Sn.texts (t : Sn) : List ByteArray := t.told.map (fun o => (o.map Prod.fst).getD .empty)
/-- What Texts answers. -/
def textsAns (o : Option Sn) : List ByteArray × Int := match o with | none => ([], 8) | some t => if t.done = true then (t.texts, 0) else ([], 10)
theorem done_at {t : Sn} (h : t.done = true) {j : Nat} (hj : j < t.told.length) : ∃ x, t.told[j] = some x := by
  unfold Sn.done at h
  have := List.all_eq_true.1 h _ (List.getElem_mem hj)
  exact Option.isSome_iff_exists.1 this
set_option maxRecDepth 100000 in
set_option maxHeartbeats 8000000 in
theorem vTexts_any {base p : Nat} {r : HV} (k : Int) (w : World) (hI : VInv w base p r) (hk : inI64 k) :
    Calls Tryz.prog 32 #[ptrTo p, .int .i64 k] w fun e w' => ∃ a cap, e = .returned (.tuple #[.slice a (textsAns (r.vs.find k)).1.length cap, .int .i64 (textsAns (r.vs.find k)).2]) ∧ tStrs.rv ((mem w').on (w.heap.size ≤ ·)) [.slice a (textsAns (r.vs.find k)).1.length cap] (textsAns (r.vs.find k)).1 ∧ Below w.heap.size w w' := by
  have HW := Lib.hid (whole_any k w hI hk)
  cases hf : r.vs.find k with
  | none =>
    rw [hf] at HW
    simp only [whA] at HW
    have HT := Lib.hid (show textsAns none = ([], 8) from rfl)
    generalize textsAns none = A at *
    obtain rfl := HT.out
    clear hI hf
    go_enter Tryz.func32, Tryz.ntmps32
    go_wp2_with fail
    refine HW.out.mono ?_
    rintro e w1 ⟨rfl, hb⟩
    go_wp2
    go_ret2
    exact ⟨none, 0, rfl, slice_nil _ _, hb⟩
  | some t =>
    rw [hf] at HW
    simp only [whA] at HW
    have hm := find_mem hf
    by_cases hd : t.done = true
    case neg =>
      rw [if_neg hd] at HW
      have HT := Lib.hid (show textsAns (some t) = ([], 10) from if_neg hd)
      generalize textsAns (some t) = A at *
      obtain rfl := HT.out
      clear hI hf
      go_enter Tryz.func32, Tryz.ntmps32
      go_wp2_with fail
      refine HW.out.mono ?_
      rintro e w1 ⟨rfl, hb⟩
      go_wp2
      go_ret2
      exact ⟨none, 0, rfl, slice_nil _ _, hb⟩
    rw [if_pos hd] at HW
    have HT := Lib.hid (show textsAns (some t) = (t.texts, 0) from if_pos hd)
    generalize textsAns (some t) = A at *
    obtain rfl := HT.out
    have hta := (hI.ok.tk _ hm).2.1
    simp only at hta
    have HSB := Lib.hid (fun (w' : World) (hb : Below w.heap.size w w') => (hI.pure hb).sb _ hm)
    simp only at HSB
    have HLE := Lib.hid (fun (w' : World) => (Mem.on_le _ _ : (safeV w' p r).le (mem w')))
    have hlen : t.texts.length = t.told.length := by unfold Sn.texts; simp
    have HTX := Lib.hid (fun (j : Nat) (hj : j < t.told.length) => (show ∃ x, t.told[j] = some x ∧ t.texts.take (j + 1) = t.texts.take j ++ [x.1] from by
      obtain ⟨x, hx⟩ := done_at hd hj
      refine ⟨x, hx, ?_⟩
      rw [List.take_succ_eq_append_getElem (by omega)]
      congr 2
      unfold Sn.texts
      rw [List.getElem_map, hx]
      rfl))
    clear hI hf hd HT
    go_enter Tryz.func32, Tryz.ntmps32
    go_wp2_with fail
    refine HW.out.mono ?_
    rintro e w1 ⟨rfl, hb⟩
    have HB1 := Lib.hid hb
    have d8 : w1.cell? ⟨r.ad k, 8, none⟩ = some (.slice (some ⟨r.pb k, 0, none⟩) t.told.length t.told.length) := by
      have := (HSB.out w1 hb).1
      unfold snCells at this
      exact mem_cells this 8
    clear hb HW
    go_wp2_with fail
    go_loopw [8, 25] (fun ov iv wr => ∃ j : Nat, j ≤ t.told.length ∧ iv = .int .i64 j ∧ Hid (Owns tStr wr w1.heap.size 9 ov (t.texts.take j)) ∧ Hid (Below w1.heap.size w1 wr)) (fun _ iv _ => t.told.length - (intOf iv).toNat)
    case atStart => exact ⟨0, by omega, rfl, Lib.hid (Owns.nil _ _ _ _), Lib.hid (Below.refl _ _)⟩
    case round =>
      obtain ⟨j, hj, rfl, HO, HBR⟩ := hrel
      have HWR := Lib.hid (pure_trans HB1.out HBR.out)
      by_cases hlt : j < t.told.length
      · obtain ⟨x, hx, htk⟩ := HTX.out j hlt
        obtain ⟨-, arr, h2, h3, h4⟩ := HSB.out wr HWR.out
        obtain ⟨v, e1, hp⟩ := h4 j hlt
        rw [hx] at hp
        obtain ⟨a, ev, rfl, g1, -, -, g4⟩ := hp
        have d0 : wr.cell? ⟨r.pb k, j, none⟩ = some (ptrTo a) := (mem_cells h2 j).trans e1
        have d1 : wr.cell? ⟨a, 0, none⟩ = some (.string x.1) := HLE.out wr _ _ _ g1
        have HSZ := Lib.hid HBR.out.size
        have HLL := Lib.hid (show (t.texts.take j).length ≤ 40 from by rw [List.length_take]; omega)
        have HTK := Lib.hid htk
        have HXS := Lib.hid g4
        clear h2 h3 h4 e1 g1 g4 hx htk
        generalize t.texts.take j = l at *
        obtain ⟨xt, xe⟩ := x
        simp only at d1 HTK HXS
        obtain ⟨al, cl, hvl, _⟩ := HO.out.len
        subst hvl
        go_wp2_with (at_builtin; refine wpList_append_one rfl _ _ 71 rfl tStr Tryz.underlying71 infoStr rfl (by decide) w1.heap.size _ l rfl (HO.out.alloc _) _ _ xt rfl [.string xt] ?a2 ⟨rfl, HXS.out⟩ ?b2 ?c2 ?d2 ?e2 ?_)
        case a2 => exact fun j u hj => by match j, hj with | 0, hj => simp at hj; subst hj; simp [mem]
        case b2 => intro x hx; simp at hx; subst hx; rfl
        case c2 => have := HLL.out; unfold maxLen; omega
        case d2 => have := HLL.out; omega
        case e2 => have := HSZ.out; simp; omega
        · intro v' w6 own6 hgrow _
          have HB6 := Lib.hid (show Below w1.heap.size w1 w6 from (HBR.out.alloc HBR.out.size _).grown hgrow (by have := HSZ.out; simp; omega) (fun k hk => ((HO.out).lt k hk).1))
          obtain ⟨a6, cap6, rfl, _⟩ := own6.len
          have HO6 := Lib.hid (show Owns tStr w6 w1.heap.size 9 (.slice a6 (l ++ [xt]).length cap6) (t.texts.take (j + 1)) by
            rw [HTK.out]
            exact own6)
          clear own6 hgrow HO
          go_wp2
          go_roundw
          case rel => exact ⟨j + 1, by omega, by go_num, HO6, HB6⟩
          case measure => simp [intOf]; omega
      · obtain rfl : j = t.told.length := by omega
        rw [← hlen, List.take_length] at HO
        obtain ⟨a7, c7, hv7, _⟩ := HO.out.len
        subst hv7
        have HR := Lib.hid (show tStrs.rv ((mem wr).on (w.heap.size ≤ ·)) [.slice a7 t.texts.length c7] t.texts from HO.out.rv (fun b h => Nat.le_trans HB1.out.size h) (fun _ _ _ h => h))
        clear HO
        go_wp2
        go_ret2
        exact ⟨a7, c7, rfl, HR.out, HWR.out⟩
end Go.Proofs.YtnfolemblnnejaaGreat
/-
  DERIVED: THE SHELF's CONTRACTS AT THIS DUMP, IN PLAIN WORDS (tools/lay-plain.mjs out of 'TryShelf.lean', which tools/lay-shelf.mjs wrote): THE SAME DECLARATIONS UNDER THE SAME NAMES: 'import', 'namespace', 'open', 'def', 'theorem' AND NOTHING ELSE: no command of the shelf's: FOR A HAND-IN. Each laying: the table of numbers ('.._ren') and one theorem, a field a fact of the dump's own or the kernel's comparison; each contract: ONE APPLICATION.
-/
namespace Go.Proofs
open Go.Shelf
def Tryz.lays128_ren : Go.Shelf.Ren := ⟨fun | 128 => 108 | n => n, fun | 51 => 150 | 3 => 3 | 4 => 4 | 46 => 135 | 5 => 5 | 9 => 9 | n => n, fun | n => n⟩
theorem Tryz.lays128 : Go.Proofs.Lays.n128 Tryz.prog Tryz.lays128_ren := {
  mixed := by kernel_rfl
  f128 := Tryz.func108.trans (congrArg some (by kernel_rfl))
  t3 := Tryz.underlying3
  a3 := Tryz.isAgg3
  z3 := Tryz.sizeOf3
  v3 := Tryz.zeroValue3
  t4 := Tryz.underlying4
  a4 := Tryz.isAgg4
  z4 := Tryz.sizeOf4
  v4 := Tryz.zeroValue4
  t5 := Tryz.underlying5
  a5 := Tryz.isAgg5
  z5 := Tryz.sizeOf5
  v5 := Tryz.zeroValue5
  t9 := Tryz.underlying9
  a9 := Tryz.isAgg9
  z9 := Tryz.sizeOf9
  v9 := Tryz.zeroValue9
  t46 := Tryz.underlying135
  a46 := Tryz.isAgg135
  z46 := Tryz.sizeOf135
  v46 := Tryz.zeroValue135
  t51 := Tryz.underlying150
  a51 := Tryz.isAgg150
  z51 := Tryz.sizeOf150
  v51 := Tryz.zeroValue150 }
/-- bits.Len32: "Len32 returns the minimum number of bits required to represent x; the result is 0 for x == 0.": IT RETURNS 'Lib.bitLen x'; the world is as it was. ('h0', 'h1': x is a uint32.) (LAID: no walk: one application.) -/
theorem Tryz.bits_Len32 (x : Int) (w : World) (h0 : 0 ≤ x) (h1 : x ≤ 4294967295) :
    Calls Tryz.prog 108 #[.int .u32 x] w fun e w' => e = .returned (.int .i64 (Lib.bitLen x.toNat)) ∧ w' = w := Any.bits_Len32 Tryz.lays128 x w h0 h1
def Tryz.lays125_ren : Go.Shelf.Ren := ⟨fun | 125 => 91 | 128 => 108 | 129 => 109 | n => n, fun | 46 => 135 | 3 => 3 | 51 => 150 | 53 => 82 | 4 => 4 | 5 => 5 | 9 => 9 | n => n, fun | n => n⟩
theorem Tryz.lays125 : Go.Proofs.Lays.n125 Tryz.prog Tryz.lays125_ren := {
  mixed := by kernel_rfl
  f125 := Tryz.func91.trans (congrArg some (by kernel_rfl))
  f128 := Tryz.func108.trans (congrArg some (by kernel_rfl))
  f129 := Tryz.func109.trans (congrArg some (by kernel_rfl))
  t3 := Tryz.underlying3
  a3 := Tryz.isAgg3
  z3 := Tryz.sizeOf3
  v3 := Tryz.zeroValue3
  t4 := Tryz.underlying4
  a4 := Tryz.isAgg4
  z4 := Tryz.sizeOf4
  v4 := Tryz.zeroValue4
  t5 := Tryz.underlying5
  a5 := Tryz.isAgg5
  z5 := Tryz.sizeOf5
  v5 := Tryz.zeroValue5
  t9 := Tryz.underlying9
  a9 := Tryz.isAgg9
  z9 := Tryz.sizeOf9
  v9 := Tryz.zeroValue9
  t46 := Tryz.underlying135
  a46 := Tryz.isAgg135
  z46 := Tryz.sizeOf135
  v46 := Tryz.zeroValue135
  t51 := Tryz.underlying150
  a51 := Tryz.isAgg150
  z51 := Tryz.sizeOf150
  v51 := Tryz.zeroValue150
  t53 := Tryz.underlying82
  a53 := Tryz.isAgg82
  z53 := Tryz.sizeOf82
  v53 := Tryz.zeroValue82 }
/-- bits.Len: "Len returns the minimum number of bits required to represent x; the result is 0 for x == 0.": IT RETURNS 'Lib.bitLen x'; the world is as it was. (A uint has 64 bits in the model.) ITS CALLEE bits.Len64 IS MET BY ITS OWN CONTRACT OFF THE SHELF (lay that first). (LAID: no walk: one application.) -/
theorem Tryz.bits_Len (x : Int) (w : World) (h0 : 0 ≤ x) (h1 : x ≤ 18446744073709551615) :
    Calls Tryz.prog 91 #[.int .u64 x] w fun e w' => e = .returned (.int .i64 (Lib.bitLen x.toNat)) ∧ w' = w := Any.bits_Len Tryz.lays125 x w h0 h1
def Tryz.lays189_ren : Go.Shelf.Ren := ⟨fun | 189 => 88 | 125 => 91 | 257 => 99 | 128 => 108 | 129 => 109 | 294 => 125 | 295 => 126 | 296 => 127 | 297 => 128 | 298 => 129 | 299 => 130 | 216 => 131 | 300 => 132 | 301 => 133 | 328 => 143 | 329 => 135 | 330 => 136 | 331 => 144 | 332 => 145 | 215 => 139 | 343 => 148 | n => n, fun | 28 => 46 | 3 => 3 | 46 => 135 | 0 => 0 | 51 => 150 | 53 => 82 | 4 => 4 | 183 => 143 | 182 => 142 | 131 => 147 | 5 => 5 | 9 => 9 | 218 => 166 | 222 => 170 | 228 => 176 | 229 => 177 | n => n, fun | n => n⟩
theorem Tryz.lays189 : Go.Proofs.Lays.n189 Tryz.prog Tryz.lays189_ren := {
  mixed := by kernel_rfl
  f125 := Tryz.func91.trans (congrArg some (by kernel_rfl))
  f128 := Tryz.func108.trans (congrArg some (by kernel_rfl))
  f129 := Tryz.func109.trans (congrArg some (by kernel_rfl))
  f189 := Tryz.func88.trans (congrArg some (by kernel_rfl))
  f215 := Tryz.func139.trans (congrArg some (by kernel_rfl))
  f216 := Tryz.func131.trans (congrArg some (by kernel_rfl))
  f257 := Tryz.func99.trans (congrArg some (by kernel_rfl))
  f294 := Tryz.func125.trans (congrArg some (by kernel_rfl))
  f295 := Tryz.func126.trans (congrArg some (by kernel_rfl))
  f296 := Tryz.func127.trans (congrArg some (by kernel_rfl))
  f297 := Tryz.func128.trans (congrArg some (by kernel_rfl))
  f298 := Tryz.func129.trans (congrArg some (by kernel_rfl))
  f299 := Tryz.func130.trans (congrArg some (by kernel_rfl))
  f300 := Tryz.func132.trans (congrArg some (by kernel_rfl))
  f301 := Tryz.func133.trans (congrArg some (by kernel_rfl))
  f328 := Tryz.func143.trans (congrArg some (by kernel_rfl))
  f329 := Tryz.func135.trans (congrArg some (by kernel_rfl))
  f330 := Tryz.func136.trans (congrArg some (by kernel_rfl))
  f331 := Tryz.func144.trans (congrArg some (by kernel_rfl))
  f332 := Tryz.func145.trans (congrArg some (by kernel_rfl))
  f343 := Tryz.func148.trans (congrArg some (by kernel_rfl))
  t0 := Tryz.underlying0
  a0 := Tryz.isAgg0
  z0 := Tryz.sizeOf0
  v0 := Tryz.zeroValue0
  t3 := Tryz.underlying3
  a3 := Tryz.isAgg3
  z3 := Tryz.sizeOf3
  v3 := Tryz.zeroValue3
  t4 := Tryz.underlying4
  a4 := Tryz.isAgg4
  z4 := Tryz.sizeOf4
  v4 := Tryz.zeroValue4
  t5 := Tryz.underlying5
  a5 := Tryz.isAgg5
  z5 := Tryz.sizeOf5
  v5 := Tryz.zeroValue5
  t9 := Tryz.underlying9
  a9 := Tryz.isAgg9
  z9 := Tryz.sizeOf9
  v9 := Tryz.zeroValue9
  t28 := Tryz.underlying46
  a28 := Tryz.isAgg46
  z28 := Tryz.sizeOf46
  v28 := Tryz.zeroValue46
  t46 := Tryz.underlying135
  a46 := Tryz.isAgg135
  z46 := Tryz.sizeOf135
  v46 := Tryz.zeroValue135
  t51 := Tryz.underlying150
  a51 := Tryz.isAgg150
  z51 := Tryz.sizeOf150
  v51 := Tryz.zeroValue150
  t53 := Tryz.underlying82
  a53 := Tryz.isAgg82
  z53 := Tryz.sizeOf82
  v53 := Tryz.zeroValue82
  t131 := Tryz.underlying147
  a131 := Tryz.isAgg147
  z131 := Tryz.sizeOf147
  v131 := Tryz.zeroValue147
  t182 := Tryz.underlying142
  a182 := Tryz.isAgg142
  z182 := Tryz.sizeOf142
  v182 := Tryz.zeroValue142
  t183 := Tryz.underlying143
  a183 := Tryz.isAgg143
  z183 := Tryz.sizeOf143
  v183 := Tryz.zeroValue143
  t218 := Tryz.underlying166
  a218 := Tryz.isAgg166
  z218 := Tryz.sizeOf166
  v218 := Tryz.zeroValue166
  t222 := Tryz.underlying170
  a222 := Tryz.isAgg170
  z222 := Tryz.sizeOf170
  v222 := Tryz.zeroValue170
  t228 := Tryz.underlying176
  a228 := Tryz.isAgg176
  z228 := Tryz.sizeOf176
  v228 := Tryz.zeroValue176
  t229 := Tryz.underlying177
  a229 := Tryz.isAgg177
  z229 := Tryz.sizeOf177
  v229 := Tryz.zeroValue177 }
open Go.Sort Go.RowKit in
theorem Tryz.slices_Sort_int (blk off cap : Nat) (zs : List Int) (w : World) (hH : Holds (Value.int .i64) w blk off zs.toArray) (hblk : blk < w.heap.size) (hsz : zs.length < 4611686018427387904) :
    Calls Tryz.prog 88 #[.slice (some ⟨blk, off, none⟩) zs.length cap] w fun e w' =>
      e = .returned (.tuple #[]) ∧ ∃ n os, w' = grow (putRow (Value.int .i64) (Sort.ahead w n) blk off (zs.mergeSort fun x y => decide (x ≤ y)).toArray) os := Any.slices_Sort_int Tryz.lays189 blk off cap zs w hH hblk hsz
def Tryz.lays190_ren : Go.Shelf.Ren := ⟨fun | 190 => 85 | 125 => 91 | 258 => 97 | 128 => 108 | 129 => 109 | 302 => 116 | 303 => 117 | 304 => 118 | 305 => 119 | 306 => 120 | 307 => 121 | 308 => 122 | 309 => 123 | 310 => 124 | 333 => 140 | 329 => 135 | 330 => 136 | 334 => 141 | 335 => 142 | 336 => 115 | 344 => 147 | n => n, fun | 31 => 71 | 9 => 9 | 3 => 3 | 46 => 135 | 0 => 0 | 51 => 150 | 53 => 82 | 4 => 4 | 183 => 143 | 182 => 142 | 131 => 147 | 5 => 5 | 218 => 166 | 222 => 170 | 228 => 176 | 229 => 177 | n => n, fun | n => n⟩
theorem Tryz.lays190 : Go.Proofs.Lays.n190 Tryz.prog Tryz.lays190_ren := {
  mixed := by kernel_rfl
  f125 := Tryz.func91.trans (congrArg some (by kernel_rfl))
  f128 := Tryz.func108.trans (congrArg some (by kernel_rfl))
  f129 := Tryz.func109.trans (congrArg some (by kernel_rfl))
  f190 := Tryz.func85.trans (congrArg some (by kernel_rfl))
  f258 := Tryz.func97.trans (congrArg some (by kernel_rfl))
  f302 := Tryz.func116.trans (congrArg some (by kernel_rfl))
  f303 := Tryz.func117.trans (congrArg some (by kernel_rfl))
  f304 := Tryz.func118.trans (congrArg some (by kernel_rfl))
  f305 := Tryz.func119.trans (congrArg some (by kernel_rfl))
  f306 := Tryz.func120.trans (congrArg some (by kernel_rfl))
  f307 := Tryz.func121.trans (congrArg some (by kernel_rfl))
  f308 := Tryz.func122.trans (congrArg some (by kernel_rfl))
  f309 := Tryz.func123.trans (congrArg some (by kernel_rfl))
  f310 := Tryz.func124.trans (congrArg some (by kernel_rfl))
  f329 := Tryz.func135.trans (congrArg some (by kernel_rfl))
  f330 := Tryz.func136.trans (congrArg some (by kernel_rfl))
  f333 := Tryz.func140.trans (congrArg some (by kernel_rfl))
  f334 := Tryz.func141.trans (congrArg some (by kernel_rfl))
  f335 := Tryz.func142.trans (congrArg some (by kernel_rfl))
  f336 := Tryz.func115.trans (congrArg some (by kernel_rfl))
  f344 := Tryz.func147.trans (congrArg some (by kernel_rfl))
  t0 := Tryz.underlying0
  a0 := Tryz.isAgg0
  z0 := Tryz.sizeOf0
  v0 := Tryz.zeroValue0
  t3 := Tryz.underlying3
  a3 := Tryz.isAgg3
  z3 := Tryz.sizeOf3
  v3 := Tryz.zeroValue3
  t4 := Tryz.underlying4
  a4 := Tryz.isAgg4
  z4 := Tryz.sizeOf4
  v4 := Tryz.zeroValue4
  t5 := Tryz.underlying5
  a5 := Tryz.isAgg5
  z5 := Tryz.sizeOf5
  v5 := Tryz.zeroValue5
  t9 := Tryz.underlying9
  a9 := Tryz.isAgg9
  z9 := Tryz.sizeOf9
  v9 := Tryz.zeroValue9
  t31 := Tryz.underlying71
  a31 := Tryz.isAgg71
  z31 := Tryz.sizeOf71
  v31 := Tryz.zeroValue71
  t46 := Tryz.underlying135
  a46 := Tryz.isAgg135
  z46 := Tryz.sizeOf135
  v46 := Tryz.zeroValue135
  t51 := Tryz.underlying150
  a51 := Tryz.isAgg150
  z51 := Tryz.sizeOf150
  v51 := Tryz.zeroValue150
  t53 := Tryz.underlying82
  a53 := Tryz.isAgg82
  z53 := Tryz.sizeOf82
  v53 := Tryz.zeroValue82
  t131 := Tryz.underlying147
  a131 := Tryz.isAgg147
  z131 := Tryz.sizeOf147
  v131 := Tryz.zeroValue147
  t182 := Tryz.underlying142
  a182 := Tryz.isAgg142
  z182 := Tryz.sizeOf142
  v182 := Tryz.zeroValue142
  t183 := Tryz.underlying143
  a183 := Tryz.isAgg143
  z183 := Tryz.sizeOf143
  v183 := Tryz.zeroValue143
  t218 := Tryz.underlying166
  a218 := Tryz.isAgg166
  z218 := Tryz.sizeOf166
  v218 := Tryz.zeroValue166
  t222 := Tryz.underlying170
  a222 := Tryz.isAgg170
  z222 := Tryz.sizeOf170
  v222 := Tryz.zeroValue170
  t228 := Tryz.underlying176
  a228 := Tryz.isAgg176
  z228 := Tryz.sizeOf176
  v228 := Tryz.zeroValue176
  t229 := Tryz.underlying177
  a229 := Tryz.isAgg177
  z229 := Tryz.sizeOf177
  v229 := Tryz.zeroValue177 }
open Go.Sort Go.RowKit in
theorem Tryz.slices_Sort_string (blk off cap : Nat) (ss : List (List UInt8)) (w : World) (hH : Holds encStr w blk off ss.toArray) (hblk : blk < w.heap.size) (hsz : ss.length < 4611686018427387904) :
    Calls Tryz.prog 85 #[.slice (some ⟨blk, off, none⟩) ss.length cap] w fun e w' =>
      e = .returned (.tuple #[]) ∧ ∃ n os, w' = grow (putRow encStr (Sort.ahead w n) blk off (ss.mergeSort fun x y => decide (x ≤ y)).toArray) os := Any.slices_Sort_string Tryz.lays190 blk off cap ss w hH hblk hsz
open Go.RowKit Go.Sort in
/-- .. and plain. (LAID: no walk: one application.) -/
theorem Tryz.slices_Sort_string_none (p : Option Addr) (cap : Nat) (w : World) :
    Calls Tryz.prog 85 #[.slice p 0 cap] w fun e w' => e = .returned (.tuple #[]) ∧ w' = w := Any.slices_Sort_string_none Tryz.lays190 p cap w
open Go.RowKit Go.Sort in
/-- .. and plain. (LAID: no walk: one application.) -/
theorem Tryz.slices_Sort_int_none (p : Option Addr) (cap : Nat) (w : World) :
    Calls Tryz.prog 88 #[.slice p 0 cap] w fun e w' => e = .returned (.tuple #[]) ∧ w' = w := Any.slices_Sort_int_none Tryz.lays189 p cap w
end Go.Proofs
/- slices.Sort at []string over a row of the call's own; package vault: Names. -/
namespace Go.Proofs.YtnfolemblnnejaaGreat
open Go.RowKit Go.Maps Go.Sort

theorem Keeps.setCells {F : Nat → Prop} {b : Nat} : ∀ (vs : List Value) (o : Nat) {a w : World}, Keeps F a w → (b < a.heap.size → F b) → Keeps F a (w.setCells b o vs)
  | [], _, _, _, h, _ => h
  | v :: vs, o, _, _, h, hb => Keeps.setCells vs (o + 1) (h.setCell (p := ⟨b, o, none⟩) hb v) hb
theorem Keeps.grow {F : Nat → Prop} {a w : World} (h : Keeps F a w) (os : Array Obj) : Keeps F a (grow w os) :=
  ⟨h.os, h.tape, h.output, by have := h.size; simp; omega, fun k hk hF => by rw [Go.Sort.heap_grow_old w os (by have := h.size; omega)]; exact h.block k hk hF⟩
/-- Texts, ascending. -/
def sortTexts (xs : List ByteArray) : List ByteArray := ((xs.map (fun x => x.data.toList)).mergeSort (fun x y => decide (x ≤ y))).map (fun l => ⟨l.toArray⟩)
theorem sortTexts_perm (xs : List ByteArray) : (sortTexts xs).Perm xs := by
  unfold sortTexts
  have h := (List.mergeSort_perm (xs.map (fun x => x.data.toList)) (fun x y => decide (x ≤ y))).map (fun l => (⟨l.toArray⟩ : ByteArray))
  rw [List.map_map] at h
  refine h.trans ?_
  have : (fun l => (⟨l.toArray⟩ : ByteArray)) ∘ (fun x : ByteArray => x.data.toList) = id := by funext x; rfl
  rw [this, List.map_id]
set_option maxHeartbeats 1000000 in
theorem sortStr_own (B : Nat) (v : Value) (xs : List ByteArray) (w : World) (h : Owns tStr w B 9 v xs) (hl : xs.length ≤ 1000000) (hB : B ≤ w.heap.size) :
    Calls Tryz.prog 85 #[v] w fun e w' => e = .returned (.tuple #[]) ∧ tStrs.rv (mem w') [v] (sortTexts xs) ∧ Below B w w' := by
  have hrv := h.rv'
  have hin : ∀ x ∈ xs, x.size ≤ maxLen := fun x hx => by
    obtain ⟨k, hk, rfl⟩ := List.getElem_of_mem hx
    obtain ⟨a, c, rfl, _, _, hv⟩ := slice_form hrv
    obtain ⟨b, o, _, _, hs⟩ := str_cell hv hk
    exact hs
  obtain ⟨css, _, ⟨_, h3⟩, _, _⟩ := h
  rcases h3 with ⟨rfl, h6⟩ | ⟨g, cap, cur, rfl, hg, hh, hn, hm, hc, ht⟩
  · obtain rfl : xs = [] := List.eq_nil_of_length_eq_zero h6
    exact (Tryz.slices_Sort_string_none none 0 w).mono fun e w' ⟨he, hw⟩ => ⟨he, by rw [hw, show sortTexts [] = [] from by unfold sortTexts; simp]; exact slice_nil tStr _, by rw [hw]; exact Below.refl _ _⟩
  · have hH : Holds encStr w g 0 (xs.map (fun x => x.data.toList)).toArray := fun j hj => by
      have hj' : j < xs.length := by simpa using hj
      obtain ⟨b, o, e, h1, _⟩ := str_cell hrv hj'
      simp only [Option.some.injEq, Addr.mk.injEq] at e
      obtain ⟨rfl, rfl, _⟩ := e
      refine ⟨?_, frozen_cells hh _⟩
      rw [show w.cell? ⟨g, 0 + j, none⟩ = some (.string xs[j]) from h1]
      simp [hj']
    have hS := Tryz.slices_Sort_string g 0 cap (xs.map (fun x => x.data.toList)) w hH (Array.getElem?_eq_some_iff.1 hh).1 (by simp; omega)
    rw [List.length_map] at hS
    refine hS.mono ?_
    rintro e w' ⟨he, q, os, hw⟩
    rw [Lib.sorted_world encStr w g 0 q _ _ os hH (by simp)] at hw
    have hlen : ((xs.map (fun x => x.data.toList)).mergeSort fun x y => decide (x ≤ y)).length = xs.length := by simp
    have hst : sortTexts xs = ((xs.map (fun x => x.data.toList)).mergeSort fun x y => decide (x ≤ y)).map (fun l => ⟨l.toArray⟩) := rfl
    have hmem : ∀ y ∈ sortTexts xs, y.size ≤ maxLen := fun y hy => hin y ((sortTexts_perm xs).mem_iff.1 hy)
    generalize ((xs.map (fun x => x.data.toList)).mergeSort fun x y => decide (x ≤ y)) = ys at hw hlen hst ⊢
    have hsz : g < ((w.drewN q).setCells g 0 (ys.map encStr)).heap.size := Nat.lt_of_lt_of_le (Array.getElem?_eq_some_iff.1 hh).1 (Keeps.setCells (F := fun _ => True) _ _ ((Keeps.refl _ w).drewN q) (fun _ => trivial)).size
    refine ⟨he, ?_, ?_⟩
    · have hl2 : (sortTexts xs).length = xs.length := (sortTexts_perm xs).length_eq
      refine ⟨some ⟨g, 0, none⟩, cap, by rw [hl2], by omega, hm, fun _ => ⟨g, 0, rfl, fun k hk => ⟨[.string (sortTexts xs)[k]], fun j u hu => ?_, rfl, hmem _ (List.getElem_mem hk)⟩⟩⟩
      match j, hu with
      | 0, hu =>
        simp at hu; subst hu
        rw [hw]
        have hk2 : k < ys.length := by omega
        show World.cell? _ ⟨g, 0 + k * 1 + 0, none⟩ = _
        rw [cell?_grow _ os _ hsz, show 0 + k * 1 + 0 = 0 + k by omega, World.cell?_setCells_in g _ 0 (w.drewN q) (fun t ht' => by
          have ht2 : t < xs.length := by simpa [hlen] using ht'
          have := (hH t (by simpa using ht2)).1
          show (w.cell? ⟨g, 0 + t, none⟩).isSome = true
          rw [this]; rfl) k (by simpa using hk2)]
        have : (sortTexts xs)[k] = (⟨(ys[k]).toArray⟩ : ByteArray) := by
          simp only [hst, List.getElem_map]
        rw [this]
        simp [hk2]
    · rw [hw]
      exact (Keeps.grow (Keeps.setCells (F := fun k => k = g) _ _ ((Keeps.refl _ w).drewN q) (fun _ => rfl)) os).below hB (fun k hk => by omega)
/-- The names of the complete snapshots, unsorted. -/
def VS.names (s : VS) : List ByteArray := ((s.all.filter (fun x => x.2.done)).filter (fun x => !(x.2.name.toList == []))).map (fun x => x.2.name)
theorem names_take (l : List (Int × Sn)) {k : Nat} (hk : k < l.length) :
    (((l.take (k + 1)).filter (fun x => !(x.2.name.toList == []))).map (fun x => x.2.name)) = if ((l[k]).2.name.toList == []) = true then (((l.take k).filter (fun x => !(x.2.name.toList == []))).map (fun x => x.2.name)) else (((l.take k).filter (fun x => !(x.2.name.toList == []))).map (fun x => x.2.name)) ++ [(l[k]).2.name] := by
  rw [List.take_succ_eq_append_getElem hk, List.filter_append, List.map_append]
  by_cases h : ((l[k]).2.name.toList == []) = true
  · rw [if_pos h]
    simp only [List.filter_cons, h, Bool.not_true, Bool.false_eq_true, if_false, List.filter_nil, List.map_nil, List.append_nil]
  · have h' : ((l[k]).2.name.toList == []) = false := by simpa using h
    rw [if_neg h]
    simp only [List.filter_cons, h', Bool.not_false, if_true, List.filter_nil, List.map_cons, List.map_nil]
set_option maxRecDepth 100000 in
set_option maxHeartbeats 8000000 in
theorem vNames_any {base p : Nat} {r : HV} (w : World) (hI : VInv w base p r) :
    Calls Tryz.prog 65 #[ptrTo p] w fun e w' => ∃ a cap, e = .returned (.slice a r.vs.names.length cap) ∧ tStrs.rv (mem w') [.slice a r.vs.names.length cap] (sortTexts r.vs.names) ∧ Below w.heap.size w w' := by
  have HN := Lib.hid (vComplete_any w hI)
  have hcl := those_len hI.ok Sn.done
  change r.vs.comp.length ≤ 1000000 at hcl
  have hcm : r.vs.comp = (r.vs.all.filter (fun x => x.2.done)).map Prod.fst := rfl
  have hnm : r.vs.names = ((r.vs.all.filter (fun x => x.2.done)).filter (fun x => !(x.2.name.toList == []))).map (fun x => x.2.name) := rfl
  have HME := Lib.hid (fun (x : Int × Sn) (hx : x ∈ r.vs.all.filter (fun x => x.2.done)) => (List.mem_filter.1 hx).1)
  have HIN := Lib.hid (fun (w' : World) (hb : Below w.heap.size w w') => hI.pure hb)
  generalize r.vs.all.filter (fun x => x.2.done) = L at *
  generalize r.vs.comp = l at *
  generalize r.vs.names = N at *
  have hll : l.length = L.length := by rw [hcm]; simp
  have HCM := Lib.hid hcm
  have HNM := Lib.hid hnm
  clear hI hcm hnm
  go_enter Tryz.func65, Tryz.ntmps65
  go_wp2_with fail
  refine HN.out.mono ?_
  rintro e w1 ⟨a, cap, rfl, ho, hb⟩
  have HB1 := Lib.hid hb
  have HKR := Lib.hid (fun (w' : World) (hb' : Below w1.heap.size w1 w') => (show (tSlice tInt).rv (mem w') [.slice a l.length cap] l from (tSlice tInt).mono _ _ _ _ (below_mem hb') ho.rv'))
  have hcp : cap ≤ 9223372036854775807 ∧ l.length ≤ cap := by
    obtain ⟨a', k', e', h2, h3, -⟩ := slice_form ho.rv'
    simp only [Value.slice.injEq] at e'
    unfold maxLen at h3
    rw [e'.2.2]; exact ⟨h3, h2⟩
  obtain ⟨hc1, hc2⟩ := hcp
  clear ho hb HN
  go_wp2_with fail
  go_loopw [3, 10] (fun ov iv wr => ∃ j : Nat, j ≤ l.length ∧ iv = .int .i64 j ∧ Hid (Owns tStr wr w1.heap.size 9 ov (((L.take j).filter (fun x => !(x.2.name.toList == []))).map (fun x => x.2.name))) ∧ Hid (Below w1.heap.size w1 wr)) (fun _ iv _ => l.length - (intOf iv).toNat)
  case atStart => exact ⟨0, by omega, rfl, Lib.hid (Owns.nil _ _ _ _), Lib.hid (Below.refl _ _)⟩
  case round =>
    obtain ⟨j, hj, rfl, HO, HBR⟩ := hrel
    have HWR := Lib.hid (pure_trans HB1.out HBR.out)
    by_cases hlt : j < l.length
    · obtain ⟨b, o, e, hat⟩ := slice_at (HKR.out _ HBR.out) hlt
      subst e
      have hlL : j < L.length := by omega
      have d0 : wr.cell? ⟨b, o + j, none⟩ = some (.int .i64 l[j]) := by
        have := (int_at hat).1
        simpa [tInt, mem] using this
      have hml := HME.out _ (List.getElem_mem hlL)
      have hlj : l[j] = (L[j]).1 := by
        have h1 : l[j]? = (L.map Prod.fst)[j]? := by rw [HCM.out]
        rw [List.getElem?_eq_getElem hlt, List.getElem?_map, List.getElem?_eq_getElem hlL] at h1
        injection h1
      have hiw := HIN.out wr HWR.out
      have hlk := hiw.look_some (hiw.ok.find (k := (L[j]).1) (t := (L[j]).2) hml)
      have c3 : wr.cell? ⟨p, 3, none⟩ = some (.map (some r.mb)) := mem_cells hiw.hb 3
      have d1 : wr.cell? ⟨r.ad (L[j]).1, 0, none⟩ = some (.string (L[j]).2.name) := mem_cells (hiw.sb _ hml).1 0
      have HXS := Lib.hid (hiw.ok.tk _ hml).2.2
      have HTK := Lib.hid (names_take L hlL)
      have HLL := Lib.hid (show (((L.take j).filter (fun x => !(x.2.name.toList == []))).map (fun x => x.2.name)).length ≤ 1000000 from by
        rw [List.length_map]
        exact Nat.le_trans (List.length_filter_le _ _) (by rw [List.length_take]; omega))
      have HSZ := Lib.hid HBR.out.size
      rw [hlj] at d0
      clear hat hiw hml hlj
      generalize ((L.take j).filter (fun x => !(x.2.name.toList == []))).map (fun x => x.2.name) = q at *
      generalize L[j] = y at *
      obtain ⟨yk, yn, yt⟩ := y
      simp only at d0 d1 hlk HTK HXS
      obtain ⟨al, cl, hvl, _⟩ := HO.out.len
      subst hvl
      cases hq : (yn.toList == []) with
      | true =>
        have HO4 := Lib.hid (show Owns tStr wr w1.heap.size 9 (.slice al q.length cl) (((L.take (j + 1)).filter (fun x => !(x.2.name.toList == []))).map (fun x => x.2.name)) by rw [HTK.out, if_pos hq]; exact HO.out)
        go_wp2
        go_roundw
        case rel => exact ⟨j + 1, by omega, by go_num, HO4, HBR⟩
        case measure => simp [intOf]; omega
      | false =>
        have HTL := Lib.hid (show q ++ [yn] = ((L.take (j + 1)).filter (fun x => !(x.2.name.toList == []))).map (fun x => x.2.name) by rw [HTK.out, if_neg (by rw [hq]; simp)])
        clear HTK
        go_wp2_with (at_builtin; refine wpList_append_one rfl _ _ 71 rfl tStr Tryz.underlying71 infoStr rfl (by decide) w1.heap.size _ q rfl (HO.out.alloc _) _ _ yn rfl [.string yn] ?a2 ⟨rfl, HXS.out⟩ ?b2 ?c2 ?d2 ?e2 ?_)
        case a2 => exact fun j u hj => by match j, hj with | 0, hj => simp at hj; subst hj; simp [mem]
        case b2 => intro x hx; simp at hx; subst hx; rfl
        case c2 => have := HLL.out; unfold maxLen; omega
        case d2 => have := HLL.out; omega
        case e2 => have := HSZ.out; simp; omega
        · intro v' w6 own6 hgrow _
          have HB6 := Lib.hid (show Below w1.heap.size w1 w6 from (HBR.out.alloc HBR.out.size _).grown hgrow (by have := HSZ.out; simp; omega) (fun k hk => ((HO.out).lt k hk).1))
          obtain ⟨a6, cap6, rfl, _⟩ := own6.len
          have HO6 := Lib.hid (show Owns tStr w6 w1.heap.size 9 (.slice a6 (q ++ [yn]).length cap6) (((L.take (j + 1)).filter (fun x => !(x.2.name.toList == []))).map (fun x => x.2.name)) by
            rw [← HTL.out]
            exact own6)
          clear own6 hgrow HO
          go_wp2
          go_roundw
          case rel => exact ⟨j + 1, by omega, by go_num, HO6, HB6⟩
          case measure => simp [intOf]; omega
    · obtain rfl : j = l.length := by omega
      rw [hll, List.take_length, ← HNM.out] at HO
      obtain ⟨a7, c7, hv7, _⟩ := HO.out.len
      subst hv7
      have hNl : N.length ≤ 1000000 := by
        rw [HNM.out, List.length_map]
        exact Nat.le_trans (List.length_filter_le _ _) (by omega)
      have HS := Lib.hid (sortStr_own w1.heap.size _ N wr HO.out hNl HBR.out.size)
      clear HO
      go_wp2_with fail
      refine HS.out.mono ?_
      rintro e w8 ⟨rfl, hr8, hb8⟩
      have HR8 := Lib.hid hr8
      have HB8 := Lib.hid (show Below w.heap.size w w8 from pure_trans HB1.out (HBR.out.trans hb8))
      clear hr8 hb8 HS
      go_wp2
      go_ret
      exact ⟨a7, c7, rfl, HR8.out, HB8.out⟩
end Go.Proofs.YtnfolemblnnejaaGreat
/- The reference of a vault: its reading; Numbers, place. -/
namespace Go.Proofs.YtnfolemblnnejaaGreat
open Go.RowKit Go.Maps

abbrev tBools : Ty (List Bool) := tSlice tBool
abbrev tEntss : Ty (List (List Ent)) := tSlice tEnts
def Sn.rents (t : Sn) : List (List Ent) := t.told.map (fun o => (o.map Prod.snd).getD [])
/-- A snapshot of the reference. -/
def tRSn : Ty (Int × Sn) := ⟨6, fun m cs x => ∃ s1 s2 s3, cs = [.int .i64 x.1, .string x.2.name, .bool x.2.done, s1, s2, s3] ∧ (inI64 x.1 ∧ x.2.name.size ≤ maxLen) ∧ tBools.rv m [s1] x.2.bits ∧ tStrs.rv m [s2] x.2.texts ∧ tEntss.rv m [s3] x.2.rents,
  fun _ _ _ h => by obtain ⟨s1, s2, s3, rfl, _⟩ := h; rfl,
  fun m m' cs x hm h => by
    obtain ⟨s1, s2, s3, e, i, r1, r2, r3⟩ := h
    exact ⟨s1, s2, s3, e, i, tBools.mono _ _ _ _ hm r1, tStrs.mono _ _ _ _ hm r2, tEntss.mono _ _ _ _ hm r3⟩⟩
abbrev tRSns : Ty (List (Int × Sn)) := tSlice tRSn
theorem rsn_at {m : Mem} {xs : List (Int × Sn)} {a : Option Addr} {n cap : Nat} (h : tRSns.rv m [.slice a n cap] xs) {k : Nat} (hk : k < xs.length) :
    ∃ b o s1 s2 s3, a = some ⟨b, o, none⟩ ∧ (m b (o + k * 6) = some (.int .i64 xs[k].1) ∧ m b (o + k * 6 + 1) = some (.string xs[k].2.name) ∧ m b (o + k * 6 + 2) = some (.bool xs[k].2.done) ∧ m b (o + k * 6 + 3) = some s1 ∧ m b (o + k * 6 + 4) = some s2 ∧ m b (o + k * 6 + 5) = some s3) ∧
      inI64 xs[k].1 ∧ xs[k].2.name.size ≤ maxLen ∧ tBools.rv m [s1] xs[k].2.bits ∧ tStrs.rv m [s2] xs[k].2.texts ∧ tEntss.rv m [s3] xs[k].2.rents := by
  obtain ⟨b, o, rfl, cs, hat, s1, s2, s3, rfl, ⟨i1, i2⟩, r1, r2, r3⟩ := slice_at h hk
  exact ⟨b, o, s1, s2, s3, rfl, ⟨hat 0 _ rfl, hat 1 _ rfl, hat 2 _ rfl, hat 3 _ rfl, hat 4 _ rfl, hat 5 _ rfl⟩, i1, i2, r1, r2, r3⟩
structure RV (M : Mem) (s : VS) (a : Value) : Prop where
  ha : tRSns.rv M [a] s.all
  ok : VOk s
theorem RV.mono {M M' : Mem} {s : VS} {a : Value} (h : RV M s a) (hM : M.le M') : RV M' s a := ⟨tRSns.mono _ _ _ _ hM h.ha, h.ok⟩
@[reducible] def rvV (s : VS) (a : Value) : Value := .agg #[.int .i64 s.tasks, .int .i64 s.most, .int .i64 s.keep, .int .i64 ((s.last : Int) + 1), a]
@[reducible] def rvB (s : VS) (a : Value) : Obj := .cells #[.int .i64 s.tasks, .int .i64 s.most, .int .i64 s.keep, .int .i64 ((s.last : Int) + 1), a] 31
set_option maxRecDepth 100000 in
set_option maxHeartbeats 4000000 in
theorem refNumbers_any (s : VS) (a : Value) (W : World) (h : RV (mem W) s a) (d : Bool) :
    Calls Tryz.prog 36 #[rvV s a, .bool d] W fun e w' => ∃ b c, e = .returned (.slice b (s.those (fun t => t.done == d)).length c) ∧ Owns tInt w' W.heap.size 3 (.slice b (s.those (fun t => t.done == d)).length c) (s.those (fun t => t.done == d)) ∧ Below W.heap.size W w' := by
  obtain ⟨aa, ca, rfl, hla, hma, hra⟩ := slice_form h.ha
  have hca : ca ≤ 9223372036854775807 := by unfold maxLen at hma; exact hma
  have HAL := Lib.hid (show s.all.length ≤ 1000000 from by have := all_len h.ok; have := h.ok.l; omega)
  have HB := Lib.hid (box_below W (rvB s (.slice aa s.all.length ca)))
  have HBK := Lib.hid (heap_alloc_new W (rvB s (.slice aa s.all.length ca)))
  have HRA := Lib.hid (tRSns.mono _ _ _ _ (below_mem HB.out) hra)
  have HTH := Lib.hid (show s.those (fun t => t.done == d) = (s.all.filter (fun x => x.2.done == d)).map Prod.fst from rfl)
  generalize s.those (fun t => t.done == d) = TH at *
  clear hma hra h
  go_enter Tryz.func36, Tryz.ntmps36
  go_wp2_with fail
  generalize W.alloc (rvB s (.slice aa s.all.length ca)) = X at *
  have HC := Lib.hid (fun (w' : World) (hb : Below X.heap.size X w') => (show w'.cell? ⟨W.heap.size, 4, none⟩ = some (.slice aa s.all.length ca) from mem_cells ((hb.block _ (Array.getElem?_eq_some_iff.1 HBK.out).1).trans HBK.out) 4))
  go_loopw [5, 6] (fun ov iv wr => ∃ j : Nat, j ≤ s.all.length ∧ iv = .int .i64 j ∧ Hid (Owns tInt wr X.heap.size 3 ov (((s.all.take j).filter (fun x => x.2.done == d)).map Prod.fst)) ∧ Hid (Below X.heap.size X wr)) (fun _ iv _ => s.all.length - (intOf iv).toNat)
  case atStart => exact ⟨0, by omega, rfl, Lib.hid (Owns.nil _ _ _ _), Lib.hid (Below.refl _ _)⟩
  case round =>
    obtain ⟨j, hj, rfl, HO, HBR⟩ := hrel
    have c4 := HC.out _ HBR.out
    by_cases hlt : j < s.all.length
    · obtain ⟨b, o, s1, s2, s3, e, ⟨g0, -, g2, -, -, -⟩, hi1, -⟩ := rsn_at (tRSns.mono _ _ _ _ (below_mem HBR.out) HRA.out) hlt
      subst e
      have d0 : wr.cell? ⟨b, o + j * 6, none⟩ = some (.int .i64 s.all[j].1) := g0
      have d2 : wr.cell? ⟨b, o + j * 6 + 2, none⟩ = some (.bool s.all[j].2.done) := g2
      have HTK := Lib.hid (those_take s (fun t => t.done == d) hlt)
      have HLL := Lib.hid (show (((s.all.take j).filter (fun x => x.2.done == d)).map Prod.fst).length ≤ 1000000000 from by
        rw [List.length_map]
        exact Nat.le_trans (List.length_filter_le _ _) (by rw [List.length_take]; have := HAL.out; omega))
      have HSZ := Lib.hid HBR.out.size
      clear g0 g2
      generalize ((s.all.take j).filter (fun x => x.2.done == d)).map Prod.fst = l at *
      generalize s.all[j] = y at *
      obtain ⟨yk, yt⟩ := y
      simp only at d0 d2 HTK hi1
      generalize yt.done = yd at *
      obtain ⟨al, cl, hvl, _⟩ := HO.out.len
      subst hvl
      cases hq : (yd == d) with
      | false =>
        have HO4 := Lib.hid (show Owns tInt wr X.heap.size 3 (.slice al l.length cl) (((s.all.take (j + 1)).filter (fun x => x.2.done == d)).map Prod.fst) by rw [HTK.out, if_neg (by rw [hq]; simp)]; exact HO.out)
        go_wp2
        go_roundw
        case rel => exact ⟨j + 1, by omega, by go_num, HO4, HBR⟩
        case measure => simp [intOf]; omega
      | true =>
        have HTL := Lib.hid (show l ++ [yk] = ((s.all.take (j + 1)).filter (fun x => x.2.done == d)).map Prod.fst by rw [HTK.out, if_pos hq])
        clear HTK
        go_wp2_with (at_builtin; refine wpList_append_int rfl _ _ 46 rfl Tryz.underlying46 Tryz.infoInt X.heap.size _ l rfl (HO.out.alloc _) _ _ yk rfl ?c1 ?c2 ?c3 ?c4 ?_)
        case c1 => simp
        case c2 => exact hi1
        case c3 => have := HLL.out; omega
        case c4 => have := HSZ.out; simp; omega
        · intro v' w6 own6 hgrow _
          have HB6 := Lib.hid (show Below X.heap.size X w6 from (HBR.out.alloc HBR.out.size _).grown hgrow (by have := HSZ.out; simp; omega) (fun k hk => ((HO.out).lt k hk).1))
          obtain ⟨a6, cap6, rfl, _⟩ := own6.len
          have HO6 := Lib.hid (show Owns tInt w6 X.heap.size 3 (.slice a6 (l ++ [yk]).length cap6) (((s.all.take (j + 1)).filter (fun x => x.2.done == d)).map Prod.fst) by
            rw [← HTL.out]
            exact own6)
          clear own6 hgrow HO
          go_wp2
          go_roundw
          case rel => exact ⟨j + 1, by omega, by go_num, HO6, HB6⟩
          case measure => simp [intOf]; omega
    · obtain rfl : j = s.all.length := by omega
      rw [List.take_length, ← HTH.out] at HO
      have HO7 := Lib.hid (HO.out.low HB.out.size)
      have HE := Lib.hid (HB.out.trans (HBR.out.mono HB.out.size))
      clear HO
      obtain ⟨a7, c7, hv7, _⟩ := HO7.out.len
      subst hv7
      go_wp2
      go_ret
      exact ⟨a7, c7, rfl, HO7.out, HE.out⟩
def PlaceSays (s : VS) (k i : Int) : Prop := (∃ (j : Nat) (t : Sn), s.all[j]? = some (k, t) ∧ i = j) ∨ (k ∉ s.nums ∧ i = -1)
set_option maxRecDepth 100000 in
set_option maxHeartbeats 4000000 in
theorem refPlace_any (s : VS) (a : Value) (W : World) (h : RV (mem W) s a) (k : Int) :
    Calls Tryz.prog 51 #[rvV s a, .int .i64 k] W fun e w' => ∃ i, e = .returned (.int .i64 i) ∧ PlaceSays s k i ∧ Below W.heap.size W w' := by
  obtain ⟨aa, ca, rfl, hla, hma, hra⟩ := slice_form h.ha
  have hca : ca ≤ 9223372036854775807 := by unfold maxLen at hma; exact hma
  have HAL := Lib.hid (show s.all.length ≤ 1000000 from by have := all_len h.ok; have := h.ok.l; omega)
  have HB := Lib.hid (box_below W (rvB s (.slice aa s.all.length ca)))
  have hbk := heap_alloc_new W (rvB s (.slice aa s.all.length ca))
  have HRA := Lib.hid (tRSns.mono _ _ _ _ (below_mem HB.out) hra)
  clear hma hra h
  go_enter Tryz.func51, Tryz.ntmps51
  go_wp2_with fail
  generalize W.alloc (rvB s (.slice aa s.all.length ca)) = X at *
  have c4 : X.cell? ⟨W.heap.size, 4, none⟩ = some (.slice aa s.all.length ca) := mem_cells hbk 4
  clear hbk
  go_loopw [5] (fun i wr => ∃ j : Nat, j ≤ s.all.length ∧ i = .int .i64 j ∧ wr = X ∧ Hid (k ∉ (s.all.take j).map Prod.fst)) (fun i _ => s.all.length - (intOf i).toNat)
  case atStart => exact ⟨0, by omega, rfl, rfl, Lib.hid (by simp)⟩
  case round =>
    obtain ⟨j, hj, rfl, rfl, HT⟩ := hrel
    by_cases hlt : j < s.all.length
    · obtain ⟨b, o, s1, s2, s3, e, ⟨g0, -⟩, -⟩ := rsn_at HRA.out hlt
      subst e
      have d0 : wr.cell? ⟨b, o + j * 6, none⟩ = some (.int .i64 s.all[j].1) := g0
      have HG := Lib.hid (List.getElem?_eq_getElem hlt)
      have HTK := Lib.hid (show (s.all.take (j + 1)).map Prod.fst = (s.all.take j).map Prod.fst ++ [s.all[j].1] by rw [List.take_succ_eq_append_getElem hlt, List.map_append]; rfl)
      clear g0
      generalize s.all[j] = y at *
      obtain ⟨y, t⟩ := y
      by_cases he : y = k
      · subst he
        have hb : (y == y) = true := by simp
        go_wp2
        go_ret
        exact ⟨j, rfl, .inl ⟨j, t, HG.out, rfl⟩, HB.out⟩
      · have hb : (y == k) = false := by simp [he]
        have HN := Lib.hid (show k ∉ (s.all.take (j + 1)).map Prod.fst by rw [HTK.out, List.mem_append]; simp; exact ⟨by have := HT.out; simpa using this, fun e => he e.symm⟩)
        go_wp2
        go_roundw
        case rel => exact ⟨j + 1, by omega, by go_num, by first | rfl | trivial, HN⟩
        case measure => simp [intOf]; omega
    · obtain rfl : j = s.all.length := by omega
      rw [List.take_length] at HT
      go_wp2
      go_ret
      exact ⟨-1, rfl, .inr ⟨HT.out, rfl⟩, HB.out⟩
end Go.Proofs.YtnfolemblnnejaaGreat
/- Readings whose deep parts lie in a memory that is known; slices of the call's own at whatever offset, and appends to them. No program in sight. -/
namespace Go.Proofs.YtnfolemblnnejaaGreat
open Go.RowKit

def noMem : Mem := fun _ _ => none
def tIn {α : Type} (M : Mem) (t : Ty α) : Ty α := ⟨t.sz, fun _ cs x => t.rv M cs x, fun _ _ _ h => t.len _ _ _ h, fun _ _ _ _ _ h => h⟩
theorem tIn_flat {α : Type} (M : Mem) (t : Ty α) : (tIn M t).flat := fun _ _ _ _ h => h
theorem slice_in {α : Type} {M m : Mem} {t : Ty α} {v : Value} {xs : List α} (h : (tSlice (tIn M t)).rv m [v] xs) (hM : M.le m) : (tSlice t).rv m [v] xs := by
  obtain ⟨a, cap, h1, h2, h3, h4⟩ := h
  refine ⟨a, cap, h1, h2, h3, fun hp => ?_⟩
  obtain ⟨b, o, ha, hat⟩ := h4 hp
  refine ⟨b, o, ha, fun k hk => ?_⟩
  obtain ⟨cs, hc, hr⟩ := hat k hk
  exact ⟨cs, hc, t.mono _ _ _ _ hM hr⟩

/-- A slice whose block is the call's own; it need not begin at the block's first cell. -/
def OwnsO {α : Type} (t : Ty α) (w : World) (e : TypeId) (v : Value) (xs : List α) : Prop :=
  ∃ css : List (List Value), css.length = xs.length ∧ (∀ k, (h : k < css.length) → (h' : k < xs.length) → t.rv noMem css[k] xs[k]) ∧
   ((v = .slice none 0 0 ∧ xs = []) ∨ ∃ g off cap cur, v = .slice (some ⟨g, off, none⟩) xs.length cap ∧ w.heap[g]? = some (.cells cur e (0, 0)) ∧ xs.length ≤ cap ∧ cap ≤ maxLen ∧ off + cap * t.sz ≤ cur.size ∧ (cur.toList.drop off).take (xs.length * t.sz) = css.flatten)

theorem OwnsO.nil {α : Type} (t : Ty α) (w : World) (e : TypeId) : OwnsO t w e (.slice none 0 0) [] := ⟨[], rfl, fun k h => absurd h (by simp), .inl ⟨rfl, rfl⟩⟩
theorem OwnsO.form {α : Type} {t : Ty α} {w : World} {e : TypeId} {v : Value} {xs : List α} (h : OwnsO t w e v xs) : ∃ a cap, v = .slice a xs.length cap ∧ xs.length ≤ cap ∧ cap ≤ maxLen := by
  obtain ⟨css, _, _, h | ⟨g, off, cap, cur, h1, _, h3, h4, _⟩⟩ := h
  · obtain ⟨rfl, rfl⟩ := h; exact ⟨none, 0, rfl, Nat.le_refl _, Nat.zero_le _⟩
  · exact ⟨_, _, h1, h3, h4⟩
theorem OwnsO.keeps {α : Type} {t : Ty α} {w w' : World} {e : TypeId} {v : Value} {xs : List α} (h : OwnsO t w e v xs) (hk : ∀ k, v.ownBlock = some k → w'.heap[k]? = w.heap[k]?) : OwnsO t w' e v xs := by
  obtain ⟨css, g1, g2, h | ⟨g, off, cap, cur, rfl, h2, r⟩⟩ := h
  · exact ⟨css, g1, g2, .inl h⟩
  · exact ⟨css, g1, g2, .inr ⟨g, off, cap, cur, rfl, by rw [hk g rfl]; exact h2, r⟩⟩
theorem OwnsO.lt {α : Type} {t : Ty α} {w : World} {e : TypeId} {v : Value} {xs : List α} (h : OwnsO t w e v xs) : ∀ k, v.ownBlock = some k → k < w.heap.size := by
  obtain ⟨css, g1, g2, h | ⟨g, off, cap, cur, rfl, h2, r⟩⟩ := h
  · obtain ⟨rfl, _⟩ := h; intro k hk; cases hk
  · intro k hk; cases hk; exact (Array.getElem?_eq_some_iff.1 h2).1
theorem OwnsO.cells {α : Type} {t : Ty α} {w : World} {e : TypeId} {v : Value} {xs : List α} (h : OwnsO t w e v xs) : ∀ k, v.ownBlock = some k → ∃ cur, w.heap[k]? = some (.cells cur e (0, 0)) := by
  obtain ⟨css, g1, g2, h | ⟨g, off, cap, cur, rfl, h2, r⟩⟩ := h
  · obtain ⟨rfl, _⟩ := h; intro k hk; cases hk
  · intro k hk; cases hk; exact ⟨cur, h2⟩
theorem OwnsO.re {α : Type} {M M' : Mem} {t : Ty α} {w : World} {e : TypeId} {v : Value} {xs : List α} (h : OwnsO (tIn M t) w e v xs) (hM : M.le M') : OwnsO (tIn M' t) w e v xs := by
  obtain ⟨css, g1, g2, r⟩ := h
  exact ⟨css, g1, fun k h h' => t.mono _ _ _ _ hM (g2 k h h'), r⟩

theorem take_cell {cur : List Value} {off n k s j : Nat} {css : List (List Value)} {v : Value} (h : (cur.drop off).take (n * s) = css.flatten) (hl : css.length = n) (hs : ∀ c ∈ css, c.length = s) (hk : k < css.length) (e : css[k][j]? = some v) : cur[off + (k * s + j)]? = some v := by
  have hf := flatten_get css hs k hk j v e
  rw [← h, List.getElem?_take] at hf
  split at hf
  · rw [List.getElem?_drop] at hf; exact hf
  · cases hf

theorem OwnsO.lens {α : Type} {t : Ty α} {css : List (List Value)} {xs : List α} (h1 : css.length = xs.length) (h2 : ∀ k, (h : k < css.length) → (h' : k < xs.length) → t.rv noMem css[k] xs[k]) : ∀ c ∈ css, c.length = t.sz := fun c hc => by
  obtain ⟨k, hk, rfl⟩ := List.getElem_of_mem hc
  exact t.len _ _ _ (h2 k hk (by omega))

/-- Its elements, as a reading. -/
theorem OwnsO.rv {α : Type} {t : Ty α} (hf : t.flat) {w : World} {e : TypeId} {v : Value} {xs : List α} (h : OwnsO t w e v xs) {S : Nat → Prop} (hS : ∀ k, v.ownBlock = some k → S k) : (tSlice t).rv ((mem w).on S) [v] xs := by
  obtain ⟨css, g1, g2, h | ⟨g, off, cap, cur, rfl, h2, h3, h4, h5, h6⟩⟩ := h
  · obtain ⟨rfl, rfl⟩ := h; exact slice_nil _ _
  · refine ⟨some ⟨g, off, none⟩, cap, rfl, h3, h4, fun _ => ⟨g, off, rfl, fun k hk => ⟨css[k], fun j u hu => ?_, hf _ _ _ _ (g2 k (by omega) hk)⟩⟩⟩
    have hc := take_cell h6 g1 (OwnsO.lens g1 g2) (by omega) hu
    refine Mem.on_some ?_ (hS g rfl)
    rw [mem_cells h2]
    rw [Nat.add_assoc]
    simpa using hc
theorem OwnsO.rv' {α : Type} {t : Ty α} (hf : t.flat) {w : World} {e : TypeId} {v : Value} {xs : List α} (h : OwnsO t w e v xs) : (tSlice t).rv (mem w) [v] xs :=
  (tSlice t).mono _ _ _ _ (Mem.on_le _ (fun _ => True)) (h.rv hf (fun _ _ => trivial))

/-- What stands at an element's place; the block is not frozen. -/
theorem OwnsO.at {α : Type} {t : Ty α} {w : World} {e : TypeId} {v : Value} {xs : List α} (h : OwnsO t w e v xs) {k : Nat} (hk : k < xs.length) :
    ∃ g off cap cs, v = .slice (some ⟨g, off, none⟩) xs.length cap ∧ xs.length ≤ cap ∧ cap ≤ maxLen ∧ t.rv noMem cs xs[k] ∧ At (mem w) g (off + k * t.sz) cs := by
  obtain ⟨css, g1, g2, h | ⟨g, off, cap, cur, rfl, h2, h3, h4, h5, h6⟩⟩ := h
  · obtain ⟨_, rfl⟩ := h; simp at hk
  · refine ⟨g, off, cap, css[k]'(by omega), rfl, h3, h4, g2 k (by omega) hk, fun j u hu => ?_⟩
    have hc := take_cell h6 g1 (OwnsO.lens g1 g2) (by omega) hu
    rw [mem_cells h2, Nat.add_assoc]
    simpa using hc

theorem drop_take_succ {cur : List Value} {off n s : Nat} {c : List Value} {css : List (List Value)} (h : (cur.drop off).take ((n + 1) * s) = (c :: css).flatten) (hc : c.length = s) : (cur.drop (off + s)).take (n * s) = css.flatten := by
  rw [List.flatten_cons] at h
  have e : (cur.drop (off + s)).take (n * s) = ((cur.drop off).take ((n + 1) * s)).drop s := by
    rw [List.drop_take, List.drop_drop, Nat.succ_mul, Nat.add_sub_cancel]
  rw [e, h, ← hc, List.drop_left]

theorem flatten_length {β : Type} {s : Nat} : ∀ (css : List (List β)), (∀ c ∈ css, c.length = s) → css.flatten.length = css.length * s
  | [], _ => by simp
  | c :: css, h => by rw [List.flatten_cons, List.length_append, h c (by simp), flatten_length css (fun c hc => h c (by simp [hc])), List.length_cons, Nat.succ_mul]; omega

/-- The slice without its first element: 'x[1:]'. -/
theorem OwnsO.tail {α : Type} {P : Program} {t : Ty α} {w : World} {e T : TypeId} {v : Value} {x : α} {xs : List α} (h : OwnsO t w e v (x :: xs)) (hT : P.underlying T = some (.slice e)) (hs : (P.info? e).map (·.size) = some t.sz) :
    ∃ v', (∀ w2, (Instr.slice T v (some (.int .i64 1)) none none).run P w2 = .ok v' w2) ∧ OwnsO t w e v' xs ∧ v'.ownBlock = v.ownBlock ∧ ∃ a c, v' = .slice a xs.length c := by
  obtain ⟨css, g1, g2, h | ⟨g, off, cap, cur, rfl, h2, h3, h4, h5, h6⟩⟩ := h
  · obtain ⟨_, h⟩ := h; cases h
  · have hl := OwnsO.lens g1 g2
    cases css with
    | nil => simp at g1
    | cons c css =>
      have hc : c.length = t.sz := hl c (by simp)
      have hcl : css.length = xs.length := by simpa using g1
      simp only [List.length_cons] at h3 h6
      have h7 := drop_take_succ h6 hc
      have he : P.elem T = e := by simp [Program.elem, hT]
      have hsz : ∀ w2, (sizeOf e).run P w2 = .ok t.sz w2 := fun w2 => by
        cases hq : P.info? e with
        | none => simp [hq] at hs
        | some i => simp only [hq, Option.map_some, Option.some.injEq] at hs; simp [sizeOf, typeInfo, hq, hs]
      refine ⟨.slice (some (if cap = 1 then ⟨g, off, none⟩ else ⟨g, off + t.sz, none⟩)) xs.length (cap - 1), fun w2 => ?_, ⟨css, hcl, fun k h h' => by have := g2 (k + 1) (by simp; omega) (by simp; omega); simpa using this, .inr ?_⟩, ?_, _, _, rfl⟩
      · rw [run_slice_l w2 T _ _ cap (by rw [he]; exact hT) .i64 1 (by omega) (by simp; omega)]
        rw [he, hsz]
        simp only [Result.andThen, sliced, List.length_cons]
        by_cases h1 : cap = 1
        · simp [h1]
        · simp [h1, Addr.add]
      · by_cases h1 : cap = 1
        · have h0 : xs = [] := List.eq_nil_of_length_eq_zero (by omega)
          subst h0
          refine ⟨g, off, cap - 1, cur, by simp [h1], h2, by omega, by omega, by rw [h1] at h5 ⊢; omega, ?_⟩
          have : css = [] := List.eq_nil_of_length_eq_zero (by simpa using hcl)
          subst this; simp
        · refine ⟨g, off + t.sz, cap - 1, cur, by simp [h1], h2, by omega, by omega, ?_, h7⟩
          have e2 : cap * t.sz = (cap - 1) * t.sz + t.sz := by rw [← Nat.succ_mul]; congr 1; omega
          omega
      · by_cases h1 : cap = 1 <;> simp [h1, Value.ownBlock]

section
variable {P : Program}
theorem run_append_room_at (w : World) (t tx ty e : TypeId) (i : TypeInfo) (ht : P.underlying t = some (.slice e)) (hi : P.info? e = some i)
    (g off sLen sCap : Nat) (cur : Array Value) (hg : w.heap[g]? = some (.cells cur e (0, 0))) (x : Value) (n : Nat) (news : List Value) (hs : Src P i.size tx x n news w)
    (hroom : sLen + n ≤ sCap) (hfit : off + sLen * i.size + news.length ≤ cur.size) :
    (Builtin.append_ #[t, tx] ty #[.slice (some ⟨g, off, none⟩) sLen sCap, x]).run P w =
      .ok (.slice (some ⟨g, off, none⟩) (sLen + n) sCap) (w.setRow g (cur.toList.take (off + sLen * i.size) ++ news ++ cur.toList.drop (off + sLen * i.size + news.length)).toArray) := by
  have hst := run_storeCells_at P g (off + sLen * i.size) e news 0 cur w hg (by simpa using hfit) hs.one
  simp only [Nat.add_zero] at hst
  rcases hs.kind with ⟨e', hk⟩ | hk <;> simp [Builtin.append_, run_underlying ht, run_underlying hk, sizeOf, typeInfo, hi, hs.len, hroom, hs.cells, Addr.add_lit, hst]

theorem nextcap_fits {need old bytes : Nat} (h : old < need) (hb : need * bytes ≤ 140737488355328) : Builtin.nextslicecap need old * bytes ≤ 281474976710656 := growslice_fits h hb

theorem run_append_new {α : Type} {t : Ty α} (w : World) (T tx ty : TypeId) {e : TypeId} {z : Value} {bytes : Nat} (hT : P.underlying T = some (.slice e))
    (hinf : (P.info? e).map (fun i => (i.zero, i.size, i.bytes)) = some (some z, t.sz, bytes)) (hzs : z.cells.size = t.sz) (a : Option Addr) (cap : Nat) (xs ys : List α) (css : List (List Value))
    (hold : (Builtin.firstCells t.sz xs.length (.slice a xs.length cap)).run P w.drew = .ok css.flatten.toArray w.drew) (hcl : css.length = xs.length) (hcr : ∀ k, (h : k < css.length) → (h' : k < xs.length) → t.rv noMem css[k] xs[k])
    (x : Value) (dss : List (List Value)) (hs : Src P t.sz tx x ys.length dss.flatten w) (hl : dss.length = ys.length) (hr : ∀ k, (h : k < dss.length) → (h' : k < ys.length) → t.rv noMem dss[k] ys[k])
    (hn : cap < xs.length + ys.length) (h63 : xs.length + ys.length ≤ maxLen) (hbytes : (xs.length + ys.length) * bytes ≤ 140737488355328) :
    ∃ v' w', (Builtin.append_ #[T, tx] ty #[.slice a xs.length cap, x]).run P w = .ok v' w' ∧ OwnsO t w' e v' (xs ++ ys) ∧ Below w.heap.size w w' ∧ v'.ownBlock = some w.heap.size := by
  obtain ⟨i, hi, hz, hsize, hby⟩ := info_parts hinf
  have hsmall : xs.length + ys.length ≤ 9223372036854775807 := by simp only [maxLen] at h63; omega
  rw [← hsize] at hs hold
  rw [← hby] at hbytes
  have hrun := run_append_grow_src (P := P) w T tx ty e i z hT hi hz a xs.length cap css.flatten hold x ys.length dss.flatten hs hn (by omega) (growslice_fits hn hbytes)
  refine ⟨_, _, hrun, ⟨css ++ dss, by simp [hcl, hl], fun k h h' => ?_, .inr ⟨w.heap.size, 0, grownCap w (xs.length + ys.length) cap e, _, ?_, heap_alloc_new w.drew _, ?_, grownCap_le_maxLen w _ _ e h63, ?_, ?_⟩⟩, (Below.refl _ _).drew.alloc (Nat.le_refl _) _, rfl⟩
  · by_cases hk : k < css.length
    · rw [List.getElem_append_left hk, List.getElem_append_left (by omega)]
      exact hcr k hk (by omega)
    · have e1 : (css ++ dss)[k] = dss[k - css.length]'(by simp at h; omega) := List.getElem_append_right (by omega)
      have e2 : (xs ++ ys)[k] = ys[k - css.length]'(by simp at h'; omega) := by rw [List.getElem_append_right (by omega)]; congr 1; omega
      rw [e1, e2]
      exact hr _ _ _
  · rw [List.length_append]
  · rw [List.length_append]; exact grownCap_ge w _ _ e
  · have hge := grownCap_ge w (xs.length + ys.length) cap e
    have h1 : css.flatten.length = xs.length * t.sz := by rw [flatten_length css (OwnsO.lens hcl hcr), hcl]
    have h2 : dss.flatten.length = ys.length * t.sz := by rw [flatten_length dss (OwnsO.lens hl hr), hl]
    simp only [Array.size_append, List.size_toArray, size_zeroCells, hzs, List.length_append, h1, h2, ← Nat.add_mul]
    rw [Nat.zero_add]
    exact Nat.le_of_eq (by congr 1; omega)
  · have h1 : css.flatten.length = xs.length * t.sz := by rw [flatten_length css (OwnsO.lens hcl hcr), hcl]
    have h2 : dss.flatten.length = ys.length * t.sz := by rw [flatten_length dss (OwnsO.lens hl hr), hl]
    simp only [Array.toList_append, List.drop_zero, List.length_append, List.flatten_append]
    rw [Nat.add_mul, ← h1, ← h2, ← List.length_append, List.take_left]

/-- Where an append has put its elements: behind the old ones, where there was room, or all into a new block. -/
def AppAt (w w' : World) (v : Value) (n m : Nat) (v' : Value) : Prop :=
  (v'.ownBlock = v.ownBlock ∧ w.grownBy w' v.ownBlock ∧ ∃ a cap, v = .slice a n cap ∧ n + m ≤ cap) ∨ (Below w.heap.size w w' ∧ v'.ownBlock = some w.heap.size)
theorem AppAt.grown {w w' : World} {v v' : Value} {n m : Nat} (h : AppAt w w' v n m v') : w.grownBy w' v.ownBlock := by
  rcases h with ⟨_, h, _⟩ | ⟨hb, _⟩
  · exact h
  · exact ⟨hb.os, hb.tape, hb.output, hb.size, fun k hk _ => hb.block k hk⟩
theorem AppAt.block {w w' : World} {v v' : Value} {n m : Nat} (h : AppAt w w' v n m v') : v'.ownBlock = v.ownBlock ∨ ∀ k, v'.ownBlock = some k → w.heap.size ≤ k := by
  rcases h with ⟨h, _⟩ | ⟨_, h⟩
  · exact .inl h
  · exact .inr fun k hk => by rw [h] at hk; cases hk; exact Nat.le_refl _

/-- APPEND to a slice of the call's own, of any number of elements. -/
theorem run_append_o {α : Type} {t : Ty α} (w : World) (T tx ty : TypeId) {e : TypeId} {z : Value} {bytes : Nat} (hT : P.underlying T = some (.slice e))
    (hinf : (P.info? e).map (fun i => (i.zero, i.size, i.bytes)) = some (some z, t.sz, bytes)) (hzs : z.cells.size = t.sz) (v : Value) (xs ys : List α) (hown : OwnsO t w e v xs)
    (x : Value) (dss : List (List Value)) (hs : Src P t.sz tx x ys.length dss.flatten w) (hl : dss.length = ys.length) (hr : ∀ k, (h : k < dss.length) → (h' : k < ys.length) → t.rv noMem dss[k] ys[k])
    (h63 : xs.length + ys.length ≤ maxLen) (hbytes : (xs.length + ys.length) * bytes ≤ 140737488355328) :
    ∃ v' w', (Builtin.append_ #[T, tx] ty #[v, x]).run P w = .ok v' w' ∧ OwnsO t w' e v' (xs ++ ys) ∧ AppAt w w' v xs.length ys.length v' := by
  have h2 : dss.flatten.length = ys.length * t.sz := by rw [flatten_length dss (OwnsO.lens hl hr), hl]
  obtain ⟨css, g1, g2, h | ⟨g, off, cap, cur, rfl, hg, h3, h4, h5, h6⟩⟩ := hown
  · obtain ⟨rfl, rfl⟩ := h
    by_cases h0 : ys.length = 0
    · have hy : ys = [] := List.eq_nil_of_length_eq_zero h0
      subst hy
      have hd : dss = [] := List.eq_nil_of_length_eq_zero (by simpa using hl)
      subst hd
      obtain ⟨i, hi, hz, hsize, hby⟩ := info_parts hinf
      refine ⟨.slice none 0 0, w, ?_, OwnsO.nil _ _ _, .inl ⟨rfl, ⟨rfl, rfl, rfl, Nat.le_refl _, fun _ _ _ => rfl⟩, _, _, rfl, Nat.le_refl _⟩⟩
      rw [← hsize] at hs
      rcases hs.kind with ⟨e', hk⟩ | hk <;> (have hc := hs.cells; have hle := hs.len; simp only [List.length_nil] at hc hle; simp [Builtin.append_, run_underlying hT, run_underlying hk, sizeOf, typeInfo, hi, hle, hc])
    · obtain ⟨v', w', hrun, ho, hb, hblk⟩ := run_append_new (P := P) w T tx ty hT hinf hzs none 0 [] ys [] (run_firstCells_none w.drew t.sz 0 0 0) rfl (fun k h => absurd h (by simp)) x dss hs hl hr (by simp; omega) h63 hbytes
      exact ⟨v', w', hrun, ho, .inr ⟨hb, hblk⟩⟩
  · by_cases hroom : xs.length + ys.length ≤ cap
    · obtain ⟨i, hi, hz, hsize, hby⟩ := info_parts hinf
      have hfit : off + xs.length * t.sz + dss.flatten.length ≤ cur.size := by
        have := Nat.mul_le_mul_right t.sz hroom
        rw [Nat.add_mul] at this; omega
      rw [← hsize] at hs
      have hrun := run_append_room_at (P := P) w T tx ty e i hT hi g off xs.length cap cur hg x ys.length dss.flatten hs hroom (by rw [hsize]; exact hfit)
      rw [hsize] at hrun
      refine ⟨_, _, hrun, ⟨css ++ dss, by simp [g1, hl], fun k h h' => ?_, .inr ⟨g, off, cap, _, by rw [List.length_append], setRow_heap w g cur _ e _ hg, by rw [List.length_append]; exact hroom, h4, ?_, ?_⟩⟩, .inl ⟨rfl, ⟨rfl, rfl, rfl, by simp [World.setRow], fun k _ hk => setRow_other w g k _ (fun e => hk (by simp [Value.ownBlock, e]))⟩, _, _, rfl, hroom⟩⟩
      · by_cases hk : k < css.length
        · rw [List.getElem_append_left hk, List.getElem_append_left (by omega)]
          exact g2 k hk (by omega)
        · have e1 : (css ++ dss)[k] = dss[k - css.length]'(by simp at h; omega) := List.getElem_append_right (by omega)
          have e2 : (xs ++ ys)[k] = ys[k - css.length]'(by simp at h'; omega) := by rw [List.getElem_append_right (by omega)]; congr 1; omega
          rw [e1, e2]
          exact hr _ _ _
      · simp only [List.size_toArray, List.length_append, List.length_take, List.length_drop, Array.length_toList]
        omega
      · have h1 : css.flatten.length = xs.length * t.sz := by rw [flatten_length css (OwnsO.lens g1 g2), g1]
        simp only [List.length_append, List.flatten_append]
        have e0 : (cur.toList.take (off + xs.length * t.sz)).drop off = css.flatten := by rw [List.drop_take, ← h6]; congr 1; omega
        have el : off ≤ (cur.toList.take (off + xs.length * t.sz)).length := by simp; omega
        rw [List.append_assoc, List.drop_append_of_le_length el, e0, Nat.add_mul, ← h1, ← h2, ← List.append_assoc, ← List.length_append, List.take_left]
    · have hold : (Builtin.firstCells t.sz xs.length (.slice (some ⟨g, off, none⟩) xs.length cap)).run P w.drew = .ok css.flatten.toArray w.drew := by
        refine run_firstCells_some (P := P) w.drew t.sz xs.length ⟨g, off, none⟩ xs.length cap css.flatten (by rw [flatten_length css (OwnsO.lens g1 g2), g1]) (fun j u hj => ?_)
        rw [Addr.add_lit]
        show w.cell? ⟨g, off + j, none⟩ = some u
        rw [cell_of_row w g (off + j) cur e (0, 0) hg]
        rw [← h6, List.getElem?_take] at hj
        split at hj
        · rw [List.getElem?_drop] at hj; simpa using hj
        · cases hj
      obtain ⟨v', w', hrun, ho, hb, hblk⟩ := run_append_new (P := P) w T tx ty hT hinf hzs (some ⟨g, off, none⟩) cap xs ys css hold g1 g2 x dss hs hl hr (by omega) h63 hbytes
      exact ⟨v', w', hrun, ho, .inr ⟨hb, hblk⟩⟩

theorem run_append_o1 {α : Type} {t : Ty α} (w : World) (T ty : TypeId) {e : TypeId} {z : Value} {bytes : Nat} (hT : P.underlying T = some (.slice e))
    (hinf : (P.info? e).map (fun i => (i.zero, i.size, i.bytes)) = some (some z, t.sz, bytes)) (hzs : z.cells.size = t.sz) (v : Value) (xs : List α) (hown : OwnsO t w e v xs)
    (nb c : Nat) (y : α) (cs : List Value) (hat : At (mem w) nb 0 cs) (hrv : t.rv noMem cs y) (h1 : ∀ u ∈ cs, u.oneCell' = true)
    (h63 : xs.length + 1 ≤ maxLen) (hbytes : (xs.length + 1) * bytes ≤ 140737488355328) :
    ∃ v' w', (Builtin.append_ #[T, T] ty #[v, .slice (some ⟨nb, 0, none⟩) 1 c]).run P w = .ok v' w' ∧ OwnsO t w' e v' (xs ++ [y]) ∧ AppAt w w' v xs.length 1 v' := by
  have hl := t.len _ _ _ hrv
  refine run_append_o (P := P) w T T ty hT hinf hzs v xs [y] hown _ [cs] (Src.ofSlice w hT ⟨nb, 0, none⟩ 1 c _ (by simp [hl]) (fun j u hj => ?_) (by simpa using h1)) rfl (fun k h h' => ?_) h63 hbytes
  · rw [Addr.add_lit]
    exact hat j u (by simpa using hj)
  · have : k = 0 := by simp at h; omega
    subst this; exact hrv

/-- APPEND OF ONE ELEMENT. -/
theorem wpList_append_o1 {α : Type} {ops : Array Oper} {rest : List Oper} {o : Oper} {a : Act} {Q : Exit → Act → World → Prop} {w : World} (hgd : o.guard = none) (s x : Operand) (T : TypeId)
    (ho : o.op = .call { callee := .builtin .append, args := #[s, x], argTypes := #[T, T] }) (t : Ty α) {e : TypeId} {z : Value} {bytes : Nat} (hT : P.underlying T = some (.slice e))
    (hinf : (P.info? e).map (fun i => (i.zero, i.size, i.bytes)) = some (some z, t.sz, bytes)) (hzs : z.cells.size = t.sz) (v : Value) (xs : List α) (hs : a.eval s = v) (hown : OwnsO t w e v xs)
    (nb c : Nat) (y : α) (hx : a.eval x = .slice (some ⟨nb, 0, none⟩) 1 c) (cs : List Value) (hat : At (mem w) nb 0 cs) (hrv : t.rv noMem cs y) (h1 : ∀ u ∈ cs, u.oneCell' = true)
    (h63 : xs.length + 1 ≤ maxLen) (hbytes : (xs.length + 1) * bytes ≤ 140737488355328)
    (h : ∀ v' w', OwnsO t w' e v' (xs ++ [y]) → AppAt w w' v xs.length 1 v' → wpList P ops Q rest (a.put o.dst v') w') : wpList P ops Q (o :: rest) a w := by
  refine wpList_plain hgd fun K hK => ?_
  obtain ⟨v', w', hr, h2, h3⟩ := run_append_o1 (P := P) w T o.type hT hinf hzs v xs hown nb c y cs hat hrv h1 h63 hbytes
  unfold Oper.wp execOp
  simp only [ho, resolve, invoke, builtin, Sem.run_bind, Sem.run_pure, Result.andThen_ok, List.map_toArray, List.map_cons, List.map_nil, hs, hx, hr]
  exact hK _ _ (h v' w' h2 h3)
/-- The same as one step of a region that draws its order. -/
theorem step_append_o1 {α : Type} {ops : Array Oper} {o : Oper} {a : Act} {w : World} {K : Act → World → Prop} {Q : Exit → Act → World → Prop} {E : Prop} (hgd : o.guard = none) (s x : Operand) (T : TypeId)
    (ho : o.op = .call { callee := .builtin .append, args := #[s, x], argTypes := #[T, T] }) (t : Ty α) {e : TypeId} {z : Value} {bytes : Nat} (hT : P.underlying T = some (.slice e))
    (hinf : (P.info? e).map (fun i => (i.zero, i.size, i.bytes)) = some (some z, t.sz, bytes)) (hzs : z.cells.size = t.sz) (v : Value) (xs : List α) (hs : a.eval s = v) (hown : OwnsO t w e v xs)
    (nb c : Nat) (y : α) (hx : a.eval x = .slice (some ⟨nb, 0, none⟩) 1 c) (cs : List Value) (hat : At (mem w) nb 0 cs) (hrv : t.rv noMem cs y) (h1 : ∀ u ∈ cs, u.oneCell' = true)
    (h63 : xs.length + 1 ≤ maxLen) (hbytes : (xs.length + 1) * bytes ≤ 140737488355328)
    (h : ∀ v' w', OwnsO t w' e v' (xs ++ [y]) → AppAt w w' v xs.length 1 v' → K (a.put o.dst v') w') :
    if Region.wanted o (yielded ops a.tmps) = true then Oper.wp P o a w K Q else E := by
  have hw : Region.wanted o (yielded ops a.tmps) = true := by simp [Region.wanted, hgd]
  rw [if_pos hw]
  obtain ⟨v', w', hr, h2, h3⟩ := run_append_o1 (P := P) w T o.type hT hinf hzs v xs hown nb c y cs hat hrv h1 h63 hbytes
  unfold Oper.wp execOp
  simp only [ho, resolve, invoke, builtin, Sem.run_bind, Sem.run_pure, Result.andThen_ok, List.map_toArray, List.map_cons, List.map_nil, hs, hx, hr]
  exact h v' w' h2 h3
end
end Go.Proofs.YtnfolemblnnejaaGreat
