/- The tied card of VaultNothing: for every input the law returns true and leaves its arguments as they were. -/
import Derived.Deep.DeepHandedRow
import Derived.Lay
import Derived.Test.YtnfolemblnnejaaGreatDoorCards
import Derived.Test.YtnfolemblnnejaaGreatDoorTie
import Derived.WalkKit
import Derived.ProofKit
import Derived.OpenShut
import Derived.Test.YtnfolemblnnejaaGreatDoorVn05
set_option linter.unusedVariables false
set_option linter.unusedSimpArgs false
/- VaultNothing: the walk (printed by gen_vnothing.py). -/
namespace Go.Proofs.YtnfolemblnnejaaGreatDoor
open Go.RowKit Go.Maps

set_option maxRecDepth 100000 in
set_option maxHeartbeats 16000000 in
theorem vaultNothing_any (x : VAct) (ve : Value) (w : World) (hx : x.okA) (hve : tEnts.rv (mem w) [ve] x.es) :
    Calls Tryz.prog 3 #[.agg #[.int .u8 x.k, .int .i64 x.n, .int .i64 x.t, .string x.nm, .string x.tx, ve]] w fun e w' => e = .returned (.bool true) ∧ Below w.heap.size w w' := by
  obtain ⟨xk, xn, xt, nm, tx, es⟩ := x
  simp only at hve
  obtain ⟨ae, ke, rfl, hle, hme, -⟩ := slice_form hve
  have HVE := Lib.hid hve
  have HX := Lib.hid hx
  have HB0 := Lib.hid (show Below w.heap.size w (w.alloc (.cells #[.int .u8 xk, .int .i64 xn, .int .i64 xt, .string nm, .string tx, .slice ae es.length ke] 24)) from (Below.refl _ _).alloc (Nat.le_refl _) _)
  have HC := Lib.hid (fun (wq : World) (hq : (mem (w.alloc (.cells #[.int .u8 xk, .int .i64 xn, .int .i64 xt, .string nm, .string tx, .slice ae es.length ke] 24))).le (mem wq)) => (show wq.cell? ⟨w.heap.size, 0, none⟩ = some (.int .u8 xk) ∧ wq.cell? ⟨w.heap.size, 1, none⟩ = some (.int .i64 xn) ∧ wq.cell? ⟨w.heap.size, 2, none⟩ = some (.int .i64 xt) ∧ wq.cell? ⟨w.heap.size, 3, none⟩ = some (.string nm) ∧ wq.cell? ⟨w.heap.size, 4, none⟩ = some (.string tx) ∧ wq.cell? ⟨w.heap.size, 5, none⟩ = some (.slice ae es.length ke) from ⟨hq _ _ _ (mem_cells (heap_alloc_new w _) 0), hq _ _ _ (mem_cells (heap_alloc_new w _) 1), hq _ _ _ (mem_cells (heap_alloc_new w _) 2), hq _ _ _ (mem_cells (heap_alloc_new w _) 3), hq _ _ _ (mem_cells (heap_alloc_new w _) 4), hq _ _ _ (mem_cells (heap_alloc_new w _) 5)⟩))
  clear hx hve hme hle
  go_enter Tryz.func3, Tryz.ntmps3
  go_wp2_with fail
  refine (awake_any _).mono ?_
  rintro e w1 ⟨rfl, hb⟩
  have HB1 := Lib.hid (HB0.out.trans (hb.mono HB0.out.size))
  have HM1 := Lib.hid (below_mem hb)
  clear hb
  obtain ⟨d0, d1, d2, d3, d4, d5⟩ := HC.out w1 HM1.out
  have HMA := Lib.hid (show tVActs.rv (mem (w1.alloc (.cells #[.int .u8 xk, .int .i64 xn, .int .i64 xt, .string nm, .string tx, .slice ae es.length ke] 24))) [.slice (some ⟨w1.heap.size, 0, none⟩) 1 1] [⟨xk, xn, xt, nm, tx, es⟩] from
    ⟨_, 1, rfl, Nat.le_refl _, by unfold maxLen; decide, fun _ => ⟨_, 0, rfl, fun k hk => by
      have hk : k = 0 := by simpa using hk
      subst hk
      refine ⟨[.int .u8 xk, .int .i64 xn, .int .i64 xt, .string nm, .string tx, .slice ae es.length ke], fun i v hv => ?_, _, rfl, HX.out, tEnts.mono _ _ _ _ (below_mem (HB1.out.trans ((box_below w1 _).mono HB1.out.size))) HVE.out⟩
      rw [mem_cells (heap_alloc_new w1 _)]
      simpa using hv⟩⟩)
  have HBL := Lib.hid (box_below w1 (.cells #[.int .u8 xk, .int .i64 xn, .int .i64 xt, .string nm, .string tx, .slice ae es.length ke] 24))
  clear HB0
  go_wp2_with fail
  refine (many_any _ _ _ HMA.out).mono ?_
  rintro e w2 ⟨bb, rfl, hb, -⟩
  have HB2 := Lib.hid (HB1.out.trans ((HBL.out.trans (hb.mono HBL.out.size)).mono HB1.out.size))
  have HM2 := Lib.hid (Mem.le_trans HM1.out (below_mem (HBL.out.trans (hb.mono HBL.out.size))))
  clear hb HMA HBL HB1 HM1 d0 d1 d2 d3 d4 d5
  cases bb
  case true =>
    go_wp2
    go_ret
    exact ⟨rfl, HB2.out⟩
  obtain ⟨d0, d1, d2, d3, d4, d5⟩ := HC.out w2 HM2.out
  go_wp2_with fail
  refine (nilTrigger nm _).mono ?_
  rintro e w3 ⟨rfl, hb⟩
  have HB3 := Lib.hid (HB2.out.trans (hb.mono HB2.out.size))
  have HM3 := Lib.hid (Mem.le_trans HM2.out (below_mem hb))
  clear hb HB2 HM2 d0 d1 d2 d3 d4 d5
  obtain ⟨d0, d1, d2, d3, d4, d5⟩ := HC.out w3 HM3.out
  go_wp2_with fail
  refine (nilTell xn xt tx _ _).mono ?_
  rintro e w4 ⟨rfl, hb⟩
  have HB4 := Lib.hid (HB3.out.trans (hb.mono HB3.out.size))
  have HM4 := Lib.hid (Mem.le_trans HM3.out (below_mem hb))
  clear hb HB3 HM3 d0 d1 d2 d3 d4 d5
  obtain ⟨d0, d1, d2, d3, d4, d5⟩ := HC.out w4 HM4.out
  go_wp2_with fail
  refine (nilMissing xn _).mono ?_
  rintro e w5 ⟨rfl, hb⟩
  have HB5 := Lib.hid (HB4.out.trans (hb.mono HB4.out.size))
  have HM5 := Lib.hid (Mem.le_trans HM4.out (below_mem hb))
  clear hb HB4 HM4 d0 d1 d2 d3 d4 d5
  obtain ⟨d0, d1, d2, d3, d4, d5⟩ := HC.out w5 HM5.out
  go_wp2_with fail
  refine (nilLatest _).mono ?_
  rintro e w6 ⟨rfl, hb⟩
  have HB6 := Lib.hid (HB5.out.trans (hb.mono HB5.out.size))
  have HM6 := Lib.hid (Mem.le_trans HM5.out (below_mem hb))
  clear hb HB5 HM5 d0 d1 d2 d3 d4 d5
  obtain ⟨d0, d1, d2, d3, d4, d5⟩ := HC.out w6 HM6.out
  go_wp2_with fail
  refine (nilTexts xn _).mono ?_
  rintro e w7 ⟨rfl, hb⟩
  have HB7 := Lib.hid (HB6.out.trans (hb.mono HB6.out.size))
  have HM7 := Lib.hid (Mem.le_trans HM6.out (below_mem hb))
  clear hb HB6 HM6 d0 d1 d2 d3 d4 d5
  obtain ⟨d0, d1, d2, d3, d4, d5⟩ := HC.out w7 HM7.out
  go_wp2_with fail
  refine (nilDecline xn _).mono ?_
  rintro e w8 ⟨rfl, hb⟩
  have HB8 := Lib.hid (HB7.out.trans (hb.mono HB7.out.size))
  have HM8 := Lib.hid (Mem.le_trans HM7.out (below_mem hb))
  clear hb HB7 HM7 d0 d1 d2 d3 d4 d5
  obtain ⟨d0, d1, d2, d3, d4, d5⟩ := HC.out w8 HM8.out
  go_wp2_with fail
  refine (nilForget nm _).mono ?_
  rintro e w9 ⟨rfl, hb⟩
  have HB9 := Lib.hid (HB8.out.trans (hb.mono HB8.out.size))
  have HM9 := Lib.hid (Mem.le_trans HM8.out (below_mem hb))
  clear hb HB8 HM8 d0 d1 d2 d3 d4 d5
  obtain ⟨d0, d1, d2, d3, d4, d5⟩ := HC.out w9 HM9.out
  go_wp2_with fail
  refine (nilRetask xt _).mono ?_
  rintro e w10 ⟨rfl, hb⟩
  have HB10 := Lib.hid (HB9.out.trans (hb.mono HB9.out.size))
  have HM10 := Lib.hid (Mem.le_trans HM9.out (below_mem hb))
  clear hb HB9 HM9 d0 d1 d2 d3 d4 d5
  obtain ⟨d0, d1, d2, d3, d4, d5⟩ := HC.out w10 HM10.out
  go_wp2_with fail
  refine (nilFall _).mono ?_
  rintro e w11 ⟨rfl, hb⟩
  have HB11 := Lib.hid (HB10.out.trans (hb.mono HB10.out.size))
  have HM11 := Lib.hid (Mem.le_trans HM10.out (below_mem hb))
  clear hb HB10 HM10 d0 d1 d2 d3 d4 d5
  obtain ⟨d0, d1, d2, d3, d4, d5⟩ := HC.out w11 HM11.out
  go_wp2_with fail
  refine (nilPending _).mono ?_
  rintro e w12 ⟨rfl, hb⟩
  have HB12 := Lib.hid (HB11.out.trans (hb.mono HB11.out.size))
  have HM12 := Lib.hid (Mem.le_trans HM11.out (below_mem hb))
  clear hb HB11 HM11 d0 d1 d2 d3 d4 d5
  obtain ⟨d0, d1, d2, d3, d4, d5⟩ := HC.out w12 HM12.out
  go_wp2_with fail
  refine (nilComplete _).mono ?_
  rintro e w13 ⟨rfl, hb⟩
  have HB13 := Lib.hid (HB12.out.trans (hb.mono HB12.out.size))
  have HM13 := Lib.hid (Mem.le_trans HM12.out (below_mem hb))
  clear hb HB12 HM12 d0 d1 d2 d3 d4 d5
  obtain ⟨d0, d1, d2, d3, d4, d5⟩ := HC.out w13 HM13.out
  go_wp2_with fail
  refine (nilNames _).mono ?_
  rintro e w14 ⟨rfl, hb⟩
  have HB14 := Lib.hid (HB13.out.trans (hb.mono HB13.out.size))
  have HM14 := Lib.hid (Mem.le_trans HM13.out (below_mem hb))
  clear hb HB13 HM13 d0 d1 d2 d3 d4 d5
  obtain ⟨d0, d1, d2, d3, d4, d5⟩ := HC.out w14 HM14.out
  go_wp2_with fail
  refine (nilFormat _).mono ?_
  rintro e w15 ⟨rfl, hb⟩
  have HB15 := Lib.hid (HB14.out.trans (hb.mono HB14.out.size))
  have HM15 := Lib.hid (Mem.le_trans HM14.out (below_mem hb))
  clear hb HB14 HM14 d0 d1 d2 d3 d4 d5
  go_wp2
  go_ret
  exact ⟨rfl, HB15.out⟩
end Go.Proofs.YtnfolemblnnejaaGreatDoor
/- A witness for a row that lists great tables: the world is laid by World.laidAll. No program in sight. -/
namespace Go.Proofs.YtnfolemblnnejaaGreatDoor
theorem witness_row_zip {H : Type} {enc : TypeId × Value → H} {C : Checked} {os : Os} {f : FuncId} {fn : Func} {s : OpenSpec} {conds : List PathCond} {apart : Bool} {laid : List (String × DataW Unit)} (modest : Bool) (w0 : World) (args : Array Value) (hos : w0.os = os)
    (hv : (w0.forCall (fun _ _ => 0) ⟨#[], args, []⟩).variablesZipB C.prog = true)
    (hr : ((w0.forCall (fun _ _ => 0) ⟨#[], args, []⟩).heap.toList.drop C.prog.globals.size).take ((begin C.prog (fun _ _ => 0) default).world.heap.size - C.prog.globals.size) =
      (begin C.prog (fun _ _ => 0) default).world.heap.toList.drop C.prog.globals.size)
    (hok : Input.okWideB C.prog (w0.forCall (fun _ _ => 0) ⟨#[], args, []⟩) f ⟨#[], args, []⟩ = true)
    (hrow : s.preRow enc C.prog fn conds apart laid (w0.forCall (fun _ _ => 0) ⟨#[], args, []⟩).memory args) :
    ∃ (w : World) (tape : Tape) (i : Input), w.os = os ∧ (w.forCall tape i).Shaped C.prog ∧ i.vars = [] ∧ Input.okWide C.prog (w.forCall tape i) .any w.heap.size f i ∧
      s.preRow enc C.prog fn conds apart laid (w.forCall tape i).memory i.args ∧ ({ modest := modest } : Assume).holds C.prog (lone (Frame.enter C.prog f i.args .normal) [] (w.forCall tape i)) :=
  ⟨w0, fun _ _ => 0, ⟨#[], args, []⟩, hos, World.shaped_of_ZipB hv hr, (Input.okWide_of_okWideB (base := 0) hok).1, (Input.okWide_of_okWideB hok).2, hrow, by
    simp only [Assume.holds]
    exact ⟨by simp, by simp, fun _ => Modest.zero, by simp, by simp⟩⟩
end Go.Proofs.YtnfolemblnnejaaGreatDoor
namespace Go.Proofs.YtnfolemblnnejaaGreatDoor.lawVaultNothing
open Go.ChangeShapes Go.WideShapes Go.ChangeAt Go.RowKit

noncomputable def laidWorld (os : Os) : World := World.laidAll Tryz.prog os Rows.vaultNothingRow.laid
set_option maxRecDepth 100000 in
theorem contract (H : Type) (enc : TypeId × Value → H) (W : World) (base : Nat) (args : Array Value) (ds gs : List (DataW H)) (before : List MemPlace)
    (hval0 : ∀ (j : Nat) t v, Tryz.f3.params[j]? = some t → args[j]? = some v → Value.okWide Tryz.prog W .any base t v)
    (hW : DataW.Whole enc Tryz.prog Tryz.f3.params.toList Rows.vaultNothingSpec.vars false W args.toList ds gs before) (hL : laidMetH Tryz.prog Rows.vaultNothingRow.laid W) :
    Calls Tryz.prog 3 args W fun e W' => ∃ v, e = .returned v ∧ Rows.vaultNothingSpec.post enc Tryz.prog Tryz.f3 false true false false W args v W' := by
  have hval : ∀ (j : Nat) t v, Tryz.f3.params[j]? = some t → args[j]? = some v → Value.okWide Tryz.prog W .any base t v := hval0
  have hW' := hW
  obtain ⟨p, q, hA0, hV, rfl, hfz, hnd⟩ := hW
  have hA : DataW.TrodAll enc Tryz.prog W 0 (fun _ => true) true Tryz.f3.params.toList args.toList ds p := hA0
  rw [Tryz.params3] at hA hval
  obtain ⟨v0, vs0, d0, ds0, p0, q0, hargs, rfl, rfl, h0, r0⟩ := trodAll_cons hA
  obtain ⟨rfl, rfl, rfl⟩ := trodAll_nil r0
  obtain rfl : args = #[v0] := by cases args; simp_all
  obtain ⟨rfl, rfl⟩ := trodVars_none hV
  obtain ⟨x0, cs0, rfl, s0, e0, o0, w0⟩ := arg_struct (t := tVAct) reads_vact Tryz.underlying24 (hval 0 24 v0 rfl rfl) h0
  obtain rfl : cs0 = #[.int .u8 x0.k, .int .i64 x0.n, .int .i64 x0.t, .string x0.nm, .string x0.tx, s0] := by cases cs0; simpa using e0
  clear hA0 hval0
  refine (vaultNothing_any x0 s0  W o0 w0).mono fun e W' ⟨he, bel⟩ => ?_
  subst he
  exact ⟨_, rfl, law_post Tryz.laidOut rfl (by rw [Tryz.params3]; intro t ht; have hs : Tryz.prog.types.size = Tryz.prog.types.size := rfl; simp only [List.mem_cons, List.not_mem_nil, or_false] at ht; rcases ht with rfl <;> exact ⟨by kernel_rfl, of_decide_eq_true (by kernel_rfl)⟩) (by kernel_rfl) Tryz.underlying4 rfl rfl rfl hW' bel⟩

theorem laid_met (os : Os) : laidMet Tryz.prog Rows.vaultNothingRow.laid ((laidWorld os).forCall (fun _ _ => 0) ⟨#[], #[.agg #[.int .u8 0, .int .i64 0, .int .i64 0, .string .empty, .string .empty, .slice none 0 0]], []⟩).memory :=
  laidMet_laidAll _ (by kernel_rfl) (by kernel_rfl)
theorem readsW (os : Os) {H : Type} (enc : TypeId × Value → H) : (DataW.whole enc Tryz.prog ((laidWorld os).forCall (fun _ _ => 0) ⟨#[], #[.agg #[.int .u8 0, .int .i64 0, .int .i64 0, .string .empty, .string .empty, .slice none 0 0]], []⟩).memory Tryz.f3.params.toList Rows.vaultNothingSpec.vars false #[Value.agg #[Value.int .u8 0, Value.int .i64 0, Value.int .i64 0, Value.string .empty, Value.string .empty, Value.slice none 0 0]].toList 8).isSome = true := by kernel_rfl

set_option maxRecDepth 100000 in
theorem lifted (os : Os) (started : os.Started) (H : Type) (enc : TypeId × Value → H) (F : Stop.Interp) :
    ReturnsInHanded {} Tryz.checked os 3 .any ((OpenSpec.ofChange Rows.vaultNothingSpec).preRow enc Tryz.prog Tryz.f3 Rows.vaultNothingRow.domain false Rows.vaultNothingRow.laid) (((OpenSpec.ofChange Rows.vaultNothingSpec).at F).post enc Tryz.prog Tryz.f3 false true false false) := by
  obtain ⟨⟨xd, xg, places⟩, hx⟩ := Option.isSome_iff_exists.1 (readsW os enc)
  refine returnsInHanded_of_row (C := Tryz.checked) (s := OpenSpec.ofChange Rows.vaultNothingSpec) Tryz.own started (by kernel_rfl) Tryz.func3
    (witness_row_zip (enc := enc) (C := Tryz.checked) false (laidWorld os) #[.agg #[.int .u8 0, .int .i64 0, .int .i64 0, .string .empty, .string .empty, .slice none 0 0]] (World.laidAll_os _ _ _) (by kernel_rfl) (by kernel_rfl) (by kernel_rfl)
      (OpenSpec.preRow_of_cond 8 hx (by kernel_rfl) (fun k hk => by cases hk) (by kernel_rfl) (laid_met os))) ?_
  intro W base args ds gs before hval hW _ _ _ hL _ _
  exact contract H enc W base args ds gs before hval hW hL

theorem said : Rows.VaultNothingSaid :=
  OpenClaim.holds_of_cond 3 Tryz.f3 rfl rfl rfl rfl rfl rfl rfl ⟨rfl, rfl, rfl, rfl, rfl⟩ rfl rfl rfl rfl rfl (by kernel_rfl) Tryz.func3 (by kernel_rfl)
    (of_decide_eq_true (by kernel_rfl)) (by unfold Func.isWrapper; first | (rw [if_pos (by decide +kernel)]; kernel_rfl) | (rw [if_neg (by decide +kernel)]; exact ⟨rfl, rfl⟩))
    (fun os started H enc _ F => by rw [OpenClaim.pre_eq_preRow]; exact lifted os started H enc F)

theorem plain (f : FuncId) (fn : Func) (hf : Tryz.pinned.checked.prog.funcNamed "tidewright/tidewrightlaw24.VaultNothing" = some f) (hfn : Tryz.pinned.checked.prog.funcs[f]? = some fn) :
    true = Tryz.pinned.checked.prog.looks [] ∧ ∀ (j : Nat) t, fn.params[j]? = some t → Tryz.pinned.checked.prog.wantsStandIn t = false := by
  obtain rfl : f = 3 := Option.some.inj ((show Tryz.prog.funcNamed "tidewright/tidewrightlaw24.VaultNothing" = some 3 by kernel_rfl).symm.trans hf) |>.symm
  obtain rfl : fn = Tryz.f3 := (Option.some.inj (Tryz.func3.symm.trans hfn)).symm
  refine ⟨by kernel_rfl, fun j t ht => ?_⟩
  rw [Tryz.params3] at ht
  have hm := Array.mem_of_getElem? ht
  simp only [List.mem_toArray, List.mem_cons, List.not_mem_nil, or_false] at hm
  rcases hm with rfl
  · exact (show Tryz.prog.wantsStandIn 24 = false by kernel_rfl)

theorem card : Rows.VaultNothingCardSaid :=
  Claim7.holds_tied_plain_at .later [] _ _ _ _ said (fun _ h => by cases h) (by kernel_rfl) (fun _ h => by cases h) vaultNothing_row_tie rfl ⟨rfl, rfl⟩ (by kernel_rfl) rfl plain (by kernel_rfl)
#print axioms card
end Go.Proofs.YtnfolemblnnejaaGreatDoor.lawVaultNothing
