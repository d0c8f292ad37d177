/- The reference's At and ValidSchema; slices.IndexFunc at columns; Find. -/
import Derived.Test.YtkldimaoafgolaaDoorSchema
namespace Go.Proofs.YtkldimaoafgolaaDoor
open Go.RowKit Go.Maps

theorem quiet_eq {P : Program} {f : FuncId} {args : Array Value} {w : World} {n : Nat} {v : Value}
    (h : Calls P f args (w.drewN n) fun e w' => e = .returned v ∧ w.drewN n = w') : Calls P f args (w.drewN n) fun e w'' => e = .returned v ∧ ∃ m, w'' = w.drewN m :=
  h.mono fun _ _ ⟨he, hm⟩ => ⟨he, n, hm.symm⟩
theorem below_drewN {B : Nat} {w wr : World} (h : Below B w wr) (n : Nat) : Below B w (wr.drewN n) := ⟨h.os, h.tape, h.output, h.size, h.block⟩
def colIs (nm : ByteArray) (c : Col) : Bool := decide (c.name = nm)
theorem colIs_list (nm : ByteArray) (c : Col) : colIs nm c = (c.name.toList == nm.toList) := by
  unfold colIs
  by_cases h : c.name = nm
  · simp [h]
  · have : ¬ c.name.toList = nm.toList := fun e => h (by
      rw [ByteArray.toList_eq, ByteArray.toList_eq] at e
      obtain ⟨⟨l⟩⟩ := nm
      obtain ⟨⟨⟨l'⟩⟩, _⟩ := c
      simpa using e)
    simp [h, this]
theorem slice_take {α : Type} {t : Ty α} {m : Mem} {a : Option Addr} {n cap : Nat} {xs : List α} (h : (tSlice t).rv m [.slice a n cap] xs) {k : Nat} (hk : k ≤ xs.length) : (tSlice t).rv m [.slice a k cap] (xs.take k) := by
  obtain ⟨rfl, h1, h2⟩ := slice_len h
  have hl : (xs.take k).length = k := by rw [List.length_take]; omega
  refine ⟨a, cap, by rw [hl], by rw [hl]; omega, h2, fun h0 => ?_⟩
  rw [hl] at h0
  obtain ⟨b, o, rfl, _⟩ := slice_at h (k := 0) (by omega)
  refine ⟨b, o, rfl, fun j hj => ?_⟩
  rw [hl] at hj
  obtain ⟨b', o', e, hat⟩ := slice_at h (k := j) (by omega)
  injection e with e; injection e with e1 e2
  subst e1; subst e2
  rw [List.getElem_take]; exact hat

set_option maxHeartbeats 1000000 in
theorem at_any (xs : List Col) (nm : ByteArray) (v : Value) (w : World) (hv : tSchema.rv (mem w) [v] xs) :
    Calls Tryd.prog 57 #[v, .string nm] w fun e w' => e = .returned (.int .i64 (idxOf (colIs nm) xs)) ∧ w = w' := by
  obtain ⟨a, cap, rfl, hl, hm, hv⟩ := slice_form hv
  have hcap : cap ≤ 9223372036854775807 := by unfold maxLen at hm; exact hm
  clear hm
  go_enter Tryd.func57, Tryd.ntmps57
  go_wp2
  go_loop [5] (fun i => ∃ k : Nat, k ≤ xs.length ∧ i = .int .i64 k ∧ Hid (∀ x ∈ xs.take k, colIs nm x = false)) (fun i => xs.length - (intOf i).toNat)
  case atStart => exact ⟨0, by omega, rfl, Lib.hid (by simp)⟩
  case round =>
    obtain ⟨k, hk, rfl, HT⟩ := hrel
    by_cases hlt : k < xs.length
    · obtain ⟨b, o, rfl, c0, c1, c2, c3⟩ := schema_cells hv hlt
      have c0 : w.cell? ⟨b, o + k * 2, none⟩ = some (.string xs[k].name) := c0
      have HL := Lib.hid (colIs_list nm xs[k])
      have HI := Lib.hid (fun h : colIs nm xs[k] = true => idxOf_at hlt h HT.out)
      have HN := Lib.hid (fun h : colIs nm xs[k] = false => mem_take_snoc hlt HT.out h)
      clear hv HT c1 c2 c3
      generalize xs[k] = x at *
      obtain ⟨xn, xk⟩ := x
      simp only at c0 HL
      generalize colIs nm ⟨xn, xk⟩ = r at HI HN HL
      cases r
      · have e1 : (xn.toList == nm.toList) = false := HL.out.symm
        go_wp2
        go_round
        case rel => exact ⟨k + 1, by omega, by go_num, Lib.hid (HN.out (by trivial))⟩
        case measure => simp [intOf]; omega
      · have e1 : (xn.toList == nm.toList) = true := HL.out.symm
        go_wp2
        go_ret
        exact ⟨by rw [HI.out (by trivial)]; rfl, rfl⟩
    · obtain rfl : k = xs.length := by omega
      have HX := Lib.hid (idxOf_none (p := colIs nm) (l := xs) (fun x hx => HT.out x (by rw [List.take_length]; exact hx)))
      go_wp2
      go_ret
      exact ⟨by rw [HX.out]; rfl, rfl⟩

theorem metBefore_idx (xs : List Col) (k : Nat) (nm : ByteArray) : metBefore xs k nm = decide (0 ≤ idxOf (colIs nm) (xs.take k)) := by rw [idxOf_any]; rfl

set_option maxRecDepth 100000 in
set_option maxHeartbeats 4000000 in
theorem refValidSchema_any (xs : List Col) (v : Value) (w : World) (hv : tSchema.rv (mem w) [v] xs) :
    Calls Tryd.prog 20 #[v] w fun e w' => e = .returned (.bool (validSchema xs)) ∧ Below w.heap.size w w' := by
  obtain ⟨a, cap, rfl, hl, hm, hv⟩ := slice_form hv
  have hcap : cap ≤ 9223372036854775807 := by unfold maxLen at hm; exact hm
  clear hm
  go_enter Tryd.func20, Tryd.ntmps20
  go_wp2
  go_loopw [3] (fun i wr => ∃ k : Nat, k ≤ xs.length ∧ i = .int .i64 k ∧ Hid (∀ i, i < k → stepOk xs i = true) ∧ Below w.heap.size w wr) (fun i _ => xs.length - (intOf i).toNat)
  case atStart => exact ⟨0, by omega, rfl, Lib.hid (fun i hi => absurd hi (by omega)), Below.refl _ _⟩
  case round =>
    obtain ⟨k, hk, rfl, HT, hB⟩ := hrel
    by_cases hlt : k < xs.length
    · have hvr := tSchema.mono _ _ _ _ (below_mem hB) hv
      have HVT := Lib.hid (slice_take hvr (k := k) (by omega))
      obtain ⟨b, o, rfl, c0, c1, c2, c3⟩ := schema_cells hvr hlt
      have c0 : wr.cell? ⟨b, o + k * 2, none⟩ = some (.string xs[k].name) := c0
      have c1 : wr.cell? ⟨b, o + k * 2 + 1, none⟩ = some (.int .i64 xs[k].kind) := c1
      have HO := Lib.hid (stepOk_at hlt)
      have HN := Lib.hid (fun h => upto_succ (p := stepOk xs) HT.out h)
      have HX := Lib.hid (fun h => validSchema_bad (s := xs) (i := k) hlt h)
      have HC := Lib.hid (fun w => refName_any xs[k].name w c2)
      have HAt := Lib.hid (fun nm n => at_any (xs.take k) nm _ (wr.drewN n) (show tSchema.rv (mem (wr.drewN n)) _ _ from HVT.out))
      have HM := Lib.hid (metBefore_idx xs k xs[k].name)
      clear hv HT c2 c3 hvr HVT
      generalize xs[k] = x at *
      obtain ⟨nm, kd⟩ := x
      simp only at c0 c1 HO HC HM
      have HA := Lib.hid (HAt.out nm)
      clear HAt
      generalize idxOf (colIs nm) (xs.take k) = ix at HM HA
      generalize stepOk xs k = so at HO HN HX
      generalize metBefore xs k nm = q at HO HM
      generalize isName nm = r at HO HC
      cases r
      · have HR := Lib.hid (HO.out.trans rfl)
        go_wp2
        go_quiet ((go_at_call 18; exact quiet_eq (HC.out _)))
        go_wp2
        go_ret
        exact ⟨by rw [HX.out HR.out]; rfl, below_drewN hB _⟩
      · by_cases hk1 : kd = 1 ∨ kd = 2
        · have ek : decide (1 ≤ kd ∧ kd ≤ 2) = true := by simp; omega
          have HO := Lib.hid (show so = !q from HO.out.trans (by rw [ek]; rfl))
          clear ek
          rcases hk1 with rfl | rfl
          all_goals
            cases q
            · have HQ : decide (0 ≤ ix) = false := HM.out.symm
              have HR := Lib.hid (HO.out.trans rfl)
              have k1 : ((1 : Int) != 1) = false := rfl
              have k2 : ((2 : Int) != 1) = true := rfl
              have k3 : ((2 : Int) != 2) = false := rfl
              go_wp2
              go_quiet ((first | (go_at_call 18; exact quiet_eq (HC.out _)) | (go_at_call 57; exact quiet_eq (HA.out _))))
              go_wp2
              go_roundw
              case rel => exact ⟨k + 1, by omega, by go_num, Lib.hid (HN.out HR.out), below_drewN hB _⟩
              case measure => simp [intOf]; omega
            · have HQ : decide (0 ≤ ix) = true := HM.out.symm
              have HR := Lib.hid (HO.out.trans rfl)
              have k1 : ((1 : Int) != 1) = false := rfl
              have k2 : ((2 : Int) != 1) = true := rfl
              have k3 : ((2 : Int) != 2) = false := rfl
              go_wp2
              go_quiet ((first | (go_at_call 18; exact quiet_eq (HC.out _)) | (go_at_call 57; exact quiet_eq (HA.out _))))
              go_wp2
              go_ret
              exact ⟨by rw [HX.out HR.out]; rfl, below_drewN hB _⟩
        · have ek : decide (1 ≤ kd ∧ kd ≤ 2) = false := by simp; omega
          have HR := Lib.hid (show so = false from HO.out.trans (by rw [ek]; rfl))
          have k1 : (kd != 1) = true := by simp; omega
          have k2 : (kd != 2) = true := by simp; omega
          have k3 : (kd == 1) = false := by simp; omega
          have k4 : (kd == 2) = false := by simp; omega
          clear hk1 ek
          go_wp2
          go_quiet ((go_at_call 18; exact quiet_eq (HC.out _)))
          go_wp2
          go_ret
          exact ⟨by rw [HX.out HR.out]; rfl, below_drewN hB _⟩
    · obtain rfl : k = xs.length := by omega
      have HA := Lib.hid (validSchema_all HT.out)
      go_wp2_with (go_at_call 53; refine (refRowWithin_any _ _ _ _).mono ?_; rintro e w' ⟨rfl, rfl⟩)
      go_ret
      exact ⟨by rw [HA.out]; rfl, hB⟩

/-! ### slices.IndexFunc at columns, Find -/
set_option maxHeartbeats 1000000 in
theorem indexFuncCol (Fn : FuncId) (capt : Array Value) (p : Col → Bool) (xs : List Col) (v : Value) (w : World) (hv : tSchema.rv (mem w) [v] xs)
    (hcf : ∀ args w, Sem.run Tryd.prog (callFunc Fn args) w = .ok (.enter Fn args) w)
    (hf : ∀ x ∈ xs, ∀ wr, Below w.heap.size w wr → ∀ u, u = .agg #[.string x.name, .int .i64 x.kind] → Calls Tryd.prog Fn (#[u] ++ capt) wr fun e w' => e = .returned (.bool (p x)) ∧ Below wr.heap.size wr w') :
    Calls Tryd.prog 58 #[v, .func (.func Fn) #[] capt] w fun e w' => e = .returned (.int .i64 (idxOf p xs)) ∧ Below w.heap.size w w' := by
  obtain ⟨a, cap, rfl, hl, hm, hv⟩ := slice_form hv
  have hcap : cap ≤ 9223372036854775807 := by unfold maxLen at hm; exact hm
  clear hm
  have HF := Lib.hid hf
  clear hf
  go_enter Tryd.func58, Tryd.ntmps58
  go_wp2
  go_loopw [8] (fun i wr => ∃ k : Nat, k ≤ xs.length ∧ i = .int .i64 k ∧ Hid (∀ x ∈ xs.take k, p x = false) ∧ Below w.heap.size w wr) (fun i _ => xs.length - (intOf i).toNat)
  case atStart => exact ⟨0, by omega, rfl, Lib.hid (by simp), Below.refl _ _⟩
  case round =>
    obtain ⟨k, hk, rfl, HT, hB⟩ := hrel
    by_cases hlt : k < xs.length
    · obtain ⟨b, o, rfl, c0, c1, c2, c3⟩ := schema_cells (tSchema.mono _ _ _ _ (below_mem hB) hv) hlt
      have c0 : wr.cell? ⟨b, o + k * 2, none⟩ = some (.string xs[k].name) := c0
      have c1 : wr.cell? ⟨b, o + k * 2 + 1, none⟩ = some (.int .i64 xs[k].kind) := c1
      have hcall := HF.out xs[k] (List.getElem_mem hlt) wr hB (.agg #[.string xs[k].name, .int .i64 xs[k].kind]) rfl
      have HI := Lib.hid (fun h : p xs[k] = true => idxOf_at hlt h HT.out)
      have HN := Lib.hid (fun h : p xs[k] = false => mem_take_snoc hlt HT.out h)
      clear hv HF HT c2 c3
      generalize xs[k] = x at *
      generalize hpx : p x = r at hcall HI HN
      clear hpx
      have HC := Lib.hid hcall
      clear hcall
      go_wp2_with fail
      refine HC.out.mono ?_
      rintro e w1 ⟨rfl, hB1⟩
      have hB2 := pure_trans hB hB1
      clear HC hB hB1 c0 c1
      cases r
      · go_wp2
        go_roundw
        case rel => exact ⟨k + 1, by omega, by go_num, Lib.hid (HN.out (by trivial)), hB2⟩
        case measure => simp [intOf]; omega
      · go_wp2
        go_ret
        exact ⟨by rw [HI.out (by trivial)]; rfl, hB2⟩
    · obtain rfl : k = xs.length := by omega
      have HX := Lib.hid (idxOf_none (p := p) (l := xs) (fun x hx => HT.out x (by rw [List.take_length]; exact hx)))
      go_wp2
      go_ret
      exact ⟨by rw [HX.out]; rfl, hB⟩

set_option maxHeartbeats 400000 in
theorem find1_any (x : Col) (nm : ByteArray) (b : Nat) (w : World) (hb : w.cell? ⟨b, 0, none⟩ = some (.string nm)) :
    Calls Tryd.prog 59 #[.agg #[.string x.name, .int .i64 x.kind], .pointer (some ⟨b, 0, none⟩)] w fun e w' => e = .returned (.bool (colIs nm x)) ∧ Below w.heap.size w w' := by
  have hlt : b < w.heap.size := World.block_lt_of_cell? w ⟨b, 0, none⟩ hb
  have hb2 : ∀ o, (w.alloc o).cell? ⟨b, 0, none⟩ = some (.string nm) := fun o => below_mem ((Below.refl _ _).alloc (Nat.le_refl _) o) _ _ _ hb
  have HL := Lib.hid (colIs_list nm x)
  obtain ⟨xn, xk⟩ := x
  simp only at HL
  generalize colIs nm ⟨xn, xk⟩ = r at HL
  have e1 : (xn.toList == nm.toList) = r := HL.out.symm
  clear HL
  cases r
  all_goals
    go_enter Tryd.func59, Tryd.ntmps59
    go_wp2
    go_ret
    exact ⟨rfl, (Below.refl _ _).alloc (Nat.le_refl _) _⟩

def findOf (s : List Col) (nm : ByteArray) : Int × Int := if validSchema s = true then (if 0 ≤ idxOf (colIs nm) s then (idxOf (colIs nm) s, 0) else (0, 5)) else (0, 1)

set_option maxRecDepth 100000 in
set_option maxHeartbeats 1000000 in
theorem rowFind_any (xs : List Col) (nm : ByteArray) (v : Value) (w : World) (hv : tSchema.rv (mem w) [v] xs) :
    Calls Tryd.prog 23 #[v, .string nm] w fun e w' => e = .returned (.tuple #[.int .i64 (findOf xs nm).1, .int .i64 (findOf xs nm).2]) ∧ Below w.heap.size w w' := by
  have hb0 : ∀ o, Below w.heap.size w (w.alloc o) := fun o => (Below.refl _ _).alloc (Nat.le_refl _) o
  have H1 := Lib.hid (fun wr (h : Below w.heap.size w wr) => rowValidSchema_any xs v wr (tSchema.mono _ _ _ _ (below_mem h) hv))
  have H2 := Lib.hid (fun b wr (h : Below w.heap.size w wr) (hc : wr.cell? ⟨b, 0, none⟩ = some (.string nm)) => indexFuncCol 59 #[.pointer (some ⟨b, 0, none⟩)] (colIs nm) xs v wr (tSchema.mono _ _ _ _ (below_mem h) hv) (fun _ _ => rfl)
    (fun x _ w2 h2 u hu => by subst hu; exact find1_any x nm b w2 (below_mem h2 _ _ _ hc)))
  have HF := Lib.hid (show findOf xs nm = if validSchema xs = true then (if 0 ≤ idxOf (colIs nm) xs then (idxOf (colIs nm) xs, 0) else (0, 5)) else (0, 1) from rfl)
  generalize findOf xs nm = fo at *
  generalize validSchema xs = r at H1 HF
  generalize idxOf (colIs nm) xs = ix at H2 HF
  obtain ⟨a, cap, rfl, hl, hm, _⟩ := slice_form hv
  clear hm hv
  have HB0 := Lib.hid hb0
  clear hb0
  go_enter Tryd.func23, Tryd.ntmps23
  go_wp2_with fail
  refine (H1.out _ (HB0.out _)).mono ?_
  rintro e w1 ⟨rfl, hb1⟩
  have hB := pure_trans (HB0.out _) hb1
  have hc : w1.cell? ⟨w.heap.size, 0, none⟩ = some (.string nm) := below_mem hb1 _ _ _ (by simp [mem])
  clear hb1
  cases r
  · have HF2 := Lib.hid (HF.out.trans (if_neg (by simp)))
    clear HF
    go_wp2
    go_ret2
    exact ⟨by rw [HF2.out]; rfl, hB⟩
  · have HF2 := Lib.hid (HF.out.trans (if_pos rfl))
    clear HF
    go_wp2_with fail
    refine (H2.out _ _ hB hc).mono ?_
    rintro e w2 ⟨rfl, hb2⟩
    have hB2 := pure_trans hB hb2
    clear hc hb2 hB
    by_cases hi : 0 ≤ ix
    · have HF3 := Lib.hid (HF2.out.trans (if_pos hi))
      clear HF2
      go_wp2
      go_ret2
      exact ⟨by rw [HF3.out]; rfl, hB2⟩
    · have HF3 := Lib.hid (HF2.out.trans (if_neg hi))
      clear HF2
      go_wp2
      go_ret2
      exact ⟨by rw [HF3.out]; rfl, hB2⟩

set_option maxRecDepth 100000 in
set_option maxHeartbeats 1000000 in
theorem refFind_any (xs : List Col) (nm : ByteArray) (v : Value) (w : World) (hv : tSchema.rv (mem w) [v] xs) :
    Calls Tryd.prog 24 #[v, .string nm] w fun e w' => e = .returned (.tuple #[.int .i64 (findOf xs nm).1, .int .i64 (findOf xs nm).2]) ∧ Below w.heap.size w w' := by
  have H1 := Lib.hid (refValidSchema_any xs v w hv)
  have H2 := Lib.hid (fun wr (h : Below w.heap.size w wr) => at_any xs nm v wr (tSchema.mono _ _ _ _ (below_mem h) hv))
  have HF := Lib.hid (show findOf xs nm = if validSchema xs = true then (if 0 ≤ idxOf (colIs nm) xs then (idxOf (colIs nm) xs, 0) else (0, 5)) else (0, 1) from rfl)
  generalize findOf xs nm = fo at *
  generalize validSchema xs = r at H1 HF
  generalize idxOf (colIs nm) xs = ix at H2 HF
  obtain ⟨a, cap, rfl, hl, hm, _⟩ := slice_form hv
  clear hm hv
  go_enter Tryd.func24, Tryd.ntmps24
  go_wp2_with fail
  refine H1.out.mono ?_
  rintro e w1 ⟨rfl, hB⟩
  cases r
  · have HF2 := Lib.hid (HF.out.trans (if_neg (by simp)))
    clear HF
    go_wp2
    go_ret2
    exact ⟨by rw [HF2.out]; rfl, hB⟩
  · have HF2 := Lib.hid (HF.out.trans (if_pos rfl))
    clear HF
    by_cases hi : 0 ≤ ix
    · have HF3 := Lib.hid (HF2.out.trans (if_pos hi))
      clear HF2
      go_wp2_with (go_at_call 57; refine (H2.out _ hB).mono ?_; rintro e w' ⟨rfl, rfl⟩)
      go_ret2
      exact ⟨by rw [HF3.out]; rfl, hB⟩
    · have HF3 := Lib.hid (HF2.out.trans (if_neg hi))
      clear HF2
      go_wp2_with (go_at_call 57; refine (H2.out _ hB).mono ?_; rintro e w' ⟨rfl, rfl⟩)
      go_ret2
      exact ⟨by rw [HF3.out]; rfl, hB⟩
end Go.Proofs.YtkldimaoafgolaaDoor
