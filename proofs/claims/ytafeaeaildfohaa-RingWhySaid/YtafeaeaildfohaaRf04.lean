/- Part 4 of the texts that the law's proof stands on, merged. -/
import Derived.Deep.AppendSrc
import Derived.Deep.RegionLaw
import Derived.Outline
import Derived.RegionTactic
import Derived.Test.YtafeaeaildfohaaRf03
set_option linter.unusedVariables false
set_option linter.unusedSimpArgs false
/- The reference's Less; the law's in. -/
namespace Go.Proofs.Ytafeaeaildfohaa
open Go.RowKit Go.Maps

theorem filt_yes {α : Type} {P : α → Bool} {l : List α} {k : Nat} (h : k < l.length) (e : P l[k] = true) : (l.take (k + 1)).filter P = (l.take k).filter P ++ [l[k]] := by
  rw [List.take_succ_eq_append_getElem h, List.filter_append]; simp [e]
theorem filt_no {α : Type} {P : α → Bool} {l : List α} {k : Nat} (h : k < l.length) (e : P l[k] = false) : (l.take (k + 1)).filter P = (l.take k).filter P := by
  rw [List.take_succ_eq_append_getElem h, List.filter_append]; simp [e]
def lessF (a b : List Fct) : List Fct := a.filter (fun x => !decide (x ∈ b))
set_option maxRecDepth 100000 in
set_option maxHeartbeats 4000000 in
theorem refLess_any (a b : List Fct) (av bv : Value) (w : World) (ha : tFcts.rv (mem w) [av] a) (hb : tFcts.rv (mem w) [bv] b) (hn : a.length ≤ 1000000000) :
    Calls Try.prog 20 #[av, bv] w fun e w' => ∃ v, e = .returned v ∧ Owns tFct w' w.heap.size 33 v (lessF a b) ∧ Below w.heap.size w w' := by
  have HIN := Lib.hid (fun f w' (hw : Below w.heap.size w w') => refIn_any b f bv w' (tFcts.mono _ _ _ _ (below_mem hw) hb))
  obtain ⟨aa, ca, rfl, hlc, hm, ha⟩ := slice_form ha
  obtain ⟨ab, cb, rfl, -, -, -⟩ := slice_form hb
  have hcap : ca ≤ 9223372036854775807 := by unfold maxLen at hm; exact hm
  have HA := Lib.hid (fun wr (hb : Below w.heap.size w wr) => tFcts.mono _ _ _ _ (below_mem hb) ha)
  clear hm ha hb
  obtain ⟨P, hP⟩ : ∃ P : Fct → Bool, P = fun x => !decide (x ∈ b) := ⟨_, rfl⟩
  have HP := Lib.hid hP
  clear hP
  go_enter Try.func20, Try.ntmps20
  go_wp2
  go_loopw [5, 6] (fun ov i wr => ∃ k : Nat, k ≤ a.length ∧ i = .int .i64 k ∧ Hid (Owns tFct wr w.heap.size 33 ov ((a.take k).filter P)) ∧ Hid (Below w.heap.size w wr)) (fun _ i _ => a.length - (intOf i).toNat)
  case atStart => exact ⟨0, by omega, rfl, Lib.hid (Owns.nil _ _ _ _), Lib.hid (Below.refl _ _)⟩
  case round =>
    obtain ⟨k, hk, rfl, HO, HBR⟩ := hrel
    by_cases hlt : k < a.length
    · obtain ⟨bb, o, rfl, ⟨q0, q1, q2⟩, hok⟩ := fcts_at (HA.out _ HBR.out) hlt
      have c0 : wr.cell? ⟨bb, o + k * 3, none⟩ = some (.string a[k].n) := q0
      have c1 : wr.cell? ⟨bb, o + k * 3 + 1, none⟩ = some (.string a[k].a) := q1
      have c2 : wr.cell? ⟨bb, o + k * 3 + 2, none⟩ = some (.string a[k].b) := q2
      have HYO := Lib.hid hok
      have HLL := Lib.hid (show ((a.take k).filter P).length ≤ 1000000000 from Nat.le_trans (List.length_filter_le _ _) (by rw [List.length_take]; omega))
      have HYES := Lib.hid (fun (e : P a[k] = true) => filt_yes (P := P) hlt e)
      have HNO := Lib.hid (fun (e : P a[k] = false) => filt_no (P := P) hlt e)
      clear q0 q1 q2 hok
      generalize (a.take k).filter P = l at *
      generalize a[k] = y at *
      obtain ⟨y1, y2, y3⟩ := y
      simp only at c0 c1 c2
      have HIY := Lib.hid (HIN.out ⟨y1, y2, y3⟩ wr HBR.out)
      have HPY := Lib.hid (show P ⟨y1, y2, y3⟩ = !decide ((⟨y1, y2, y3⟩ : Fct) ∈ b) from congrFun HP.out _)
      go_wp2_with fail
      refine HIY.out.mono ?_
      rintro e w1 ⟨rfl, hb1⟩
      have HB1 := Lib.hid (pure_trans HBR.out hb1)
      have HO1 := Lib.hid (HO.out.keeps hb1)
      have HSZ := Lib.hid HB1.out.size
      have d0 : w1.cell? ⟨bb, o + k * 3, none⟩ = some (.string y1) := below_mem hb1 _ _ _ c0
      have d1 : w1.cell? ⟨bb, o + k * 3 + 1, none⟩ = some (.string y2) := below_mem hb1 _ _ _ c1
      have d2 : w1.cell? ⟨bb, o + k * 3 + 2, none⟩ = some (.string y3) := below_mem hb1 _ _ _ c2
      clear hb1 HIY c0 c1 c2 HO HBR HP
      generalize hin : decide ((⟨y1, y2, y3⟩ : Fct) ∈ b) = t at *
      clear hin
      cases t
      · have HNX := Lib.hid (HYES.out (by rw [HPY.out]; rfl))
        clear HYES HNO HPY
        go_wp2_with (at_builtin; refine wpList_append_one rfl _ _ 23 rfl tFct Try.underlying23 infoFct rfl (by decide) w.heap.size _ l rfl (HO1.out.alloc _) _ _ ⟨y1, y2, y3⟩ rfl [.string y1, .string y2, .string y3] ?a2 ⟨rfl, HYO.out⟩ ?b2 ?c2 ?d2 ?e2 ?_)
        case a2 => exact fun j u hj => by match j, hj with | 0, hj => simp at hj; subst hj; simp [mem] | 1, hj => simp at hj; subst hj; simp [mem] | 2, hj => simp at hj; subst hj; simp [mem]
        case b2 => intro x hx; simp at hx; rcases hx with rfl | rfl | rfl <;> rfl
        case c2 => have := HLL.out; unfold maxLen; omega
        case d2 => have := HLL.out; omega
        case e2 => have := HSZ.out; simp; omega
        · intro v' w6 own6 hgrow _
          have HB6 := Lib.hid (show Below w.heap.size w w6 from (HB1.out.alloc HB1.out.size _).grown hgrow (by have := HSZ.out; simp; omega) (fun k hk => ((HO1.out).lt k hk).1))
          obtain ⟨a6, cap6, rfl, _⟩ := own6.len
          have HO6 := Lib.hid (show Owns tFct w6 w.heap.size 33 (.slice a6 (l ++ [(⟨y1, y2, y3⟩ : Fct)]).length cap6) ((a.take (k + 1)).filter P) by
            rw [HNX.out]
            exact own6)
          clear own6 hgrow HO1
          go_wp2
          go_roundw
          case rel => exact ⟨k + 1, by omega, by go_num, HO6, HB6⟩
          case measure => simp [intOf]; omega
      · have HNX := Lib.hid (HNO.out (by rw [HPY.out]; rfl))
        clear HYES HNO HPY
        obtain ⟨al, cl, rfl, _⟩ := HO1.out.len
        go_wp2
        go_roundw
        case rel => exact ⟨k + 1, by omega, by go_num, Lib.hid (by rw [HNX.out]; exact HO1.out), HB1⟩
        case measure => simp [intOf]; omega
    · obtain rfl : k = a.length := by omega
      obtain ⟨al, cl, rfl, _⟩ := HO.out.len
      have HO2 := Lib.hid (show Owns tFct wr w.heap.size 33 (.slice al ((a.take a.length).filter P).length cl) (lessF a b) from by have := HO.out; rw [List.take_length] at this; rw [List.take_length]; unfold lessF; rw [← HP.out]; exact this)
      go_wp2
      go_ret
      exact ⟨_, rfl, HO2.out, HBR.out⟩
theorem infoStr : (Try.prog.info? 9).map (fun i => (i.zero, i.size, i.bytes)) = some (some (.string .empty), tStr.sz, 16) := by kernel_rfl
set_option maxRecDepth 100000 in
set_option maxHeartbeats 4000000 in
theorem lawIn_any (l : List ByteArray) (s : ByteArray) (v : Value) (w : World) (hv : tStrs.rv (mem w) [v] l) :
    Calls Try.prog 26 #[v, .string s] w fun e w' => ∃ b, e = .returned (.bool b) ∧ Below w.heap.size w w' := by
  obtain ⟨a, cap, rfl, hlc, hm, hv⟩ := slice_form hv
  have hcap : cap ≤ 9223372036854775807 := by unfold maxLen at hm; exact hm
  have HV := Lib.hid (fun wr (hb : Below w.heap.size w wr) => tStrs.mono _ _ _ _ (below_mem hb) hv)
  clear hm hv
  go_enter Try.func26, Try.ntmps26
  go_wp2
  go_loopw [5] (fun i wr => ∃ k : Nat, k ≤ l.length ∧ i = .int .i64 k ∧ Hid (Below w.heap.size w wr)) (fun i _ => l.length - (intOf i).toNat)
  case atStart => exact ⟨0, by omega, rfl, Lib.hid (Below.refl _ _)⟩
  case round =>
    obtain ⟨k, hk, rfl, HB⟩ := hrel
    by_cases hlt : k < l.length
    · obtain ⟨b, o, rfl, q0, -⟩ := str_cell (HV.out _ HB.out) hlt
      have c0 : wr.cell? ⟨b, o + k, none⟩ = some (.string l[k]) := q0
      clear q0
      generalize l[k] = x at *
      go_wp2
      · go_ret
        exact ⟨_, rfl, HB.out⟩
      · go_roundw
        case rel => exact ⟨k + 1, by omega, by go_num, HB⟩
        case measure => simp [intOf]; omega
    · obtain rfl : k = l.length := by omega
      go_wp2
      go_ret
      exact ⟨_, rfl, HB.out⟩
end Go.Proofs.Ytafeaeaildfohaa
/- The chapter's example. -/
namespace Go.Proofs.Ytafeaeaildfohaa
open Go.RowKit Go.Maps

def reachR : List Rul := [⟨⟨⟨#[114, 101, 97, 99, 104]⟩, ⟨#[120]⟩, ⟨#[121]⟩⟩, [⟨⟨#[101, 100, 103, 101]⟩, ⟨#[120]⟩, ⟨#[121]⟩⟩]⟩,
  ⟨⟨⟨#[114, 101, 97, 99, 104]⟩, ⟨#[120]⟩, ⟨#[122]⟩⟩, [⟨⟨#[114, 101, 97, 99, 104]⟩, ⟨#[120]⟩, ⟨#[121]⟩⟩, ⟨⟨#[101, 100, 103, 101]⟩, ⟨#[121]⟩, ⟨#[122]⟩⟩]⟩]
def edgeL : List Fct := [⟨⟨#[101, 100, 103, 101]⟩, ⟨#[97]⟩, ⟨#[98]⟩⟩, ⟨⟨#[101, 100, 103, 101]⟩, ⟨#[98]⟩, ⟨#[97]⟩⟩]
set_option maxRecDepth 100000 in
theorem awake_len : (followR reachR edgeL).map (fun M => M.length) = some 6 := by decide +kernel
set_option maxRecDepth 100000 in
theorem awake_valid : (validP reachR && validG edgeL) = true := by decide +kernel
theorem at_cells {w : World} {b : Nat} {arr : Array Value} {t : TypeId} {f : Nat × Nat} (h : w.heap[b]? = some (.cells arr t f)) {o : Nat} {cs : List Value} (h2 : ∀ j u, cs[j]? = some u → arr[o + j]? = some u) : At (mem w) b o cs :=
  fun j u hj => (mem_cells h (o + j)).trans (h2 j u hj)
theorem small_ok {b : ByteArray} (h : b.size ≤ 1000) : b.size ≤ maxLen := by unfold maxLen; omega
theorem at3 {w : World} {b : Nat} {arr : Array Value} {t : TypeId} {f : Nat × Nat} (h : w.heap[b]? = some (.cells arr t f)) {o : Nat} {x : Fct} (h0 : arr[o]? = some (.string x.n)) (h1 : arr[o + 1]? = some (.string x.a)) (h2 : arr[o + 2]? = some (.string x.b)) : At (mem w) b o [.string x.n, .string x.a, .string x.b] :=
  at_cells h (fun j u hj => by match j, hj with | 0, hj => simp at hj; subst hj; exact h0 | 1, hj => simp at hj; subst hj; exact h1 | 2, hj => simp at hj; subst hj; exact h2)
set_option maxRecDepth 100000 in
set_option maxHeartbeats 4000000 in
theorem reach_any (w : World) :
    Calls Try.prog 27 #[] w fun e w' => ∃ v, e = .returned v ∧ tRuls.rv (mem w') [v] reachR ∧ Below w.heap.size w w' := by
  go_enter Try.func27, Try.ntmps27
  go_wp2
  go_ret
  refine ⟨_, rfl, ?_, (((Below.refl _ w).alloc (Nat.le_refl _) _).alloc (by simp) _).alloc (by simp <;> omega) _⟩
  generalize hX : ((w.alloc _).alloc _).alloc _ = X
  obtain ⟨-, -, x1, x2, x3⟩ := three_alloc hX.symm
  refine ⟨some ⟨w.heap.size + 2, 0, none⟩, 2, rfl, Nat.le_of_ble_eq_true rfl, by unfold maxLen; omega, fun _ => ⟨_, _, rfl, fun k hk => ?_⟩⟩
  match k, hk with
  | 0, _ =>
    refine ⟨[.string ⟨#[114, 101, 97, 99, 104]⟩, .string ⟨#[120]⟩, .string ⟨#[121]⟩, .slice (some ⟨w.heap.size, 0, none⟩) 1 1], at_cells x3 (fun j u hj => ?_), _, rfl, ⟨small_ok (Nat.le_of_ble_eq_true rfl), small_ok (Nat.le_of_ble_eq_true rfl), small_ok (Nat.le_of_ble_eq_true rfl)⟩, ?_⟩
    · match j, hj with
      | 0, hj => simp at hj; subst hj; rfl
      | 1, hj => simp at hj; subst hj; rfl
      | 2, hj => simp at hj; subst hj; rfl
      | 3, hj => simp at hj; subst hj; rfl
    · refine ⟨some ⟨w.heap.size, 0, none⟩, 1, rfl, Nat.le_of_ble_eq_true rfl, by unfold maxLen; omega, fun _ => ⟨_, _, rfl, fun k hk => ?_⟩⟩
      match k, hk with
      | 0, _ => exact ⟨_, at3 x1 rfl rfl rfl, rfl, small_ok (Nat.le_of_ble_eq_true rfl), small_ok (Nat.le_of_ble_eq_true rfl), small_ok (Nat.le_of_ble_eq_true rfl)⟩
  | 1, _ =>
    refine ⟨[.string ⟨#[114, 101, 97, 99, 104]⟩, .string ⟨#[120]⟩, .string ⟨#[122]⟩, .slice (some ⟨w.heap.size + 1, 0, none⟩) 2 2], at_cells x3 (fun j u hj => ?_), _, rfl, ⟨small_ok (Nat.le_of_ble_eq_true rfl), small_ok (Nat.le_of_ble_eq_true rfl), small_ok (Nat.le_of_ble_eq_true rfl)⟩, ?_⟩
    · match j, hj with
      | 0, hj => simp at hj; subst hj; rfl
      | 1, hj => simp at hj; subst hj; rfl
      | 2, hj => simp at hj; subst hj; rfl
      | 3, hj => simp at hj; subst hj; rfl
    · refine ⟨some ⟨w.heap.size + 1, 0, none⟩, 2, rfl, Nat.le_of_ble_eq_true rfl, by unfold maxLen; omega, fun _ => ⟨_, _, rfl, fun k hk => ?_⟩⟩
      match k, hk with
      | 0, _ => exact ⟨_, at3 x2 rfl rfl rfl, rfl, small_ok (Nat.le_of_ble_eq_true rfl), small_ok (Nat.le_of_ble_eq_true rfl), small_ok (Nat.le_of_ble_eq_true rfl)⟩
      | 1, _ => exact ⟨_, at3 x2 rfl rfl rfl, rfl, small_ok (Nat.le_of_ble_eq_true rfl), small_ok (Nat.le_of_ble_eq_true rfl), small_ok (Nat.le_of_ble_eq_true rfl)⟩
set_option maxRecDepth 100000 in
set_option maxHeartbeats 4000000 in
theorem awake_any (w : World) :
    Calls Try.prog 8 #[] w fun e w' => e = .returned (.bool true) ∧ Below w.heap.size w w' := by
  go_enter Try.func8, Try.ntmps8
  go_wp2_with fail
  refine (reach_any w).mono ?_
  rintro e w1 ⟨rv, rfl, hr, hb1⟩
  obtain ⟨X, hX⟩ : ∃ X, X = w1.alloc (.cells #[.string ⟨#[101, 100, 103, 101]⟩, .string ⟨#[97]⟩, .string ⟨#[98]⟩, .string ⟨#[101, 100, 103, 101]⟩, .string ⟨#[98]⟩, .string ⟨#[97]⟩] 33) := ⟨_, rfl⟩
  have hbX : Below w1.heap.size w1 X := by rw [hX]; exact (Below.refl _ _).alloc (Nat.le_refl _) _
  have hx : X.heap[w1.heap.size]? = some (.cells #[.string ⟨#[101, 100, 103, 101]⟩, .string ⟨#[97]⟩, .string ⟨#[98]⟩, .string ⟨#[101, 100, 103, 101]⟩, .string ⟨#[98]⟩, .string ⟨#[97]⟩] 33 (0, 0)) := by rw [hX]; exact heap_alloc_new _ _
  have hl : tFcts.rv (mem X) [.slice (some ⟨w1.heap.size, 0, none⟩) 2 2] edgeL := by
    refine ⟨some ⟨w1.heap.size, 0, none⟩, 2, rfl, Nat.le_of_ble_eq_true rfl, by unfold maxLen; omega, fun _ => ⟨_, _, rfl, fun k hk => ?_⟩⟩
    match k, hk with
    | 0, _ => exact ⟨_, at3 hx rfl rfl rfl, rfl, small_ok (Nat.le_of_ble_eq_true rfl), small_ok (Nat.le_of_ble_eq_true rfl), small_ok (Nat.le_of_ble_eq_true rfl)⟩
    | 1, _ => exact ⟨_, at3 hx rfl rfl rfl, rfl, small_ok (Nat.le_of_ble_eq_true rfl), small_ok (Nat.le_of_ble_eq_true rfl), small_ok (Nat.le_of_ble_eq_true rfl)⟩
  have HF := Lib.hid (ringFollows_any reachR edgeL rv (.slice (some ⟨w1.heap.size, 0, none⟩) 2 2) X (tRuls.mono _ _ _ _ (below_mem hbX) hr) hl)
  have HB := Lib.hid (pure_trans hb1 hbX)
  have HX := Lib.hid hX
  clear hr hb1 hbX hx hl hX
  go_wp2_with fail
  rw [← HX.out]
  refine HF.out.mono ?_
  rintro e w2 ⟨hb, h⟩
  have hB := Lib.hid (pure_trans HB.out hb)
  rcases h with ⟨h, -⟩ | ⟨-, h, -⟩ | ⟨M, v, -, h, rfl, hv⟩
  · rw [awake_valid] at h; cases h
  · have := awake_len
    rw [h] at this; cases this
  · have h6 : (srt (keysR M)).length = 6 := by
      have := awake_len
      rw [h] at this
      simp only [Option.map_some, Option.some.injEq] at this
      rw [srt_len (follow_fin h).nd, keys_len]; exact this
    obtain ⟨a, c, rfl, -, -, -⟩ := slice_form hv
    rw [h6]
    clear hb h hv h6 HF HX HB
    go_wp2
    go_ret
    exact ⟨rfl, hB.out⟩
end Go.Proofs.Ytafeaeaildfohaa
/- The law's heavy. -/
namespace Go.Proofs.Ytafeaeaildfohaa
open Go.RowKit Go.Maps

def HeavyAns (rules : List Rul) (l : List Fct) (w w' : World) (e : Ending) : Prop := ∃ b, e = .returned (.bool b) ∧ Below w.heap.size w w' ∧ (b = false → rules.length ≤ 20 ∧ l.length ≤ 100)
set_option maxRecDepth 100000 in
set_option maxHeartbeats 8000000 in
theorem heavy_any (rules : List Rul) (l : List Fct) (rv fv : Value) (w : World) (hr : tRuls.rv (mem w) [rv] rules) (hf : tFcts.rv (mem w) [fv] l) (hsz : l.length * 48 ≤ 140737488355328) :
    Calls Try.prog 7 #[rv, fv] w fun e w' => HeavyAns rules l w w' e := by
  obtain ⟨ar, cr, rfl, hlr, hmr, hr⟩ := slice_form hr
  obtain ⟨af, cf, rfl, hlf, hmf, hf⟩ := slice_form hf
  have hcr : cr ≤ 9223372036854775807 := by unfold maxLen at hmr; exact hmr
  have hcf : cf ≤ 9223372036854775807 := by unfold maxLen at hmf; exact hmf
  have HR := Lib.hid (fun wr (hb : Below w.heap.size w wr) => tRuls.mono _ _ _ _ (below_mem hb) hr)
  have HF := Lib.hid (fun wr (hb : Below w.heap.size w wr) => tFcts.mono _ _ _ _ (below_mem hb) hf)
  have HSZ := Lib.hid hsz
  clear hr hf hmr hmf hsz
  go_enter Try.func7, Try.ntmps7
  go_wp2
  go_loopw [5, 6] (fun nv i wr => (∃ n : Int, nv = .int .i64 n) ∧ ∃ k : Nat, k ≤ rules.length ∧ i = .int .i64 k ∧ Hid (Below w.heap.size w wr)) (fun _ i _ => rules.length - (intOf i).toNat)
  case atStart => exact ⟨⟨0, rfl⟩, 0, by omega, rfl, Lib.hid (Below.refl _ _)⟩
  case round =>
    obtain ⟨⟨n, rfl⟩, k, hk, rfl, HB⟩ := hrel
    by_cases hlt : k < rules.length
    · obtain ⟨b, o, v, rfl, ⟨q0, q1, q2, q3⟩, hok, hbd⟩ := ruls_at (HR.out _ HB.out) hlt
      have c3 : wr.cell? ⟨b, o + k * 4 + 3, none⟩ = some v := q3
      obtain ⟨ab, cb, rfl, -, -, -⟩ := slice_form hbd
      clear q0 q1 q2 q3 hok hbd
      generalize rules[k] = r at *
      generalize r.bd.length = m at *
      go_wp2
      · go_ret
        exact ⟨true, rfl, HB.out, fun h => by cases h⟩
      · go_roundw
        case rel => exact ⟨⟨_, rfl⟩, k + 1, by omega, by go_num, HB⟩
        case measure => simp [intOf]; omega
    · obtain rfl : k = rules.length := by omega
      clear hk hlt
      obtain ⟨w1, hw1⟩ : ∃ w1, w1 = wr := ⟨_, rfl⟩
      subst hw1
      have HB1 := HB
      clear HB
      go_wp2
      go_loopw [7] (fun i wr => ∃ k : Nat, k ≤ l.length ∧ i = .int .i64 k ∧ Hid (Below w.heap.size w wr)) (fun i _ => l.length - (intOf i).toNat)
      case atStart => exact ⟨0, by omega, rfl, HB1⟩
      case round =>
        clear HB1
        obtain ⟨k, hk, rfl, HB⟩ := hrel
        by_cases hlt : k < l.length
        · obtain ⟨b, o, rfl, ⟨q0, q1, q2⟩, hok⟩ := fcts_at (HF.out _ HB.out) hlt
          have c0 : wr.cell? ⟨b, o + k * 3, none⟩ = some (.string l[k].n) := q0
          have c1 : wr.cell? ⟨b, o + k * 3 + 1, none⟩ = some (.string l[k].a) := q1
          have c2 : wr.cell? ⟨b, o + k * 3 + 2, none⟩ = some (.string l[k].b) := q2
          have HD := Lib.hid (show ∀ m, Below w.heap.size w (wr.drewN m) from fun m => HB.out.trans ⟨rfl, rfl, rfl, Nat.le_refl _, fun _ _ => rfl⟩)
          clear q0 q1 q2 hok
          generalize l[k] = y at *
          obtain ⟨y1, y2, y3⟩ := y
          simp only at c0 c1 c2
          go_wp2_with fail
          go_quiet (fail)
          all_goals
            go_wp2
            all_goals first
              | (go_ret; exact ⟨true, rfl, HD.out _, fun h => by cases h⟩)
              | exact ⟨⟨k + 1, by omega, by go_num, Lib.hid (HD.out _)⟩, by simp [intOf]; omega⟩
        · obtain rfl : k = l.length := by omega
          clear hk hlt
          obtain ⟨w2, hw2⟩ : ∃ w2, w2 = wr := ⟨_, rfl⟩
          subst hw2
          have HB2 := HB
          clear HB
          go_wp2_with fail
          go_loopw [8, 9] (fun tv i wr => ∃ (k : Nat) (ts : List ByteArray), k ≤ l.length ∧ i = .int .i64 k ∧ Hid (Owns tStr wr w2.heap.size 9 tv ts) ∧ Hid (ts.length ≤ 2 * k) ∧ Hid (Below w2.heap.size w2 wr)) (fun _ i _ => l.length - (intOf i).toNat)
          case atStart => exact ⟨0, [], by omega, rfl, Lib.hid (Owns.nil _ _ _ _), Lib.hid (by simp), Lib.hid (Below.refl _ _)⟩
          case round =>
            obtain ⟨k, ts, hk, rfl, HO, HL, HB⟩ := hrel
            by_cases hlt : k < l.length
            · have HBW := Lib.hid (show Below w.heap.size w wr from HB2.out.trans (HB.out.mono HB2.out.size))
              obtain ⟨b, o, rfl, ⟨q0, q1, q2⟩, hok⟩ := fcts_at (HF.out _ HBW.out) hlt
              have c1 : wr.cell? ⟨b, o + k * 3 + 1, none⟩ = some (.string l[k].a) := q1
              have c2 : wr.cell? ⟨b, o + k * 3 + 2, none⟩ = some (.string l[k].b) := q2
              have HOK := Lib.hid hok
              clear q0 q1 q2 hok
              generalize l[k] = y at *
              obtain ⟨y1, y2, y3⟩ := y
              simp only at c1 c2
              obtain ⟨al, cl, rfl, _⟩ := HO.out.len
              have hm1 : wr.drew.cell? ⟨b, o + k * 3 + 1, none⟩ = some (.string y2) := c1
              have hm2 : wr.drew.cell? ⟨b, o + k * 3 + 2, none⟩ = some (.string y3) := c2
              go_wp2_with fail
              go_region
              all_goals
                obtain ⟨X, hX⟩ : ∃ X, X = (wr.alloc (.cells #[.string y2, .string y3] 9)).drew := ⟨_, rfl⟩
                have hXb : Below wr.heap.size wr X := by rw [hX]; exact ((Below.refl _ wr).alloc (Nat.le_refl _) _).drew
                have HX := Lib.hid hX
                have HBX := Lib.hid (pure_trans HB.out hXb)
                have HOX := Lib.hid (HO.out.keeps hXb)
                have HXC := Lib.hid (show X.heap[wr.heap.size]? = some (.cells #[.string y2, .string y3] 9 (0, 0)) from by rw [hX]; exact heap_alloc_new wr _)
                have HAP := Lib.hid (show ∀ q, (Value.slice al ts.length cl).ownBlock = some q → q ≠ wr.heap.size from fun q e => by have := (HO.out.lt q e).2; omega)
                have HWS := Lib.hid (show w2.heap.size ≤ wr.heap.size from HB.out.size)
                clear hX hXb
                go_wp2_with fail
                rw [← HX.out]
                generalize wr.heap.size = bq at *
                obtain ⟨w3, hw3⟩ : ∃ w3, w3 = wr := ⟨_, rfl⟩
                subst hw3
                go_loopw [8, 11] (fun tv i wr => ∃ (j : Nat) (ts : List ByteArray), j ≤ 2 ∧ i = .int .i64 j ∧ Hid (Owns tStr wr w2.heap.size 9 tv ts) ∧ Hid (∀ q, tv.ownBlock = some q → q ≠ bq) ∧ Hid (ts.length ≤ 2 * k + j) ∧ Hid (Below w2.heap.size w2 wr) ∧ Hid (wr.heap[bq]? = some (.cells #[.string y2, .string y3] 9 (0, 0)))) (fun _ i _ => 2 - (intOf i).toNat)
                case atStart => exact ⟨0, ts, by omega, rfl, HOX, HAP, Lib.hid (by have := HL.out; omega), HBX, HXC⟩
                case round =>
                  clear HO HL HB HX HBX HOX HXC HAP hm1 hm2 c1 c2
                  obtain ⟨j, ts', hj, rfl, HO, HAP, HL, HB, HC⟩ := hrel
                  obtain ⟨al, cl, rfl, _⟩ := HO.out.len
                  by_cases hj2 : j < 2
                  · obtain ⟨z, hz, hzo⟩ : ∃ z, wr.cell? ⟨bq, 0 + j, none⟩ = some (.string z) ∧ z.size ≤ maxLen := by
                      match j, hj2 with
                      | 0, _ => exact ⟨y2, mem_cells HC.out 0, HOK.out.2.1⟩
                      | 1, _ => exact ⟨y3, mem_cells HC.out 1, HOK.out.2.2⟩
                    have HZO := Lib.hid hzo
                    have HIN := Lib.hid (lawIn_any ts' z _ wr HO.out.rv')
                    rw [Nat.zero_add] at hz
                    have HLT := Lib.hid hlt
                    clear hzo
                    go_wp2_with fail
                    refine HIN.out.mono ?_
                    rintro e w4 ⟨bb, rfl, hb4⟩
                    have HB4 := Lib.hid (HB.out.trans (hb4.mono HB.out.size))
                    have HO4 := Lib.hid (HO.out.keeps hb4)
                    have HC4 := Lib.hid ((hb4.block bq (Array.getElem?_eq_some_iff.1 HC.out).1).trans HC.out)
                    have hz4 : w4.cell? ⟨bq, j, none⟩ = some (.string z) := below_mem hb4 _ _ _ hz
                    have HS4 := Lib.hid HB4.out.size
                    clear hb4 HIN HB HO HC hz
                    cases bb
                    · go_wp2_with (at_builtin; refine wpList_append_one rfl _ _ 48 rfl tStr Try.underlying48 infoStr rfl (by decide) w2.heap.size _ ts' rfl (HO4.out.alloc _) _ _ z rfl [.string z] ?a2 ⟨rfl, HZO.out⟩ ?b2 ?c2 ?d2 ?e2 ?_)
                      case a2 => exact fun i u hi => by match i, hi with | 0, hi => simp at hi; subst hi; simp [mem]
                      case b2 => intro x hx; simp at hx; subst hx; rfl
                      case c2 => have := HL.out; have := HSZ.out; have := HLT.out; unfold maxLen; omega
                      case d2 => have := HL.out; have := HSZ.out; have := HLT.out; omega
                      case e2 => have := HS4.out; simp; omega
                      · intro v' w6 own6 hgrow hbl
                        have HB6 := Lib.hid (show Below w2.heap.size w2 w6 from (HB4.out.alloc HB4.out.size _).grown hgrow (by have := HS4.out; simp; omega) (fun k hk => ((HO4.out).lt k hk).1))
                        have HC6 := Lib.hid (show w6.heap[bq]? = some (.cells #[.string y2, .string y3] 9 (0, 0)) from
                          (hgrow.block bq (by have := (Array.getElem?_eq_some_iff.1 HC4.out).1; simp; omega) (fun e => HAP.out bq e.symm rfl)).trans ((Below.heap_alloc _ _ _ (Array.getElem?_eq_some_iff.1 HC4.out).1).trans HC4.out))
                        have HAP6 := Lib.hid (show ∀ q, v'.ownBlock = some q → q ≠ bq from fun q e => by
                          rcases hbl with h | h
                          · exact HAP.out q (by rw [← h]; exact e)
                          · have := h q e
                            have h2 := (Array.getElem?_eq_some_iff.1 HC4.out).1
                            try simp at this
                            have h3 : w4.heap.size ≤ (w4.alloc (.cells #[.string z] 9)).heap.size := by simp
                            omega)
                        obtain ⟨a6, cap6, rfl, _⟩ := own6.len
                        have HO6 := Lib.hid own6
                        have HL6 := Lib.hid (show (ts' ++ [z]).length ≤ 2 * k + (j + 1) from by have := HL.out; simp; omega)
                        clear own6 hgrow hbl HO4 HB4 HC4 hz4
                        go_wp2
                        go_roundw
                        case rel => exact ⟨j + 1, ts' ++ [z], by omega, by go_num, HO6, HAP6, HL6, HB6, HC6⟩
                        case measure => simp [intOf]; omega
                    · go_wp2
                      go_roundw
                      case rel => exact ⟨j + 1, ts', by omega, by go_num, HO4, HAP, Lib.hid (by have := HL.out; omega), HB4, HC4⟩
                      case measure => simp [intOf]; omega
                  · obtain rfl : j = 2 := by omega
                    go_wp2
                    go_roundw
                    case rel => exact ⟨k + 1, ts', by omega, by go_num, HO, Lib.hid (by have := HL.out; omega), HB⟩
                    case measure => first | (simp [intOf]; omega) | trace_state
            · obtain rfl : k = l.length := by omega
              obtain ⟨al, cl, rfl, _⟩ := HO.out.len
              have HBE := Lib.hid (show Below w.heap.size w wr from HB2.out.trans (HB.out.mono HB2.out.size))
              clear HO HB HL HR HF
              go_wp2
              all_goals
                go_ret
                refine ⟨_, rfl, HBE.out, fun hb => ?_⟩
                first
                  | (simp at hb; done)
                  | (simp at hb; omega)
                  | omega
end Go.Proofs.Ytafeaeaildfohaa
/- Readings whose deep parts lie in a memory that is known; slices of the call's own at whatever offset, and appends to them. No program in sight. -/
namespace Go.Proofs.Ytafeaeaildfohaa
open Go.RowKit

def noMem : Mem := fun _ _ => none
def tIn {α : Type} (M : Mem) (t : Ty α) : Ty α := ⟨t.sz, fun _ cs x => t.rv M cs x, fun _ _ _ h => t.len _ _ _ h, fun _ _ _ _ _ h => h⟩
theorem tIn_flat {α : Type} (M : Mem) (t : Ty α) : (tIn M t).flat := fun _ _ _ _ h => h
theorem slice_in {α : Type} {M m : Mem} {t : Ty α} {v : Value} {xs : List α} (h : (tSlice (tIn M t)).rv m [v] xs) (hM : M.le m) : (tSlice t).rv m [v] xs := by
  obtain ⟨a, cap, h1, h2, h3, h4⟩ := h
  refine ⟨a, cap, h1, h2, h3, fun hp => ?_⟩
  obtain ⟨b, o, ha, hat⟩ := h4 hp
  refine ⟨b, o, ha, fun k hk => ?_⟩
  obtain ⟨cs, hc, hr⟩ := hat k hk
  exact ⟨cs, hc, t.mono _ _ _ _ hM hr⟩

/-- A slice whose block is the call's own; it need not begin at the block's first cell. -/
def OwnsO {α : Type} (t : Ty α) (w : World) (e : TypeId) (v : Value) (xs : List α) : Prop :=
  ∃ css : List (List Value), css.length = xs.length ∧ (∀ k, (h : k < css.length) → (h' : k < xs.length) → t.rv noMem css[k] xs[k]) ∧
   ((v = .slice none 0 0 ∧ xs = []) ∨ ∃ g off cap cur, v = .slice (some ⟨g, off, none⟩) xs.length cap ∧ w.heap[g]? = some (.cells cur e (0, 0)) ∧ xs.length ≤ cap ∧ cap ≤ maxLen ∧ off + cap * t.sz ≤ cur.size ∧ (cur.toList.drop off).take (xs.length * t.sz) = css.flatten)

theorem OwnsO.nil {α : Type} (t : Ty α) (w : World) (e : TypeId) : OwnsO t w e (.slice none 0 0) [] := ⟨[], rfl, fun k h => absurd h (by simp), .inl ⟨rfl, rfl⟩⟩
theorem OwnsO.form {α : Type} {t : Ty α} {w : World} {e : TypeId} {v : Value} {xs : List α} (h : OwnsO t w e v xs) : ∃ a cap, v = .slice a xs.length cap ∧ xs.length ≤ cap ∧ cap ≤ maxLen := by
  obtain ⟨css, _, _, h | ⟨g, off, cap, cur, h1, _, h3, h4, _⟩⟩ := h
  · obtain ⟨rfl, rfl⟩ := h; exact ⟨none, 0, rfl, Nat.le_refl _, Nat.zero_le _⟩
  · exact ⟨_, _, h1, h3, h4⟩
theorem OwnsO.keeps {α : Type} {t : Ty α} {w w' : World} {e : TypeId} {v : Value} {xs : List α} (h : OwnsO t w e v xs) (hk : ∀ k, v.ownBlock = some k → w'.heap[k]? = w.heap[k]?) : OwnsO t w' e v xs := by
  obtain ⟨css, g1, g2, h | ⟨g, off, cap, cur, rfl, h2, r⟩⟩ := h
  · exact ⟨css, g1, g2, .inl h⟩
  · exact ⟨css, g1, g2, .inr ⟨g, off, cap, cur, rfl, by rw [hk g rfl]; exact h2, r⟩⟩
theorem OwnsO.lt {α : Type} {t : Ty α} {w : World} {e : TypeId} {v : Value} {xs : List α} (h : OwnsO t w e v xs) : ∀ k, v.ownBlock = some k → k < w.heap.size := by
  obtain ⟨css, g1, g2, h | ⟨g, off, cap, cur, rfl, h2, r⟩⟩ := h
  · obtain ⟨rfl, _⟩ := h; intro k hk; cases hk
  · intro k hk; cases hk; exact (Array.getElem?_eq_some_iff.1 h2).1
theorem OwnsO.cells {α : Type} {t : Ty α} {w : World} {e : TypeId} {v : Value} {xs : List α} (h : OwnsO t w e v xs) : ∀ k, v.ownBlock = some k → ∃ cur, w.heap[k]? = some (.cells cur e (0, 0)) := by
  obtain ⟨css, g1, g2, h | ⟨g, off, cap, cur, rfl, h2, r⟩⟩ := h
  · obtain ⟨rfl, _⟩ := h; intro k hk; cases hk
  · intro k hk; cases hk; exact ⟨cur, h2⟩
theorem OwnsO.re {α : Type} {M M' : Mem} {t : Ty α} {w : World} {e : TypeId} {v : Value} {xs : List α} (h : OwnsO (tIn M t) w e v xs) (hM : M.le M') : OwnsO (tIn M' t) w e v xs := by
  obtain ⟨css, g1, g2, r⟩ := h
  exact ⟨css, g1, fun k h h' => t.mono _ _ _ _ hM (g2 k h h'), r⟩

theorem take_cell {cur : List Value} {off n k s j : Nat} {css : List (List Value)} {v : Value} (h : (cur.drop off).take (n * s) = css.flatten) (hl : css.length = n) (hs : ∀ c ∈ css, c.length = s) (hk : k < css.length) (e : css[k][j]? = some v) : cur[off + (k * s + j)]? = some v := by
  have hf := flatten_get css hs k hk j v e
  rw [← h, List.getElem?_take] at hf
  split at hf
  · rw [List.getElem?_drop] at hf; exact hf
  · cases hf

theorem OwnsO.lens {α : Type} {t : Ty α} {css : List (List Value)} {xs : List α} (h1 : css.length = xs.length) (h2 : ∀ k, (h : k < css.length) → (h' : k < xs.length) → t.rv noMem css[k] xs[k]) : ∀ c ∈ css, c.length = t.sz := fun c hc => by
  obtain ⟨k, hk, rfl⟩ := List.getElem_of_mem hc
  exact t.len _ _ _ (h2 k hk (by omega))

/-- Its elements, as a reading. -/
theorem OwnsO.rv {α : Type} {t : Ty α} (hf : t.flat) {w : World} {e : TypeId} {v : Value} {xs : List α} (h : OwnsO t w e v xs) {S : Nat → Prop} (hS : ∀ k, v.ownBlock = some k → S k) : (tSlice t).rv ((mem w).on S) [v] xs := by
  obtain ⟨css, g1, g2, h | ⟨g, off, cap, cur, rfl, h2, h3, h4, h5, h6⟩⟩ := h
  · obtain ⟨rfl, rfl⟩ := h; exact slice_nil _ _
  · refine ⟨some ⟨g, off, none⟩, cap, rfl, h3, h4, fun _ => ⟨g, off, rfl, fun k hk => ⟨css[k], fun j u hu => ?_, hf _ _ _ _ (g2 k (by omega) hk)⟩⟩⟩
    have hc := take_cell h6 g1 (OwnsO.lens g1 g2) (by omega) hu
    refine Mem.on_some ?_ (hS g rfl)
    rw [mem_cells h2]
    rw [Nat.add_assoc]
    simpa using hc
theorem OwnsO.rv' {α : Type} {t : Ty α} (hf : t.flat) {w : World} {e : TypeId} {v : Value} {xs : List α} (h : OwnsO t w e v xs) : (tSlice t).rv (mem w) [v] xs :=
  (tSlice t).mono _ _ _ _ (Mem.on_le _ (fun _ => True)) (h.rv hf (fun _ _ => trivial))

/-- What stands at an element's place; the block is not frozen. -/
theorem OwnsO.at {α : Type} {t : Ty α} {w : World} {e : TypeId} {v : Value} {xs : List α} (h : OwnsO t w e v xs) {k : Nat} (hk : k < xs.length) :
    ∃ g off cap cs, v = .slice (some ⟨g, off, none⟩) xs.length cap ∧ xs.length ≤ cap ∧ cap ≤ maxLen ∧ t.rv noMem cs xs[k] ∧ At (mem w) g (off + k * t.sz) cs := by
  obtain ⟨css, g1, g2, h | ⟨g, off, cap, cur, rfl, h2, h3, h4, h5, h6⟩⟩ := h
  · obtain ⟨_, rfl⟩ := h; simp at hk
  · refine ⟨g, off, cap, css[k]'(by omega), rfl, h3, h4, g2 k (by omega) hk, fun j u hu => ?_⟩
    have hc := take_cell h6 g1 (OwnsO.lens g1 g2) (by omega) hu
    rw [mem_cells h2, Nat.add_assoc]
    simpa using hc

theorem drop_take_succ {cur : List Value} {off n s : Nat} {c : List Value} {css : List (List Value)} (h : (cur.drop off).take ((n + 1) * s) = (c :: css).flatten) (hc : c.length = s) : (cur.drop (off + s)).take (n * s) = css.flatten := by
  rw [List.flatten_cons] at h
  have e : (cur.drop (off + s)).take (n * s) = ((cur.drop off).take ((n + 1) * s)).drop s := by
    rw [List.drop_take, List.drop_drop, Nat.succ_mul, Nat.add_sub_cancel]
  rw [e, h, ← hc, List.drop_left]

theorem flatten_length {β : Type} {s : Nat} : ∀ (css : List (List β)), (∀ c ∈ css, c.length = s) → css.flatten.length = css.length * s
  | [], _ => by simp
  | c :: css, h => by rw [List.flatten_cons, List.length_append, h c (by simp), flatten_length css (fun c hc => h c (by simp [hc])), List.length_cons, Nat.succ_mul]; omega

/-- The slice without its first element: 'x[1:]'. -/
theorem OwnsO.tail {α : Type} {P : Program} {t : Ty α} {w : World} {e T : TypeId} {v : Value} {x : α} {xs : List α} (h : OwnsO t w e v (x :: xs)) (hT : P.underlying T = some (.slice e)) (hs : (P.info? e).map (·.size) = some t.sz) :
    ∃ v', (∀ w2, (Instr.slice T v (some (.int .i64 1)) none none).run P w2 = .ok v' w2) ∧ OwnsO t w e v' xs ∧ v'.ownBlock = v.ownBlock ∧ ∃ a c, v' = .slice a xs.length c := by
  obtain ⟨css, g1, g2, h | ⟨g, off, cap, cur, rfl, h2, h3, h4, h5, h6⟩⟩ := h
  · obtain ⟨_, h⟩ := h; cases h
  · have hl := OwnsO.lens g1 g2
    cases css with
    | nil => simp at g1
    | cons c css =>
      have hc : c.length = t.sz := hl c (by simp)
      have hcl : css.length = xs.length := by simpa using g1
      simp only [List.length_cons] at h3 h6
      have h7 := drop_take_succ h6 hc
      have he : P.elem T = e := by simp [Program.elem, hT]
      have hsz : ∀ w2, (sizeOf e).run P w2 = .ok t.sz w2 := fun w2 => by
        cases hq : P.info? e with
        | none => simp [hq] at hs
        | some i => simp only [hq, Option.map_some, Option.some.injEq] at hs; simp [sizeOf, typeInfo, hq, hs]
      refine ⟨.slice (some (if cap = 1 then ⟨g, off, none⟩ else ⟨g, off + t.sz, none⟩)) xs.length (cap - 1), fun w2 => ?_, ⟨css, hcl, fun k h h' => by have := g2 (k + 1) (by simp; omega) (by simp; omega); simpa using this, .inr ?_⟩, ?_, _, _, rfl⟩
      · rw [run_slice_l w2 T _ _ cap (by rw [he]; exact hT) .i64 1 (by omega) (by simp; omega)]
        rw [he, hsz]
        simp only [Result.andThen, sliced, List.length_cons]
        by_cases h1 : cap = 1
        · simp [h1]
        · simp [h1, Addr.add]
      · by_cases h1 : cap = 1
        · have h0 : xs = [] := List.eq_nil_of_length_eq_zero (by omega)
          subst h0
          refine ⟨g, off, cap - 1, cur, by simp [h1], h2, by omega, by omega, by rw [h1] at h5 ⊢; omega, ?_⟩
          have : css = [] := List.eq_nil_of_length_eq_zero (by simpa using hcl)
          subst this; simp
        · refine ⟨g, off + t.sz, cap - 1, cur, by simp [h1], h2, by omega, by omega, ?_, h7⟩
          have e2 : cap * t.sz = (cap - 1) * t.sz + t.sz := by rw [← Nat.succ_mul]; congr 1; omega
          omega
      · by_cases h1 : cap = 1 <;> simp [h1, Value.ownBlock]

section
variable {P : Program}
theorem run_append_room_at (w : World) (t tx ty e : TypeId) (i : TypeInfo) (ht : P.underlying t = some (.slice e)) (hi : P.info? e = some i)
    (g off sLen sCap : Nat) (cur : Array Value) (hg : w.heap[g]? = some (.cells cur e (0, 0))) (x : Value) (n : Nat) (news : List Value) (hs : Src P i.size tx x n news w)
    (hroom : sLen + n ≤ sCap) (hfit : off + sLen * i.size + news.length ≤ cur.size) :
    (Builtin.append_ #[t, tx] ty #[.slice (some ⟨g, off, none⟩) sLen sCap, x]).run P w =
      .ok (.slice (some ⟨g, off, none⟩) (sLen + n) sCap) (w.setRow g (cur.toList.take (off + sLen * i.size) ++ news ++ cur.toList.drop (off + sLen * i.size + news.length)).toArray) := by
  have hst := run_storeCells_at P g (off + sLen * i.size) e news 0 cur w hg (by simpa using hfit) hs.one
  simp only [Nat.add_zero] at hst
  rcases hs.kind with ⟨e', hk⟩ | hk <;> simp [Builtin.append_, run_underlying ht, run_underlying hk, sizeOf, typeInfo, hi, hs.len, hroom, hs.cells, Addr.add_lit, hst]

theorem nextcap_fits {need old bytes : Nat} (h : old < need) (hb : need * bytes ≤ 140737488355328) : Builtin.nextslicecap need old * bytes ≤ 281474976710656 := growslice_fits h hb

theorem run_append_new {α : Type} {t : Ty α} (w : World) (T tx ty : TypeId) {e : TypeId} {z : Value} {bytes : Nat} (hT : P.underlying T = some (.slice e))
    (hinf : (P.info? e).map (fun i => (i.zero, i.size, i.bytes)) = some (some z, t.sz, bytes)) (hzs : z.cells.size = t.sz) (a : Option Addr) (cap : Nat) (xs ys : List α) (css : List (List Value))
    (hold : (Builtin.firstCells t.sz xs.length (.slice a xs.length cap)).run P w.drew = .ok css.flatten.toArray w.drew) (hcl : css.length = xs.length) (hcr : ∀ k, (h : k < css.length) → (h' : k < xs.length) → t.rv noMem css[k] xs[k])
    (x : Value) (dss : List (List Value)) (hs : Src P t.sz tx x ys.length dss.flatten w) (hl : dss.length = ys.length) (hr : ∀ k, (h : k < dss.length) → (h' : k < ys.length) → t.rv noMem dss[k] ys[k])
    (hn : cap < xs.length + ys.length) (h63 : xs.length + ys.length ≤ maxLen) (hbytes : (xs.length + ys.length) * bytes ≤ 140737488355328) :
    ∃ v' w', (Builtin.append_ #[T, tx] ty #[.slice a xs.length cap, x]).run P w = .ok v' w' ∧ OwnsO t w' e v' (xs ++ ys) ∧ Below w.heap.size w w' ∧ v'.ownBlock = some w.heap.size := by
  obtain ⟨i, hi, hz, hsize, hby⟩ := info_parts hinf
  have hsmall : xs.length + ys.length ≤ 9223372036854775807 := by simp only [maxLen] at h63; omega
  rw [← hsize] at hs hold
  rw [← hby] at hbytes
  have hrun := run_append_grow_src (P := P) w T tx ty e i z hT hi hz a xs.length cap css.flatten hold x ys.length dss.flatten hs hn (by omega) (growslice_fits hn hbytes)
  refine ⟨_, _, hrun, ⟨css ++ dss, by simp [hcl, hl], fun k h h' => ?_, .inr ⟨w.heap.size, 0, grownCap w (xs.length + ys.length) cap e, _, ?_, heap_alloc_new w.drew _, ?_, grownCap_le_maxLen w _ _ e h63, ?_, ?_⟩⟩, (Below.refl _ _).drew.alloc (Nat.le_refl _) _, rfl⟩
  · by_cases hk : k < css.length
    · rw [List.getElem_append_left hk, List.getElem_append_left (by omega)]
      exact hcr k hk (by omega)
    · have e1 : (css ++ dss)[k] = dss[k - css.length]'(by simp at h; omega) := List.getElem_append_right (by omega)
      have e2 : (xs ++ ys)[k] = ys[k - css.length]'(by simp at h'; omega) := by rw [List.getElem_append_right (by omega)]; congr 1; omega
      rw [e1, e2]
      exact hr _ _ _
  · rw [List.length_append]
  · rw [List.length_append]; exact grownCap_ge w _ _ e
  · have hge := grownCap_ge w (xs.length + ys.length) cap e
    have h1 : css.flatten.length = xs.length * t.sz := by rw [flatten_length css (OwnsO.lens hcl hcr), hcl]
    have h2 : dss.flatten.length = ys.length * t.sz := by rw [flatten_length dss (OwnsO.lens hl hr), hl]
    simp only [Array.size_append, List.size_toArray, size_zeroCells, hzs, List.length_append, h1, h2, ← Nat.add_mul]
    rw [Nat.zero_add]
    exact Nat.le_of_eq (by congr 1; omega)
  · have h1 : css.flatten.length = xs.length * t.sz := by rw [flatten_length css (OwnsO.lens hcl hcr), hcl]
    have h2 : dss.flatten.length = ys.length * t.sz := by rw [flatten_length dss (OwnsO.lens hl hr), hl]
    simp only [Array.toList_append, List.drop_zero, List.length_append, List.flatten_append]
    rw [Nat.add_mul, ← h1, ← h2, ← List.length_append, List.take_left]

/-- Where an append has put its elements: behind the old ones, where there was room, or all into a new block. -/
def AppAt (w w' : World) (v : Value) (n m : Nat) (v' : Value) : Prop :=
  (v'.ownBlock = v.ownBlock ∧ w.grownBy w' v.ownBlock ∧ ∃ a cap, v = .slice a n cap ∧ n + m ≤ cap) ∨ (Below w.heap.size w w' ∧ v'.ownBlock = some w.heap.size)
theorem AppAt.grown {w w' : World} {v v' : Value} {n m : Nat} (h : AppAt w w' v n m v') : w.grownBy w' v.ownBlock := by
  rcases h with ⟨_, h, _⟩ | ⟨hb, _⟩
  · exact h
  · exact ⟨hb.os, hb.tape, hb.output, hb.size, fun k hk _ => hb.block k hk⟩
theorem AppAt.block {w w' : World} {v v' : Value} {n m : Nat} (h : AppAt w w' v n m v') : v'.ownBlock = v.ownBlock ∨ ∀ k, v'.ownBlock = some k → w.heap.size ≤ k := by
  rcases h with ⟨h, _⟩ | ⟨_, h⟩
  · exact .inl h
  · exact .inr fun k hk => by rw [h] at hk; cases hk; exact Nat.le_refl _

/-- APPEND to a slice of the call's own, of any number of elements. -/
theorem run_append_o {α : Type} {t : Ty α} (w : World) (T tx ty : TypeId) {e : TypeId} {z : Value} {bytes : Nat} (hT : P.underlying T = some (.slice e))
    (hinf : (P.info? e).map (fun i => (i.zero, i.size, i.bytes)) = some (some z, t.sz, bytes)) (hzs : z.cells.size = t.sz) (v : Value) (xs ys : List α) (hown : OwnsO t w e v xs)
    (x : Value) (dss : List (List Value)) (hs : Src P t.sz tx x ys.length dss.flatten w) (hl : dss.length = ys.length) (hr : ∀ k, (h : k < dss.length) → (h' : k < ys.length) → t.rv noMem dss[k] ys[k])
    (h63 : xs.length + ys.length ≤ maxLen) (hbytes : (xs.length + ys.length) * bytes ≤ 140737488355328) :
    ∃ v' w', (Builtin.append_ #[T, tx] ty #[v, x]).run P w = .ok v' w' ∧ OwnsO t w' e v' (xs ++ ys) ∧ AppAt w w' v xs.length ys.length v' := by
  have h2 : dss.flatten.length = ys.length * t.sz := by rw [flatten_length dss (OwnsO.lens hl hr), hl]
  obtain ⟨css, g1, g2, h | ⟨g, off, cap, cur, rfl, hg, h3, h4, h5, h6⟩⟩ := hown
  · obtain ⟨rfl, rfl⟩ := h
    by_cases h0 : ys.length = 0
    · have hy : ys = [] := List.eq_nil_of_length_eq_zero h0
      subst hy
      have hd : dss = [] := List.eq_nil_of_length_eq_zero (by simpa using hl)
      subst hd
      obtain ⟨i, hi, hz, hsize, hby⟩ := info_parts hinf
      refine ⟨.slice none 0 0, w, ?_, OwnsO.nil _ _ _, .inl ⟨rfl, ⟨rfl, rfl, rfl, Nat.le_refl _, fun _ _ _ => rfl⟩, _, _, rfl, Nat.le_refl _⟩⟩
      rw [← hsize] at hs
      rcases hs.kind with ⟨e', hk⟩ | hk <;> (have hc := hs.cells; have hle := hs.len; simp only [List.length_nil] at hc hle; simp [Builtin.append_, run_underlying hT, run_underlying hk, sizeOf, typeInfo, hi, hle, hc])
    · obtain ⟨v', w', hrun, ho, hb, hblk⟩ := run_append_new (P := P) w T tx ty hT hinf hzs none 0 [] ys [] (run_firstCells_none w.drew t.sz 0 0 0) rfl (fun k h => absurd h (by simp)) x dss hs hl hr (by simp; omega) h63 hbytes
      exact ⟨v', w', hrun, ho, .inr ⟨hb, hblk⟩⟩
  · by_cases hroom : xs.length + ys.length ≤ cap
    · obtain ⟨i, hi, hz, hsize, hby⟩ := info_parts hinf
      have hfit : off + xs.length * t.sz + dss.flatten.length ≤ cur.size := by
        have := Nat.mul_le_mul_right t.sz hroom
        rw [Nat.add_mul] at this; omega
      rw [← hsize] at hs
      have hrun := run_append_room_at (P := P) w T tx ty e i hT hi g off xs.length cap cur hg x ys.length dss.flatten hs hroom (by rw [hsize]; exact hfit)
      rw [hsize] at hrun
      refine ⟨_, _, hrun, ⟨css ++ dss, by simp [g1, hl], fun k h h' => ?_, .inr ⟨g, off, cap, _, by rw [List.length_append], setRow_heap w g cur _ e _ hg, by rw [List.length_append]; exact hroom, h4, ?_, ?_⟩⟩, .inl ⟨rfl, ⟨rfl, rfl, rfl, by simp [World.setRow], fun k _ hk => setRow_other w g k _ (fun e => hk (by simp [Value.ownBlock, e]))⟩, _, _, rfl, hroom⟩⟩
      · by_cases hk : k < css.length
        · rw [List.getElem_append_left hk, List.getElem_append_left (by omega)]
          exact g2 k hk (by omega)
        · have e1 : (css ++ dss)[k] = dss[k - css.length]'(by simp at h; omega) := List.getElem_append_right (by omega)
          have e2 : (xs ++ ys)[k] = ys[k - css.length]'(by simp at h'; omega) := by rw [List.getElem_append_right (by omega)]; congr 1; omega
          rw [e1, e2]
          exact hr _ _ _
      · simp only [List.size_toArray, List.length_append, List.length_take, List.length_drop, Array.length_toList]
        omega
      · have h1 : css.flatten.length = xs.length * t.sz := by rw [flatten_length css (OwnsO.lens g1 g2), g1]
        simp only [List.length_append, List.flatten_append]
        have e0 : (cur.toList.take (off + xs.length * t.sz)).drop off = css.flatten := by rw [List.drop_take, ← h6]; congr 1; omega
        have el : off ≤ (cur.toList.take (off + xs.length * t.sz)).length := by simp; omega
        rw [List.append_assoc, List.drop_append_of_le_length el, e0, Nat.add_mul, ← h1, ← h2, ← List.append_assoc, ← List.length_append, List.take_left]
    · have hold : (Builtin.firstCells t.sz xs.length (.slice (some ⟨g, off, none⟩) xs.length cap)).run P w.drew = .ok css.flatten.toArray w.drew := by
        refine run_firstCells_some (P := P) w.drew t.sz xs.length ⟨g, off, none⟩ xs.length cap css.flatten (by rw [flatten_length css (OwnsO.lens g1 g2), g1]) (fun j u hj => ?_)
        rw [Addr.add_lit]
        show w.cell? ⟨g, off + j, none⟩ = some u
        rw [cell_of_row w g (off + j) cur e (0, 0) hg]
        rw [← h6, List.getElem?_take] at hj
        split at hj
        · rw [List.getElem?_drop] at hj; simpa using hj
        · cases hj
      obtain ⟨v', w', hrun, ho, hb, hblk⟩ := run_append_new (P := P) w T tx ty hT hinf hzs (some ⟨g, off, none⟩) cap xs ys css hold g1 g2 x dss hs hl hr (by omega) h63 hbytes
      exact ⟨v', w', hrun, ho, .inr ⟨hb, hblk⟩⟩

theorem run_append_o1 {α : Type} {t : Ty α} (w : World) (T ty : TypeId) {e : TypeId} {z : Value} {bytes : Nat} (hT : P.underlying T = some (.slice e))
    (hinf : (P.info? e).map (fun i => (i.zero, i.size, i.bytes)) = some (some z, t.sz, bytes)) (hzs : z.cells.size = t.sz) (v : Value) (xs : List α) (hown : OwnsO t w e v xs)
    (nb c : Nat) (y : α) (cs : List Value) (hat : At (mem w) nb 0 cs) (hrv : t.rv noMem cs y) (h1 : ∀ u ∈ cs, u.oneCell' = true)
    (h63 : xs.length + 1 ≤ maxLen) (hbytes : (xs.length + 1) * bytes ≤ 140737488355328) :
    ∃ v' w', (Builtin.append_ #[T, T] ty #[v, .slice (some ⟨nb, 0, none⟩) 1 c]).run P w = .ok v' w' ∧ OwnsO t w' e v' (xs ++ [y]) ∧ AppAt w w' v xs.length 1 v' := by
  have hl := t.len _ _ _ hrv
  refine run_append_o (P := P) w T T ty hT hinf hzs v xs [y] hown _ [cs] (Src.ofSlice w hT ⟨nb, 0, none⟩ 1 c _ (by simp [hl]) (fun j u hj => ?_) (by simpa using h1)) rfl (fun k h h' => ?_) h63 hbytes
  · rw [Addr.add_lit]
    exact hat j u (by simpa using hj)
  · have : k = 0 := by simp at h; omega
    subst this; exact hrv

/-- APPEND OF ONE ELEMENT. -/
theorem wpList_append_o1 {α : Type} {ops : Array Oper} {rest : List Oper} {o : Oper} {a : Act} {Q : Exit → Act → World → Prop} {w : World} (hgd : o.guard = none) (s x : Operand) (T : TypeId)
    (ho : o.op = .call { callee := .builtin .append, args := #[s, x], argTypes := #[T, T] }) (t : Ty α) {e : TypeId} {z : Value} {bytes : Nat} (hT : P.underlying T = some (.slice e))
    (hinf : (P.info? e).map (fun i => (i.zero, i.size, i.bytes)) = some (some z, t.sz, bytes)) (hzs : z.cells.size = t.sz) (v : Value) (xs : List α) (hs : a.eval s = v) (hown : OwnsO t w e v xs)
    (nb c : Nat) (y : α) (hx : a.eval x = .slice (some ⟨nb, 0, none⟩) 1 c) (cs : List Value) (hat : At (mem w) nb 0 cs) (hrv : t.rv noMem cs y) (h1 : ∀ u ∈ cs, u.oneCell' = true)
    (h63 : xs.length + 1 ≤ maxLen) (hbytes : (xs.length + 1) * bytes ≤ 140737488355328)
    (h : ∀ v' w', OwnsO t w' e v' (xs ++ [y]) → AppAt w w' v xs.length 1 v' → wpList P ops Q rest (a.put o.dst v') w') : wpList P ops Q (o :: rest) a w := by
  refine wpList_plain hgd fun K hK => ?_
  obtain ⟨v', w', hr, h2, h3⟩ := run_append_o1 (P := P) w T o.type hT hinf hzs v xs hown nb c y cs hat hrv h1 h63 hbytes
  unfold Oper.wp execOp
  simp only [ho, resolve, invoke, builtin, Sem.run_bind, Sem.run_pure, Result.andThen_ok, List.map_toArray, List.map_cons, List.map_nil, hs, hx, hr]
  exact hK _ _ (h v' w' h2 h3)
/-- The same as one step of a region that draws its order. -/
theorem step_append_o1 {α : Type} {ops : Array Oper} {o : Oper} {a : Act} {w : World} {K : Act → World → Prop} {Q : Exit → Act → World → Prop} {E : Prop} (hgd : o.guard = none) (s x : Operand) (T : TypeId)
    (ho : o.op = .call { callee := .builtin .append, args := #[s, x], argTypes := #[T, T] }) (t : Ty α) {e : TypeId} {z : Value} {bytes : Nat} (hT : P.underlying T = some (.slice e))
    (hinf : (P.info? e).map (fun i => (i.zero, i.size, i.bytes)) = some (some z, t.sz, bytes)) (hzs : z.cells.size = t.sz) (v : Value) (xs : List α) (hs : a.eval s = v) (hown : OwnsO t w e v xs)
    (nb c : Nat) (y : α) (hx : a.eval x = .slice (some ⟨nb, 0, none⟩) 1 c) (cs : List Value) (hat : At (mem w) nb 0 cs) (hrv : t.rv noMem cs y) (h1 : ∀ u ∈ cs, u.oneCell' = true)
    (h63 : xs.length + 1 ≤ maxLen) (hbytes : (xs.length + 1) * bytes ≤ 140737488355328)
    (h : ∀ v' w', OwnsO t w' e v' (xs ++ [y]) → AppAt w w' v xs.length 1 v' → K (a.put o.dst v') w') :
    if Region.wanted o (yielded ops a.tmps) = true then Oper.wp P o a w K Q else E := by
  have hw : Region.wanted o (yielded ops a.tmps) = true := by simp [Region.wanted, hgd]
  rw [if_pos hw]
  obtain ⟨v', w', hr, h2, h3⟩ := run_append_o1 (P := P) w T o.type hT hinf hzs v xs hown nb c y cs hat hrv h1 h63 hbytes
  unfold Oper.wp execOp
  simp only [ho, resolve, invoke, builtin, Sem.run_bind, Sem.run_pure, Result.andThen_ok, List.map_toArray, List.map_cons, List.map_nil, hs, hx, hr]
  exact h v' w' h2 h3
end
end Go.Proofs.Ytafeaeaildfohaa
/- Appends to slices of the call's own at whatever offset; cuts of slices (chapter 24's XVFr, its seat-free part). -/
namespace Go.Proofs.Ytafeaeaildfohaa
open Go.RowKit Go.Maps

section
variable {P : Program}
theorem run_append_os {α : Type} {t : Ty α} (hf : t.flat) (hone : ∀ m cs x, t.rv m cs x → ∀ u ∈ cs, u.oneCell' = true) (w : World) (T ty : TypeId) {e : TypeId} {z : Value} {bytes : Nat} (hT : P.underlying T = some (.slice e))
    (hinf : (P.info? e).map (fun i => (i.zero, i.size, i.bytes)) = some (some z, t.sz, bytes)) (hzs : z.cells.size = t.sz) (hsz : 0 < t.sz) (v : Value) (xs ys : List α) (hown : OwnsO t w e v xs)
    (a : Option Addr) (c : Nat) (hy : (tSlice t).rv (mem w) [.slice a ys.length c] ys) (h63 : xs.length + ys.length ≤ maxLen) (hbytes : (xs.length + ys.length) * bytes ≤ 140737488355328) :
    ∃ v' w', (Builtin.append_ #[T, T] ty #[v, .slice a ys.length c]).run P w = .ok v' w' ∧ OwnsO t w' e v' (xs ++ ys) ∧ AppAt w w' v xs.length ys.length v' := by
  by_cases h0 : ys.length = 0
  · obtain rfl := List.length_eq_zero_iff.1 h0
    refine run_append_o (P := P) w T T ty hT hinf hzs v xs [] hown _ [] ?_ rfl (fun k h => absurd h (by simp)) h63 hbytes
    cases a with
    | none => exact Src.ofNil w hT c
    | some ad => exact Src.ofSlice w hT ad 0 c [] (by simp) (fun j u h => by simp at h) (fun u h => by cases h)
  · obtain ⟨b, o, rfl, _⟩ := slice_at hy (k := 0) (by omega)
    obtain ⟨dss, d1, d2, d3⟩ := slice_css hy
    have hl : dss.flatten.length = ys.length * t.sz := by rw [flatten_len dss d2, d1]
    refine run_append_o (P := P) w T T ty hT hinf hzs v xs ys hown _ dss ?_ d1 (fun k h h' => hf _ _ _ _ (d3 k h h').2) h63 hbytes
    refine Src.ofSlice w hT ⟨b, o, none⟩ ys.length c _ hl (fun j u hj => ?_) (fun u hu => ?_)
    · obtain ⟨k, hk, r, rfl, hv⟩ := flatten_split hsz dss d2 j u hj
      have := (d3 k hk (by omega)).1 r u hv
      rw [Addr.add_lit, ← Nat.add_assoc]
      exact this
    · obtain ⟨l, hl, hu⟩ := List.mem_flatten.1 hu
      obtain ⟨k, hk, rfl⟩ := List.getElem_of_mem hl
      exact hone _ _ _ (d3 k hk (by omega)).2 u hu
theorem step_append_os {α : Type} {ops : Array Oper} {o : Oper} {a : Act} {w : World} {K : Act → World → Prop} {Q : Exit → Act → World → Prop} {E : Prop} (hgd : o.guard = none) (s x : Operand) (T : TypeId)
    (ho : o.op = .call { callee := .builtin .append, args := #[s, x], argTypes := #[T, T] }) (t : Ty α) (hf : t.flat) (hone : ∀ m cs x, t.rv m cs x → ∀ u ∈ cs, u.oneCell' = true) {e : TypeId} {z : Value} {bytes : Nat} (hT : P.underlying T = some (.slice e))
    (hinf : (P.info? e).map (fun i => (i.zero, i.size, i.bytes)) = some (some z, t.sz, bytes)) (hzs : z.cells.size = t.sz) (hsz : 0 < t.sz) (v : Value) (xs ys : List α) (hs : a.eval s = v) (hown : OwnsO t w e v xs)
    (ad : Option Addr) (n c : Nat) (hx : a.eval x = .slice ad n c) (hn : n = ys.length) (hy : (tSlice t).rv (mem w) [.slice ad n c] ys) (h63 : xs.length + ys.length ≤ maxLen) (hbytes : (xs.length + ys.length) * bytes ≤ 140737488355328)
    (h : ∀ v' w', OwnsO t w' e v' (xs ++ ys) → AppAt w w' v xs.length ys.length v' → K (a.put o.dst v') w') :
    if Region.wanted o (yielded ops a.tmps) = true then Oper.wp P o a w K Q else E := by
  have hw : Region.wanted o (yielded ops a.tmps) = true := by simp [Region.wanted, hgd]
  rw [if_pos hw]
  subst hn
  obtain ⟨v', w', hr, h2, h3⟩ := run_append_os (P := P) hf hone w T o.type hT hinf hzs hsz v xs ys hown ad c hy h63 hbytes
  unfold Oper.wp execOp
  simp only [ho, resolve, invoke, builtin, Sem.run_bind, Sem.run_pure, Result.andThen_ok, List.map_toArray, List.map_cons, List.map_nil, hs, hx, hr]
  exact h v' w' h2 h3
theorem size_run {e : TypeId} {sz : Nat} (hs : (P.info? e).map (·.size) = some sz) (w : World) : (sizeOf e).run P w = .ok sz w := by
  cases hq : P.info? e with
  | none => simp [hq] at hs
  | some i => simp only [hq, Option.map_some, Option.some.injEq] at hs; simp [sizeOf, typeInfo, hq, hs]
/-- The first elements of a slice. -/
theorem cut_lo {α : Type} {t : Ty α} {m : Mem} {a : Option Addr} {len cap n : Nat} {xs : List α} (h : (tSlice t).rv m [.slice a len cap] xs) (hn : n ≤ xs.length) {T e : TypeId} (hT : P.underlying T = some (.slice e)) (hs : (P.info? e).map (·.size) = some t.sz) :
    ∃ a' c', (∀ w2, (Instr.slice T (.slice a len cap) none (some (.int .i64 n)) none).run P w2 = .ok (.slice a' n c') w2) ∧ (tSlice t).rv m [.slice a' n c'] (xs.take n) := by
  obtain ⟨rfl, h1, h2⟩ := slice_len h
  obtain ⟨a', cap', eq, _, _, h4⟩ := h
  simp only [List.cons.injEq, Value.slice.injEq, and_true] at eq
  obtain ⟨rfl, _, rfl⟩ := eq
  have hl : (xs.take n).length = n := by simp; omega
  have he : P.elem T = e := by simp [Program.elem, hT]
  refine ⟨a, cap, fun w2 => ?_, a, cap, by rw [hl], by rw [hl]; omega, h2, fun h0 => ?_⟩
  · rw [run_slice_h w2 T _ xs.length cap (by rw [he]; exact hT) .i64 n (by omega) (by omega), he, size_run hs]
    have e0 : a.map (fun x => x.add (0 * t.sz)) = a := by
      cases a with
      | none => rfl
      | some x => simp [Addr.add]
    simp only [Result.andThen_ok, sliced, Int.toNat_natCast, Nat.sub_zero]
    by_cases hc : cap = 0 <;> simp [hc] <;> (cases a <;> simp [Addr.add])
  · rw [hl] at h0
    obtain ⟨b, o, ha, hat⟩ := h4 (by omega)
    exact ⟨b, o, ha, fun k hk => by rw [List.getElem_take]; exact hat k (by omega)⟩
/-- The last elements of a slice. -/
theorem cut_hi {α : Type} {t : Ty α} {m : Mem} {a : Option Addr} {len cap n : Nat} {xs : List α} (h : (tSlice t).rv m [.slice a len cap] xs) (hn : n ≤ xs.length) {T e : TypeId} (hT : P.underlying T = some (.slice e)) (hs : (P.info? e).map (·.size) = some t.sz) :
    ∃ a' c', (∀ w2, (Instr.slice T (.slice a len cap) (some (.int .i64 n)) none none).run P w2 = .ok (.slice a' (len - n) c') w2) ∧ (tSlice t).rv m [.slice a' (len - n) c'] (xs.drop n) := by
  obtain ⟨rfl, h1, h2⟩ := slice_len h
  obtain ⟨a', cap', eq, _, _, h4⟩ := h
  simp only [List.cons.injEq, Value.slice.injEq, and_true] at eq
  obtain ⟨rfl, _, rfl⟩ := eq
  have he : P.elem T = e := by simp [Program.elem, hT]
  refine ⟨if cap = n then a else a.map (·.add (n * t.sz)), cap - n, fun w2 => ?_, _, _, by rw [List.length_drop], by rw [List.length_drop]; omega, by omega, fun h0 => ?_⟩
  · rw [run_slice_l w2 T _ xs.length cap (by rw [he]; exact hT) .i64 n (by omega) (by omega), he, size_run hs]
    simp only [Result.andThen_ok, sliced, Int.toNat_natCast]
  · rw [List.length_drop] at h0
    obtain ⟨b, o, ha, hat⟩ := h4 (by omega)
    subst ha
    refine ⟨b, o + n * t.sz, by rw [if_neg (by omega)]; simp [Addr.add], fun k hk => ?_⟩
    rw [List.length_drop] at hk
    have h := hat (n + k) (by omega)
    rw [List.getElem_drop]
    have e : o + (n + k) * t.sz = o + n * t.sz + k * t.sz := by rw [Nat.add_mul]; omega
    rw [e] at h; exact h
end
theorem lit0_of {α : Type} (t : Ty α) {w : World} {b : Nat} {T : TypeId} (h : w.heap[b]? = some (.cells #[] T (0, 0))) : OwnsO t w T (.slice (some ⟨b, 0, none⟩) 0 0) [] :=
  ⟨[], rfl, fun k h => absurd h (by simp), .inr ⟨b, 0, 0, #[], rfl, h, by simp, by simp, by simp, by simp⟩⟩
theorem app_below {Z wA w5 : World} {n m B : Nat} {v v5 : Value} (hZ : Below B Z wA) (hB : B ≤ wA.heap.size) (happ : AppAt wA w5 v n m v5) (hv : ∀ k, v.ownBlock = some k → B ≤ k) : Below B Z w5 ∧ ∀ k, v5.ownBlock = some k → B ≤ k :=
  ⟨hZ.grown happ.grown hB (fun k e => hv k e), fun k e => by
    rcases happ.block with g | g
    · exact hv k (g ▸ e)
    · exact Nat.le_trans hB (g k e)⟩
theorem OwnsO.formN {α : Type} {t : Ty α} {w : World} {e : TypeId} {v : Value} {xs : List α} (h : OwnsO t w e v xs) : ∃ a n cap, v = .slice a n cap ∧ n = xs.length := by
  obtain ⟨a, cap, rfl, _⟩ := h.form
  exact ⟨a, _, cap, rfl, rfl⟩
theorem slice_to {α : Type} {M m : Mem} {t : Ty α} {v : Value} {xs : List α} (h : (tSlice t).rv M [v] xs) (hM : M.le m) : (tSlice (tIn M t)).rv m [v] xs := by
  obtain ⟨a, cap, h1, h2, h3, h4⟩ := h
  refine ⟨a, cap, h1, h2, h3, fun hp => ?_⟩
  obtain ⟨b, o, ha, hat⟩ := h4 hp
  refine ⟨b, o, ha, fun k hk => ?_⟩
  obtain ⟨cs, hc, hr⟩ := hat k hk
  exact ⟨cs, fun j v hj => hM _ _ _ (hc j v hj), hr⟩
def store5 (w : World) (b : Nat) (v0 v1 v2 v3 v4 : Value) : World := ((((w.setCell ⟨b, 0, none⟩ v0).setCell ⟨b, 1, none⟩ v1).setCell ⟨b, 2, none⟩ v2).setCell ⟨b, 3, none⟩ v3).setCell ⟨b, 4, none⟩ v4
theorem own_lit0 {α : Type} (t : Ty α) (w : World) (e : TypeId) : Owns t (w.alloc (.cells #[] e)) w.heap.size e (.slice (some ⟨w.heap.size, 0, none⟩) 0 0) [] :=
  ⟨[], rfl, World.ownsRow_lit w #[] 0 (Nat.le_refl _) (Nat.zero_le _) (by simp), fun c h => absurd h (by simp), fun k h => absurd h (by simp)⟩
theorem below_onS {w w' : World} (h : Below w.heap.size w w') (S : Nat → Prop) : ((mem w).on S).le ((mem w').on (fun k => S k ∨ w.heap.size ≤ k)) := fun b o u e => by
  obtain ⟨hs, e⟩ := Mem.of_on e
  exact Mem.on_some (below_mem h _ _ _ e) (.inl hs)
end Go.Proofs.Ytafeaeaildfohaa
/- Slices of the call's own whose elements are deep; ways: readings. -/
namespace Go.Proofs.Ytafeaeaildfohaa
open Go.RowKit Go.Maps

/-- A slice of the call's own with deep elements: their parts lie in S and not in the slice's block. -/
def OwnsD {α : Type} (t : Ty α) (S : Nat → Prop) (w : World) (B : Nat) (e : TypeId) (v : Value) (xs : List α) : Prop :=
  ∃ M : Mem, M.le ((mem w).on (fun b => S b ∧ some b ≠ v.ownBlock)) ∧ OwnsO (tIn M t) w e v xs ∧ ∀ k, v.ownBlock = some k → B ≤ k
section
variable {α : Type} {t : Ty α} {S : Nat → Prop} {w : World} {B : Nat} {e : TypeId} {v : Value} {xs : List α}
theorem OwnsD.nil (t : Ty α) (S : Nat → Prop) (w : World) (B : Nat) (e : TypeId) : OwnsD t S w B e (.slice none 0 0) [] := ⟨noMem, (fun b o v h => by cases h), OwnsO.nil _ _ _, (fun k h => by cases h)⟩
theorem OwnsD.keeps (h : OwnsD t S w B e v xs) {w' : World} (hb : Below w.heap.size w w') : OwnsD t S w' B e v xs := by
  obtain ⟨M, h1, h2, h3⟩ := h
  refine ⟨M, Mem.le_trans h1 (fun b o u e => ?_), h2.keeps (fun k hk => hb.block k (h2.lt k hk)), h3⟩
  obtain ⟨hs, e⟩ := Mem.of_on e
  exact Mem.on_some (below_mem hb _ _ _ e) hs
theorem OwnsD.rv (h : OwnsD t S w B e v xs) {S' : Nat → Prop} (hS : ∀ b, S b → S' b) (hB : ∀ b, B ≤ b → S' b) : (tSlice t).rv ((mem w).on S') [v] xs := by
  obtain ⟨M, h1, h2, h3⟩ := h
  exact slice_in (h2.rv (tIn_flat M t) (fun k hk => hB k (h3 k hk))) (Mem.le_trans h1 (Mem.on_mono _ (fun b hb => hS b hb.1)))
theorem OwnsD.len (h : OwnsD t S w B e v xs) : ∃ a cap, v = .slice a xs.length cap ∧ xs.length ≤ maxLen := by
  obtain ⟨M, h1, h2, h3⟩ := h
  obtain ⟨a, cap, h4, h5, h6⟩ := h2.form
  exact ⟨a, cap, h4, Nat.le_trans h5 h6⟩
theorem OwnsD.lt (h : OwnsD t S w B e v xs) : ∀ k, v.ownBlock = some k → B ≤ k ∧ k < w.heap.size := by
  obtain ⟨M, h1, h2, h3⟩ := h
  exact fun k hk => ⟨h3 k hk, h2.lt k hk⟩
variable {P : Program}
theorem run_append_d (hone : ∀ m cs x, t.rv m cs x → ∀ u ∈ cs, u.oneCell' = true) (w : World) (T ty : TypeId) {z : Value} {bytes : Nat} (hT : P.underlying T = some (.slice e))
    (hinf : (P.info? e).map (fun i => (i.zero, i.size, i.bytes)) = some (some z, t.sz, bytes)) (hzs : z.cells.size = t.sz) (hsz : 0 < t.sz) (v : Value) (xs ys : List α) (hown : OwnsD t S w B e v xs)
    (a : Option Addr) (c : Nat) (hy : (tSlice t).rv ((mem w).on (fun b => S b ∧ some b ≠ v.ownBlock)) [.slice a ys.length c] ys) (h63 : xs.length + ys.length ≤ maxLen) (hbytes : (xs.length + ys.length) * bytes ≤ 140737488355328) (hbase : B ≤ w.heap.size) :
    ∃ v' w', (Builtin.append_ #[T, T] ty #[v, .slice a ys.length c]).run P w = .ok v' w' ∧ OwnsD t S w' B e v' (xs ++ ys) ∧ w.grownBy w' v.ownBlock ∧ (v'.ownBlock = v.ownBlock ∨ ∀ k, v'.ownBlock = some k → w.heap.size ≤ k) := by
  obtain ⟨M, h1, h2, h3⟩ := hown
  obtain ⟨v', w', hr, ho, ha⟩ := run_append_os (P := P) (t := tIn ((mem w).on (fun b => S b ∧ some b ≠ v.ownBlock)) t) (tIn_flat _ _) (fun m cs x h => hone _ cs x h) w T ty hT hinf hzs hsz v xs ys (h2.re h1) a c (slice_to hy (Mem.on_le _ _)) h63 hbytes
  refine ⟨v', w', hr, ⟨_, fun b o u e => ?_, ho, fun k hk => ?_⟩, ha.grown, ha.block⟩
  · obtain ⟨⟨hs, hne⟩, e⟩ := Mem.of_on e
    refine Mem.on_some ((mem_of_block (ha.grown.block b (mem_lt e) hne) o).trans e) ⟨hs, ?_⟩
    rcases ha.block with g | g
    · rw [g]; exact hne
    · intro hk
      have := g b hk.symm
      have := mem_lt e
      omega
  · rcases ha.block with g | g
    · exact h3 k (g ▸ hk)
    · exact Nat.le_trans hbase (g k hk)
theorem wpList_append_d {ops : Array Oper} {rest : List Oper} {o : Oper} {a : Act} {Q : Exit → Act → World → Prop} {w : World} (hgd : o.guard = none) (s x : Operand) (T : TypeId)
    (ho : o.op = .call { callee := .builtin .append, args := #[s, x], argTypes := #[T, T] }) (t : Ty α) (hone : ∀ m cs x, t.rv m cs x → ∀ u ∈ cs, u.oneCell' = true) {e : TypeId} {z : Value} {bytes : Nat} (hT : P.underlying T = some (.slice e))
    (hinf : (P.info? e).map (fun i => (i.zero, i.size, i.bytes)) = some (some z, t.sz, bytes)) (hzs : z.cells.size = t.sz) (hsz : 0 < t.sz) (S : Nat → Prop) (B : Nat) (v : Value) (xs ys : List α) (hs : a.eval s = v) (hown : OwnsD t S w B e v xs)
    (ad : Option Addr) (n c : Nat) (hx : a.eval x = .slice ad n c) (hn : n = ys.length) (hy : (tSlice t).rv ((mem w).on (fun b => S b ∧ some b ≠ v.ownBlock)) [.slice ad n c] ys) (h63 : xs.length + ys.length ≤ maxLen) (hbytes : (xs.length + ys.length) * bytes ≤ 140737488355328) (hbase : B ≤ w.heap.size)
    (h : ∀ v' w', OwnsD t S w' B e v' (xs ++ ys) → w.grownBy w' v.ownBlock → (v'.ownBlock = v.ownBlock ∨ ∀ k, v'.ownBlock = some k → w.heap.size ≤ k) → wpList P ops Q rest (a.put o.dst v') w') : wpList P ops Q (o :: rest) a w := by
  subst hn
  refine wpList_plain hgd fun K hK => ?_
  obtain ⟨v', w', hr, h2, h3, h4⟩ := run_append_d (P := P) hone w T o.type hT hinf hzs hsz v xs ys hown ad c hy h63 hbytes hbase
  unfold Oper.wp execOp
  simp only [ho, resolve, invoke, builtin, Sem.run_bind, Sem.run_pure, Result.andThen_ok, List.map_toArray, List.map_cons, List.map_nil, hs, hx, hr]
  exact hK _ _ (h v' w' h2 h3 h4)
end
/-- One element in a block of its own, as a slice. -/
theorem slice_one {α : Type} {t : Ty α} {m : Mem} {b : Nat} {cs : List Value} {x : α} (h : At m b 0 cs) (hr : t.rv m cs x) : (tSlice t).rv m [.slice (some ⟨b, 0, none⟩) 1 1] [x] :=
  ⟨some ⟨b, 0, none⟩, 1, rfl, Nat.le_refl _, by unfold maxLen; decide, fun _ => ⟨b, 0, rfl, fun k hk => by
    have : k = 0 := by simp at hk; omega
    subst this
    exact ⟨cs, by simpa using h, hr⟩⟩⟩

abbrev Way := Bnd × List Fct
def tWay : Ty Way := ⟨3, fun m cs x => ∃ a b c, cs = [a, b, c] ∧ tStrs.rv m [a] (x.1.map Prod.fst) ∧ tStrs.rv m [b] (x.1.map Prod.snd) ∧ tFcts.rv m [c] x.2,
  fun _ _ _ h => by obtain ⟨a, b, c, rfl, _⟩ := h; rfl,
  fun m m' cs x hm h => by obtain ⟨a, b, c, e, i, j, k⟩ := h; exact ⟨a, b, c, e, tStrs.mono _ _ _ _ hm i, tStrs.mono _ _ _ _ hm j, tFcts.mono _ _ _ _ hm k⟩⟩
abbrev tWays : Ty (List Way) := tSlice tWay
theorem tWay_one : ∀ m cs x, tWay.rv m cs x → ∀ u ∈ cs, u.oneCell' = true := fun m cs x h u hu => by
  obtain ⟨a, b, c, rfl, h1, h2, h3⟩ := h
  obtain ⟨a1, a2, rfl, -⟩ := slice_form h1
  obtain ⟨b1, b2, rfl, -⟩ := slice_form h2
  obtain ⟨c1, c2, rfl, -⟩ := slice_form h3
  simp at hu
  rcases hu with rfl | rfl | rfl <;> rfl
theorem ways_at {m : Mem} {xs : List Way} {a : Option Addr} {n cap : Nat} (h : tWays.rv m [.slice a n cap] xs) {k : Nat} (hk : k < xs.length) :
    ∃ b o c0 c1 c2, a = some ⟨b, o, none⟩ ∧ (m b (o + k * 3) = some c0 ∧ m b (o + k * 3 + 1) = some c1 ∧ m b (o + k * 3 + 2) = some c2) ∧ tStrs.rv m [c0] (xs[k].1.map Prod.fst) ∧ tStrs.rv m [c1] (xs[k].1.map Prod.snd) ∧ tFcts.rv m [c2] xs[k].2 := by
  obtain ⟨b, o, rfl, cs, hat, c0, c1, c2, rfl, h0, h1, h2⟩ := slice_at h hk
  exact ⟨b, o, c0, c1, c2, rfl, ⟨hat 0 _ rfl, hat 1 _ rfl, hat 2 _ rfl⟩, h0, h1, h2⟩
theorem infoWay : (Try.prog.info? 82).map (fun i => (i.zero, i.size, i.bytes)) = some (some (.agg #[.slice none 0 0, .slice none 0 0, .slice none 0 0]), tWay.sz, 72) := by kernel_rfl
theorem tStr_one : ∀ m cs x, tStr.rv m cs x → ∀ u ∈ cs, u.oneCell' = true := fun m cs x h u hu => by
  obtain ⟨rfl, _⟩ := h
  simp at hu
  subst hu; rfl
theorem strEqW (a k : ByteArray) : (a.toList == k.toList) = decide (a = k) := by
  by_cases h : a = k
  · subst h; simp
  · rw [decide_eq_false h, beq_eq_false_iff_ne]; exact fun e => h (bytes_eq0 (by rw [e]; exact cmpBytes_good.refl _))
theorem boxW (w : World) : ∀ o, Below w.heap.size w (w.alloc o) := fun o => (Below.refl _ _).alloc (Nat.le_refl _) o
theorem three_allocW {w X : World} {c1 c2 c3 : Array Value} {t1 t2 t3 : TypeId} (hX : X = ((w.alloc (.cells c1 t1)).alloc (.cells c2 t2)).alloc (.cells c3 t3)) :
    Below w.heap.size w X ∧ X.heap.size = w.heap.size + 3 ∧ X.heap[w.heap.size]? = some (.cells c1 t1 (0, 0)) ∧ X.heap[w.heap.size + 1]? = some (.cells c2 t2 (0, 0)) ∧ X.heap[w.heap.size + 2]? = some (.cells c3 t3 (0, 0)) := by
  subst hX
  refine ⟨(((Below.refl _ _).alloc (Nat.le_refl _) _).alloc (by simp) _).alloc (by simp <;> omega) _, by simp, (Below.heap_alloc _ _ _ (by simp <;> omega)).trans ((Below.heap_alloc _ _ _ (by simp <;> omega)).trans (heap_alloc_new w _)), ?_, ?_⟩
  · have := heap_alloc_new (w.alloc (.cells c1 t1)) (.cells c2 t2)
    rw [World.size_alloc] at this
    exact (Below.heap_alloc _ _ _ (by simp <;> omega)).trans this
  · have := heap_alloc_new ((w.alloc (.cells c1 t1)).alloc (.cells c2 t2)) (.cells c3 t3)
    rwa [World.size_alloc, World.size_alloc] at this
/-- What is looked up. -/
theorem lkB_at {av : Bnd} {k : ByteArray} : ∀ {i : Nat} (h : i < av.length), (∀ j, (h' : j < av.length) → j < i → av[j].1 ≠ k) → av[i].1 = k → lkB av k = some av[i].2 := by
  induction av with
  | nil => intro i h; exact absurd h (by simp)
  | cons p av ih =>
    intro i h hb e
    match i with
    | 0 => simp only [List.getElem_cons_zero] at e ⊢; simp [lkB, e]
    | i + 1 =>
      have h0 := hb 0 (by simp) (by omega)
      simp only [List.getElem_cons_zero] at h0
      simp only [List.getElem_cons_succ] at e ⊢
      simp only [lkB, if_neg h0]
      exact ih (by simpa using h) (fun j h' hj => by have := hb (j + 1) (by simpa using h') (by omega); simpa using this) e
theorem lkB_miss {av : Bnd} {k : ByteArray} (h : ∀ j, (h' : j < av.length) → av[j].1 ≠ k) : lkB av k = none := by
  induction av with
  | nil => rfl
  | cons p av ih =>
    have h0 := h 0 (by simp)
    simp only [List.getElem_cons_zero] at h0
    simp only [lkB, if_neg h0]
    exact ih (fun j h' => by have := h (j + 1) (by simpa using h'); simpa using this)
end Go.Proofs.Ytafeaeaildfohaa
/- The reference's value, head. -/
namespace Go.Proofs.Ytafeaeaildfohaa
open Go.RowKit Go.Maps

set_option maxRecDepth 100000 in
set_option maxHeartbeats 4000000 in
theorem refValue_any (av : Bnd) (nv vv : Value) (k : ByteArray) (w : World) (hn : tStrs.rv (mem w) [nv] (av.map Prod.fst)) (hv : tStrs.rv (mem w) [vv] (av.map Prod.snd)) :
    Calls Try.prog 74 #[nv, vv, .string k] w fun e w' => e = .returned (.tuple #[.string (strD (lkB av k)), .bool (lkB av k).isSome]) ∧ w = w' := by
  obtain ⟨an, cn, rfl, hln, hmn, hn⟩ := slice_form hn
  obtain ⟨aw, cw, rfl, hlw, hmw, hv⟩ := slice_form hv
  have HN := Lib.hid hn
  have HV := Lib.hid hv
  rw [List.length_map] at hln hlw
  have hcn : cn ≤ 9223372036854775807 := by unfold maxLen at hmn; exact hmn
  clear hn hv hmn hmw
  rw [List.length_map] at HN HV
  rw [List.length_map, List.length_map]
  go_enter Try.func74, Try.ntmps74
  go_wp2
  go_loop [8] (fun i => ∃ j : Nat, j ≤ av.length ∧ i = .int .i64 j ∧ Hid (∀ j', (h' : j' < av.length) → j' < j → av[j'].1 ≠ k)) (fun i => av.length - (intOf i).toNat)
  case atStart => exact ⟨0, by omega, rfl, Lib.hid (fun j' h' h => absurd h (by omega))⟩
  case round =>
    obtain ⟨j, hj, rfl, HT⟩ := hrel
    by_cases hlt : j < av.length
    · obtain ⟨b, o, rfl, q0, -⟩ := str_cell HN.out (k := j) (by rw [List.length_map]; exact hlt)
      obtain ⟨b2, o2, rfl, q1, -⟩ := str_cell HV.out (k := j) (by rw [List.length_map]; exact hlt)
      rw [List.getElem_map] at q0 q1
      have c0 : w.cell? ⟨b, o + j, none⟩ = some (.string av[j].1) := q0
      have c1 : w.cell? ⟨b2, o2 + j, none⟩ = some (.string av[j].2) := q1
      have HYES := Lib.hid (fun (e : av[j].1 = k) => lkB_at hlt (fun j' h' h => HT.out j' h' h) e)
      have HNO := Lib.hid (show av[j].1 ≠ k → ∀ j', (h' : j' < av.length) → j' < j + 1 → av[j'].1 ≠ k from fun e j' h' h => by
        by_cases e2 : j' = j
        · subst e2; exact e
        · exact HT.out j' h' (by omega))
      have HE := Lib.hid (strEqW av[j].1 k)
      clear q0 q1 HT
      generalize av[j].1 = x at *
      generalize av[j].2 = y at *
      cases h1 : (x.toList == k.toList)
      · have HN2 := Lib.hid (HNO.out (of_decide_eq_false (HE.out.symm.trans h1)))
        clear HE HYES HNO
        go_wp2
        go_round
        case rel => exact ⟨j + 1, by omega, by go_num, HN2⟩
        case measure => simp [intOf]; omega
      · have HY2 := Lib.hid (HYES.out (of_decide_eq_true (HE.out.symm.trans h1)))
        clear HE HYES HNO
        go_wp2
        go_ret2
        exact ⟨by rw [HY2.out] <;> rfl, rfl⟩
    · obtain rfl : j = av.length := by omega
      have HM := Lib.hid (lkB_miss (av := av) (k := k) (fun j h => HT.out j h h))
      go_wp2
      go_ret2
      exact ⟨by rw [HM.out] <;> rfl, rfl⟩
set_option maxRecDepth 100000 in
set_option maxHeartbeats 4000000 in
theorem refHead_any (r : Rul) (x : Way) (bv : Value) (a b c : Value) (w : World) (ha : tStrs.rv (mem w) [a] (x.1.map Prod.fst)) (hbb : tStrs.rv (mem w) [b] (x.1.map Prod.snd)) :
    Calls Try.prog 56 #[r.v bv, .agg #[a, b, c]] w fun e w' => e = .returned (headF r x.1).v ∧ Below w.heap.size w w' := by
  have HVAL := Lib.hid (fun k w' (hb' : Below w.heap.size w w') => refValue_any x.1 a b k w' (tStrs.mono _ _ _ _ (below_mem hb') ha) (tStrs.mono _ _ _ _ (below_mem hb') hbb))
  obtain ⟨⟨r1, r2, r3⟩, bd⟩ := r
  obtain ⟨av, ls⟩ := x
  obtain ⟨X, hX⟩ : ∃ X, X = ((w.alloc (.cells #[.string r1, .string r2, .string r3, bv] 31)).alloc (.cells #[a, b, c] 82)).alloc (.cells #[.string ⟨#[]⟩, .string ⟨#[]⟩, .string ⟨#[]⟩] 33) := ⟨_, rfl⟩
  have HX := Lib.hid hX
  obtain ⟨hb, hs, h1, h2, h3⟩ := three_allocW hX
  have HB := Lib.hid hb
  have hH : headF ⟨⟨r1, r2, r3⟩, bd⟩ av = ⟨r1, strD (lkB av r2), strD (lkB av r3)⟩ := rfl
  rw [hH]
  have c0 : X.cell? ⟨w.heap.size, 0, none⟩ = some (.string r1) := mem_cells h1 0
  have c1 : X.cell? ⟨w.heap.size, 1, none⟩ = some (.string r2) := mem_cells h1 1
  have c2 : X.cell? ⟨w.heap.size, 2, none⟩ = some (.string r3) := mem_cells h1 2
  have d0 : X.cell? ⟨w.heap.size + 1, 0, none⟩ = some a := mem_cells h2 0
  have d1 : X.cell? ⟨w.heap.size + 1, 1, none⟩ = some b := mem_cells h2 1
  have HB3 := Lib.hid h3
  have hlt : w.heap.size + 2 < X.heap.size := by omega
  generalize hl2 : lkB av r2 = l2 at *
  generalize hl3 : lkB av r3 = l3 at *
  have HV2 := Lib.hid (show Calls Try.prog 74 #[a, b, .string r2] X fun e w' => e = .returned (.tuple #[.string (strD l2), .bool l2.isSome]) ∧ X = w' from hl2 ▸ HVAL.out r2 X HB.out)
  have HV3 := Lib.hid (show Calls Try.prog 74 #[a, b, .string r3] X fun e w' => e = .returned (.tuple #[.string (strD l3), .bool l3.isSome]) ∧ X = w' from hl3 ▸ HVAL.out r3 X HB.out)
  have f0 : X.cell? ⟨w.heap.size + 1 + 1, 0, none⟩ = some (.string ⟨#[]⟩) := mem_cells h3 0
  have f1 : X.cell? ⟨w.heap.size + 1 + 1, 1, none⟩ = some (.string ⟨#[]⟩) := mem_cells h3 1
  have f2 : X.cell? ⟨w.heap.size + 1 + 1, 2, none⟩ = some (.string ⟨#[]⟩) := mem_cells h3 2
  have g0 : X.frozen? ⟨w.heap.size + 1 + 1, 0, none⟩ = false := frozen_cells h3 0
  have g1 : X.frozen? ⟨w.heap.size + 1 + 1, 1, none⟩ = false := frozen_cells h3 1
  have g2 : X.frozen? ⟨w.heap.size + 1 + 1, 2, none⟩ = false := frozen_cells h3 2
  clear hH hX hb hs h1 h2 h3 ha hbb hl2 hl3 HVAL
  go_enter Try.func56, Try.ntmps56
  go_wp2_with fail
  rw [← HX.out]
  refine HV2.out.mono ?_
  rintro e w1 ⟨rfl, rfl⟩
  go_wp2_with fail
  refine HV3.out.mono ?_
  rintro e w1 ⟨rfl, rfl⟩
  go_wp2_with fail
  exact bodyPost_ret (v := .agg #[.string r1, .string (strD l2), .string (strD l3)]) (by simp [results, Try.results56, go_sem, f0, f1, f2]) rfl ⟨rfl, ((HB.out.setCell (by simp; omega) _).setCell (by simp; omega) _).setCell (by simp; omega) _⟩
end Go.Proofs.Ytafeaeaildfohaa
/- A region that draws its order, by an invariant over what has come up. No program in sight. -/
namespace Go.Proofs.Ytafeaeaildfohaa
open Go.RowKit
section
variable {P : Program} {ops : Array Oper} {Q : Exit → Act → World → Prop} {md : Region.Mode}
def depsOf (md : Region.Mode) (ops : Array Oper) (i : Nat) : List Nat := match ops[i]? with | some o => (o.after.toList.filter (Region.binds md)).map (·.on) | none => []
def dstOf (ops : Array Oper) (i : Nat) : Option Tmp := (ops[i]?).bind (·.dst)
def dstsOk (ops : Array Oper) (n : Nat) : Bool := (List.range ops.size).all fun i => match dstOf ops i with
  | none => true
  | some d => decide (d < n) && (List.range ops.size).all fun j => j == i || !(dstOf ops j == some d)
def depsBack (md : Region.Mode) (ops : Array Oper) : Bool := (List.range ops.size).all fun i => (depsOf md ops i).all (fun j => decide (j < i))
def putAll : List Oper → (Nat → Value) → Nat → Act → Act
  | [], _, _, a => a
  | o :: os, f, k, a => putAll os f (k + 1) (a.put o.dst (f k))
def setL (L : Nat → Bool) (i : Nat) : Nat → Bool := fun j => if j = i then true else L j
def setV (f : Nat → Value) (i : Nat) (v : Value) : Nat → Value := fun j => if j = i then v else f j
theorem dst_lt {i : Nat} {d : Tmp} (h : dstOf ops i = some d) : i < ops.size := by
  unfold dstOf at h
  rcases Nat.lt_or_ge i ops.size with h' | h'
  · exact h'
  · rw [Array.getElem?_eq_none h'] at h; cases h
theorem dsts_spec {n : Nat} (h : dstsOk ops n = true) {i : Nat} {d : Tmp} (hi : dstOf ops i = some d) : d < n ∧ ∀ j, dstOf ops j = some d → j = i := by
  have h1 := List.all_eq_true.1 h i (List.mem_range.2 (dst_lt hi))
  rw [hi] at h1
  simp only [Bool.and_eq_true, decide_eq_true_eq] at h1
  refine ⟨h1.1, fun j hj => ?_⟩
  have h2 := List.all_eq_true.1 h1.2 j (List.mem_range.2 (dst_lt hj))
  rw [hj] at h2
  simpa using h2
structure FRel (ops : Array Oper) (A0 : Act) (L : Nat → Bool) (f : Nat → Value) (a : Act) : Prop where
  df : a.defers = A0.defers
  sz : a.tmps.size = A0.tmps.size
  at_ : ∀ i d, dstOf ops i = some d → L i = true → a.tmps[d]? = some (f i)
  old : ∀ d : Nat, (∀ i, L i = true → dstOf ops i ≠ some d) → a.tmps[d]? = A0.tmps[d]?
theorem FRel.put {A0 a : Act} {L : Nat → Bool} {f : Nat → Value} (h : FRel ops A0 L f a) (hd : dstsOk ops A0.tmps.size = true) {i : Nat} {o : Oper} (ho : ops[i]? = some o) (v : Value) : FRel ops A0 (setL L i) (setV f i v) (a.put o.dst v) := by
  have hdi : dstOf ops i = o.dst := by unfold dstOf; rw [ho]; rfl
  cases he : o.dst with
  | none =>
    refine ⟨h.df, h.sz, fun j d hj hl => ?_, fun d hn => h.old d (fun j hj => hn j (by unfold setL; split <;> simp [*]))⟩
    have hji : j ≠ i := fun e => by subst e; rw [hdi, he] at hj; cases hj
    simp only [setL, setV, if_neg hji] at hl ⊢
    exact h.at_ j d hj hl
  | some e =>
    rw [he] at hdi
    have hlt := (dsts_spec hd hdi).1
    refine ⟨h.df, by simp [Act.put, h.sz], fun j d hj hl => ?_, fun d hn => ?_⟩
    · by_cases hji : j = i
      · subst hji
        rw [hdi] at hj; cases hj
        simp only [Act.put, setV, if_pos]
        rw [Array.getElem?_setIfInBounds_self_of_lt (by rw [h.sz]; exact hlt)]
      · simp only [setL, setV, if_neg hji] at hl ⊢
        have hne : e ≠ d := fun e2 => by subst e2; exact hji ((dsts_spec hd hdi).2 j hj)
        simp only [Act.put]
        rw [Array.getElem?_setIfInBounds_ne hne]
        exact h.at_ j d hj hl
    · have hne : e ≠ d := fun e2 => by subst e2; exact hn i (by unfold setL; rw [if_pos rfl]) hdi
      simp only [Act.put]
      rw [Array.getElem?_setIfInBounds_ne hne]
      exact h.old d (fun j hj => hn j (by unfold setL; split <;> simp [*]))
theorem FRel.start (A0 : Act) (f : Nat → Value) {L : Nat → Bool} (hL : ∀ i, L i = false) : FRel ops A0 L f A0 := ⟨rfl, rfl, fun i d _ h => absurd h (by rw [hL i]; simp), fun _ _ => rfl⟩
theorem FRel.uniq {A0 a b : Act} {L : Nat → Bool} {f : Nat → Value} (ha : FRel ops A0 L f a) (hb : FRel ops A0 L f b) : a = b := by
  obtain ⟨at1, ad⟩ := a
  obtain ⟨bt, bd⟩ := b
  have hd : ad = bd := ha.df.trans hb.df.symm
  have ht : at1 = bt := by
    apply Array.ext_getElem?
    intro d
    by_cases h : ∃ i, L i = true ∧ dstOf ops i = some d
    · obtain ⟨i, h1, h2⟩ := h
      exact (ha.at_ i d h2 h1).trans (hb.at_ i d h2 h1).symm
    · have hn : ∀ i, L i = true → dstOf ops i ≠ some d := fun i h1 h2 => h ⟨i, h1, h2⟩
      exact (ha.old d hn).trans (hb.old d hn).symm
  rw [hd, ht]
theorem FRel.all {A0 : Act} (hd : dstsOk ops A0.tmps.size = true) (f : Nat → Value) : ∀ (os : List Oper) (k : Nat) (a : Act), (∀ j : Nat, os[j]? = ops[k + j]?) → FRel ops A0 (fun i => decide (i < k)) f a →
    ∃ n, ops.size ≤ n ∧ FRel ops A0 (fun i => decide (i < n)) f (putAll os f k a)
  | [], k, a, ho, h => ⟨k, by have := ho 0; simp at this; exact this, h⟩
  | o :: os, k, a, ho, h => by
    have h0 : ops[k]? = some o := by simpa using (ho 0).symm
    refine FRel.all hd f os (k + 1) _ (fun j => by have := ho (j + 1); simpa [Nat.add_assoc, Nat.add_comm 1 j] using this) ?_
    have h1 := h.put hd h0 (f k)
    have e1 : setV f k (f k) = f := by funext j; unfold setV; split <;> simp [*]
    have e2 : setL (fun i => decide (i < k)) k = fun i => decide (i < k + 1) := by
      funext j
      unfold setL
      split
      · subst_vars; simp
      · rw [decide_eq_decide]; omega
    rw [e1, e2] at h1
    exact h1
theorem FRel.done {A0 a : Act} (hd : dstsOk ops A0.tmps.size = true) {L : Nat → Bool} {f : Nat → Value} (h : FRel ops A0 L f a) (hL : ∀ i, i < ops.size → L i = true) : a = putAll ops.toList f 0 A0 := by
  obtain ⟨n, hn, h2⟩ := FRel.all (ops := ops) hd f ops.toList 0 A0 (fun j => by simp) (FRel.start A0 f (fun i => by simp))
  refine FRel.uniq (L := fun i => decide (i < ops.size)) (f := f) ⟨h.df, h.sz, fun i d hi hl => h.at_ i d hi (hL i (by simpa using hl)), fun d hx => h.old d (fun i _ e => hx i (by simpa using dst_lt e) e)⟩
    ⟨h2.df, h2.sz, fun i d hi hl => h2.at_ i d hi (by have := dst_lt hi; simp; omega), fun d hx => h2.old d (fun i _ e => hx i (by simpa using dst_lt e) e)⟩
def unl (n : Nat) (L : Nat → Bool) : List Nat := (List.range n).filter (fun i => !L i)
theorem unl_set {n : Nat} {L : Nat → Bool} {i : Nat} (hi : i < n) (h : L i = false) : (unl n (setL L i)).length < (unl n L).length := by
  have e : unl n (setL L i) = (unl n L).filter (fun j => decide (j ≠ i)) := by
    unfold unl
    rw [List.filter_filter]
    congr 1
    funext j
    unfold setL
    by_cases hj : j = i <;> simp [hj]
  rw [e]
  refine List.length_filter_lt_length_iff_exists.2 ⟨i, List.mem_filter.2 ⟨List.mem_range.2 hi, by rw [h]; rfl⟩, by simp⟩
theorem first_of {n : Nat} {L : Nat → Bool} (h : ¬ ∀ i, i < n → L i = true) : ∃ i, i < n ∧ L i = false ∧ ∀ j, j < i → L j = true := by
  induction n with
  | zero => exact absurd (fun i hi => absurd hi (by omega)) h
  | succ n ih =>
    by_cases h1 : ∀ i, i < n → L i = true
    · refine ⟨n, by omega, ?_, h1⟩
      cases hn : L n with
      | false => rfl
      | true => exact absurd (fun i hi => by by_cases e : i = n; · rw [e]; exact hn
                                             · exact h1 i (by omega)) h
    · obtain ⟨i, h2, h3⟩ := ih h1
      exact ⟨i, by omega, h3⟩
/-- A REGION THAT DRAWS ITS ORDER, BY AN INVARIANT: J tells what holds once the operations of L have come up and yielded f. -/
theorem wpAny_inv {A0 : Act} (hd : dstsOk ops A0.tmps.size = true) (hb : depsBack md ops = true) (J : (Nat → Bool) → (Nat → Value) → World → Prop)
    (hstep : ∀ i o, ops[i]? = some o → ∀ L f a w, J L f w → L i = false → (∀ j ∈ depsOf md ops i, L j = true) → (∀ j d, dstOf ops j = some d → L j = true → a.eval (.tmp d) = f j) →
      (∀ d, (∀ j, L j = true → dstOf ops j ≠ some d) → a.eval (.tmp d) = A0.eval (.tmp d)) → ∀ K : Act → World → Prop, (∀ v w', J (setL L i) (setV f i v) w' → K (a.put o.dst v) w') →
      if Region.wanted o (yielded ops a.tmps) = true then Oper.wp P o a w K Q else K (a.put o.dst undef) w)
    (hend : ∀ L f w, J L f w → (∀ i, i < ops.size → L i = true) → Q .normal (putAll ops.toList f 0 A0) w) :
    ∀ (fuel : Nat) (listed : Array Bool) (L : Nat → Bool) (f : Nat → Value) (a : Act) (w : World), listed.size = ops.size → (∀ i, i < ops.size → listed.getD i false = L i) → (unl ops.size L).length ≤ fuel → FRel ops A0 L f a → J L f w →
      wpAny P md ops Q fuel listed a w := by
  have hall : ∀ (listed : Array Bool) (L : Nat → Bool), listed.size = ops.size → (∀ i, i < ops.size → listed.getD i false = L i) → Region.ready md ops listed = [] → ∀ i, i < ops.size → L i = true := by
    intro listed L hs hl hr
    refine Classical.byContradiction (fun hn => ?_)
    obtain ⟨i, h1, h2, h3⟩ := first_of hn
    have hm : i ∈ Region.ready md ops listed := by
      rw [mem_ready]
      refine ⟨?_, ops[i], by simp [h1], fun e he hbi => ?_⟩
      · have := hl i h1
        rw [h2] at this
        have hi : i < listed.size := by omega
        simp [Array.getD, hi] at this ⊢
        exact this
      · have hje : e.on < i := by
          have := List.all_eq_true.1 hb i (List.mem_range.2 h1)
          have := List.all_eq_true.1 this e.on (by unfold depsOf; simp [h1]; exact ⟨e, ⟨by simpa using he, hbi⟩, rfl⟩)
          simpa using this
        rw [hl e.on (by omega)]
        exact h3 _ hje
    rw [hr] at hm; cases hm
  intro fuel
  induction fuel with
  | zero =>
    intro listed L f a w hs hl hu hF hJ
    have h1 : ∀ i, i < ops.size → L i = true := by
      intro i hi
      cases h : L i with
      | true => rfl
      | false =>
        have : i ∈ unl ops.size L := List.mem_filter.2 ⟨List.mem_range.2 hi, by rw [h]; rfl⟩
        have := List.length_pos_iff.2 (List.ne_nil_of_mem this)
        omega
    refine ⟨?_, by rw [hF.done hd h1]; exact hend L f w hJ h1⟩
    refine List.eq_nil_iff_forall_not_mem.2 (fun i hi => ?_)
    obtain ⟨g1, o, g2, -⟩ := mem_ready.1 hi
    have hi2 : i < ops.size := (Array.getElem?_eq_some_iff.1 g2).1
    have := hl i hi2
    rw [h1 i hi2] at this
    have hi3 : i < listed.size := by omega
    simp [Array.getD, hi3] at this g1
    rw [g1] at this; cases this
  | succ fuel ih =>
    intro listed L f a w hs hl hu hF hJ
    refine ⟨fun hr => by rw [hF.done hd (hall listed L hs hl hr)]; exact hend L f w hJ (hall listed L hs hl hr), fun i hi => ?_⟩
    obtain ⟨g1, o, g2, g3⟩ := mem_ready.1 hi
    have hi2 : i < ops.size := (Array.getElem?_eq_some_iff.1 g2).1
    have hi3 : i < listed.size := by omega
    have hLi : L i = false := by
      rw [← hl i hi2]
      simp [Array.getD, hi3] at g1 ⊢
      exact g1
    refine wpOp_step g2 (fun K' hK => hstep i o g2 L f a w hJ hLi (fun j hj => ?_) (fun j d hj hLj => ?_) (fun d hn => ?_) K' (fun v w' hJ' => ?_))
    · unfold depsOf at hj
      rw [g2] at hj
      obtain ⟨e, he, rfl⟩ := List.mem_map.1 hj
      obtain ⟨he1, he2⟩ := List.mem_filter.1 he
      have h1 := g3 e (by simpa using he1) he2
      by_cases hlt : e.on < ops.size
      · rw [← hl _ hlt]; exact h1
      · have : ¬ e.on < listed.size := by omega
        simp [Array.getD, this] at h1
    · have := hF.at_ j d hj hLj
      simp [Act.eval, Array.getD_eq_getD_getElem?, this]
    · have := hF.old d hn
      simp [Act.eval, Array.getD_eq_getD_getElem?, this]
    · refine hK _ _ (ih (listed.setIfInBounds i true) (setL L i) (setV f i v) _ w' (by simp [hs]) (fun j hj => ?_) ?_ (hF.put hd g2 v) hJ')
      · unfold setL
        by_cases hji : j = i
        · subst hji; simp [hi3]
        · rw [if_neg hji, getD_set_ne false (fun e => hji e.symm)]; exact hl j hj
      · have := unl_set hi2 hLi
        omega
/-- The same for a region. -/
theorem wp_region_inv2 {id : Nat} {A0 : Act} {w : World} (hm : P.follows .mixedOrders = true) (hd : dstsOk ops A0.tmps.size = true) (hb : depsBack .any ops = true) (J : (Nat → Bool) → (Nat → Value) → World → Prop)
    (hstart : J (fun _ => false) (fun _ => undef) w.drew)
    (hstep : ∀ i o, ops[i]? = some o → ∀ L f a w, J L f w → L i = false → (∀ j ∈ depsOf .any ops i, L j = true) → (∀ j d, dstOf ops j = some d → L j = true → a.eval (.tmp d) = f j) →
      (∀ d, (∀ j, L j = true → dstOf ops j ≠ some d) → a.eval (.tmp d) = A0.eval (.tmp d)) → ∀ K : Act → World → Prop, (∀ v w', J (setL L i) (setV f i v) w' → K (a.put o.dst v) w') →
      if Region.wanted o (yielded ops a.tmps) = true then Oper.wp P o a w K Q else K (a.put o.dst undef) w)
    (hend : ∀ L f w, J L f w → (∀ i, i < ops.size → L i = true) → Q .normal (putAll ops.toList f 0 A0) w) : (Code.region id ops true).wp P Q A0 w :=
  wp_region_any hm (wpAny_inv hd hb J hstep hend ops.size _ (fun _ => false) (fun _ => undef) A0 _ (by simp) (fun i hi => by simp [hi]) (by unfold unl; exact Nat.le_trans (List.length_filter_le _ _) (by simp)) (FRel.start A0 _ (fun _ => rfl)) hstart)
/-- The same for a region. -/
theorem wp_region_inv {id : Nat} {A0 : Act} {w : World} (hm : P.follows .mixedOrders = true) (hd : dstsOk ops A0.tmps.size = true) (hb : depsBack .any ops = true) (J : (Nat → Bool) → (Nat → Value) → World → Prop)
    (hstart : J (fun _ => false) (fun _ => undef) w.drew)
    (hstep : ∀ i o, ops[i]? = some o → ∀ L f a w, J L f w → L i = false → (∀ j ∈ depsOf .any ops i, L j = true) → (∀ j d, dstOf ops j = some d → L j = true → a.eval (.tmp d) = f j) →
      (∀ d, (∀ j, dstOf ops j ≠ some d) → a.eval (.tmp d) = A0.eval (.tmp d)) → ∀ K : Act → World → Prop, (∀ v w', J (setL L i) (setV f i v) w' → K (a.put o.dst v) w') →
      if Region.wanted o (yielded ops a.tmps) = true then Oper.wp P o a w K Q else K (a.put o.dst undef) w)
    (hend : ∀ L f w, J L f w → (∀ i, i < ops.size → L i = true) → Q .normal (putAll ops.toList f 0 A0) w) : (Code.region id ops true).wp P Q A0 w :=
  wp_region_inv2 hm hd hb J hstart (fun i o ho L f a w hJ hL hdep hv h0 K hK => hstep i o ho L f a w hJ hL hdep hv (fun d hn => h0 d (fun j _ => hn j)) K hK) hend
def AllAt (R : Nat → Oper → Prop) : List Oper → Nat → Prop
  | [], _ => True
  | o :: os, k => R k o ∧ AllAt R os (k + 1)
theorem AllAt.nil {R : Nat → Oper → Prop} {k : Nat} : AllAt R [] k := trivial
theorem AllAt.cons {R : Nat → Oper → Prop} {o : Oper} {os : List Oper} {k : Nat} (k' : Nat) (h : R k o) (h2 : AllAt R os k') (hk : k' = k + 1) : AllAt R (o :: os) k := ⟨h, hk ▸ h2⟩
theorem AllAt.get {R : Nat → Oper → Prop} : ∀ {os : List Oper} {k : Nat}, AllAt R os k → ∀ i o, os[i]? = some o → R (k + i) o
  | [], _, _, i, o, h => by simp at h
  | o' :: os, k, h, 0, o, e => by simp at e; subst e; exact h.1
  | o' :: os, k, h, i + 1, o, e => by
    have := AllAt.get h.2 i o (by simpa using e)
    rw [show k + (i + 1) = k + 1 + i by omega]; exact this
theorem AllAt.all {R : Nat → Oper → Prop} (h : AllAt R ops.toList 0) : ∀ i o, ops[i]? = some o → R i o := fun i o e => by
  have := h.get i o (by rw [Array.getElem?_toList]; exact e)
  rwa [Nat.zero_add] at this
def noDst (ops : Array Oper) (d : Nat) : Bool := (List.range ops.size).all fun j => !(dstOf ops j == some d)
theorem noDst_spec {d : Nat} (h : noDst ops d = true) : ∀ j, dstOf ops j ≠ some d := fun j e => by
  have := List.all_eq_true.1 h j (List.mem_range.2 (dst_lt e))
  rw [e] at this
  simp at this
def onlyDst (ops : Array Oper) (d i : Nat) : Bool := (List.range ops.size).all fun j => !(dstOf ops j == some d) || j == i
theorem onlyDst_spec {d i : Nat} (h : onlyDst ops d i = true) {j : Nat} (e : dstOf ops j = some d) : j = i := by
  have := List.all_eq_true.1 h j (List.mem_range.2 (dst_lt e))
  rw [e] at this
  simpa using this
/-- An operation that yields a value, as one step. -/
theorem step_val {o : Oper} {a : Act} {w w' : World} {K : Act → World → Prop} {E : Prop} {v : Value} (hg : o.guard = none) (hr : (execOp a.eval o).run P w = .ok (.value v) w') (h : K (a.put o.dst v) w') :
    if Region.wanted o (yielded ops a.tmps) = true then Oper.wp P o a w K Q else E := by
  rw [if_pos (by simp [Region.wanted, hg])]
  unfold Oper.wp
  rw [hr]
  exact h
/-- An operation that yields nothing (a store), as one step. -/
theorem step_skip {o : Oper} {a : Act} {w w' : World} {K : Act → World → Prop} {E : Prop} (hg : o.guard = none) (hr : (execOp a.eval o).run P w = .ok .skip w') (h : K (a.put o.dst undef) w') :
    if Region.wanted o (yielded ops a.tmps) = true then Oper.wp P o a w K Q else E := by
  rw [if_pos (by simp [Region.wanted, hg])]
  unfold Oper.wp
  rw [hr]
  exact h
end
end Go.Proofs.Ytafeaeaildfohaa
/- Two chains of appends to empty literals, in whatever order they come. -/
namespace Go.Proofs.Ytafeaeaildfohaa
open Go.RowKit Go.Maps

/-- The block in which a chain of two appends stands. -/
def cblk (s0 s1 s2 : Bool) (v0 v1 v2 : Value) : Option Nat := if s2 = true then v2.ownBlock else if s1 = true then v1.ownBlock else if s0 = true then v0.ownBlock else none
/-- A chain of two appends to an empty literal. -/
structure Chain {α : Type} (t : Ty α) (T : TypeId) (B : Nat) (s0 s1 s2 : Bool) (v0 v1 v2 : Value) (xs ys : List α) (w : World) : Prop where
  a0 : s0 = true → s1 = false → s2 = false → ∃ g, v0 = .slice (some ⟨g, 0, none⟩) 0 0 ∧ w.heap[g]? = some (.cells #[] T (0, 0))
  a1 : s1 = true → s2 = false → OwnsO t w T v1 xs
  a2 : s2 = true → OwnsO t w T v2 ys
  lt : ∀ k, cblk s0 s1 s2 v0 v1 v2 = some k → B ≤ k ∧ k < w.heap.size
  d1 : s1 = true → s0 = true
  d2 : s2 = true → s1 = true
section
variable {α : Type} {t : Ty α} {T : TypeId} {B : Nat} {s0 s1 s2 : Bool} {v0 v1 v2 : Value} {xs ys : List α} {w w' : World}
theorem Chain.keeps {F : Nat → Prop} (h : Chain t T B s0 s1 s2 v0 v1 v2 xs ys w) (hk : Keeps F w w') (hF : ∀ k, cblk s0 s1 s2 v0 v1 v2 = some k → ¬ F k) : Chain t T B s0 s1 s2 v0 v1 v2 xs ys w' := by
  have hb : ∀ k, cblk s0 s1 s2 v0 v1 v2 = some k → w'.heap[k]? = w.heap[k]? := fun k e => hk.block k (h.lt k e).2 (hF k e)
  refine ⟨fun h0 h1 h2 => ?_, fun h1 h2 => ?_, fun h2 => ?_, fun k e => ⟨(h.lt k e).1, Nat.lt_of_lt_of_le (h.lt k e).2 hk.size⟩, h.d1, h.d2⟩
  · obtain ⟨g, e, hg⟩ := h.a0 h0 h1 h2
    exact ⟨g, e, (hb g (by unfold cblk; simp [h0, h1, h2, e, Value.ownBlock])).trans hg⟩
  · exact (h.a1 h1 h2).keeps (fun k e => hb k (by unfold cblk; simp [h1, h2, e]))
  · exact (h.a2 h2).keeps (fun k e => hb k (by unfold cblk; simp [h2, e]))
theorem Chain.none (w : World) : Chain t T B false false false v0 v1 v2 xs ys w := ⟨fun e => (by cases e), fun e => (by cases e), fun e => (by cases e), fun k e => by simp [cblk] at e, fun e => (by cases e), fun e => (by cases e)⟩
end
/-- Two chains side by side. -/
structure BK {α : Type} (t : Ty α) (W : World) (rb : Nat) (T : TypeId) (ns vs : List α) (n v : α) (cn cv : Array Value) (a0 a1 a2 al b0 b1 b2 bl : Bool) (u0 u1 u2 ul z0 z1 z2 zl : Value) (w : World) : Prop where
  kp : Keeps (fun k => k = rb ∨ W.heap.size ≤ k) W w
  rbl : rb < W.heap.size
  A : Chain t T W.heap.size a0 a1 a2 u0 u1 u2 ns (ns ++ [n]) w
  B : Chain t T W.heap.size b0 b1 b2 z0 z1 z2 vs (vs ++ [v]) w
  dj : ∀ k, cblk a0 a1 a2 u0 u1 u2 = some k → cblk b0 b1 b2 z0 z1 z2 ≠ some k
  la : al = true → ∃ g, ul = .slice (some ⟨g, 0, none⟩) 1 1 ∧ W.heap.size ≤ g ∧ w.heap[g]? = some (.cells cn T (0, 0)) ∧ cblk a0 a1 a2 u0 u1 u2 ≠ some g ∧ cblk b0 b1 b2 z0 z1 z2 ≠ some g
  lb : bl = true → ∃ g, zl = .slice (some ⟨g, 0, none⟩) 1 1 ∧ W.heap.size ≤ g ∧ w.heap[g]? = some (.cells cv T (0, 0)) ∧ cblk a0 a1 a2 u0 u1 u2 ≠ some g ∧ cblk b0 b1 b2 z0 z1 z2 ≠ some g
section
variable {α : Type} {t : Ty α} {W : World} {rb : Nat} {T : TypeId} {ns vs : List α} {n v : α} {cn cv : Array Value} {a0 a1 a2 al b0 b1 b2 bl c0 c1 c2 : Bool} {u0 u1 u2 ul z0 z1 z2 zl y0 y1 y2 yl : Value} {w w' : World}
theorem BK.swap (h : BK t W rb T ns vs n v cn cv a0 a1 a2 al b0 b1 b2 bl u0 u1 u2 ul z0 z1 z2 zl w) : BK t W rb T vs ns v n cv cn b0 b1 b2 bl a0 a1 a2 al z0 z1 z2 zl u0 u1 u2 ul w :=
  ⟨h.kp, h.rbl, h.B, h.A, fun k h1 h2 => h.dj k h2 h1, fun e => by obtain ⟨g, e1, e2, e3, e4, e5⟩ := h.lb e; exact ⟨g, e1, e2, e3, e5, e4⟩, fun e => by obtain ⟨g, e1, e2, e3, e4, e5⟩ := h.la e; exact ⟨g, e1, e2, e3, e5, e4⟩⟩
theorem BK.grow (h : BK t W rb T ns vs n v cn cv a0 a1 a2 al b0 b1 b2 bl u0 u1 u2 ul z0 z1 z2 zl w) (hk : w.grownBy w' (cblk a0 a1 a2 u0 u1 u2)) (hA : Chain t T W.heap.size c0 c1 c2 y0 y1 y2 ns (ns ++ [n]) w')
    (hb : cblk c0 c1 c2 y0 y1 y2 = cblk a0 a1 a2 u0 u1 u2 ∨ ∀ k, cblk c0 c1 c2 y0 y1 y2 = some k → w.heap.size ≤ k) : BK t W rb T ns vs n v cn cv c0 c1 c2 al b0 b1 b2 bl y0 y1 y2 ul z0 z1 z2 zl w' ∧ w'.heap[rb]? = w.heap[rb]? := by
  have hne : ∀ g, g < w.heap.size → cblk a0 a1 a2 u0 u1 u2 ≠ some g → cblk c0 c1 c2 y0 y1 y2 ≠ some g := fun g hg h1 h2 => by
    rcases hb with hb | hb
    · exact h1 (hb ▸ h2)
    · have := hb g h2; omega
  have hkp := h.kp.size
  refine ⟨⟨h.kp.trans ((grown_keeps hk).wide (fun k _ e => .inr (h.A.lt k e.symm).1)), h.rbl, hA, h.B.keeps (grown_keeps hk) (fun k e e2 => h.dj k e2.symm e), fun k e1 e2 => ?_, fun e => ?_, fun e => ?_⟩, hk.block rb (by have := h.rbl; omega) (fun e => by have := (h.A.lt rb e.symm).1; have := h.rbl; omega)⟩
  · exact hne k (h.B.lt k e2).2 (fun e => h.dj k e e2) e1
  · obtain ⟨g, e1, e2, e3, e4, e5⟩ := h.la e
    have hg := (Array.getElem?_eq_some_iff.1 e3).1
    exact ⟨g, e1, e2, (hk.block g hg (fun e => e4 e.symm)).trans e3, hne g hg e4, e5⟩
  · obtain ⟨g, e1, e2, e3, e4, e5⟩ := h.lb e
    have hg := (Array.getElem?_eq_some_iff.1 e3).1
    exact ⟨g, e1, e2, (hk.block g hg (fun e => e4 e.symm)).trans e3, hne g hg e4, e5⟩
theorem grown_alloc (w : World) (o : Obj) (r : Option Nat) : w.grownBy (w.alloc o) r :=
  let hb := boxW w o
  ⟨hb.os, hb.tape, hb.output, hb.size, fun k hk _ => hb.block k hk⟩
/-- The empty literal. -/
theorem BK.lit (h : BK t W rb T ns vs n v cn cv false a1 a2 al b0 b1 b2 bl u0 u1 u2 ul z0 z1 z2 zl w) : BK t W rb T ns vs n v cn cv true a1 a2 al b0 b1 b2 bl (.slice (some ⟨w.heap.size, 0, none⟩) 0 0) u1 u2 ul z0 z1 z2 zl (w.alloc (.cells #[] T)) ∧ (w.alloc (.cells #[] T)).heap[rb]? = w.heap[rb]? := by
  have h1 : a1 = false := by cases e : a1 with
    | false => rfl
    | true => exact absurd (h.A.d1 e) (by simp)
  have h2 : a2 = false := by cases e : a2 with
    | false => rfl
    | true => exact absurd (h.A.d2 e) (by simp [h1])
  subst h1; subst h2
  refine h.grow (grown_alloc w _ _) ⟨fun _ _ _ => ⟨w.heap.size, rfl, heap_alloc_new w _⟩, fun e => (by cases e), fun e => (by cases e), fun k e => ?_, fun e => (by cases e), fun e => (by cases e)⟩ (.inr fun k e => ?_)
  · simp [cblk, Value.ownBlock] at e
    have := h.kp.size
    exact ⟨by omega, by simp; omega⟩
  · simp [cblk, Value.ownBlock] at e
    omega
/-- The copy. -/
theorem BK.copy (h : BK t W rb T ns vs n v cn cv a0 a1 a2 al b0 b1 b2 bl u0 u1 u2 ul z0 z1 z2 zl w) (g0 : a0 = true) (g1 : a1 = false) {y : Value} (ho : OwnsO t w' T y ns) (ha : AppAt w w' u0 0 ns.length y) : BK t W rb T ns vs n v cn cv a0 true a2 al b0 b1 b2 bl u0 y u2 ul z0 z1 z2 zl w' ∧ w'.heap[rb]? = w.heap[rb]? := by
  have h2 : a2 = false := by cases e : a2 with
    | false => rfl
    | true => exact absurd (h.A.d2 e) (by rw [g1]; simp)
  subst g0; subst g1; subst h2
  have e0 : cblk true false false u0 u1 u2 = u0.ownBlock := rfl
  have e1 : cblk true true false u0 y u2 = y.ownBlock := rfl
  refine h.grow (by rw [e0]; exact ha.grown) ⟨fun _ e => (by cases e), fun _ _ => ho, fun e => (by cases e), fun k e => ?_, fun _ => rfl, fun e => (by cases e)⟩ (by rw [e0, e1]; exact ha.block)
  rw [e1] at e
  refine ⟨?_, ho.lt k e⟩
  rcases ha.block with g | g
  · exact (h.A.lt k (by rw [e0, ← g]; exact e)).1
  · have := g k e; have := h.kp.size; omega
/-- The new element. -/
theorem BK.more (h : BK t W rb T ns vs n v cn cv a0 a1 a2 al b0 b1 b2 bl u0 u1 u2 ul z0 z1 z2 zl w) (g1 : a1 = true) (g2 : a2 = false) {y : Value} (ho : OwnsO t w' T y (ns ++ [n])) (ha : AppAt w w' u1 ns.length 1 y) : BK t W rb T ns vs n v cn cv a0 a1 true al b0 b1 b2 bl u0 u1 y ul z0 z1 z2 zl w' ∧ w'.heap[rb]? = w.heap[rb]? := by
  subst g1; subst g2
  have e0 : cblk a0 true false u0 u1 u2 = u1.ownBlock := rfl
  have e1 : cblk a0 true true u0 u1 y = y.ownBlock := rfl
  refine h.grow (by rw [e0]; exact ha.grown) ⟨fun _ e => (by cases e), fun _ e => (by cases e), fun _ => ho, fun k e => ?_, h.A.d1, fun _ => rfl⟩ (by rw [e0, e1]; exact ha.block)
  rw [e1] at e
  refine ⟨?_, ho.lt k e⟩
  rcases ha.block with g | g
  · exact (h.A.lt k (by rw [e0, ← g]; exact e)).1
  · have := g k e; have := h.kp.size; omega
/-- The literal of one element. -/
theorem BK.one (h : BK t W rb T ns vs n v cn cv a0 a1 a2 false b0 b1 b2 bl u0 u1 u2 ul z0 z1 z2 zl w) : BK t W rb T ns vs n v cn cv a0 a1 a2 true b0 b1 b2 bl u0 u1 u2 (.slice (some ⟨w.heap.size, 0, none⟩) 1 1) z0 z1 z2 zl (w.alloc (.cells cn T)) ∧ (w.alloc (.cells cn T)).heap[rb]? = w.heap[rb]? := by
  have hs := h.kp.size
  have hk : Keeps (fun _ => False) w (w.alloc (.cells cn T)) := (Keeps.refl _ _).alloc _
  refine ⟨⟨h.kp.alloc _, h.rbl, h.A.keeps hk (fun _ _ e => e), h.B.keeps hk (fun _ _ e => e), h.dj, fun _ => ⟨_, rfl, hs, heap_alloc_new w _, fun e => by have := (h.A.lt _ e).2; omega, fun e => by have := (h.B.lt _ e).2; omega⟩, fun e => ?_⟩, (boxW w _).block rb (by have := h.rbl; omega)⟩
  obtain ⟨g, e1, e2, e3, e4, e5⟩ := h.lb e
  exact ⟨g, e1, e2, ((boxW w _).block g (Array.getElem?_eq_some_iff.1 e3).1).trans e3, e4, e5⟩
/-- The result's own cells change. -/
theorem BK.res (h : BK t W rb T ns vs n v cn cv a0 a1 a2 al b0 b1 b2 bl u0 u1 u2 ul z0 z1 z2 zl w) (hk : Keeps (fun k => k = rb) w w') : BK t W rb T ns vs n v cn cv a0 a1 a2 al b0 b1 b2 bl u0 u1 u2 ul z0 z1 z2 zl w' := by
  have hr := h.rbl
  refine ⟨h.kp.trans (hk.wide (fun k _ e => .inl e)), h.rbl, h.A.keeps hk (fun k e e2 => by have := (h.A.lt k e).1; omega), h.B.keeps hk (fun k e e2 => by have := (h.B.lt k e).1; omega), h.dj, fun e => ?_, fun e => ?_⟩
  · obtain ⟨g, e1, e2, e3, e4, e5⟩ := h.la e
    exact ⟨g, e1, e2, (hk.block g (Array.getElem?_eq_some_iff.1 e3).1 (by omega)).trans e3, e4, e5⟩
  · obtain ⟨g, e1, e2, e3, e4, e5⟩ := h.lb e
    exact ⟨g, e1, e2, (hk.block g (Array.getElem?_eq_some_iff.1 e3).1 (by omega)).trans e3, e4, e5⟩
theorem BK.start (hr : rb < W.heap.size) : BK t W rb T ns vs n v cn cv false false false false false false false false u0 u1 u2 ul z0 z1 z2 zl W :=
  ⟨Keeps.refl _ _, hr, Chain.none _, Chain.none _, fun k e => by simp [cblk] at e, fun e => (by cases e), fun e => (by cases e)⟩
end
end Go.Proofs.Ytafeaeaildfohaa
