/- Part 4 of the texts that the law's proof stands on, merged. -/
import Derived.Test.YtafeaeaildfohaaRg03
set_option linter.unusedVariables false
set_option linter.unusedSimpArgs false
/- The reference's Less; the law's in. -/
namespace Go.Proofs.Ytafeaeaildfohaa
open Go.RowKit Go.Maps

theorem filt_yes {α : Type} {P : α → Bool} {l : List α} {k : Nat} (h : k < l.length) (e : P l[k] = true) : (l.take (k + 1)).filter P = (l.take k).filter P ++ [l[k]] := by
  rw [List.take_succ_eq_append_getElem h, List.filter_append]; simp [e]
theorem filt_no {α : Type} {P : α → Bool} {l : List α} {k : Nat} (h : k < l.length) (e : P l[k] = false) : (l.take (k + 1)).filter P = (l.take k).filter P := by
  rw [List.take_succ_eq_append_getElem h, List.filter_append]; simp [e]
def lessF (a b : List Fct) : List Fct := a.filter (fun x => !decide (x ∈ b))
set_option maxRecDepth 100000 in
set_option maxHeartbeats 4000000 in
theorem refLess_any (a b : List Fct) (av bv : Value) (w : World) (ha : tFcts.rv (mem w) [av] a) (hb : tFcts.rv (mem w) [bv] b) (hn : a.length ≤ 1000000000) :
    Calls Try.prog 20 #[av, bv] w fun e w' => ∃ v, e = .returned v ∧ Owns tFct w' w.heap.size 33 v (lessF a b) ∧ Below w.heap.size w w' := by
  have HIN := Lib.hid (fun f w' (hw : Below w.heap.size w w') => refIn_any b f bv w' (tFcts.mono _ _ _ _ (below_mem hw) hb))
  obtain ⟨aa, ca, rfl, hlc, hm, ha⟩ := slice_form ha
  obtain ⟨ab, cb, rfl, -, -, -⟩ := slice_form hb
  have hcap : ca ≤ 9223372036854775807 := by unfold maxLen at hm; exact hm
  have HA := Lib.hid (fun wr (hb : Below w.heap.size w wr) => tFcts.mono _ _ _ _ (below_mem hb) ha)
  clear hm ha hb
  obtain ⟨P, hP⟩ : ∃ P : Fct → Bool, P = fun x => !decide (x ∈ b) := ⟨_, rfl⟩
  have HP := Lib.hid hP
  clear hP
  go_enter Try.func20, Try.ntmps20
  go_wp2
  go_loopw [5, 6] (fun ov i wr => ∃ k : Nat, k ≤ a.length ∧ i = .int .i64 k ∧ Hid (Owns tFct wr w.heap.size 33 ov ((a.take k).filter P)) ∧ Hid (Below w.heap.size w wr)) (fun _ i _ => a.length - (intOf i).toNat)
  case atStart => exact ⟨0, by omega, rfl, Lib.hid (Owns.nil _ _ _ _), Lib.hid (Below.refl _ _)⟩
  case round =>
    obtain ⟨k, hk, rfl, HO, HBR⟩ := hrel
    by_cases hlt : k < a.length
    · obtain ⟨bb, o, rfl, ⟨q0, q1, q2⟩, hok⟩ := fcts_at (HA.out _ HBR.out) hlt
      have c0 : wr.cell? ⟨bb, o + k * 3, none⟩ = some (.string a[k].n) := q0
      have c1 : wr.cell? ⟨bb, o + k * 3 + 1, none⟩ = some (.string a[k].a) := q1
      have c2 : wr.cell? ⟨bb, o + k * 3 + 2, none⟩ = some (.string a[k].b) := q2
      have HYO := Lib.hid hok
      have HLL := Lib.hid (show ((a.take k).filter P).length ≤ 1000000000 from Nat.le_trans (List.length_filter_le _ _) (by rw [List.length_take]; omega))
      have HYES := Lib.hid (fun (e : P a[k] = true) => filt_yes (P := P) hlt e)
      have HNO := Lib.hid (fun (e : P a[k] = false) => filt_no (P := P) hlt e)
      clear q0 q1 q2 hok
      generalize (a.take k).filter P = l at *
      generalize a[k] = y at *
      obtain ⟨y1, y2, y3⟩ := y
      simp only at c0 c1 c2
      have HIY := Lib.hid (HIN.out ⟨y1, y2, y3⟩ wr HBR.out)
      have HPY := Lib.hid (show P ⟨y1, y2, y3⟩ = !decide ((⟨y1, y2, y3⟩ : Fct) ∈ b) from congrFun HP.out _)
      go_wp2_with fail
      refine HIY.out.mono ?_
      rintro e w1 ⟨rfl, hb1⟩
      have HB1 := Lib.hid (pure_trans HBR.out hb1)
      have HO1 := Lib.hid (HO.out.keeps hb1)
      have HSZ := Lib.hid HB1.out.size
      have d0 : w1.cell? ⟨bb, o + k * 3, none⟩ = some (.string y1) := below_mem hb1 _ _ _ c0
      have d1 : w1.cell? ⟨bb, o + k * 3 + 1, none⟩ = some (.string y2) := below_mem hb1 _ _ _ c1
      have d2 : w1.cell? ⟨bb, o + k * 3 + 2, none⟩ = some (.string y3) := below_mem hb1 _ _ _ c2
      clear hb1 HIY c0 c1 c2 HO HBR HP
      generalize hin : decide ((⟨y1, y2, y3⟩ : Fct) ∈ b) = t at *
      clear hin
      cases t
      · have HNX := Lib.hid (HYES.out (by rw [HPY.out]; rfl))
        clear HYES HNO HPY
        go_wp2_with (at_builtin; refine wpList_append_one rfl _ _ 23 rfl tFct Try.underlying23 infoFct rfl (by decide) w.heap.size _ l rfl (HO1.out.alloc _) _ _ ⟨y1, y2, y3⟩ rfl [.string y1, .string y2, .string y3] ?a2 ⟨rfl, HYO.out⟩ ?b2 ?c2 ?d2 ?e2 ?_)
        case a2 => exact fun j u hj => by match j, hj with | 0, hj => simp at hj; subst hj; simp [mem] | 1, hj => simp at hj; subst hj; simp [mem] | 2, hj => simp at hj; subst hj; simp [mem]
        case b2 => intro x hx; simp at hx; rcases hx with rfl | rfl | rfl <;> rfl
        case c2 => have := HLL.out; unfold maxLen; omega
        case d2 => have := HLL.out; omega
        case e2 => have := HSZ.out; simp; omega
        · intro v' w6 own6 hgrow _
          have HB6 := Lib.hid (show Below w.heap.size w w6 from (HB1.out.alloc HB1.out.size _).grown hgrow (by have := HSZ.out; simp; omega) (fun k hk => ((HO1.out).lt k hk).1))
          obtain ⟨a6, cap6, rfl, _⟩ := own6.len
          have HO6 := Lib.hid (show Owns tFct w6 w.heap.size 33 (.slice a6 (l ++ [(⟨y1, y2, y3⟩ : Fct)]).length cap6) ((a.take (k + 1)).filter P) by
            rw [HNX.out]
            exact own6)
          clear own6 hgrow HO1
          go_wp2
          go_roundw
          case rel => exact ⟨k + 1, by omega, by go_num, HO6, HB6⟩
          case measure => simp [intOf]; omega
      · have HNX := Lib.hid (HNO.out (by rw [HPY.out]; rfl))
        clear HYES HNO HPY
        obtain ⟨al, cl, rfl, _⟩ := HO1.out.len
        go_wp2
        go_roundw
        case rel => exact ⟨k + 1, by omega, by go_num, Lib.hid (by rw [HNX.out]; exact HO1.out), HB1⟩
        case measure => simp [intOf]; omega
    · obtain rfl : k = a.length := by omega
      obtain ⟨al, cl, rfl, _⟩ := HO.out.len
      have HO2 := Lib.hid (show Owns tFct wr w.heap.size 33 (.slice al ((a.take a.length).filter P).length cl) (lessF a b) from by have := HO.out; rw [List.take_length] at this; rw [List.take_length]; unfold lessF; rw [← HP.out]; exact this)
      go_wp2
      go_ret
      exact ⟨_, rfl, HO2.out, HBR.out⟩
theorem infoStr : (Try.prog.info? 9).map (fun i => (i.zero, i.size, i.bytes)) = some (some (.string .empty), tStr.sz, 16) := by kernel_rfl
set_option maxRecDepth 100000 in
set_option maxHeartbeats 4000000 in
theorem lawIn_any (l : List ByteArray) (s : ByteArray) (v : Value) (w : World) (hv : tStrs.rv (mem w) [v] l) :
    Calls Try.prog 26 #[v, .string s] w fun e w' => ∃ b, e = .returned (.bool b) ∧ Below w.heap.size w w' := by
  obtain ⟨a, cap, rfl, hlc, hm, hv⟩ := slice_form hv
  have hcap : cap ≤ 9223372036854775807 := by unfold maxLen at hm; exact hm
  have HV := Lib.hid (fun wr (hb : Below w.heap.size w wr) => tStrs.mono _ _ _ _ (below_mem hb) hv)
  clear hm hv
  go_enter Try.func26, Try.ntmps26
  go_wp2
  go_loopw [5] (fun i wr => ∃ k : Nat, k ≤ l.length ∧ i = .int .i64 k ∧ Hid (Below w.heap.size w wr)) (fun i _ => l.length - (intOf i).toNat)
  case atStart => exact ⟨0, by omega, rfl, Lib.hid (Below.refl _ _)⟩
  case round =>
    obtain ⟨k, hk, rfl, HB⟩ := hrel
    by_cases hlt : k < l.length
    · obtain ⟨b, o, rfl, q0, -⟩ := str_cell (HV.out _ HB.out) hlt
      have c0 : wr.cell? ⟨b, o + k, none⟩ = some (.string l[k]) := q0
      clear q0
      generalize l[k] = x at *
      go_wp2
      · go_ret
        exact ⟨_, rfl, HB.out⟩
      · go_roundw
        case rel => exact ⟨k + 1, by omega, by go_num, HB⟩
        case measure => simp [intOf]; omega
    · obtain rfl : k = l.length := by omega
      go_wp2
      go_ret
      exact ⟨_, rfl, HB.out⟩
end Go.Proofs.Ytafeaeaildfohaa
/- The chapter's example. -/
namespace Go.Proofs.Ytafeaeaildfohaa
open Go.RowKit Go.Maps

def reachR : List Rul := [⟨⟨⟨#[114, 101, 97, 99, 104]⟩, ⟨#[120]⟩, ⟨#[121]⟩⟩, [⟨⟨#[101, 100, 103, 101]⟩, ⟨#[120]⟩, ⟨#[121]⟩⟩]⟩,
  ⟨⟨⟨#[114, 101, 97, 99, 104]⟩, ⟨#[120]⟩, ⟨#[122]⟩⟩, [⟨⟨#[114, 101, 97, 99, 104]⟩, ⟨#[120]⟩, ⟨#[121]⟩⟩, ⟨⟨#[101, 100, 103, 101]⟩, ⟨#[121]⟩, ⟨#[122]⟩⟩]⟩]
def edgeL : List Fct := [⟨⟨#[101, 100, 103, 101]⟩, ⟨#[97]⟩, ⟨#[98]⟩⟩, ⟨⟨#[101, 100, 103, 101]⟩, ⟨#[98]⟩, ⟨#[97]⟩⟩]
set_option maxRecDepth 100000 in
theorem awake_len : (followR reachR edgeL).map (fun M => M.length) = some 6 := by decide +kernel
set_option maxRecDepth 100000 in
theorem awake_valid : (validP reachR && validG edgeL) = true := by decide +kernel
theorem at_cells {w : World} {b : Nat} {arr : Array Value} {t : TypeId} {f : Nat × Nat} (h : w.heap[b]? = some (.cells arr t f)) {o : Nat} {cs : List Value} (h2 : ∀ j u, cs[j]? = some u → arr[o + j]? = some u) : At (mem w) b o cs :=
  fun j u hj => (mem_cells h (o + j)).trans (h2 j u hj)
theorem small_ok {b : ByteArray} (h : b.size ≤ 1000) : b.size ≤ maxLen := by unfold maxLen; omega
theorem at3 {w : World} {b : Nat} {arr : Array Value} {t : TypeId} {f : Nat × Nat} (h : w.heap[b]? = some (.cells arr t f)) {o : Nat} {x : Fct} (h0 : arr[o]? = some (.string x.n)) (h1 : arr[o + 1]? = some (.string x.a)) (h2 : arr[o + 2]? = some (.string x.b)) : At (mem w) b o [.string x.n, .string x.a, .string x.b] :=
  at_cells h (fun j u hj => by match j, hj with | 0, hj => simp at hj; subst hj; exact h0 | 1, hj => simp at hj; subst hj; exact h1 | 2, hj => simp at hj; subst hj; exact h2)
set_option maxRecDepth 100000 in
set_option maxHeartbeats 4000000 in
theorem reach_any (w : World) :
    Calls Try.prog 27 #[] w fun e w' => ∃ v, e = .returned v ∧ tRuls.rv (mem w') [v] reachR ∧ Below w.heap.size w w' := by
  go_enter Try.func27, Try.ntmps27
  go_wp2
  go_ret
  refine ⟨_, rfl, ?_, (((Below.refl _ w).alloc (Nat.le_refl _) _).alloc (by simp) _).alloc (by simp <;> omega) _⟩
  generalize hX : ((w.alloc _).alloc _).alloc _ = X
  obtain ⟨-, -, x1, x2, x3⟩ := three_alloc hX.symm
  refine ⟨some ⟨w.heap.size + 2, 0, none⟩, 2, rfl, Nat.le_of_ble_eq_true rfl, by unfold maxLen; omega, fun _ => ⟨_, _, rfl, fun k hk => ?_⟩⟩
  match k, hk with
  | 0, _ =>
    refine ⟨[.string ⟨#[114, 101, 97, 99, 104]⟩, .string ⟨#[120]⟩, .string ⟨#[121]⟩, .slice (some ⟨w.heap.size, 0, none⟩) 1 1], at_cells x3 (fun j u hj => ?_), _, rfl, ⟨small_ok (Nat.le_of_ble_eq_true rfl), small_ok (Nat.le_of_ble_eq_true rfl), small_ok (Nat.le_of_ble_eq_true rfl)⟩, ?_⟩
    · match j, hj with
      | 0, hj => simp at hj; subst hj; rfl
      | 1, hj => simp at hj; subst hj; rfl
      | 2, hj => simp at hj; subst hj; rfl
      | 3, hj => simp at hj; subst hj; rfl
    · refine ⟨some ⟨w.heap.size, 0, none⟩, 1, rfl, Nat.le_of_ble_eq_true rfl, by unfold maxLen; omega, fun _ => ⟨_, _, rfl, fun k hk => ?_⟩⟩
      match k, hk with
      | 0, _ => exact ⟨_, at3 x1 rfl rfl rfl, rfl, small_ok (Nat.le_of_ble_eq_true rfl), small_ok (Nat.le_of_ble_eq_true rfl), small_ok (Nat.le_of_ble_eq_true rfl)⟩
  | 1, _ =>
    refine ⟨[.string ⟨#[114, 101, 97, 99, 104]⟩, .string ⟨#[120]⟩, .string ⟨#[122]⟩, .slice (some ⟨w.heap.size + 1, 0, none⟩) 2 2], at_cells x3 (fun j u hj => ?_), _, rfl, ⟨small_ok (Nat.le_of_ble_eq_true rfl), small_ok (Nat.le_of_ble_eq_true rfl), small_ok (Nat.le_of_ble_eq_true rfl)⟩, ?_⟩
    · match j, hj with
      | 0, hj => simp at hj; subst hj; rfl
      | 1, hj => simp at hj; subst hj; rfl
      | 2, hj => simp at hj; subst hj; rfl
      | 3, hj => simp at hj; subst hj; rfl
    · refine ⟨some ⟨w.heap.size + 1, 0, none⟩, 2, rfl, Nat.le_of_ble_eq_true rfl, by unfold maxLen; omega, fun _ => ⟨_, _, rfl, fun k hk => ?_⟩⟩
      match k, hk with
      | 0, _ => exact ⟨_, at3 x2 rfl rfl rfl, rfl, small_ok (Nat.le_of_ble_eq_true rfl), small_ok (Nat.le_of_ble_eq_true rfl), small_ok (Nat.le_of_ble_eq_true rfl)⟩
      | 1, _ => exact ⟨_, at3 x2 rfl rfl rfl, rfl, small_ok (Nat.le_of_ble_eq_true rfl), small_ok (Nat.le_of_ble_eq_true rfl), small_ok (Nat.le_of_ble_eq_true rfl)⟩
set_option maxRecDepth 100000 in
set_option maxHeartbeats 4000000 in
theorem awake_any (w : World) :
    Calls Try.prog 8 #[] w fun e w' => e = .returned (.bool true) ∧ Below w.heap.size w w' := by
  go_enter Try.func8, Try.ntmps8
  go_wp2_with fail
  refine (reach_any w).mono ?_
  rintro e w1 ⟨rv, rfl, hr, hb1⟩
  obtain ⟨X, hX⟩ : ∃ X, X = w1.alloc (.cells #[.string ⟨#[101, 100, 103, 101]⟩, .string ⟨#[97]⟩, .string ⟨#[98]⟩, .string ⟨#[101, 100, 103, 101]⟩, .string ⟨#[98]⟩, .string ⟨#[97]⟩] 33) := ⟨_, rfl⟩
  have hbX : Below w1.heap.size w1 X := by rw [hX]; exact (Below.refl _ _).alloc (Nat.le_refl _) _
  have hx : X.heap[w1.heap.size]? = some (.cells #[.string ⟨#[101, 100, 103, 101]⟩, .string ⟨#[97]⟩, .string ⟨#[98]⟩, .string ⟨#[101, 100, 103, 101]⟩, .string ⟨#[98]⟩, .string ⟨#[97]⟩] 33 (0, 0)) := by rw [hX]; exact heap_alloc_new _ _
  have hl : tFcts.rv (mem X) [.slice (some ⟨w1.heap.size, 0, none⟩) 2 2] edgeL := by
    refine ⟨some ⟨w1.heap.size, 0, none⟩, 2, rfl, Nat.le_of_ble_eq_true rfl, by unfold maxLen; omega, fun _ => ⟨_, _, rfl, fun k hk => ?_⟩⟩
    match k, hk with
    | 0, _ => exact ⟨_, at3 hx rfl rfl rfl, rfl, small_ok (Nat.le_of_ble_eq_true rfl), small_ok (Nat.le_of_ble_eq_true rfl), small_ok (Nat.le_of_ble_eq_true rfl)⟩
    | 1, _ => exact ⟨_, at3 hx rfl rfl rfl, rfl, small_ok (Nat.le_of_ble_eq_true rfl), small_ok (Nat.le_of_ble_eq_true rfl), small_ok (Nat.le_of_ble_eq_true rfl)⟩
  have HF := Lib.hid (ringFollows_any reachR edgeL rv (.slice (some ⟨w1.heap.size, 0, none⟩) 2 2) X (tRuls.mono _ _ _ _ (below_mem hbX) hr) hl)
  have HB := Lib.hid (pure_trans hb1 hbX)
  have HX := Lib.hid hX
  clear hr hb1 hbX hx hl hX
  go_wp2_with fail
  rw [← HX.out]
  refine HF.out.mono ?_
  rintro e w2 ⟨hb, h⟩
  have hB := Lib.hid (pure_trans HB.out hb)
  rcases h with ⟨h, -⟩ | ⟨-, h, -⟩ | ⟨M, v, -, h, rfl, hv⟩
  · rw [awake_valid] at h; cases h
  · have := awake_len
    rw [h] at this; cases this
  · have h6 : (srt (keysR M)).length = 6 := by
      have := awake_len
      rw [h] at this
      simp only [Option.map_some, Option.some.injEq] at this
      rw [srt_len (follow_fin h).nd, keys_len]; exact this
    obtain ⟨a, c, rfl, -, -, -⟩ := slice_form hv
    rw [h6]
    clear hb h hv h6 HF HX HB
    go_wp2
    go_ret
    exact ⟨rfl, hB.out⟩
end Go.Proofs.Ytafeaeaildfohaa
/- The law's heavy. -/
namespace Go.Proofs.Ytafeaeaildfohaa
open Go.RowKit Go.Maps

def HeavyAns (rules : List Rul) (l : List Fct) (w w' : World) (e : Ending) : Prop := ∃ b, e = .returned (.bool b) ∧ Below w.heap.size w w' ∧ (b = false → rules.length ≤ 20 ∧ l.length ≤ 100)
set_option maxRecDepth 100000 in
set_option maxHeartbeats 8000000 in
theorem heavy_any (rules : List Rul) (l : List Fct) (rv fv : Value) (w : World) (hr : tRuls.rv (mem w) [rv] rules) (hf : tFcts.rv (mem w) [fv] l) (hsz : l.length * 48 ≤ 140737488355328) :
    Calls Try.prog 7 #[rv, fv] w fun e w' => HeavyAns rules l w w' e := by
  obtain ⟨ar, cr, rfl, hlr, hmr, hr⟩ := slice_form hr
  obtain ⟨af, cf, rfl, hlf, hmf, hf⟩ := slice_form hf
  have hcr : cr ≤ 9223372036854775807 := by unfold maxLen at hmr; exact hmr
  have hcf : cf ≤ 9223372036854775807 := by unfold maxLen at hmf; exact hmf
  have HR := Lib.hid (fun wr (hb : Below w.heap.size w wr) => tRuls.mono _ _ _ _ (below_mem hb) hr)
  have HF := Lib.hid (fun wr (hb : Below w.heap.size w wr) => tFcts.mono _ _ _ _ (below_mem hb) hf)
  have HSZ := Lib.hid hsz
  clear hr hf hmr hmf hsz
  go_enter Try.func7, Try.ntmps7
  go_wp2
  go_loopw [5, 6] (fun nv i wr => (∃ n : Int, nv = .int .i64 n) ∧ ∃ k : Nat, k ≤ rules.length ∧ i = .int .i64 k ∧ Hid (Below w.heap.size w wr)) (fun _ i _ => rules.length - (intOf i).toNat)
  case atStart => exact ⟨⟨0, rfl⟩, 0, by omega, rfl, Lib.hid (Below.refl _ _)⟩
  case round =>
    obtain ⟨⟨n, rfl⟩, k, hk, rfl, HB⟩ := hrel
    by_cases hlt : k < rules.length
    · obtain ⟨b, o, v, rfl, ⟨q0, q1, q2, q3⟩, hok, hbd⟩ := ruls_at (HR.out _ HB.out) hlt
      have c3 : wr.cell? ⟨b, o + k * 4 + 3, none⟩ = some v := q3
      obtain ⟨ab, cb, rfl, -, -, -⟩ := slice_form hbd
      clear q0 q1 q2 q3 hok hbd
      generalize rules[k] = r at *
      generalize r.bd.length = m at *
      go_wp2
      · go_ret
        exact ⟨true, rfl, HB.out, fun h => by cases h⟩
      · go_roundw
        case rel => exact ⟨⟨_, rfl⟩, k + 1, by omega, by go_num, HB⟩
        case measure => simp [intOf]; omega
    · obtain rfl : k = rules.length := by omega
      clear hk hlt
      obtain ⟨w1, hw1⟩ : ∃ w1, w1 = wr := ⟨_, rfl⟩
      subst hw1
      have HB1 := HB
      clear HB
      go_wp2
      go_loopw [7] (fun i wr => ∃ k : Nat, k ≤ l.length ∧ i = .int .i64 k ∧ Hid (Below w.heap.size w wr)) (fun i _ => l.length - (intOf i).toNat)
      case atStart => exact ⟨0, by omega, rfl, HB1⟩
      case round =>
        clear HB1
        obtain ⟨k, hk, rfl, HB⟩ := hrel
        by_cases hlt : k < l.length
        · obtain ⟨b, o, rfl, ⟨q0, q1, q2⟩, hok⟩ := fcts_at (HF.out _ HB.out) hlt
          have c0 : wr.cell? ⟨b, o + k * 3, none⟩ = some (.string l[k].n) := q0
          have c1 : wr.cell? ⟨b, o + k * 3 + 1, none⟩ = some (.string l[k].a) := q1
          have c2 : wr.cell? ⟨b, o + k * 3 + 2, none⟩ = some (.string l[k].b) := q2
          have HD := Lib.hid (show ∀ m, Below w.heap.size w (wr.drewN m) from fun m => HB.out.trans ⟨rfl, rfl, rfl, Nat.le_refl _, fun _ _ => rfl⟩)
          clear q0 q1 q2 hok
          generalize l[k] = y at *
          obtain ⟨y1, y2, y3⟩ := y
          simp only at c0 c1 c2
          go_wp2_with fail
          go_quiet (fail)
          all_goals
            go_wp2
            all_goals first
              | (go_ret; exact ⟨true, rfl, HD.out _, fun h => by cases h⟩)
              | exact ⟨⟨k + 1, by omega, by go_num, Lib.hid (HD.out _)⟩, by simp [intOf]; omega⟩
        · obtain rfl : k = l.length := by omega
          clear hk hlt
          obtain ⟨w2, hw2⟩ : ∃ w2, w2 = wr := ⟨_, rfl⟩
          subst hw2
          have HB2 := HB
          clear HB
          go_wp2_with fail
          go_loopw [8, 9] (fun tv i wr => ∃ (k : Nat) (ts : List ByteArray), k ≤ l.length ∧ i = .int .i64 k ∧ Hid (Owns tStr wr w2.heap.size 9 tv ts) ∧ Hid (ts.length ≤ 2 * k) ∧ Hid (Below w2.heap.size w2 wr)) (fun _ i _ => l.length - (intOf i).toNat)
          case atStart => exact ⟨0, [], by omega, rfl, Lib.hid (Owns.nil _ _ _ _), Lib.hid (by simp), Lib.hid (Below.refl _ _)⟩
          case round =>
            obtain ⟨k, ts, hk, rfl, HO, HL, HB⟩ := hrel
            by_cases hlt : k < l.length
            · have HBW := Lib.hid (show Below w.heap.size w wr from HB2.out.trans (HB.out.mono HB2.out.size))
              obtain ⟨b, o, rfl, ⟨q0, q1, q2⟩, hok⟩ := fcts_at (HF.out _ HBW.out) hlt
              have c1 : wr.cell? ⟨b, o + k * 3 + 1, none⟩ = some (.string l[k].a) := q1
              have c2 : wr.cell? ⟨b, o + k * 3 + 2, none⟩ = some (.string l[k].b) := q2
              have HOK := Lib.hid hok
              clear q0 q1 q2 hok
              generalize l[k] = y at *
              obtain ⟨y1, y2, y3⟩ := y
              simp only at c1 c2
              obtain ⟨al, cl, rfl, _⟩ := HO.out.len
              have hm1 : wr.drew.cell? ⟨b, o + k * 3 + 1, none⟩ = some (.string y2) := c1
              have hm2 : wr.drew.cell? ⟨b, o + k * 3 + 2, none⟩ = some (.string y3) := c2
              go_wp2_with fail
              go_region
              all_goals
                obtain ⟨X, hX⟩ : ∃ X, X = (wr.alloc (.cells #[.string y2, .string y3] 9)).drew := ⟨_, rfl⟩
                have hXb : Below wr.heap.size wr X := by rw [hX]; exact ((Below.refl _ wr).alloc (Nat.le_refl _) _).drew
                have HX := Lib.hid hX
                have HBX := Lib.hid (pure_trans HB.out hXb)
                have HOX := Lib.hid (HO.out.keeps hXb)
                have HXC := Lib.hid (show X.heap[wr.heap.size]? = some (.cells #[.string y2, .string y3] 9 (0, 0)) from by rw [hX]; exact heap_alloc_new wr _)
                have HAP := Lib.hid (show ∀ q, (Value.slice al ts.length cl).ownBlock = some q → q ≠ wr.heap.size from fun q e => by have := (HO.out.lt q e).2; omega)
                have HWS := Lib.hid (show w2.heap.size ≤ wr.heap.size from HB.out.size)
                clear hX hXb
                go_wp2_with fail
                rw [← HX.out]
                generalize wr.heap.size = bq at *
                obtain ⟨w3, hw3⟩ : ∃ w3, w3 = wr := ⟨_, rfl⟩
                subst hw3
                go_loopw [8, 11] (fun tv i wr => ∃ (j : Nat) (ts : List ByteArray), j ≤ 2 ∧ i = .int .i64 j ∧ Hid (Owns tStr wr w2.heap.size 9 tv ts) ∧ Hid (∀ q, tv.ownBlock = some q → q ≠ bq) ∧ Hid (ts.length ≤ 2 * k + j) ∧ Hid (Below w2.heap.size w2 wr) ∧ Hid (wr.heap[bq]? = some (.cells #[.string y2, .string y3] 9 (0, 0)))) (fun _ i _ => 2 - (intOf i).toNat)
                case atStart => exact ⟨0, ts, by omega, rfl, HOX, HAP, Lib.hid (by have := HL.out; omega), HBX, HXC⟩
                case round =>
                  clear HO HL HB HX HBX HOX HXC HAP hm1 hm2 c1 c2
                  obtain ⟨j, ts', hj, rfl, HO, HAP, HL, HB, HC⟩ := hrel
                  obtain ⟨al, cl, rfl, _⟩ := HO.out.len
                  by_cases hj2 : j < 2
                  · obtain ⟨z, hz, hzo⟩ : ∃ z, wr.cell? ⟨bq, 0 + j, none⟩ = some (.string z) ∧ z.size ≤ maxLen := by
                      match j, hj2 with
                      | 0, _ => exact ⟨y2, mem_cells HC.out 0, HOK.out.2.1⟩
                      | 1, _ => exact ⟨y3, mem_cells HC.out 1, HOK.out.2.2⟩
                    have HZO := Lib.hid hzo
                    have HIN := Lib.hid (lawIn_any ts' z _ wr HO.out.rv')
                    rw [Nat.zero_add] at hz
                    have HLT := Lib.hid hlt
                    clear hzo
                    go_wp2_with fail
                    refine HIN.out.mono ?_
                    rintro e w4 ⟨bb, rfl, hb4⟩
                    have HB4 := Lib.hid (HB.out.trans (hb4.mono HB.out.size))
                    have HO4 := Lib.hid (HO.out.keeps hb4)
                    have HC4 := Lib.hid ((hb4.block bq (Array.getElem?_eq_some_iff.1 HC.out).1).trans HC.out)
                    have hz4 : w4.cell? ⟨bq, j, none⟩ = some (.string z) := below_mem hb4 _ _ _ hz
                    have HS4 := Lib.hid HB4.out.size
                    clear hb4 HIN HB HO HC hz
                    cases bb
                    · go_wp2_with (at_builtin; refine wpList_append_one rfl _ _ 48 rfl tStr Try.underlying48 infoStr rfl (by decide) w2.heap.size _ ts' rfl (HO4.out.alloc _) _ _ z rfl [.string z] ?a2 ⟨rfl, HZO.out⟩ ?b2 ?c2 ?d2 ?e2 ?_)
                      case a2 => exact fun i u hi => by match i, hi with | 0, hi => simp at hi; subst hi; simp [mem]
                      case b2 => intro x hx; simp at hx; subst hx; rfl
                      case c2 => have := HL.out; have := HSZ.out; have := HLT.out; unfold maxLen; omega
                      case d2 => have := HL.out; have := HSZ.out; have := HLT.out; omega
                      case e2 => have := HS4.out; simp; omega
                      · intro v' w6 own6 hgrow hbl
                        have HB6 := Lib.hid (show Below w2.heap.size w2 w6 from (HB4.out.alloc HB4.out.size _).grown hgrow (by have := HS4.out; simp; omega) (fun k hk => ((HO4.out).lt k hk).1))
                        have HC6 := Lib.hid (show w6.heap[bq]? = some (.cells #[.string y2, .string y3] 9 (0, 0)) from
                          (hgrow.block bq (by have := (Array.getElem?_eq_some_iff.1 HC4.out).1; simp; omega) (fun e => HAP.out bq e.symm rfl)).trans ((Below.heap_alloc _ _ _ (Array.getElem?_eq_some_iff.1 HC4.out).1).trans HC4.out))
                        have HAP6 := Lib.hid (show ∀ q, v'.ownBlock = some q → q ≠ bq from fun q e => by
                          rcases hbl with h | h
                          · exact HAP.out q (by rw [← h]; exact e)
                          · have := h q e
                            have h2 := (Array.getElem?_eq_some_iff.1 HC4.out).1
                            try simp at this
                            have h3 : w4.heap.size ≤ (w4.alloc (.cells #[.string z] 9)).heap.size := by simp
                            omega)
                        obtain ⟨a6, cap6, rfl, _⟩ := own6.len
                        have HO6 := Lib.hid own6
                        have HL6 := Lib.hid (show (ts' ++ [z]).length ≤ 2 * k + (j + 1) from by have := HL.out; simp; omega)
                        clear own6 hgrow hbl HO4 HB4 HC4 hz4
                        go_wp2
                        go_roundw
                        case rel => exact ⟨j + 1, ts' ++ [z], by omega, by go_num, HO6, HAP6, HL6, HB6, HC6⟩
                        case measure => simp [intOf]; omega
                    · go_wp2
                      go_roundw
                      case rel => exact ⟨j + 1, ts', by omega, by go_num, HO4, HAP, Lib.hid (by have := HL.out; omega), HB4, HC4⟩
                      case measure => simp [intOf]; omega
                  · obtain rfl : j = 2 := by omega
                    go_wp2
                    go_roundw
                    case rel => exact ⟨k + 1, ts', by omega, by go_num, HO, Lib.hid (by have := HL.out; omega), HB⟩
                    case measure => first | (simp [intOf]; omega) | trace_state
            · obtain rfl : k = l.length := by omega
              obtain ⟨al, cl, rfl, _⟩ := HO.out.len
              have HBE := Lib.hid (show Below w.heap.size w wr from HB2.out.trans (HB.out.mono HB2.out.size))
              clear HO HB HL HR HF
              go_wp2
              all_goals
                go_ret
                refine ⟨_, rfl, HBE.out, fun hb => ?_⟩
                first
                  | (simp at hb; done)
                  | (simp at hb; omega)
                  | omega
end Go.Proofs.Ytafeaeaildfohaa
