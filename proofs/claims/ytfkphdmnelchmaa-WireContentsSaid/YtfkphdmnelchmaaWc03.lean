/- Part 3 of the texts that the law's proof stands on, merged. -/
import Derived.Shelf.SlMaps.Clone
import Derived.Shelf.SlMaps.Copy
import Derived.Ground.SlmcProg
import Derived.Ground.SlmpProg
import Derived.Test.YtfkphdmnelchmaaProg
import Derived.Shelf.Small.Bits
import Derived.Shelf.Strconv.Itoa0
import Derived.Shelf.Sort.Plain
import Derived.Ground.Names2Prog
import Derived.Shelf.Slices.SearchI
import Derived.Shelf.Slices.In.SortNone
import Derived.Lib.SortBridge
import Derived.Shelf.SlIterI.Keys
import Derived.Shelf.SlIterI.Sorted
import Derived.Ground.GgzProg
import Derived.Deep.LoopGhost
import Derived.Deep.Cut
import Derived.Test.YtfkphdmnelchmaaWc02
set_option linter.unusedVariables false
set_option linter.unusedSimpArgs false
/- The methods of a nil wire. -/
namespace Go.Proofs.Ytfkphdmnelchmaa
open Go.RowKit Go.Maps

set_option maxHeartbeats 400000 in
theorem send_nil (w : World) : Calls Try.prog 17 #[.pointer none] w fun e w' => e = .returned (.tuple #[.int .i64 0, .int .i64 1]) ∧ w = w' := by
  go_enter Try.func17, Try.ntmps17
  go_wp2
  go_ret2
  exact ⟨rfl, rfl⟩
set_option maxHeartbeats 400000 in
theorem peek_nil (w : World) : Calls Try.prog 36 #[.pointer none] w fun e w' => e = .returned (.tuple #[elV noEl (.slice none 0 0), .int .i64 1]) ∧ Below w.heap.size w w' := by
  go_enter Try.func36, Try.ntmps36
  go_wp2
  exact bodyPost_ret (v := .tuple #[elV noEl (.slice none 0 0), .int .i64 1]) (by simp [results, Try.results36, go_sem, noEl]) rfl ⟨rfl, (Below.refl _ _).alloc (Nat.le_refl _) _⟩
set_option maxRecDepth 100000 in
set_option maxHeartbeats 1000000 in
theorem receive_nil (w : World) : Calls Try.prog 20 #[.pointer none] w fun e w' => e = .returned (.tuple #[elV noEl (.slice none 0 0), .int .i64 1]) ∧ Below w.heap.size w w' := by
  go_enter Try.func20, Try.ntmps20
  go_wp2_with fail
  refine (peek_nil _).mono ?_
  rintro e w1 ⟨rfl, hb⟩
  have q := alloc_block ((hb.block w.heap.size (by simp)).trans (heap_alloc_new w _)) (.cells #[.int .i64 noEl.kind, .int .i64 noEl.n, .int .i64 noEl.time, .slice none 0 0, .int .i64 noEl.cn] 42)
  have HB := Lib.hid ((((Below.refl _ _).alloc (Nat.le_refl _) _ : Below w.heap.size w (w.alloc (.cells #[.int .i64 0, .int .i64 0, .int .i64 0, .slice none 0 0, .int .i64 0] 42))).trans (hb.mono (by simp))).alloc (by have := hb.size; simp at this; omega) (.cells #[.int .i64 noEl.kind, .int .i64 noEl.n, .int .i64 noEl.time, .slice none 0 0, .int .i64 noEl.cn] 42))
  clear hb
  go_upto_region 2 with fail
  generalize (w1.alloc (.cells #[.int .i64 noEl.kind, .int .i64 noEl.n, .int .i64 noEl.time, .slice none 0 0, .int .i64 noEl.cn] 42)) = X at q HB ⊢
  have e0 : X.cell? ⟨w.heap.size, 0, none⟩ = some (.int .i64 0) := mem_cells q 0
  have e1 : X.cell? ⟨w.heap.size, 1, none⟩ = some (.int .i64 0) := mem_cells q 1
  have e2 : X.cell? ⟨w.heap.size, 2, none⟩ = some (.int .i64 0) := mem_cells q 2
  have e3 : X.cell? ⟨w.heap.size, 3, none⟩ = some (.slice none 0 0) := mem_cells q 3
  have e4 : X.cell? ⟨w.heap.size, 4, none⟩ = some (.int .i64 0) := mem_cells q 4
  have f0 : X.frozen? ⟨w.heap.size, 0, none⟩ = false := frozen_cells q 0
  have f1 : X.frozen? ⟨w.heap.size, 1, none⟩ = false := frozen_cells q 1
  have f2 : X.frozen? ⟨w.heap.size, 2, none⟩ = false := frozen_cells q 2
  have f3 : X.frozen? ⟨w.heap.size, 3, none⟩ = false := frozen_cells q 3
  have f4 : X.frozen? ⟨w.heap.size, 4, none⟩ = false := frozen_cells q 4
  have HQ := Lib.hid q
  clear q
  go_wp2
  have r1 := store5_block HQ.out (.int .i64 0) (.int .i64 0) (.int .i64 0) (.slice none 0 0) (.int .i64 0)
  have hk := store5_keeps X w.heap.size (.int .i64 0) (.int .i64 0) (.int .i64 0) (.slice none 0 0) (.int .i64 0)
  show bodyPost _ _ _ _ _ (store5 X w.heap.size (.int .i64 0) (.int .i64 0) (.int .i64 0) (.slice none 0 0) (.int .i64 0))
  generalize store5 X w.heap.size (.int .i64 0) (.int .i64 0) (.int .i64 0) (.slice none 0 0) (.int .i64 0) = w2 at r1 hk ⊢
  have g0 : w2.cell? ⟨w.heap.size, 0, none⟩ = some (.int .i64 0) := mem_cells r1 0
  have g1 : w2.cell? ⟨w.heap.size, 1, none⟩ = some (.int .i64 0) := mem_cells r1 1
  have g2 : w2.cell? ⟨w.heap.size, 2, none⟩ = some (.int .i64 0) := mem_cells r1 2
  have g3 : w2.cell? ⟨w.heap.size, 3, none⟩ = some (.slice none 0 0) := mem_cells r1 3
  have g4 : w2.cell? ⟨w.heap.size, 4, none⟩ = some (.int .i64 0) := mem_cells r1 4
  exact bodyPost_ret (v := .tuple #[elV noEl (.slice none 0 0), .int .i64 1]) (by simp [results, Try.results20, go_sem, noEl, g0, g1, g2, g3, g4]) rfl ⟨rfl, Keeps.belowStep HB.out hk (fun k hk => by omega) HB.out.size⟩
set_option maxHeartbeats 400000 in
theorem contents_nil (w : World) : Calls Try.prog 26 #[.pointer none] w fun e w' => e = .returned (.tuple #[.slice none 0 0, .int .i64 1]) ∧ w = w' := by
  go_enter Try.func26, Try.ntmps26
  go_wp2
  go_ret2
  exact ⟨rfl, rfl⟩
set_option maxHeartbeats 400000 in
theorem overtake_nil (x : El) (a : Option Addr) (n c : Nat) (w : World) : Calls Try.prog 27 #[.pointer none, elV x (.slice a n c)] w fun e w' => e = .returned (.tuple #[.slice none 0 0, .int .i64 1]) ∧ Below w.heap.size w w' := by
  have hb := fun o => (Below.refl w.heap.size w).alloc (Nat.le_refl _) o
  have HB := Lib.hid hb
  clear hb
  go_enter Try.func27, Try.ntmps27
  go_wp2
  go_ret2
  exact ⟨rfl, HB.out _⟩
set_option maxHeartbeats 400000 in
theorem put_nil (x : El) (a : Option Addr) (n c : Nat) (w : World) : Calls Try.prog 16 #[.pointer none, elV x (.slice a n c)] w fun e w' => e = .returned (.int .i64 1) ∧ Below w.heap.size w w' := by
  have hb := fun o => (Below.refl w.heap.size w).alloc (Nat.le_refl _) o
  have HB := Lib.hid hb
  clear hb
  go_enter Try.func16, Try.ntmps16
  go_wp2
  go_ret
  exact ⟨rfl, HB.out _⟩
set_option maxHeartbeats 400000 in
theorem deliver_nil (n : Int) (w : World) : Calls Try.prog 18 #[.pointer none, .int .i64 n] w fun e w' => e = .returned (.int .i64 1) ∧ w = w' := by
  go_enter Try.func18, Try.ntmps18
  go_wp2
  go_ret
  exact ⟨rfl, rfl⟩
set_option maxHeartbeats 400000 in
theorem lose_nil (n : Int) (w : World) : Calls Try.prog 19 #[.pointer none, .int .i64 n] w fun e w' => e = .returned (.int .i64 1) ∧ w = w' := by
  go_enter Try.func19, Try.ntmps19
  go_wp2
  go_ret
  exact ⟨rfl, rfl⟩
set_option maxHeartbeats 400000 in
theorem resize_nil (n : Int) (w : World) : Calls Try.prog 21 #[.pointer none, .int .i64 n] w fun e w' => e = .returned (.int .i64 1) ∧ w = w' := by
  go_enter Try.func21, Try.ntmps21
  go_wp2
  go_ret
  exact ⟨rfl, rfl⟩
set_option maxHeartbeats 400000 in
theorem waits_nil (w : World) : Calls Try.prog 29 #[.pointer none] w fun e w' => e = .returned (.bool false) ∧ w = w' := by
  go_enter Try.func29, Try.ntmps29
  go_wp2
  go_ret
  exact ⟨rfl, rfl⟩
set_option maxHeartbeats 400000 in
theorem queue_nil (w : World) : Calls Try.prog 30 #[.pointer none] w fun e w' => e = .returned (.int .i64 0) ∧ w = w' := by
  go_enter Try.func30, Try.ntmps30
  go_wp2
  go_ret
  exact ⟨rfl, rfl⟩
set_option maxHeartbeats 400000 in
theorem buffer_nil (w : World) : Calls Try.prog 31 #[.pointer none] w fun e w' => e = .returned (.int .i64 0) ∧ w = w' := by
  go_enter Try.func31, Try.ntmps31
  go_wp2
  go_ret
  exact ⟨rfl, rfl⟩
set_option maxHeartbeats 400000 in
theorem credits_nil (w : World) : Calls Try.prog 28 #[.pointer none] w fun e w' => e = .returned (.int .i64 0) ∧ w = w' := by
  go_enter Try.func28, Try.ntmps28
  go_wp2
  go_ret
  exact ⟨rfl, rfl⟩
set_option maxHeartbeats 400000 in
theorem spilled_nil (w : World) : Calls Try.prog 37 #[.pointer none] w fun e w' => e = .returned (.int .i64 0) ∧ w = w' := by
  go_enter Try.func37, Try.ntmps37
  go_wp2
  go_ret
  exact ⟨rfl, rfl⟩
set_option maxHeartbeats 400000 in
theorem way_nil (w : World) : Calls Try.prog 38 #[.pointer none] w fun e w' => e = .returned (.slice none 0 0) ∧ w = w' := by
  go_enter Try.func38, Try.ntmps38
  go_wp2
  go_ret
  exact ⟨rfl, rfl⟩
set_option maxRecDepth 100000 in
set_option maxHeartbeats 1000000 in
theorem great_any (x : El) (s : Value) (w : World) (hv : tRow.rv (mem w) [s] x.row) :
    Calls Try.prog 35 #[elV x s] w fun e w' => (∃ q, e = .returned (.bool q) ∧ (q = false → x.row.length ≤ 20)) ∧ Below w.heap.size w w' := by
  obtain ⟨a, cap, rfl, hl, hm, hv⟩ := slice_form hv
  have hcap : cap ≤ 9223372036854775807 := by unfold maxLen at hm; exact hm
  have hb := fun o => (Below.refl w.heap.size w).alloc (Nat.le_refl _) o
  have HV := Lib.hid hv
  have HB := Lib.hid hb
  clear hb hm hv
  go_enter Try.func35, Try.ntmps35
  go_wp2
  go_loopw [3] (fun i wr => ∃ k : Nat, k ≤ x.row.length ∧ i = .int .i64 k ∧ Below w.heap.size w wr ∧ wr.cell? ⟨w.heap.size, 3, none⟩ = some (.slice a x.row.length cap)) (fun i _ => x.row.length - (intOf i).toNat)
  case atStart => exact ⟨0, by omega, rfl, HB.out _, cell_new 3 rfl⟩
  case round =>
    obtain ⟨k, hk, rfl, hB, c3⟩ := hrel
    by_cases hlt : k < x.row.length
    · obtain ⟨b, o, rfl, hat⟩ := slice_at HV.out hlt
      obtain ⟨_, _, c2, _, _, hs⟩ := val_at (tVal.at_mono (below_mem hB) hat)
      have c2 : wr.cell? ⟨b, o + k * 3 + 2, none⟩ = some (.string x.row[k].s) := c2
      clear hat
      generalize x.row[k] = y at *
      generalize y.s = st at *
      go_wp2
      all_goals first
        | (go_roundw
           case rel => exact ⟨k + 1, by omega, by go_num, hB, c3⟩
           case measure => simp [intOf]; omega)
        | (go_ret
           exact ⟨⟨_, rfl, fun h => by cases h⟩, hB⟩)
    · obtain rfl : k = x.row.length := by omega
      go_wp2
      go_ret
      exact ⟨⟨_, rfl, fun h => by simp at h; omega⟩, hB⟩
end Go.Proofs.Ytfkphdmnelchmaa
/- The law WireNothing: acts as arguments; the walk. -/
namespace Go.Proofs.Ytfkphdmnelchmaa
open Go.RowKit Go.Maps

def tU8 : Ty Int := ⟨1, fun _ cs x => cs = [.int .u8 x] ∧ 0 ≤ x ∧ x ≤ 255, fun _ _ _ h => by rw [h.1]; rfl, fun _ _ _ _ _ h => h⟩
theorem reads_u8 {P : Program} {T : TypeId} (ht : P.underlying T = some (.int .u8)) : Reads P T tU8 := fun _ _ _ _ _ _ h => by
  obtain ⟨n, h1, _, h3⟩ := DataW.trod_int ht h
  refine ⟨n, h1, ?_⟩
  have : 0 ≤ n ∧ n ≤ 255 := by simpa [Lit.wf, IntKind.min, IntKind.max, IntKind.signed, IntKind.bits] using h3
  exact this
def tCh : Ty (Int × List Val × Int) := ⟨3, fun m cs x => ∃ s, cs = [.int .i64 x.1, s, .int .i64 x.2.2] ∧ (inI64 x.1 ∧ inI64 x.2.2) ∧ tRow.rv m [s] x.2.1, fun _ _ _ h => by obtain ⟨s, rfl, _⟩ := h; rfl, fun m m' cs x hm h => by obtain ⟨s, e, i, r⟩ := h; exact ⟨s, e, i, tRow.mono _ _ _ _ hm r⟩⟩
set_option maxRecDepth 100000 in
theorem reads_val20 : Reads Try.prog 118 tVal := fun H enc w n cs d h => by
  obtain ⟨xs, n', _, _, hl, hx, hg⟩ := DataW.trod_struct Try.underlying118 h
  rw [show Try.prog.cellsOf 118 = 3 from by kernel_rfl] at hl
  have g0 := hg 0 _ rfl
  obtain ⟨x0, r0⟩ := field_read (reads_int Try.underlying3) 0 1 rfl rfl (by kernel_rfl) g0 (by rw [hx]; decide)
  have g1 := hg 1 _ rfl
  obtain ⟨x1, r1⟩ := field_read (reads_int Try.underlying3) 1 1 rfl rfl (by kernel_rfl) g1 (by rw [hx]; decide)
  have g2 := hg 2 _ rfl
  obtain ⟨x2, r2⟩ := field_read (reads_str Try.underlying9) 2 1 rfl rfl (by kernel_rfl) g2 (by rw [hx]; decide)
  match cs, hl with
  | [c0, c1, c2], _ =>
    obtain ⟨e0, i0⟩ := r0
    obtain ⟨e1, i1⟩ := r1
    obtain ⟨e2, i2⟩ := r2
    simp at e0 e1 e2
    exact ⟨⟨x0, x1, x2⟩, by rw [e0, e1, e2], i0, i1, i2⟩
theorem reads_row20 : Reads Try.prog 38 tRow := reads_slice Try.underlying38 (by kernel_rfl) (by decide) reads_val20
set_option maxRecDepth 100000 in
theorem reads_ch : Reads Try.prog 40 tCh := fun H enc w n cs d h => by
  obtain ⟨xs, n', _, _, hl, hx, hg⟩ := DataW.trod_struct Try.underlying40 h
  rw [show Try.prog.cellsOf 40 = 3 from by kernel_rfl] at hl
  have g0 := hg 0 _ rfl
  obtain ⟨x0, r0⟩ := field_read (reads_int Try.underlying3) 0 1 rfl rfl (by kernel_rfl) g0 (by rw [hx]; decide)
  have g1 := hg 1 _ rfl
  obtain ⟨x1, r1⟩ := field_read reads_row20 1 1 rfl rfl (by kernel_rfl) g1 (by rw [hx]; decide)
  have g2 := hg 2 _ rfl
  obtain ⟨x2, r2⟩ := field_read (reads_int Try.underlying3) 2 1 rfl rfl (by kernel_rfl) g2 (by rw [hx]; decide)
  match cs, hl with
  | [c0, c1, c2], _ =>
    obtain ⟨e0, i0⟩ := r0
    obtain ⟨e2, i2⟩ := r2
    simp at e0 e2
    exact ⟨(x0, x1, x2), c1, by rw [e0, e2], ⟨i0, i2⟩, by simpa using r1⟩
set_option maxRecDepth 100000 in
theorem reads_el : Reads Try.prog 42 tEl := fun H enc w n cs d h => by
  obtain ⟨xs, n', _, _, hl, hx, hg⟩ := DataW.trod_struct Try.underlying42 h
  rw [show Try.prog.cellsOf 42 = 5 from by kernel_rfl] at hl
  have g0 := hg 0 _ rfl
  obtain ⟨x0, r0⟩ := field_read (reads_int Try.underlying3) 0 1 rfl rfl (by kernel_rfl) g0 (by rw [hx]; decide)
  have g1 := hg 1 _ rfl
  obtain ⟨x1, r1⟩ := field_read (reads_int Try.underlying3) 1 1 rfl rfl (by kernel_rfl) g1 (by rw [hx]; decide)
  have g2 := hg 2 _ rfl
  obtain ⟨x2, r2⟩ := field_read reads_ch 2 3 rfl rfl (by kernel_rfl) g2 (by rw [hx]; decide)
  match cs, hl with
  | [c0, c1, c2, c3, c4], _ =>
    obtain ⟨e0, i0⟩ := r0
    obtain ⟨e1, i1⟩ := r1
    obtain ⟨s, e2, i2, hr⟩ := r2
    simp at e0 e1 e2
    obtain ⟨rfl, rfl, rfl⟩ := e2
    exact ⟨⟨x0, x1, x2.1, x2.2.1, x2.2.2⟩, _, by rw [e0, e1], ⟨i0, i1, i2.1, i2.2⟩, hr⟩
theorem reads_els : Reads Try.prog 36 tEls := reads_slice Try.underlying36 (by kernel_rfl) (by decide) reads_el
structure Act20 where
  kind : Int
  n : Int
  el : El
  deriving Inhabited
def tAct : Ty Act20 := ⟨7, fun m cs x => ∃ s, cs = [.int .u8 x.kind, .int .i64 x.n, .int .i64 x.el.kind, .int .i64 x.el.n, .int .i64 x.el.time, s, .int .i64 x.el.cn] ∧ (0 ≤ x.kind ∧ x.kind ≤ 255) ∧ inI64 x.n ∧ x.el.ok ∧ tRow.rv m [s] x.el.row,
  fun _ _ _ h => by obtain ⟨s, rfl, _⟩ := h; rfl, fun m m' cs x hm h => by obtain ⟨s, e, i, j, k, r⟩ := h; exact ⟨s, e, i, j, k, tRow.mono _ _ _ _ hm r⟩⟩
set_option maxRecDepth 100000 in
theorem reads_act : Reads Try.prog 44 tAct := fun H enc w n cs d h => by
  obtain ⟨xs, n', _, _, hl, hx, hg⟩ := DataW.trod_struct Try.underlying44 h
  rw [show Try.prog.cellsOf 44 = 7 from by kernel_rfl] at hl
  have g0 := hg 0 _ rfl
  obtain ⟨x0, r0⟩ := field_read (reads_u8 Try.underlying5) 0 1 rfl rfl (by kernel_rfl) g0 (by rw [hx]; decide)
  have g1 := hg 1 _ rfl
  obtain ⟨x1, r1⟩ := field_read (reads_int Try.underlying3) 1 1 rfl rfl (by kernel_rfl) g1 (by rw [hx]; decide)
  have g2 := hg 2 _ rfl
  obtain ⟨x2, r2⟩ := field_read reads_el 2 5 rfl rfl (by kernel_rfl) g2 (by rw [hx]; decide)
  match cs, hl with
  | [c0, c1, c2, c3, c4, c5, c6], _ =>
    obtain ⟨e0, i0⟩ := r0
    obtain ⟨e1, i1⟩ := r1
    obtain ⟨s, e2, i2, hr⟩ := r2
    simp at e0 e1 e2
    obtain ⟨rfl, rfl, rfl, rfl, rfl⟩ := e2
    exact ⟨⟨x0, x1, x2⟩, _, by rw [e0, e1], i0, i1, ⟨i2.1, i2.2.1, i2.2.2.1, i2.2.2.2⟩, hr⟩
theorem reads_acts : Reads Try.prog 31 (tSlice tAct) := reads_slice Try.underlying31 (by kernel_rfl) (by decide) reads_act


set_option maxRecDepth 100000 in
set_option maxHeartbeats 4000000 in
theorem wireNothing_any (a : Act20) (s : Value) (W : World) (hv : tRow.rv (mem W) [s] a.el.row) :
    Calls Try.prog 8 #[.agg #[.int .u8 a.kind, .int .i64 a.n, .int .i64 a.el.kind, .int .i64 a.el.n, .int .i64 a.el.time, s, .int .i64 a.el.cn]] W fun e W' => e = .returned (.bool true) ∧ Below W.heap.size W W' := by
  obtain ⟨ar, cr, rfl, hl, hm, hv⟩ := slice_form hv
  have HG := Lib.hid (fun (wq : World) (h : Below W.heap.size W wq) => great_any a.el _ wq (tRow.mono _ _ _ _ (below_mem h) hv))
  have hb0 : Below W.heap.size W (W.alloc (.cells #[.int .u8 a.kind, .int .i64 a.n, .int .i64 a.el.kind, .int .i64 a.el.n, .int .i64 a.el.time, .slice ar a.el.row.length cr, .int .i64 a.el.cn] 44)) := (Below.refl _ _).alloc (Nat.le_refl _) _
  have HB0 := Lib.hid hb0
  clear hv hb0
  go_enter Try.func8, Try.ntmps8
  go_wp2_with fail
  refine (awake20 _).mono ?_
  rintro e w1 ⟨rfl, hb⟩
  have HB := Lib.hid hb
  clear hb
  have c1 : w1.cell? ⟨W.heap.size, 1, none⟩ = some (.int .i64 a.n) := below_mem HB.out _ _ _ (cell_new 1 rfl)
  have c2 : w1.cell? ⟨W.heap.size, 2, none⟩ = some (.int .i64 a.el.kind) := below_mem HB.out _ _ _ (cell_new 2 rfl)
  have c3 : w1.cell? ⟨W.heap.size, 3, none⟩ = some (.int .i64 a.el.n) := below_mem HB.out _ _ _ (cell_new 3 rfl)
  have c4 : w1.cell? ⟨W.heap.size, 4, none⟩ = some (.int .i64 a.el.time) := below_mem HB.out _ _ _ (cell_new 4 rfl)
  have c5 : w1.cell? ⟨W.heap.size, 5, none⟩ = some (.slice ar a.el.row.length cr) := below_mem HB.out _ _ _ (cell_new 5 rfl)
  have c6 : w1.cell? ⟨W.heap.size, 6, none⟩ = some (.int .i64 a.el.cn) := below_mem HB.out _ _ _ (cell_new 6 rfl)
  go_wp2_with fail
  refine (HG.out _ (HB0.out.trans (HB.out.mono (by simp)))).mono ?_
  rintro e w2 ⟨⟨q, rfl, _⟩, hb⟩
  have HB2 := Lib.hid (HB.out.trans (hb.mono HB.out.size))
  clear hb HB c1 c2 c3 c4 c5 c6
  have HB := HB2
  clear HB2
  cases q
  rotate_left
  · go_wp2
    go_ret
    exact ⟨rfl, HB0.out.trans (HB.out.mono (by simp))⟩
  go_wp2_with fail
  refine (send_nil _).mono ?_
  rintro e w3 ⟨rfl, rfl⟩
  go_wp2_with fail
  refine (receive_nil _).mono ?_
  rintro e w4 ⟨rfl, hb⟩
  have HB2 := Lib.hid ((HB.out.trans (hb.mono HB.out.size)).alloc (Nat.le_trans HB.out.size hb.size) (.cells #[.int .i64 noEl.kind, .int .i64 noEl.n, .int .i64 noEl.time, .slice none 0 0, .int .i64 noEl.cn] 42))
  clear hb HB
  have HB := HB2
  clear HB2
  go_wp2_with fail
  refine (peek_nil _).mono ?_
  rintro e w5 ⟨rfl, hb⟩
  have HB2 := Lib.hid ((HB.out.trans (hb.mono HB.out.size)).alloc (Nat.le_trans HB.out.size hb.size) (.cells #[.int .i64 noEl.kind, .int .i64 noEl.n, .int .i64 noEl.time, .slice none 0 0, .int .i64 noEl.cn] 42))
  clear hb HB
  have HB := HB2
  clear HB2
  go_upto_region 9 with fail
  generalize (w5.alloc (.cells #[.int .i64 noEl.kind, .int .i64 noEl.n, .int .i64 noEl.time, .slice none 0 0, .int .i64 noEl.cn] 42)) = X at HB ⊢
  have c1 : X.cell? ⟨W.heap.size, 1, none⟩ = some (.int .i64 a.n) := below_mem HB.out _ _ _ (cell_new 1 rfl)
  have c2 : X.cell? ⟨W.heap.size, 2, none⟩ = some (.int .i64 a.el.kind) := below_mem HB.out _ _ _ (cell_new 2 rfl)
  have c3 : X.cell? ⟨W.heap.size, 3, none⟩ = some (.int .i64 a.el.n) := below_mem HB.out _ _ _ (cell_new 3 rfl)
  have c4 : X.cell? ⟨W.heap.size, 4, none⟩ = some (.int .i64 a.el.time) := below_mem HB.out _ _ _ (cell_new 4 rfl)
  have c5 : X.cell? ⟨W.heap.size, 5, none⟩ = some (.slice ar a.el.row.length cr) := below_mem HB.out _ _ _ (cell_new 5 rfl)
  have c6 : X.cell? ⟨W.heap.size, 6, none⟩ = some (.int .i64 a.el.cn) := below_mem HB.out _ _ _ (cell_new 6 rfl)
  go_wp2_with fail
  refine (contents_nil _).mono ?_
  rintro e w6 ⟨rfl, rfl⟩
  go_wp2_with fail
  refine (overtake_nil a.el ar a.el.row.length cr _).mono ?_
  rintro e w7 ⟨rfl, hb⟩
  have HB2 := Lib.hid (HB.out.trans (hb.mono HB.out.size))
  clear hb HB c1 c2 c3 c4 c5 c6
  have HB := HB2
  clear HB2
  have c1 : w7.cell? ⟨W.heap.size, 1, none⟩ = some (.int .i64 a.n) := below_mem HB.out _ _ _ (cell_new 1 rfl)
  have c2 : w7.cell? ⟨W.heap.size, 2, none⟩ = some (.int .i64 a.el.kind) := below_mem HB.out _ _ _ (cell_new 2 rfl)
  have c3 : w7.cell? ⟨W.heap.size, 3, none⟩ = some (.int .i64 a.el.n) := below_mem HB.out _ _ _ (cell_new 3 rfl)
  have c4 : w7.cell? ⟨W.heap.size, 4, none⟩ = some (.int .i64 a.el.time) := below_mem HB.out _ _ _ (cell_new 4 rfl)
  have c5 : w7.cell? ⟨W.heap.size, 5, none⟩ = some (.slice ar a.el.row.length cr) := below_mem HB.out _ _ _ (cell_new 5 rfl)
  have c6 : w7.cell? ⟨W.heap.size, 6, none⟩ = some (.int .i64 a.el.cn) := below_mem HB.out _ _ _ (cell_new 6 rfl)
  go_wp2_with fail
  refine (put_nil a.el ar a.el.row.length cr _).mono ?_
  rintro e w8 ⟨rfl, hb⟩
  have HB2 := Lib.hid (HB.out.trans (hb.mono HB.out.size))
  clear hb HB c1 c2 c3 c4 c5 c6
  have HB := HB2
  clear HB2
  have c1 : w8.cell? ⟨W.heap.size, 1, none⟩ = some (.int .i64 a.n) := below_mem HB.out _ _ _ (cell_new 1 rfl)
  go_wp2_with (first | (go_at_call 18; refine (deliver_nil _ _).mono ?_; rintro e w' ⟨rfl, rfl⟩) | (go_at_call 19; refine (lose_nil _ _).mono ?_; rintro e w' ⟨rfl, rfl⟩) | (go_at_call 21; refine (resize_nil _ _).mono ?_; rintro e w' ⟨rfl, rfl⟩) | (go_at_call 29; refine (waits_nil _).mono ?_; rintro e w' ⟨rfl, rfl⟩) | (go_at_call 30; refine (queue_nil _).mono ?_; rintro e w' ⟨rfl, rfl⟩) | (go_at_call 31; refine (buffer_nil _).mono ?_; rintro e w' ⟨rfl, rfl⟩) | (go_at_call 28; refine (credits_nil _).mono ?_; rintro e w' ⟨rfl, rfl⟩) | (go_at_call 37; refine (spilled_nil _).mono ?_; rintro e w' ⟨rfl, rfl⟩) | (go_at_call 38; refine (way_nil _).mono ?_; rintro e w' ⟨rfl, rfl⟩))
  go_ret
  exact ⟨rfl, HB0.out.trans (HB.out.mono (by simp))⟩
end Go.Proofs.Ytfkphdmnelchmaa
/- many: acts that are more, or larger, than are looked at. -/
namespace Go.Proofs.Ytfkphdmnelchmaa
open Go.RowKit Go.Maps

theorem act_at {m : Mem} {b o : Nat} {x : Act20} (h : tAct.at m b o x) : ∃ a c, c ≤ 9223372036854775807 ∧ m b o = some (.int .u8 x.kind) ∧ m b (o + 1) = some (.int .i64 x.n) ∧ m b (o + 2) = some (.int .i64 x.el.kind) ∧ m b (o + 3) = some (.int .i64 x.el.n) ∧ m b (o + 4) = some (.int .i64 x.el.time) ∧
    m b (o + 5) = some (.slice a x.el.row.length c) ∧ m b (o + 6) = some (.int .i64 x.el.cn) ∧ (0 ≤ x.kind ∧ x.kind ≤ 255) ∧ inI64 x.n ∧ x.el.ok ∧ tRow.rv m [.slice a x.el.row.length c] x.el.row := by
  obtain ⟨cs, hc, s, rfl, h1, h2, h3, hr⟩ := h
  obtain ⟨a, c, rfl, _, hm, hr⟩ := slice_form hr
  exact ⟨a, c, (by unfold maxLen at hm; exact hm), hc 0 _ rfl, hc 1 _ rfl, hc 2 _ rfl, hc 3 _ rfl, hc 4 _ rfl, hc 5 _ rfl, hc 6 _ rfl, h1, h2, h3, hr⟩

set_option maxRecDepth 100000 in
set_option maxHeartbeats 2000000 in
theorem many_any (xs : List Act20) (v : Value) (W : World) (hv : (tSlice tAct).rv (mem W) [v] xs) :
    Calls Try.prog 14 #[v] W fun e W' => (∃ q, e = .returned (.bool q) ∧ (q = false → xs.length ≤ 80)) ∧ Below W.heap.size W W' := by
  obtain ⟨a, cap, rfl, hl, hm, hv⟩ := slice_form hv
  have hcap : cap ≤ 9223372036854775807 := by unfold maxLen at hm; exact hm
  have HV := Lib.hid hv
  clear hm hv
  go_enter Try.func14, Try.ntmps14
  go_wp2
  go_loopw [3] (fun i wr => ∃ k : Nat, k ≤ xs.length ∧ i = .int .i64 k ∧ Below W.heap.size W wr) (fun i _ => xs.length - (intOf i).toNat)
  case atStart => exact ⟨0, by omega, by go_num, Below.refl _ _⟩
  case round =>
    obtain ⟨k, hk, rfl, hB⟩ := hrel
    by_cases hlt : k < xs.length
    · obtain ⟨b, o, rfl, hat⟩ := slice_at HV.out hlt
      obtain ⟨ar, cr, hcr, e0, e1, e2, e3, e4, e5, e6, i1, i2, i3, hr⟩ := act_at (Ty.at_mono _ (below_mem hB) hat)
      have e2 : wr.cell? ⟨b, o + k * 7 + 2, none⟩ = some (.int .i64 xs[k].el.kind) := e2
      have e3 : wr.cell? ⟨b, o + k * 7 + 3, none⟩ = some (.int .i64 xs[k].el.n) := e3
      have e4 : wr.cell? ⟨b, o + k * 7 + 4, none⟩ = some (.int .i64 xs[k].el.time) := e4
      have e5 : wr.cell? ⟨b, o + k * 7 + 5, none⟩ = some (.slice ar xs[k].el.row.length cr) := e5
      have e6 : wr.cell? ⟨b, o + k * 7 + 6, none⟩ = some (.int .i64 xs[k].el.cn) := e6
      have HG := Lib.hid (great_any xs[k].el _ wr hr)
      have HB := Lib.hid hB
      clear hat e0 e1 i1 i2 i3 hr hB
      generalize xs[k].el = x at *
      go_wp2_with fail
      refine HG.out.mono ?_
      rintro e w2 ⟨⟨q, rfl, _⟩, hb⟩
      have HB2 := Lib.hid (HB.out.trans (hb.mono HB.out.size))
      clear HB hb e2 e3 e4 e5 e6 HG
      cases q with
      | false =>
        go_wp2
        go_roundw
        case rel => exact ⟨k + 1, by omega, by go_num, HB2.out⟩
        case measure => simp [intOf]; omega
      | true =>
        go_wp2
        try rw [Exit.noGoto_ret]
        go_ret
        exact ⟨⟨true, rfl, fun h => by cases h⟩, HB2.out⟩
    · have HB := Lib.hid hB
      clear hB
      go_wp2
      go_ret
      exact ⟨⟨_, rfl, fun h => by simp at h; omega⟩, HB.out⟩
end Go.Proofs.Ytfkphdmnelchmaa
/-
  DERIVED: THE SHELF's CONTRACTS AT THIS DUMP, IN PLAIN WORDS (tools/lay-plain.mjs out of 'TryShelf.lean', which tools/lay-shelf.mjs wrote): THE SAME DECLARATIONS UNDER THE SAME NAMES: 'import', 'namespace', 'open', 'def', 'theorem' AND NOTHING ELSE: no command of the shelf's: FOR A HAND-IN. Each laying: the table of numbers ('.._ren') and one theorem, a field a fact of the dump's own or the kernel's comparison; each contract: ONE APPLICATION.
-/
namespace Go.Proofs
open Go.Shelf
def Try.clone56_ren : Go.Shelf.Ren := ⟨fun | 5 => 56 | 7 => 74 | n => n, fun | 23 => 82 | 25 => 3 | 3 => 89 | 4 => 4 | 20 => 20 | n => n, fun | n => n⟩
theorem Try.clone56 : Go.Proofs.SlLaysW.n5 Try.prog Try.clone56_ren := {
  mixed := by kernel_rfl
  f5 := ⟨Try.f56.name, by decide, Try.func56.trans (congrArg some (by kernel_rfl))⟩
  f7 := Try.func74.trans (congrArg some (by kernel_rfl))
  t4 := Try.underlying4
  a4 := Try.isAgg4
  z4 := Try.sizeOf4
  v4 := Try.zeroValue4
  t20 := Try.underlying20
  a20 := Try.isAgg20
  z20 := Try.sizeOf20
  v20 := Try.zeroValue20
  t23 := Try.underlying82
  a23 := Try.isAgg82
  z23 := Try.sizeOf82
  v23 := Try.zeroValue82 }
def Try.copy57_ren : Go.Shelf.Ren := ⟨fun | 5 => 57 | n => n, fun | 23 => 82 | 24 => 82 | 26 => 3 | 27 => 89 | 0 => 0 | 4 => 4 | n => n, fun | n => n⟩
theorem Try.copy57 : Go.Proofs.SlLaysX.n5 Try.prog Try.copy57_ren := {
  mixed := by kernel_rfl
  f5 := ⟨Try.f57.name, by decide, Try.func57.trans (congrArg some (by kernel_rfl))⟩
  t0 := Try.underlying0
  a0 := Try.isAgg0
  z0 := Try.sizeOf0
  v0 := Try.zeroValue0
  t4 := Try.underlying4
  a4 := Try.isAgg4
  z4 := Try.sizeOf4
  v4 := Try.zeroValue4
  t23 := Try.underlying82
  a23 := Try.isAgg82
  z23 := Try.sizeOf82
  v23 := Try.zeroValue82
  t24 := Try.underlying82
  a24 := Try.isAgg82
  z24 := Try.sizeOf82
  v24 := Try.zeroValue82
  a26 := Try.isAgg3
  z26 := Try.sizeOf3
  a27 := Try.isAgg89
  z27 := Try.sizeOf89 }
end Go.Proofs
/- Backpressure, in plain words: what is met walking against the edges. No program in sight. -/
namespace Go.Proofs.Ytfkphdmnelchmaa

/-- Number x is reached in one step out of S. -/
def BStep (es : List (Int × Int)) (ws : List Bool) (S : List Int) (x : Int) : Prop := ∃ i : Nat, ∃ e, ws[i]? = some true ∧ es[i]? = some e ∧ e.2 ∈ S ∧ e.1 = x
theorem BStep.mono {es : List (Int × Int)} {ws : List Bool} {S S' : List Int} {x : Int} (h : BStep es ws S x) (hs : ∀ y ∈ S, y ∈ S') : BStep es ws S' x := by
  obtain ⟨i, e, h1, h2, h3, h4⟩ := h
  exact ⟨i, e, h1, h2, hs _ h3, h4⟩
/-- What was met so far, in some order. -/
inductive BGen (es : List (Int × Int)) (ws : List Bool) (p : Int) : List Int → Prop
  | nil : BGen es ws p []
  | snoc (L : List Int) (x : Int) : BGen es ws p L → BStep es ws (p :: L) x → x ∉ p :: L → BGen es ws p (L ++ [x])
def BDone (es : List (Int × Int)) (ws : List Bool) (p : Int) (L : List Int) : Prop := ∀ x, BStep es ws (p :: L) x → x ∈ p :: L

theorem BGen.sub {es : List (Int × Int)} {ws : List Bool} {p : Int} {L L' : List Int} (h : BGen es ws p L) (h' : BDone es ws p L') : ∀ x ∈ p :: L, x ∈ p :: L' := by
  induction h with
  | nil => intro x hx; simp at hx; simp [hx]
  | snoc L x _ hst _ ih =>
    intro y hy
    rcases List.mem_cons.1 hy with e | hy
    · simp [e]
    · rcases List.mem_append.1 hy with hy | hy
      · exact ih _ (List.mem_cons_of_mem _ hy)
      · rw [List.mem_singleton] at hy
        subst hy
        exact h' _ (hst.mono ih)
theorem BGen.nodup {es : List (Int × Int)} {ws : List Bool} {p : Int} {L : List Int} (h : BGen es ws p L) : (p :: L).Nodup := by
  induction h with
  | nil => simp
  | snoc L x _ _ hx ih =>
    rw [← List.cons_append]
    refine List.nodup_append.2 ⟨ih, by simp, ?_⟩
    intro a ha b hb e
    simp at hb
    subst hb; subst e
    exact hx ha
theorem nodup_len {M : List Int} : ∀ {L : List Int}, L.Nodup → (∀ x ∈ L, x ∈ M) → L.length ≤ M.length := by
  induction M with
  | nil => intro L _ h; cases L with
    | nil => simp
    | cons x L => exact absurd (h x (by simp)) (by simp)
  | cons m M ih =>
    intro L hn h
    have h1 : (L.erase m).length ≤ M.length := ih (hn.erase m) (fun x hx => by
      have hx2 := (List.Nodup.mem_erase_iff hn).1 hx
      rcases List.mem_cons.1 (h x hx2.2) with e | e
      · exact absurd e hx2.1
      · exact e)
    by_cases hm : m ∈ L
    · rw [List.length_erase_of_mem hm] at h1
      simp; omega
    · rw [List.erase_of_not_mem hm] at h1
      simp; omega
theorem BGen.inEs {es : List (Int × Int)} {ws : List Bool} {p : Int} {L : List Int} (h : BGen es ws p L) : ∀ x ∈ L, x ∈ es.map (·.1) := by
  induction h with
  | nil => intro x hx; cases hx
  | snoc L x _ hst _ ih =>
    intro y hy
    rcases List.mem_append.1 hy with hy | hy
    · exact ih y hy
    · rw [List.mem_singleton] at hy
      subst hy
      obtain ⟨i, e, _, h2, _, h4⟩ := hst
      exact List.mem_map.2 ⟨e, List.mem_of_getElem? h2, h4⟩
theorem BGen.len {es : List (Int × Int)} {ws : List Bool} {p : Int} {L : List Int} (h : BGen es ws p L) : L.length ≤ es.length := by
  have := nodup_len (List.nodup_cons.1 h.nodup).2 h.inEs
  simpa using this
theorem BGen.perm {es : List (Int × Int)} {ws : List Bool} {p : Int} {L L' : List Int} (h : BGen es ws p L) (d : BDone es ws p L) (h' : BGen es ws p L') (d' : BDone es ws p L') : L.Perm L' := by
  have n1 := List.nodup_cons.1 h.nodup
  have n2 := List.nodup_cons.1 h'.nodup
  refine (List.perm_ext_iff_of_nodup n1.2 n2.2).2 fun x => ⟨fun hx => ?_, fun hx => ?_⟩
  · rcases List.mem_cons.1 (h.sub d' x (List.mem_cons_of_mem _ hx)) with e | e
    · subst e; exact absurd hx n1.1
    · exact e
  · rcases List.mem_cons.1 (h'.sub d x (List.mem_cons_of_mem _ hx)) with e | e
    · subst e; exact absurd hx n2.1
    · exact e
/-- The list in order, told by what it is. -/
def InOrder (L S : List Int) : Prop := S.Perm L ∧ S.Pairwise (· ≤ ·)
theorem InOrder.unique {L L' S S' : List Int} (h : InOrder L S) (h' : InOrder L' S') (p : L.Perm L') : S = S' :=
  List.Perm.eq_of_pairwise (fun a b _ _ h1 h2 => Int.le_antisymm h1 h2) h.2 h'.2 ((h.1.trans p).trans h'.1.symm)
theorem InOrder.sort (L : List Int) : InOrder L (L.mergeSort fun x y => decide (x ≤ y)) :=
  ⟨List.mergeSort_perm _ _, by
    have := List.pairwise_mergeSort (le := fun x y : Int => decide (x ≤ y)) (fun a b c h1 h2 => by simp at *; omega) (fun a b => by simp; omega) L
    exact this.imp (by simp)⟩

def inCount (x : Int) : Bool := decide (0 ≤ x) && decide (x < 1000000)
def edgesOk (es : List (Int × Int)) : Bool := es.all fun e => inCount e.1 && inCount e.2
/-- What Backpressure says: errno and list. -/
def BackSays (es : List (Int × Int)) (ws : List Bool) (p : Int) (code : Int) (S : List Int) : Prop :=
  if es.length ≠ ws.length then code = 9 ∧ S = [] else if (inCount p && edgesOk es) = false then code = 7 ∧ S = [] else code = 0 ∧ ∃ L, BGen es ws p L ∧ BDone es ws p L ∧ InOrder L S
theorem BackSays.unique {es : List (Int × Int)} {ws : List Bool} {p c c' : Int} {S S' : List Int} (h : BackSays es ws p c S) (h' : BackSays es ws p c' S') : c = c' ∧ S = S' := by
  unfold BackSays at h h'
  split at h
  · rename_i hn; rw [if_pos hn] at h'; exact ⟨h.1.trans h'.1.symm, h.2.trans h'.2.symm⟩
  · rename_i hn; rw [if_neg hn] at h'
    split at h
    · rename_i hk; rw [if_pos hk] at h'; exact ⟨h.1.trans h'.1.symm, h.2.trans h'.2.symm⟩
    · rename_i hk; rw [if_neg hk] at h'
      obtain ⟨h0, L, a, b, o⟩ := h
      obtain ⟨h0', L', a', b', o'⟩ := h'
      exact ⟨h0.trans h0'.symm, o.unique o' (a.perm b a' b')⟩
end Go.Proofs.Ytfkphdmnelchmaa
/-
  DERIVED: THE SHELF's CONTRACTS AT THIS DUMP, IN PLAIN WORDS (tools/lay-plain.mjs out of 'TryShelf.lean', which tools/lay-shelf.mjs wrote): THE SAME DECLARATIONS UNDER THE SAME NAMES: 'import', 'namespace', 'open', 'def', 'theorem' AND NOTHING ELSE: no command of the shelf's: FOR A HAND-IN. Each laying: the table of numbers ('.._ren') and one theorem, a field a fact of the dump's own or the kernel's comparison; each contract: ONE APPLICATION.
-/
namespace Go.Proofs
open Go.Shelf
def Try.lays128_ren : Go.Shelf.Ren := ⟨fun | 128 => 93 | n => n, fun | 51 => 143 | 3 => 3 | 4 => 4 | 46 => 122 | 5 => 5 | 9 => 9 | n => n, fun | n => n⟩
theorem Try.lays128 : Go.Proofs.Lays.n128 Try.prog Try.lays128_ren := {
  mixed := by kernel_rfl
  f128 := Try.func93.trans (congrArg some (by kernel_rfl))
  t3 := Try.underlying3
  a3 := Try.isAgg3
  z3 := Try.sizeOf3
  v3 := Try.zeroValue3
  t4 := Try.underlying4
  a4 := Try.isAgg4
  z4 := Try.sizeOf4
  v4 := Try.zeroValue4
  t5 := Try.underlying5
  a5 := Try.isAgg5
  z5 := Try.sizeOf5
  v5 := Try.zeroValue5
  t9 := Try.underlying9
  a9 := Try.isAgg9
  z9 := Try.sizeOf9
  v9 := Try.zeroValue9
  t46 := Try.underlying122
  a46 := Try.isAgg122
  z46 := Try.sizeOf122
  v46 := Try.zeroValue122
  t51 := Try.underlying143
  a51 := Try.isAgg143
  z51 := Try.sizeOf143
  v51 := Try.zeroValue143 }
/-- bits.Len32: "Len32 returns the minimum number of bits required to represent x; the result is 0 for x == 0.": IT RETURNS 'Lib.bitLen x'; the world is as it was. ('h0', 'h1': x is a uint32.) (LAID: no walk: one application.) -/
theorem Try.bits_Len32 (x : Int) (w : World) (h0 : 0 ≤ x) (h1 : x ≤ 4294967295) :
    Calls Try.prog 93 #[.int .u32 x] w fun e w' => e = .returned (.int .i64 (Lib.bitLen x.toNat)) ∧ w' = w := Any.bits_Len32 Try.lays128 x w h0 h1
def Try.lays125_ren : Go.Shelf.Ren := ⟨fun | 125 => 70 | 128 => 93 | 129 => 94 | n => n, fun | 46 => 122 | 3 => 3 | 51 => 143 | 53 => 145 | 4 => 4 | 5 => 5 | 9 => 9 | n => n, fun | n => n⟩
theorem Try.lays125 : Go.Proofs.Lays.n125 Try.prog Try.lays125_ren := {
  mixed := by kernel_rfl
  f125 := Try.func70.trans (congrArg some (by kernel_rfl))
  f128 := Try.func93.trans (congrArg some (by kernel_rfl))
  f129 := Try.func94.trans (congrArg some (by kernel_rfl))
  t3 := Try.underlying3
  a3 := Try.isAgg3
  z3 := Try.sizeOf3
  v3 := Try.zeroValue3
  t4 := Try.underlying4
  a4 := Try.isAgg4
  z4 := Try.sizeOf4
  v4 := Try.zeroValue4
  t5 := Try.underlying5
  a5 := Try.isAgg5
  z5 := Try.sizeOf5
  v5 := Try.zeroValue5
  t9 := Try.underlying9
  a9 := Try.isAgg9
  z9 := Try.sizeOf9
  v9 := Try.zeroValue9
  t46 := Try.underlying122
  a46 := Try.isAgg122
  z46 := Try.sizeOf122
  v46 := Try.zeroValue122
  t51 := Try.underlying143
  a51 := Try.isAgg143
  z51 := Try.sizeOf143
  v51 := Try.zeroValue143
  t53 := Try.underlying145
  a53 := Try.isAgg145
  z53 := Try.sizeOf145
  v53 := Try.zeroValue145 }
/-- bits.Len: "Len returns the minimum number of bits required to represent x; the result is 0 for x == 0.": IT RETURNS 'Lib.bitLen x'; the world is as it was. (A uint has 64 bits in the model.) ITS CALLEE bits.Len64 IS MET BY ITS OWN CONTRACT OFF THE SHELF (lay that first). (LAID: no walk: one application.) -/
theorem Try.bits_Len (x : Int) (w : World) (h0 : 0 ≤ x) (h1 : x ≤ 18446744073709551615) :
    Calls Try.prog 70 #[.int .u64 x] w fun e w' => e = .returned (.int .i64 (Lib.bitLen x.toNat)) ∧ w' = w := Any.bits_Len Try.lays125 x w h0 h1
def Try.lays129_ren : Go.Shelf.Ren := ⟨fun | 129 => 94 | n => n, fun | 53 => 145 | 3 => 3 | 4 => 4 | 46 => 122 | 5 => 5 | 9 => 9 | n => n, fun | n => n⟩
theorem Try.lays129 : Go.Proofs.Lays.n129 Try.prog Try.lays129_ren := {
  mixed := by kernel_rfl
  f129 := Try.func94.trans (congrArg some (by kernel_rfl))
  t3 := Try.underlying3
  a3 := Try.isAgg3
  z3 := Try.sizeOf3
  v3 := Try.zeroValue3
  t4 := Try.underlying4
  a4 := Try.isAgg4
  z4 := Try.sizeOf4
  v4 := Try.zeroValue4
  t5 := Try.underlying5
  a5 := Try.isAgg5
  z5 := Try.sizeOf5
  v5 := Try.zeroValue5
  t9 := Try.underlying9
  a9 := Try.isAgg9
  z9 := Try.sizeOf9
  v9 := Try.zeroValue9
  t46 := Try.underlying122
  a46 := Try.isAgg122
  z46 := Try.sizeOf122
  v46 := Try.zeroValue122
  t53 := Try.underlying145
  a53 := Try.isAgg145
  z53 := Try.sizeOf145
  v53 := Try.zeroValue145 }
/-- bits.Len64: "Len64 returns the minimum number of bits required to represent x; the result is 0 for x == 0.": IT RETURNS 'Lib.bitLen x'; the world is as it was. ('h0', 'h1': x is a uint64.) (LAID: no walk: one application.) -/
theorem Try.bits_Len64 (x : Int) (w : World) (h0 : 0 ≤ x) (h1 : x ≤ 18446744073709551615) :
    Calls Try.prog 94 #[.int .u64 x] w fun e w' => e = .returned (.int .i64 (Lib.bitLen x.toNat)) ∧ w' = w := Any.bits_Len64 Try.lays129 x w h0 h1
def Try.lays189_ren : Go.Shelf.Ren := ⟨fun | 189 => 43 | 125 => 70 | 257 => 69 | 128 => 93 | 129 => 94 | 294 => 84 | 295 => 85 | 296 => 86 | 297 => 87 | 298 => 88 | 299 => 89 | 216 => 90 | 300 => 91 | 301 => 92 | 328 => 102 | 329 => 103 | 330 => 104 | 331 => 105 | 332 => 106 | 215 => 107 | 343 => 112 | n => n, fun | 28 => 25 | 3 => 3 | 46 => 122 | 0 => 0 | 51 => 143 | 53 => 145 | 4 => 4 | 183 => 135 | 182 => 134 | 131 => 140 | 5 => 5 | 9 => 9 | 218 => 150 | 222 => 154 | 228 => 158 | 229 => 159 | n => n, fun | n => n⟩
theorem Try.lays189 : Go.Proofs.Lays.n189 Try.prog Try.lays189_ren := {
  mixed := by kernel_rfl
  f125 := Try.func70.trans (congrArg some (by kernel_rfl))
  f128 := Try.func93.trans (congrArg some (by kernel_rfl))
  f129 := Try.func94.trans (congrArg some (by kernel_rfl))
  f189 := Try.func43.trans (congrArg some (by kernel_rfl))
  f215 := Try.func107.trans (congrArg some (by kernel_rfl))
  f216 := Try.func90.trans (congrArg some (by kernel_rfl))
  f257 := Try.func69.trans (congrArg some (by kernel_rfl))
  f294 := Try.func84.trans (congrArg some (by kernel_rfl))
  f295 := Try.func85.trans (congrArg some (by kernel_rfl))
  f296 := Try.func86.trans (congrArg some (by kernel_rfl))
  f297 := Try.func87.trans (congrArg some (by kernel_rfl))
  f298 := Try.func88.trans (congrArg some (by kernel_rfl))
  f299 := Try.func89.trans (congrArg some (by kernel_rfl))
  f300 := Try.func91.trans (congrArg some (by kernel_rfl))
  f301 := Try.func92.trans (congrArg some (by kernel_rfl))
  f328 := Try.func102.trans (congrArg some (by kernel_rfl))
  f329 := Try.func103.trans (congrArg some (by kernel_rfl))
  f330 := Try.func104.trans (congrArg some (by kernel_rfl))
  f331 := Try.func105.trans (congrArg some (by kernel_rfl))
  f332 := Try.func106.trans (congrArg some (by kernel_rfl))
  f343 := Try.func112.trans (congrArg some (by kernel_rfl))
  t0 := Try.underlying0
  a0 := Try.isAgg0
  z0 := Try.sizeOf0
  v0 := Try.zeroValue0
  t3 := Try.underlying3
  a3 := Try.isAgg3
  z3 := Try.sizeOf3
  v3 := Try.zeroValue3
  t4 := Try.underlying4
  a4 := Try.isAgg4
  z4 := Try.sizeOf4
  v4 := Try.zeroValue4
  t5 := Try.underlying5
  a5 := Try.isAgg5
  z5 := Try.sizeOf5
  v5 := Try.zeroValue5
  t9 := Try.underlying9
  a9 := Try.isAgg9
  z9 := Try.sizeOf9
  v9 := Try.zeroValue9
  t28 := Try.underlying25
  a28 := Try.isAgg25
  z28 := Try.sizeOf25
  v28 := Try.zeroValue25
  t46 := Try.underlying122
  a46 := Try.isAgg122
  z46 := Try.sizeOf122
  v46 := Try.zeroValue122
  t51 := Try.underlying143
  a51 := Try.isAgg143
  z51 := Try.sizeOf143
  v51 := Try.zeroValue143
  t53 := Try.underlying145
  a53 := Try.isAgg145
  z53 := Try.sizeOf145
  v53 := Try.zeroValue145
  t131 := Try.underlying140
  a131 := Try.isAgg140
  z131 := Try.sizeOf140
  v131 := Try.zeroValue140
  t182 := Try.underlying134
  a182 := Try.isAgg134
  z182 := Try.sizeOf134
  v182 := Try.zeroValue134
  t183 := Try.underlying135
  a183 := Try.isAgg135
  z183 := Try.sizeOf135
  v183 := Try.zeroValue135
  t218 := Try.underlying150
  a218 := Try.isAgg150
  z218 := Try.sizeOf150
  v218 := Try.zeroValue150
  t222 := Try.underlying154
  a222 := Try.isAgg154
  z222 := Try.sizeOf154
  v222 := Try.zeroValue154
  t228 := Try.underlying158
  a228 := Try.isAgg158
  z228 := Try.sizeOf158
  v228 := Try.zeroValue158
  t229 := Try.underlying159
  a229 := Try.isAgg159
  z229 := Try.sizeOf159
  v229 := Try.zeroValue159 }
open Go.Sort Go.RowKit in
theorem Try.slices_Sort_int (blk off cap : Nat) (zs : List Int) (w : World) (hH : Holds (Value.int .i64) w blk off zs.toArray) (hblk : blk < w.heap.size) (hsz : zs.length < 4611686018427387904) :
    Calls Try.prog 43 #[.slice (some ⟨blk, off, none⟩) zs.length cap] w fun e w' =>
      e = .returned (.tuple #[]) ∧ ∃ n os, w' = grow (putRow (Value.int .i64) (Sort.ahead w n) blk off (zs.mergeSort fun x y => decide (x ≤ y)).toArray) os := Any.slices_Sort_int Try.lays189 blk off cap zs w hH hblk hsz
def Try.laysNm237_ren : Go.Shelf.Ren := ⟨fun | 37 => 107 | n => n, fun | 3 => 3 | 4 => 4 | n => n, fun | n => n⟩
theorem Try.laysNm237 : Go.Proofs.Lays2.n37 Try.prog Try.laysNm237_ren := {
  mixed := by kernel_rfl
  f37 := Try.func107.trans (congrArg some (by kernel_rfl))
  t3 := Try.underlying3
  a3 := Try.isAgg3
  z3 := Try.sizeOf3
  v3 := Try.zeroValue3
  t4 := Try.underlying4
  a4 := Try.isAgg4
  z4 := Try.sizeOf4
  v4 := Try.zeroValue4 }
open Go.RowKit Go.Lib in
/-- cmp.isNaN[int]: 'x != x': false. (LAID: no walk: one application.) -/
theorem Try.cmp_isNaN_int2 (x : Int) (w : World) :
    Calls Try.prog 107 #[.int .i64 x] w fun e w' => e = .returned (.bool false) ∧ w' = w := Any.cmp_isNaN_int2 Try.laysNm237 x w
def Try.laysNm231_ren : Go.Shelf.Ren := ⟨fun | 31 => 90 | 37 => 107 | n => n, fun | 3 => 3 | 4 => 4 | n => n, fun | n => n⟩
theorem Try.laysNm231 : Go.Proofs.Lays2.n31 Try.prog Try.laysNm231_ren := {
  mixed := by kernel_rfl
  f31 := Try.func90.trans (congrArg some (by kernel_rfl))
  f37 := Try.func107.trans (congrArg some (by kernel_rfl))
  t3 := Try.underlying3
  a3 := Try.isAgg3
  z3 := Try.sizeOf3
  v3 := Try.zeroValue3
  t4 := Try.underlying4
  a4 := Try.isAgg4
  z4 := Try.sizeOf4
  v4 := Try.zeroValue4 }
open Go.RowKit Go.Lib in
/-- cmp.Less[int]: "Less reports whether x is less than y.": 'x < y'; the world is as it was. (LAID: no walk: one application.) -/
theorem Try.cmp_Less_int2 (x y : Int) (w : World) :
    Calls Try.prog 90 #[.int .i64 x, .int .i64 y] w fun e w' => e = .returned (.bool (decide (x < y))) ∧ w' = w := Any.cmp_Less_int2 Try.laysNm231 x y w
open Go.RowKit Go.Sort in
/-- .. and plain. (LAID: no walk: one application.) -/
theorem Try.slices_Sort_int_none (p : Option Addr) (cap : Nat) (w : World) :
    Calls Try.prog 43 #[.slice p 0 cap] w fun e w' => e = .returned (.tuple #[]) ∧ w' = w := Any.slices_Sort_int_none Try.lays189 p cap w
end Go.Proofs
/- slices.Sort at []int over a row of the call's own. -/
namespace Go.Proofs.Ytfkphdmnelchmaa
open Go.RowKit Go.Sort

theorem Keeps.setCells {F : Nat → Prop} {b : Nat} : ∀ (vs : List Value) (o : Nat) {a w : World}, Keeps F a w → (b < a.heap.size → F b) → Keeps F a (w.setCells b o vs)
  | [], _, _, _, h, _ => h
  | v :: vs, o, _, _, h, hb => Keeps.setCells vs (o + 1) (h.setCell (p := ⟨b, o, none⟩) hb v) hb
theorem Keeps.grow {F : Nat → Prop} {a w : World} (h : Keeps F a w) (os : Array Obj) : Keeps F a (grow w os) :=
  ⟨h.os, h.tape, h.output, by have := h.size; simp; omega, fun k hk hF => by rw [Go.Sort.heap_grow_old w os (by have := h.size; omega)]; exact h.block k hk hF⟩
set_option maxHeartbeats 400000 in
theorem sort_own (B : Nat) (v : Value) (xs : List Int) (w : World) (h : Owns tInt w B 3 v xs) (hl : xs.length ≤ 1000000) (hB : B ≤ w.heap.size) :
    Calls Try.prog 43 #[v] w fun e w' => e = .returned (.tuple #[]) ∧ (tSlice tInt).rv (mem w') [v] (xs.mergeSort fun x y => decide (x ≤ y)) ∧ Below B w w' := by
  have hrv := h.rv'
  have hin : ∀ k (hk : k < xs.length), inI64 xs[k] := fun k hk => by
    obtain ⟨a, c, rfl, _, _, hv⟩ := slice_form hrv
    obtain ⟨b, o, _, hat⟩ := slice_at hv hk
    exact (int_at hat).2
  obtain ⟨css, _, ⟨_, h3⟩, _, _⟩ := h
  rcases h3 with ⟨rfl, h6⟩ | ⟨g, cap, cur, rfl, hg, hh, hn, hm, hc, ht⟩
  · obtain rfl : xs = [] := List.eq_nil_of_length_eq_zero h6
    exact (Try.slices_Sort_int_none none 0 w).mono fun e w' ⟨he, hw⟩ => ⟨he, by rw [hw]; simpa using slice_nil tInt _, by rw [hw]; exact Below.refl _ _⟩
  · have hH : Holds (Value.int .i64) w g 0 xs.toArray := fun j hj => by
      have hj' : j < xs.length := by simpa using hj
      obtain ⟨b, o, e, hat⟩ := slice_at hrv hj'
      simp only [Option.some.injEq, Addr.mk.injEq] at e
      obtain ⟨rfl, rfl, _⟩ := e
      refine ⟨?_, frozen_cells hh _⟩
      have := (int_at hat).1
      simpa [tInt, mem, hj'] using this
    refine (Try.slices_Sort_int g 0 cap xs w hH (Array.getElem?_eq_some_iff.1 hh).1 (by omega)).mono ?_
    rintro e w' ⟨he, q, os, hw⟩
    rw [Lib.sorted_world (Value.int .i64) w g 0 q _ _ os hH (by simp)] at hw
    have hlen : (xs.mergeSort fun x y => decide (x ≤ y)).length = xs.length := by simp
    have hmem : ∀ y ∈ (xs.mergeSort fun x y => decide (x ≤ y)), inI64 y := fun y hy => by
      have := (List.mergeSort_perm xs _).mem_iff.1 hy
      obtain ⟨k, hk, rfl⟩ := List.mem_iff_getElem.1 this
      exact hin k hk
    generalize (xs.mergeSort fun x y => decide (x ≤ y)) = ys at hw hlen hmem ⊢
    have hsz : g < ((w.drewN q).setCells g 0 (ys.map (Value.int .i64))).heap.size := Nat.lt_of_lt_of_le (Array.getElem?_eq_some_iff.1 hh).1 (Keeps.setCells (F := fun _ => True) _ _ ((Keeps.refl _ w).drewN q) (fun _ => trivial)).size
    refine ⟨he, ?_, ?_⟩
    · refine ⟨some ⟨g, 0, none⟩, cap, by rw [hlen], by omega, hm, fun _ => ⟨g, 0, rfl, fun k hk => ⟨[.int .i64 ys[k]], fun j u hu => ?_, rfl, hmem _ (List.getElem_mem hk)⟩⟩⟩
      match j, hu with
      | 0, hu =>
        simp at hu; subst hu
        rw [hw]
        show World.cell? _ ⟨g, 0 + k * 1 + 0, none⟩ = _
        rw [cell?_grow _ os _ hsz, show 0 + k * 1 + 0 = 0 + k by omega, World.cell?_setCells_in g _ 0 (w.drewN q) (fun t ht' => by
          have ht2 : t < xs.length := by simpa [hlen] using ht'
          have := (hH t (by simpa using ht2)).1
          show (w.cell? ⟨g, 0 + t, none⟩).isSome = true
          rw [this]; rfl) k (by simpa using hk)]
        simp [hk]
    · rw [hw]
      exact (Keeps.grow (Keeps.setCells (F := fun k => k = g) _ _ ((Keeps.refl _ w).drewN q) (fun _ => rfl)) os).below hB (fun k hk => by omega)
end Go.Proofs.Ytfkphdmnelchmaa
/-
  DERIVED: THE SHELF's CONTRACTS AT THIS DUMP, IN PLAIN WORDS (tools/lay-plain.mjs out of 'TryShelf.lean', which tools/lay-shelf.mjs wrote): THE SAME DECLARATIONS UNDER THE SAME NAMES: 'import', 'namespace', 'open', 'def', 'theorem' AND NOTHING ELSE: no command of the shelf's: FOR A HAND-IN. Each laying: the table of numbers ('.._ren') and one theorem, a field a fact of the dump's own or the kernel's comparison; each contract: ONE APPLICATION.
-/
namespace Go.Proofs
open Go.Shelf
def Try.keys59_ren : Go.Shelf.Ren := ⟨fun | 7 => 59 | 10 => 76 | n => n, fun | 23 => 82 | 26 => 3 | 3 => 89 | 28 => 110 | 0 => 0 | 27 => 109 | 33 => 129 | 4 => 4 | n => n, fun | n => n⟩
theorem Try.keys59 : Go.Proofs.SlLaysZI.n7 Try.prog Try.keys59_ren := {
  mixed := by kernel_rfl
  f7 := ⟨Try.f59.name, by decide, Try.func59.trans (congrArg some (by kernel_rfl))⟩
  f10 := ⟨Try.f76.name, by decide, Try.func76.trans (congrArg some (by kernel_rfl))⟩
  t0 := Try.underlying0
  a0 := Try.isAgg0
  z0 := Try.sizeOf0
  v0 := Try.zeroValue0
  t4 := Try.underlying4
  a4 := Try.isAgg4
  z4 := Try.sizeOf4
  v4 := Try.zeroValue4
  t23 := Try.underlying82
  a23 := Try.isAgg82
  z23 := Try.sizeOf82
  v23 := Try.zeroValue82
  t26 := Try.underlying3
  a26 := Try.isAgg3
  z26 := Try.sizeOf3
  v26 := Try.zeroValue3
  t27 := Try.underlying109
  a27 := Try.isAgg109
  z27 := Try.sizeOf109
  v27 := Try.zeroValue109
  t28 := Try.underlying110
  a28 := Try.isAgg110
  z28 := Try.sizeOf110
  v28 := Try.zeroValue110
  t33 := Try.underlying129
  a33 := Try.isAgg129
  z33 := Try.sizeOf129
  v33 := Try.zeroValue129 }
def Try.sorted58_ren : Go.Shelf.Ren := ⟨fun | 6 => 58 | 8 => 75 | 9 => 43 | 11 => 96 | 13 => 70 | 12 => 69 | 23 => 93 | 24 => 94 | 14 => 84 | 15 => 85 | 16 => 86 | 17 => 87 | 18 => 88 | 19 => 89 | 20 => 90 | 21 => 91 | 22 => 92 | 25 => 102 | 26 => 103 | 27 => 104 | 28 => 105 | 29 => 106 | 30 => 107 | 31 => 112 | n => n, fun | 26 => 3 | 28 => 110 | 24 => 25 | 0 => 0 | 3 => 3 | 37 => 122 | 48 => 143 | 50 => 145 | 4 => 4 | 40 => 135 | 39 => 134 | 45 => 140 | 5 => 5 | 9 => 9 | 51 => 150 | 55 => 154 | 57 => 158 | 58 => 159 | 33 => 129 | n => n, fun | n => n⟩
theorem Try.sorted58 : Go.Proofs.SlLaysZI.n6 Try.prog Try.sorted58_ren := {
  mixed := by kernel_rfl
  f6 := ⟨Try.f58.name, by decide, Try.func58.trans (congrArg some (by kernel_rfl))⟩
  f8 := ⟨Try.f75.name, by decide, Try.func75.trans (congrArg some (by kernel_rfl))⟩
  f11 := ⟨Try.f96.name, by decide, Try.func96.trans (congrArg some (by kernel_rfl))⟩
  t0 := Try.underlying0
  a0 := Try.isAgg0
  z0 := Try.sizeOf0
  v0 := Try.zeroValue0
  t24 := Try.underlying25
  a24 := Try.isAgg25
  z24 := Try.sizeOf25
  v24 := Try.zeroValue25
  t26 := Try.underlying3
  a26 := Try.isAgg3
  z26 := Try.sizeOf3
  v26 := Try.zeroValue3
  t28 := Try.underlying110
  a28 := Try.isAgg110
  z28 := Try.sizeOf110
  v28 := Try.zeroValue110
  i26 := by kernel_rfl }
end Go.Proofs
/- Sorted keys of a map from numbers to packets; Way. -/
namespace Go.Proofs.Ytfkphdmnelchmaa
open Go.RowKit Go.Maps Go.Sort Go.Shelf

/-- The keys, in order. -/
structure SortedKeys (f : Int → Option Nat) (ss : List Int) : Prop where
  mem : ∀ k, k ∈ ss ↔ (f k).isSome = true
  nd : ss.Nodup
  ord : ss.Pairwise (· ≤ ·)
theorem SortedKeys.unique {f : Int → Option Nat} {ss ss' : List Int} (h : SortedKeys f ss) (h' : SortedKeys f ss') : ss = ss' :=
  List.Perm.eq_of_pairwise (fun a b _ _ h1 h2 => Int.le_antisymm h1 h2) h.ord h'.ord ((List.perm_ext_iff_of_nodup h.nd h'.nd).2 fun k => (h.mem k).trans (h'.mem k).symm)

theorem PMap.keys {W : World} {b n : Nat} {f : Int → Option Nat} (h : PMap W b n f) : ∃ D, W.ownsMap Try.prog 3 rawE b n D ∧ Maps.size D ≤ n ∧ (∀ k, k ∈ intKeys D ↔ (f k).isSome = true) ∧ (intKeys D).Nodup ∧ ∀ k ∈ intKeys D, inI64 k := by
  obtain ⟨D, hown, h1, h2, h3⟩ := h
  obtain ⟨es, hD, hpw⟩ := hown.tidy keyK
  have hwf := intKeys_wf hown Try.underlying3
  have hko : ∀ p ∈ es, ∃ x, p.1 = .int .i64 x := fun p hp => by
    obtain ⟨es', hD', hko⟩ := hown.keysOf
    obtain rfl : es = es' := by rw [hD] at hD'; simpa using hD'
    obtain ⟨v, hv⟩ := hko p hp
    obtain ⟨x, _, hx, _⟩ := Maps.keyOf_i64 Try.underlying3 hv
    exact ⟨x, hx⟩
  refine ⟨D, hown, hown.size_le, fun k => ?_, ?_, fun k hk => ?_⟩
  · have hh : Maps.has D (intKey k) = true ↔ k ∈ intKeys D := by
      subst hD
      rw [has_eq, List.any_eq_true]
      show _ ↔ k ∈ es.map fun p => Go.intOf p.1
      rw [List.mem_map]
      constructor
      · rintro ⟨p, hp', hs⟩
        obtain ⟨a, ha⟩ := hko p hp'
        rw [ha] at hs
        exact ⟨p, hp', by rw [ha]; simpa [Lit.sameKey, Go.intOf, intKey] using hs⟩
      · rintro ⟨p, hp', rfl⟩
        obtain ⟨a, ha⟩ := hko p hp'
        exact ⟨p, hp', by rw [ha]; simp [Lit.sameKey, Go.intOf, intKey]⟩
    rw [← hh]
    cases hf : f k with
    | none => rw [h1 k hf]; simp
    | some a => rw [(h2 k a hf).1]; simp
  · subst hD
    show (es.map fun p => Go.intOf p.1).Nodup
    refine List.pairwise_map.2 (hpw.imp_of_mem fun {p q} hp' hq' hne e => hne ?_)
    obtain ⟨a, ha⟩ := hko p hp'
    obtain ⟨b, hb⟩ := hko q hq'
    rw [ha, hb] at e ⊢
    exact congrArg _ e
  · have := hwf k hk
    unfold inI64
    simpa [Lit.wf, IntKind.min, IntKind.max, IntKind.signed, IntKind.bits] using this

theorem sorts20 (m : Nat) : AnyZI.SortsIn Try.prog Try.sorted58_ren Fence.wide m :=
  ⟨fun blk off cap ss W hH hblk hsz => callsIn_wide.2 (Try.slices_Sort_int blk off cap ss W hH hblk hsz),
   fun p cap W => callsIn_wide.2 (Try.slices_Sort_int_none p cap W)⟩
theorem keys_any (mb : Option Nat) (W : World) : Calls Try.prog 59 #[.map mb] W fun e w' => e = .returned (.func (.func 76) #[] #[.pointer (some ⟨W.heap.size, 0, none⟩)]) ∧ w' = W.alloc (.cells #[.map mb] 82) :=
  (callsIn_wide (n := 5)).1 (AnyZI.keys_in Try.keys59 Fence.wide 5 trivial rfl mb W)
set_option maxHeartbeats 1000000 in
theorem sortedKeys_any (b n : Nat) (f : Int → Option Nat) (w : World) (h : PMap w b n f) (hn : n ≤ 1000000000) :
    Calls Try.prog 58 #[.func (.func 76) #[] #[.pointer (some ⟨w.heap.size, 0, none⟩)]] (w.alloc (.cells #[.map (some b)] 82)) fun e w' => ∃ v ss, e = .returned v ∧ (tSlice tInt).rv ((mem w').on (w.heap.size ≤ ·)) [v] ss ∧ SortedKeys f ss ∧ ss.length ≤ n ∧ Below w.heap.size w w' := by
  obtain ⟨D0, hown, hsz, hmem, hnd, hin⟩ := h.keys
  have hbl := hown.lt
  have hseq : SeqGives Fence.wide 2 Try.prog 76 #[.pointer (some ⟨w.heap.size, 0, none⟩)] encZ (fun ss => ss.Perm (intKeys D0)) (Maps.size D0) (w.alloc (.cells #[.map (some b)] 82)) :=
    AnyZI.keys_gives (ρ := Try.keys59_ren) { Try.keys59 with } Fence.wide _ trivial rfl (by omega) w.heap.size b n D0 _ (by simp) (by simp) (by
      obtain ⟨es, clock, hb, Ft, hs, hD⟩ := hown
      exact ⟨es, clock, (Below.heap_alloc _ _ b hbl).trans hb, Ft, hs, hD⟩)
  have cS := AnyZI.sorted_in Try.sorted58 Fence.wide 5 trivial trivial trivial trivial rfl (by omega) (sorts20 _) (enters_of Try.func43 (by kernel_rfl) rfl) 76 #[.pointer (some ⟨w.heap.size, 0, none⟩)] trivial (enters_of Try.func76 (by kernel_rfl) rfl) _ _ (by unfold maxLen; omega) (by omega) _ hseq
  change CallsIn _ _ Try.prog 58 _ _ _ at cS
  refine ((callsIn_wide (n := 5)).1 cS).mono ?_
  rintro e w' ⟨v, ss, rfl, hS, hrow, _, hb⟩
  have hlen : ss.length ≤ n := by
    have h1 := hS.length_eq
    have h2 : (intKeys D0).length = Maps.size D0 := by cases D0 <;> simp [intKeys, Maps.size]
    omega
  have hperm : (ss.mergeSort (fun x y => decide (x ≤ y))).Perm (intKeys D0) := (List.mergeSort_perm _ _).trans hS
  have hord := (InOrder.sort ss).2
  have hl2 : (ss.mergeSort (fun x y => decide (x ≤ y))).length = ss.length := by simp
  rw [← hl2] at hlen hrow
  generalize (ss.mergeSort (fun x y => decide (x ≤ y))) = qs at hperm hord hrow hlen
  have hO : Owns tInt w' (w.alloc (.cells #[.map (some b)] 82)).heap.size 3 v qs := by
    refine ⟨qs.map fun x => [.int .i64 x], by simp, ?_, fun c hc => ?_, fun k h h' => ?_⟩
    · have e : (qs.map fun x => [Value.int .i64 x]).flatten = qs.map encZ := by
        clear hperm hord hrow hlen
        induction qs with
        | nil => rfl
        | cons x l ih => simp [ih]
      rw [e]; exact hrow
    · obtain ⟨x, _, rfl⟩ := List.mem_map.1 hc; rfl
    · simp only [List.getElem_map]
      exact ⟨rfl, hin _ (hperm.mem_iff.1 (List.getElem_mem h'))⟩
  exact ⟨v, qs, rfl, hO.rv (fun k hk => by simp at hk; omega) (fun _ _ _ hk => hk), ⟨fun k => (hperm.mem_iff).trans (hmem k), hperm.nodup_iff.2 hnd, hord⟩, hlen, ((Below.refl _ w).alloc (Nat.le_refl _) _).trans (hb.mono (by simp))⟩

set_option maxHeartbeats 1000000 in
theorem way_any (base b : Nat) (L : WL) (r : Raw) (W : World) (hI : WireInv W base b L r) (hn : L.nw ≤ 1000000000) :
    Calls Try.prog 38 #[.pointer (some ⟨b, 0, none⟩)] W fun e W' => ∃ v ss, e = .returned v ∧ (tSlice tInt).rv ((mem W').on (W.heap.size ≤ ·)) [v] ss ∧ SortedKeys r.way ss ∧ ss.length ≤ L.nw ∧ Below W.heap.size W W' := by
  have c8 : W.cell? ⟨b, 8, none⟩ = some (.map (some L.wm)) := hI.cell 8
  have HK := Lib.hid (keys_any (some L.wm) W)
  have HS := Lib.hid (sortedKeys_any L.wm L.nw r.way W hI.wm hn)
  clear hI
  go_enter Try.func38, Try.ntmps38
  go_wp2_with fail
  refine HK.out.mono ?_
  rintro e w' ⟨rfl, rfl⟩
  go_wp2_with fail
  refine HS.out.mono ?_
  rintro e w' ⟨v, ss, rfl, hr, hk, hl, hb⟩
  have HE := Lib.hid (And.intro hr (And.intro hk (And.intro hl hb)))
  clear hr hk hl hb
  go_wp2
  go_ret
  exact ⟨v, ss, rfl, HE.out.1, HE.out.2.1, HE.out.2.2.1, HE.out.2.2.2⟩
end Go.Proofs.Ytfkphdmnelchmaa
/- maps.Clone and maps.Copy at maps from numbers to packets. -/
namespace Go.Proofs.Ytfkphdmnelchmaa
open Go.RowKit Go.Maps Go.Shelf

def mergeF {α : Type} (f g : Int → Option α) (k : Int) : Option α := match g k with
  | some a => some a
  | none => f k
section
variable {H : Type} {Kd : Lit → Prop} {Dd Ds : DataW H}
theorem has_merge (O : OneKind Kd) (hm : IsMap Dd) (cs : CanonK Kd Ds) (k : Lit) : has (Lib.mergeD Dd Ds) k = (has Dd k || has Ds k) := by
  obtain ⟨ess, rfl, rs, ks⟩ := cs
  have klit : ∀ p ∈ ess, WideAt.IsKeyLit p.1 := fun p hp => O.key (ks p hp)
  show has (ess.foldl (fun D p => D.put p.1 p.2) Dd) k = _
  rw [has_foldPut k ess Dd hm klit, has_eq]
theorem atKey_merge (O : OneKind Kd) (hm : IsMap Dd) (cs : CanonK Kd Ds) (k : Lit) (z : DataW H) : (Lib.mergeD Dd Ds).atKey k z = if has Ds k = true then Ds.atKey k z else Dd.atKey k z := by
  obtain ⟨ess, rfl, rs, ks⟩ := cs
  have klit : ∀ p ∈ ess, WideAt.IsKeyLit p.1 := fun p hp => O.key (ks p hp)
  show (ess.foldl (fun D p => D.put p.1 p.2) Dd).atKey k z = _
  rw [atKey_foldPut k z ess Dd hm klit (apart_of_rising rs)]
  cases hf : ess.find? (fun p => p.1.sameKey k) with
  | none =>
    have h0 : has (.map ess) k = false := by
      rw [has_eq]
      exact List.any_eq_false.2 (fun p hp => by simpa using List.find?_eq_none.1 hf p hp)
    simp [h0]
  | some p =>
    have h1 : has (.map ess) k = true := by
      rw [has_eq]
      exact List.any_eq_true.2 ⟨p, List.mem_of_find?_eq_some hf, List.find?_some (p := fun (q : Lit × DataW H) => q.1.sameKey k) hf⟩
    have h2 : (DataW.map ess).atKey k z = p.2 := by
      show (match ess.find? (fun p => p.1.sameKey k) with | some p => p.2 | none => z) = p.2
      rw [hf]
    simp [h1, h2]
end
section
variable {W : World}
theorem PMap.clone {b n : Nat} {f : Int → Option Nat} (h : PMap W b n f) : Calls Try.prog 56 #[.map (some b)] W fun e W' => e = .returned (.map (some W.heap.size)) ∧ PMap W' W.heap.size n f ∧ Below W.heap.size W W' := by
  obtain ⟨D, hown, hs⟩ := h
  have hcon := AnyW.maps_Clone_owns Try.clone56 3 rawE b n D W hown
  change Calls Try.prog 56 _ _ _ at hcon
  exact hcon.mono fun e W' ⟨he, h1, _, hb⟩ => ⟨he, ⟨D, h1, hs.mono (below_mem hb)⟩, hb⟩
theorem PMap.copy {bd nd bs ns : Nat} {f g : Int → Option Nat} (hd : PMap W bd nd f) (hs : PMap W bs ns g) (hne : bd ≠ bs) (hroom : nd + ns ≤ maxLen) : Calls Try.prog 57 #[.map (some bd), .map (some bs)] W fun e W' => e = .returned (.tuple #[]) ∧ PMap W' bd (nd + ns) (mergeF f g) ∧ W.grownBy W' (some bd) := by
  obtain ⟨Dd, hd, d1, d2, d3⟩ := hd
  obtain ⟨Ds, hs, s1, s2, s3⟩ := hs
  have hsz := hs.size_le
  have hcon := AnyX.maps_Copy Try.copy57 keyK rawE bd bs nd ns Dd Ds W hd hs hne (by omega)
  change Calls Try.prog 57 _ _ _ at hcon
  have hm := hd.isMap
  have hc := hs.canonK keyK
  have hO := (keyK).one
  refine hcon.mono fun e W' ⟨he, h1, _, hg⟩ => ⟨he, ⟨_, h1.mono (by omega), fun x hx => ?_, fun x a hx => ?_, fun l hl => ?_⟩, hg⟩
  · rw [has_merge hO hm hc]
    unfold mergeF at hx
    cases hgx : g x with
    | some a => rw [hgx] at hx; cases hx
    | none => rw [hgx] at hx; rw [d1 x hx, s1 x hgx]; rfl
  · unfold mergeF at hx
    cases hgx : g x with
    | some a' =>
      rw [hgx] at hx
      obtain rfl : a' = a := by simpa using hx
      obtain ⟨g1, v, g2, g3⟩ := s2 x a' hgx
      exact ⟨by rw [has_merge hO hm hc, g1]; simp, v, fun z => by rw [atKey_merge hO hm hc, if_pos g1]; exact g2 z, g3⟩
    | none =>
      rw [hgx] at hx
      obtain ⟨g1, v, g2, g3⟩ := d2 x a hx
      exact ⟨by rw [has_merge hO hm hc, g1]; simp, v, fun z => by rw [atKey_merge hO hm hc, s1 x hgx]; exact g2 z, g3⟩
  · rw [has_merge hO hm hc] at hl
    rcases Bool.or_eq_true_iff.1 hl with h | h
    · exact d3 l h
    · exact s3 l h
end

/-- The elements of the packet that lies at a. -/
def elsOf (a : Nat) (pt : List PT) : List El := ((pt.find? fun p => p.ad == a).map (·.els)).getD []
theorem elsOf_mem {p : PT} {pt : List PT} (hn : (pt.map (·.ad)).Nodup) (hp : p ∈ pt) : elsOf p.ad pt = p.els := by
  unfold elsOf
  cases h : pt.find? fun q => q.ad == p.ad with
  | none => have := List.find?_eq_none.1 h p hp; simp at this
  | some q =>
    have h1 := List.mem_of_find?_eq_some h
    have h2 := List.find?_some h
    rw [map_nodup_inj hn h1 hp (by simpa using h2)]; rfl
def elsAt (r : Raw) (k : Int) : List El := match mergeF r.way r.early k with
  | some a => elsOf a r.pt
  | none => []
/-- What Contents tells. -/
def contR (r : Raw) (ss : List Int) : List El := r.buffer.map (·.el) ++ ss.flatMap (elsAt r) ++ r.queue
end Go.Proofs.Ytfkphdmnelchmaa
/- Rows of elements that a call makes anew. -/
namespace Go.Proofs.Ytfkphdmnelchmaa
open Go.RowKit Go.Maps

/-- What has been made since W, but for the row's own block. -/
noncomputable def colM (W w : World) (v : Value) : Mem := (mem w).on (fun k => W.heap.size ≤ k ∧ v.ownBlock ≠ some k)
structure Col (W w : World) (v : Value) (outs : List El) : Prop where
  own : OwnsO (tIn (colM W w v) tEl) w 42 v outs
  ge : ∀ k, v.ownBlock = some k → W.heap.size ≤ k
  bel : Below W.heap.size W w
section
variable {W w w' : World} {v v' : Value} {outs : List El}
theorem colM_mem : (colM W w v).le (mem w) := Mem.on_le _ _
theorem Col.start (W : World) : Col W W (.slice none 0 0) [] := ⟨OwnsO.nil _ _ _, fun k e => (by cases e), Below.refl _ _⟩
theorem colM_pure (hb : Below w.heap.size w w') : (colM W w v).le (colM W w' v) := fun i o x e => by
  obtain ⟨hs, e⟩ := Mem.of_on e
  exact Mem.on_some ((mem_of_block (hb.block i (mem_lt e)) o).trans e) hs
theorem Col.pure (h : Col W w v outs) (hb : Below w.heap.size w w') : Col W w' v outs :=
  ⟨(h.own.keeps (fun k e => hb.block k (h.own.lt k e))).re (colM_pure hb), h.ge, h.bel.trans (hb.mono h.bel.size)⟩
theorem colM_new (h : Col W w v outs) (hb : Below w.heap.size w w') : ((mem w').on (w.heap.size ≤ ·)).le (colM W w' v) := fun i o x e => by
  obtain ⟨hs, e⟩ := Mem.of_on e
  exact Mem.on_some e ⟨Nat.le_trans h.bel.size hs, fun e => by have := h.own.lt i e; omega⟩
theorem colM_map {mb : Nat} (hg : w.grownBy w' (some mb)) (hz : ∀ o, mem w mb o = none) : (colM W w v).le (colM W w' v) := fun i o x e => by
  obtain ⟨hs, e⟩ := Mem.of_on e
  refine Mem.on_some ((mem_of_block (hg.block i (mem_lt e) (fun e2 => ?_)) o).trans e) hs
  injection e2 with e2
  subst e2
  rw [hz] at e; cases e
theorem Col.map (h : Col W w v outs) {mb : Nat} (hg : w.grownBy w' (some mb)) (hm : W.heap.size ≤ mb) (hz : ∀ o, mem w mb o = none) (hne : v.ownBlock ≠ some mb) : Col W w' v outs :=
  ⟨(h.own.keeps (fun k e => hg.block k (h.own.lt k e) (fun e2 => hne (e.trans e2)))).re (colM_map hg hz), h.ge, h.bel.grown hg h.bel.size (fun k e => by cases e; exact hm)⟩
theorem colM_add (h : Col W w v outs) (happ : AppAt w w' v outs.length 1 v') : (colM W w v).le (colM W w' v') := fun i o x e => by
  obtain ⟨hs, e⟩ := Mem.of_on e
  have hl := mem_lt e
  refine Mem.on_some ((mem_of_block (happ.grown.block i hl (fun e2 => hs.2 e2.symm)) o).trans e) ⟨hs.1, fun e2 => ?_⟩
  rcases happ.block with g | g
  · exact hs.2 (g ▸ e2)
  · have := g i e2; omega
theorem Col.add (h : Col W w v outs) {x : El} (own : OwnsO (tIn (colM W w v) tEl) w' 42 v' (outs ++ [x])) (happ : AppAt w w' v outs.length 1 v') : Col W w' v' (outs ++ [x]) := by
  refine ⟨own.re (colM_add h happ), fun k e => ?_, h.bel.grown happ.grown h.bel.size (fun k e => h.ge k e)⟩
  rcases happ.block with g | g
  · exact h.ge k (g ▸ e)
  · exact Nat.le_trans h.bel.size (g k e)
theorem Col.block (h : Col W w v outs) (happ : AppAt w w' v outs.length 1 v') {k : Nat} (hk : k < w.heap.size) (hne : v.ownBlock ≠ some k) : w'.heap[k]? = w.heap[k]? := happ.grown.block k hk (fun e => hne e.symm)
/-- The element's copy. -/
theorem Col.copy (h : Col W w v outs) (hb : Below w.heap.size w w') {x : El} (hx : x.ok) {a : Option Addr} {c : Nat} (hu : tRow.rv ((mem w').on (w.heap.size ≤ ·)) [.slice a x.row.length c] x.row) (o : Obj) :
    Col W (w'.alloc o) v outs ∧ (tIn (colM W (w'.alloc o) v) tEl).rv noMem [.int .i64 x.kind, .int .i64 x.n, .int .i64 x.time, .slice a x.row.length c, .int .i64 x.cn] x := by
  have hb2 : Below w'.heap.size w' (w'.alloc o) := (Below.refl _ _).alloc (Nat.le_refl _) o
  exact ⟨(h.pure hb).pure hb2, _, rfl, ⟨hx.k, hx.n, hx.t, hx.c⟩, tRow.mono _ _ _ _ (Mem.le_trans (colM_new h hb) (colM_pure hb2)) hu⟩
/-- The map of all packets and its keys, along with the row. -/
structure Ext (W : World) (mb : Nat) (o : Obj) (vs : Value) (ss : List Int) (w : World) (v : Value) : Prop where
  mp : w.heap[mb]? = some o
  rd : (tSlice tInt).rv (colM W w v) [vs] ss
theorem Ext.pure {mb : Nat} {o : Obj} {vs : Value} {ss : List Int} (h : Ext W mb o vs ss w v) (hb : Below w.heap.size w w') : Ext W mb o vs ss w' v :=
  ⟨(hb.block mb (Array.getElem?_eq_some_iff.1 h.mp).1).trans h.mp, (tSlice tInt).mono _ _ _ _ (colM_pure hb) h.rd⟩
theorem Ext.add {mb : Nat} {es : Array MapEntry} {cl : Nat} {vs : Value} {ss : List Int} (h : Ext W mb (.map es cl) vs ss w v) (hc : Col W w v outs) (happ : AppAt w w' v outs.length 1 v') : Ext W mb (.map es cl) vs ss w' v' :=
  ⟨(happ.grown.block mb (Array.getElem?_eq_some_iff.1 h.mp).1 (fun e => by obtain ⟨cur, hcur⟩ := hc.own.cells mb e.symm; rw [h.mp] at hcur; cases hcur)).trans h.mp, (tSlice tInt).mono _ _ _ _ (colM_add hc happ) h.rd⟩
theorem Col.done (h : Col W w v outs) : tEls.rv ((mem w).on (W.heap.size ≤ ·)) [v] outs :=
  slice_in (h.own.rv (tIn_flat _ _) (S := fun k => W.heap.size ≤ k) h.ge) (Mem.on_mono _ (fun _ hk => hk.1))
end
end Go.Proofs.Ytfkphdmnelchmaa
/- Wires, in plain words: what a wire holds, told by ahead, packets and queue. -/
namespace Go.Proofs.Ytfkphdmnelchmaa

/-- A packet that was not received wholly: its elements that were not received, and whether it was delivered. -/
structure PK where
  num : Int
  ad : Nat
  els : List El
  dl : Bool
def pkItems (p : PK) : List Item := p.els.map fun x => ⟨x, some p.ad⟩
structure SimX (r : Raw) (ah : List El) (ps : List PK) (m : Nat) : Prop where
  buf : r.buffer = ah.map (fun x => ⟨x, none⟩) ++ (ps.take m).flatMap pkItems
  num : ∀ i (h : i < ps.length), ps[i].num = r.next - ps.length + i
  tu : r.turn = r.next - ps.length + m
  hm : m ≤ ps.length
  dl : ∀ i (h : i < ps.length), i < m → ps[i].dl = true
  way : ∀ k a, r.way k = some a ↔ ∃ p ∈ ps, p.num = k ∧ p.ad = a ∧ p.dl = false
  early : ∀ k a, r.early k = some a ↔ ∃ p ∈ ps, p.num = k ∧ p.ad = a ∧ p.dl = true ∧ r.turn ≤ k
  pt : ∀ p ∈ ps, ∃ q ∈ r.pt, q.ad = p.ad ∧ q.left = p.els.length ∧ (r.turn ≤ p.num → q.els = p.els)
  ne : ∀ p ∈ ps, p.els ≠ []
  ads : (ps.map (·.ad)).Nodup
  nd : (r.pt.map (·.ad)).Nodup
  cnt : r.count = ah.length + (ps.flatMap (·.els)).length + r.queue.length
structure Sim (r : Raw) (ah : List El) (ps : List PK) (m : Nat) : Prop extends SimX r ah ps m where
  tn : r.early r.turn = none
def contentsOf (r : Raw) (ah : List El) (ps : List PK) : List El := ah ++ ps.flatMap (·.els) ++ r.queue

theorem sim_new (size credits room : Int) : Sim (newRaw size credits room) [] [] 0 :=
  ⟨⟨rfl, fun i h => absurd h (by simp), rfl, Nat.le_refl _, fun i h => absurd h (by simp), fun k a => by simp [newRaw], fun k a => by simp [newRaw], fun p hp => absurd hp (by simp), fun p hp => absurd hp (by simp), by simp, by simp [newRaw], rfl⟩, rfl⟩

section
variable {r : Raw} {ah : List El} {ps : List PK} {m : Nat}
theorem SimX.inj (h : SimX r ah ps m) {p q : PK} (hp : p ∈ ps) (hq : q ∈ ps) (e : p.num = q.num) : p = q := by
  obtain ⟨i, hi, rfl⟩ := List.mem_iff_getElem.1 hp
  obtain ⟨j, hj, rfl⟩ := List.mem_iff_getElem.1 hq
  rw [h.num i hi, h.num j hj] at e
  obtain rfl : i = j := by omega
  rfl
theorem SimX.place (h : SimX r ah ps m) {p : PK} (hp : p ∈ ps) (ht : r.turn ≤ p.num) : ∃ i, ∃ hi : i < ps.length, m ≤ i ∧ ps[i] = p := by
  obtain ⟨i, hi, rfl⟩ := List.mem_iff_getElem.1 hp
  exact ⟨i, hi, by rw [h.num i hi, h.tu] at ht; omega, rfl⟩
theorem SimX.numLt (h : SimX r ah ps m) {p : PK} (hp : p ∈ ps) : p.num < r.next := by
  obtain ⟨i, hi, rfl⟩ := List.mem_iff_getElem.1 hp
  rw [h.num i hi]; omega

/-- Numbers other than queue, size, credits do not matter. -/
theorem SimX.nums (h : SimX r ah ps m) (r' : Raw) (hb : r'.buffer = r.buffer) (hn : r'.next = r.next) (ht : r'.turn = r.turn) (hw : r'.way = r.way) (he : r'.early = r.early) (hp : r'.pt = r.pt) (hc : r'.count = ah.length + (ps.flatMap (·.els)).length + r'.queue.length) : SimX r' ah ps m :=
  ⟨by rw [hb]; exact h.buf, by rw [hn]; exact h.num, by rw [ht, hn]; exact h.tu, h.hm, h.dl, by rw [hw]; exact h.way, by rw [he, ht]; exact h.early, by rw [hp, ht]; exact h.pt, h.ne, h.ads, by rw [hp]; exact h.nd, hc⟩
theorem sim_put (h : Sim r ah ps m) (x : El) : Sim { r with queue := r.queue ++ [x], count := r.count + 1 } ah ps m :=
  ⟨h.toSimX.nums _ rfl rfl rfl rfl rfl rfl (by show r.count + 1 = _ + ((r.queue ++ [x]).length : Int); rw [h.cnt, List.length_append]; simp; omega), h.tn⟩
theorem sim_size (h : Sim r ah ps m) (n : Int) : Sim { r with size := n } ah ps m :=
  ⟨h.toSimX.nums _ rfl rfl rfl rfl rfl rfl h.cnt, h.tn⟩

theorem sim_send (h : Sim r ah ps m) (hs : 1 ≤ r.size) (hq : r.queue ≠ []) {a : Nat} (ha : ∀ p ∈ r.pt, p.ad ≠ a) : Sim (sendR r a) ah (ps ++ [⟨r.next, a, r.queue.take (sendN r), false⟩]) m := by
  have hlen : 0 < r.queue.length := List.length_pos_iff.2 hq
  have hn : 0 < sendN r := by unfold sendN; omega
  have hnl : sendN r ≤ r.queue.length := by unfold sendN; omega
  have hm := h.hm
  have htu := h.tu
  refine ⟨⟨?_, fun i hi => ?_, ?_, by simp; omega, fun i hi him => ?_, fun k b => ?_, fun k b => ?_, fun p hp => ?_, fun p hp => ?_, ?_, ?_, ?_⟩, h.tn⟩
  · rw [List.take_append_of_le_length hm]; exact h.buf
  · show _ = r.next + 1 - _ + _
    rw [List.getElem_append]
    split
    · rename_i h1; rw [h.num i h1]; simp; omega
    · rename_i h1; simp at hi ⊢; omega
  · show r.turn = r.next + 1 - _ + _
    rw [htu]; simp; omega
  · rw [List.getElem_append_left (by omega)]; exact h.dl i (by omega) him
  · show putAt r.way r.next a k = some b ↔ _
    by_cases hk : k = r.next
    · subst hk
      rw [putAt_same]
      constructor
      · intro e; cases e; exact ⟨_, List.mem_append_right _ (List.mem_singleton.2 rfl), rfl, rfl, rfl⟩
      · rintro ⟨p, hp, h1, h2, h3⟩
        rcases List.mem_append.1 hp with hp | hp
        · have := h.numLt hp; omega
        · rw [List.mem_singleton] at hp; subst hp; rw [← h2]
    · rw [putAt_other _ _ hk, h.way k b]
      constructor
      · rintro ⟨p, hp, g⟩; exact ⟨p, List.mem_append_left _ hp, g⟩
      · rintro ⟨p, hp, h1, h2, h3⟩
        rcases List.mem_append.1 hp with hp | hp
        · exact ⟨p, hp, h1, h2, h3⟩
        · rw [List.mem_singleton] at hp; subst hp; exact absurd h1.symm hk
  · show r.early k = some b ↔ _
    rw [h.early k b]
    constructor
    · rintro ⟨p, hp, g⟩; exact ⟨p, List.mem_append_left _ hp, g⟩
    · rintro ⟨p, hp, h1, h2, h3, h4⟩
      rcases List.mem_append.1 hp with hp | hp
      · exact ⟨p, hp, h1, h2, h3, h4⟩
      · rw [List.mem_singleton] at hp; subst hp; cases h3
  · rcases List.mem_append.1 hp with hp | hp
    · obtain ⟨q, hq, g⟩ := h.pt p hp
      exact ⟨q, List.mem_append_left _ hq, g⟩
    · rw [List.mem_singleton] at hp; subst hp
      exact ⟨_, List.mem_append_right _ (List.mem_singleton.2 rfl), rfl, by simp; omega, fun _ => rfl⟩
  · rcases List.mem_append.1 hp with hp | hp
    · exact h.ne p hp
    · rw [List.mem_singleton] at hp; subst hp
      intro e
      have := congrArg List.length e
      rw [List.length_take, List.length_nil] at this; omega
  · rw [List.map_append, List.nodup_append]
    refine ⟨h.ads, by simp, fun x hx y hy e => ?_⟩
    simp at hy
    obtain ⟨p, hp, rfl⟩ := List.mem_map.1 hx
    obtain ⟨q, hq, g, _⟩ := h.pt p hp
    exact ha q hq (by rw [g, e, hy])
  · show ((r.pt ++ [_]).map _).Nodup
    rw [List.map_append, List.nodup_append]
    refine ⟨h.nd, by simp, fun x hx y hy e => ?_⟩
    simp at hy
    obtain ⟨p, hp, rfl⟩ := List.mem_map.1 hx
    exact ha p hp (e.trans hy)
  · show r.count = _ + _ + ((r.queue.drop (sendN r)).length : Int)
    rw [h.cnt, List.flatMap_append]
    simp; omega
theorem contents_send (a : Nat) : contentsOf (sendR r a) ah (ps ++ [⟨r.next, a, r.queue.take (sendN r), false⟩]) = contentsOf r ah ps := by
  unfold contentsOf
  show _ ++ _ ++ r.queue.drop (sendN r) = _
  rw [List.flatMap_append]
  simp [List.append_assoc]

theorem flatMap_congr' {α β : Type} {f g : α → List β} : ∀ {l : List α}, (∀ p ∈ l, f p = g p) → l.flatMap f = l.flatMap g
  | [], _ => rfl
  | x :: l, h => by rw [List.flatMap_cons, List.flatMap_cons, h x (by simp), flatMap_congr' fun p hp => h p (by simp [hp])]
/-- Packet n has come. -/
def setDl (n : Int) (ps : List PK) : List PK := ps.map fun p => if p.num = n then { p with dl := true } else p
theorem setDl_len (n : Int) : (setDl n ps).length = ps.length := by simp [setDl]
theorem setDl_get (n : Int) (i : Nat) (hi : i < (setDl n ps).length) : (setDl n ps)[i] = if (ps[i]'(by rw [← setDl_len n]; exact hi)).num = n then { ps[i]'(by rw [← setDl_len n]; exact hi) with dl := true } else ps[i]'(by rw [← setDl_len n]; exact hi) := by simp [setDl]
theorem setDl_els (n : Int) : (setDl n ps).flatMap (·.els) = ps.flatMap (·.els) := by
  unfold setDl
  rw [List.flatMap_map]
  exact flatMap_congr' fun p _ => by split <;> rfl
theorem setDl_mem {n : Int} {p : PK} : p ∈ setDl n ps ↔ ∃ q ∈ ps, p = if q.num = n then { q with dl := true } else q := by
  unfold setDl
  rw [List.mem_map]
  exact ⟨fun ⟨q, h, e⟩ => ⟨q, h, e.symm⟩, fun ⟨q, h, e⟩ => ⟨q, h, e.symm⟩⟩
theorem setDl_items (n : Int) (l : List PK) : (setDl n l).flatMap pkItems = l.flatMap pkItems := by
  unfold setDl
  rw [List.flatMap_map]
  exact flatMap_congr' fun p _ => by unfold pkItems; split <;> rfl
theorem sim_taken (h : SimX r ah ps m) {n : Int} {a : Nat} (hw : r.way n = some a) : SimX (takenR r n a) ah (setDl n ps) m := by
  obtain ⟨p0, hp0, hn0, ha0, hd0⟩ := (h.way n a).1 hw
  have hinj : ∀ q ∈ ps, q.num = n → q = p0 := fun q hq e => h.inj hq hp0 (e.trans hn0.symm)
  have ht0 : r.turn ≤ n := by
    obtain ⟨i, hi, rfl⟩ := List.mem_iff_getElem.1 hp0
    rw [h.num i hi] at hn0
    have := h.tu
    by_cases him : i < m
    · rw [h.dl i hi him] at hd0; cases hd0
    · omega
  refine ⟨?_, fun i hi => ?_, by rw [setDl_len]; exact h.tu, by rw [setDl_len]; exact h.hm, fun i hi him => ?_, fun k b => ?_, fun k b => ?_, fun p hp => ?_, fun p hp => ?_, ?_, h.nd, ?_⟩
  · show r.buffer = _
    rw [h.buf]
    unfold setDl
    rw [← List.map_take]
    exact congrArg _ (setDl_items n (ps.take m)).symm
  · have e : ∀ (c : Prop) [Decidable c] (p : PK), (if c then { p with dl := true } else p).num = p.num := fun c _ p => by split <;> rfl
    rw [setDl_get, e, h.num i (by rw [← setDl_len n]; exact hi)]
    show r.next - _ + _ = r.next - _ + _
    rw [setDl_len]
  · rw [setDl_get]
    rw [setDl_len] at hi
    split
    · rfl
    · exact h.dl i hi him
  · show delAt r.way n k = some b ↔ _
    by_cases hk : k = n
    · subst hk
      rw [delAt_same]
      constructor
      · intro e; cases e
      · rintro ⟨p, hp, h1, h2, h3⟩
        obtain ⟨q, hq, rfl⟩ := setDl_mem.1 hp
        split at h3
        · cases h3
        · rename_i hne; rw [if_neg hne] at h1; exact absurd h1 hne
    · rw [delAt_other _ hk, h.way k b]
      constructor
      · rintro ⟨p, hp, h1, h2, h3⟩
        exact ⟨p, setDl_mem.2 ⟨p, hp, by rw [if_neg (by rw [h1]; exact hk)]⟩, h1, h2, h3⟩
      · rintro ⟨p, hp, h1, h2, h3⟩
        obtain ⟨q, hq, rfl⟩ := setDl_mem.1 hp
        by_cases hqn : q.num = n
        · rw [if_pos hqn] at h3; cases h3
        · rw [if_neg hqn] at h1 h2 h3; exact ⟨q, hq, h1, h2, h3⟩
  · show putAt r.early n a k = some b ↔ _
    by_cases hk : k = n
    · subst hk
      rw [putAt_same]
      constructor
      · intro e; cases e
        exact ⟨_, setDl_mem.2 ⟨p0, hp0, rfl⟩, by rw [if_pos hn0]; exact hn0, by rw [if_pos hn0]; exact ha0, by rw [if_pos hn0], ht0⟩
      · rintro ⟨p, hp, h1, h2, h3, h4⟩
        obtain ⟨q, hq, rfl⟩ := setDl_mem.1 hp
        have hqn : q.num = k := by split at h1 <;> exact h1
        rw [if_pos hqn] at h2
        rw [← h2, ← ha0, hinj q hq hqn]
    · rw [putAt_other _ _ hk, h.early k b]
      constructor
      · rintro ⟨p, hp, h1, h2, h3, h4⟩
        exact ⟨p, setDl_mem.2 ⟨p, hp, by rw [if_neg (by rw [h1]; exact hk)]⟩, h1, h2, h3, h4⟩
      · rintro ⟨p, hp, h1, h2, h3, h4⟩
        obtain ⟨q, hq, rfl⟩ := setDl_mem.1 hp
        by_cases hqn : q.num = n
        · rw [if_pos hqn] at h1; exact absurd (h1.symm.trans hqn) hk
        · rw [if_neg hqn] at h1 h2 h3; exact ⟨q, hq, h1, h2, h3, h4⟩
  · obtain ⟨q, hq, rfl⟩ := setDl_mem.1 hp
    obtain ⟨t, ht, g⟩ := h.pt q hq
    refine ⟨t, ht, ?_⟩
    split <;> exact g
  · obtain ⟨q, hq, rfl⟩ := setDl_mem.1 hp
    split <;> exact h.ne q hq
  · have e : (setDl n ps).map (·.ad) = ps.map (·.ad) := by
      unfold setDl; rw [List.map_map]; exact List.map_congr_left fun p _ => by simp only [Function.comp]; split <;> rfl
    rw [e]; exact h.ads
  · rw [setDl_els]; exact h.cnt

theorem sim_moves {r r' : Raw} (hmv : Moves r r') : ∀ {m : Nat}, SimX r ah ps m → ∃ m', m ≤ m' ∧ Sim r' ah ps m' := by
  induction hmv with
  | done hd => intro m h; exact ⟨m, Nat.le_refl _, h, hd⟩
  | @step r r' p hp he hm ih =>
    intro m h
    obtain ⟨q, hq, h1, h2, h3, h4⟩ := (h.early _ _).1 he
    obtain ⟨i, hi, him, hqi⟩ := h.place hq (by omega)
    have hnum := h.num i hi
    have htu := h.tu
    rw [hqi, h1, htu] at hnum
    obtain rfl : i = m := by omega
    obtain ⟨t, ht, g1, g2, g3⟩ := h.pt q hq
    have htp : t = p := map_nodup_inj h.nd ht hp (g1.trans h2)
    subst htp
    have hels := g3 (by omega)
    obtain ⟨m', hle, hs⟩ := ih (m := i + 1) ⟨by
        show r.buffer ++ _ = _
        rw [h.buf, List.take_succ_eq_append_getElem hi, List.flatMap_append, hqi, List.append_assoc]
        simp only [List.flatMap_cons, List.flatMap_nil, List.append_nil]
        congr 2
        unfold pkItems
        rw [hels, h2], h.num, by show r.turn + 1 = r.next - (ps.length : Int) + ((i + 1 : Nat) : Int); rw [htu]; push_cast; omega, by omega, fun j hj hjm => by
          by_cases hji : j = i
          · subst hji; rw [hqi]; exact h3
          · exact h.dl j hj (by omega), h.way, fun k b => by
            show delAt r.early r.turn k = some b ↔ ∃ p ∈ ps, p.num = k ∧ p.ad = b ∧ p.dl = true ∧ r.turn + 1 ≤ k
            by_cases hk : k = r.turn
            · subst hk; rw [delAt_same]
              exact ⟨fun e => (by cases e), fun ⟨_, _, _, _, _, hh⟩ => (by omega)⟩
            · rw [delAt_other _ hk, h.early k b]
              exact ⟨fun ⟨p, a1, a2, a3, a4, a5⟩ => ⟨p, a1, a2, a3, a4, by omega⟩, fun ⟨p, a1, a2, a3, a4, a5⟩ => ⟨p, a1, a2, a3, a4, by omega⟩⟩,
          fun p hp => let ⟨q, b1, b2, b3, b4⟩ := h.pt p hp; ⟨q, b1, b2, b3, fun hh => b4 (by have hh' : r.turn + 1 ≤ p.num := hh; omega)⟩, h.ne, h.ads, h.nd, h.cnt⟩
    exact ⟨m', by omega, hs⟩

theorem decPt_mem {a : Nat} {pt : List PT} {q : PT} (h : q ∈ pt) : (if q.ad = a then { q with left := q.left - 1 } else q) ∈ decPt a pt := List.mem_map.2 ⟨q, h, rfl⟩
theorem SimX.leftOf (h : SimX r ah ps m) {p : PK} (hp : p ∈ ps) : leftAt p.ad r.pt = p.els.length := by
  obtain ⟨q, hq, h1, h2, _⟩ := h.pt p hp
  rw [← h1, leftAt_mem h.nd hq, h2]
/-- What Receive takes. -/
def RecvP (r : Raw) (ah : List El) (ps : List PK) (m : Nat) (i : Item) : Prop :=
  (∃ x ah', ah = x :: ah' ∧ i = ⟨x, none⟩ ∧ (recvR r).credits = r.credits ∧ Sim (recvR r) ah' ps m) ∨
  (ah = [] ∧ 1 ≤ m ∧ ∃ p ps' x, ps = p :: ps' ∧ i = ⟨x, some p.ad⟩ ∧ ((p.els = [x] ∧ (recvR r).credits = r.credits + 1 ∧ Sim (recvR r) [] ps' (m - 1)) ∨ ∃ y xs, p.els = x :: y :: xs ∧ (recvR r).credits = r.credits ∧ Sim (recvR r) [] ({ p with els := y :: xs } :: ps') m))
theorem sim_recv (h : Sim r ah ps m) {i : Item} {is : List Item} (hb : r.buffer = i :: is) : RecvP r ah ps m i := by
  have hbuf := h.buf
  rw [hb] at hbuf
  cases ah with
  | cons x ah' =>
    rw [List.map_cons, List.cons_append] at hbuf
    injection hbuf with h1 h2
    subst h1
    have e : recvR r = { r with buffer := is, count := r.count - 1 } := by unfold recvR; rw [hb]
    refine .inl ⟨x, ah', rfl, rfl, by rw [e], ?_⟩
    rw [e]
    have hc := h.cnt
    exact ⟨⟨h2, h.num, h.tu, h.hm, h.dl, h.way, h.early, h.pt, h.ne, h.ads, h.nd, by show r.count - 1 = _; rw [hc]; simp; omega⟩, h.tn⟩
  | nil =>
    rw [List.map_nil, List.nil_append] at hbuf
    have hm := h.hm
    cases ps with
    | nil => simp at hbuf
    | cons p ps' =>
      cases m with
      | zero => simp at hbuf
      | succ m =>
        rw [List.take_succ_cons, List.flatMap_cons] at hbuf
        cases hpe : p.els with
        | nil => exact absurd hpe (h.ne p (by simp))
        | cons x xs =>
          have hit : pkItems p = ⟨x, some p.ad⟩ :: xs.map (fun x => ⟨x, some p.ad⟩) := by unfold pkItems; rw [hpe]; rfl
          rw [hit, List.cons_append] at hbuf
          injection hbuf with h1 h2
          subst h1
          have hleft := h.leftOf (p := p) (by simp)
          rw [hpe, List.length_cons] at hleft
          have hdl0 : p.dl = true := h.dl 0 (by simp) (by omega)
          have hnum0 : p.num = r.next - (ps'.length + 1 : Nat) + 0 := h.num 0 (by simp)
          have hadn : ∀ q ∈ ps', q.ad ≠ p.ad := fun q hq e => by
            have := h.ads
            rw [List.map_cons, List.nodup_cons] at this
            exact this.1 (List.mem_map.2 ⟨q, hq, e⟩)
          have htu := h.tu
          have hc := h.cnt
          rw [List.flatMap_cons, hpe] at hc
          simp only [List.length_nil, List.length_append, List.length_cons] at hc htu hm
          have hpt : ∀ q ∈ ps', ∃ t ∈ decPt p.ad r.pt, t.ad = q.ad ∧ t.left = q.els.length ∧ (r.turn ≤ q.num → t.els = q.els) := fun q hq => by
            obtain ⟨t, ht, g1, g2, g3⟩ := h.pt q (by simp [hq])
            have := decPt_mem (a := p.ad) ht
            rw [if_neg (by rw [g1]; exact hadn q hq)] at this
            exact ⟨t, this, g1, g2, g3⟩
          refine .inr ⟨rfl, by omega, p, ps', x, rfl, rfl, ?_⟩
          cases xs with
          | nil =>
            have e : recvR r = { r with buffer := is, count := r.count - 1, pt := decPt p.ad r.pt, credits := r.credits + 1 } := by unfold recvR; rw [hb]; simp [hleft]
            refine .inl ⟨hpe, by rw [e], ?_⟩
            rw [e]
            refine ⟨⟨by rw [h2]; rfl, fun j hj => ?_, ?_, by simp; omega, fun j hj hjm => ?_, fun k a => ?_, fun k a => ?_, hpt, fun q hq => h.ne q (by simp [hq]), ?_, by rw [decPt_ad]; exact h.nd, ?_⟩, h.tn⟩
            · have := h.num (j + 1) (by simp; omega)
              simp only [List.getElem_cons_succ, List.length_cons] at this
              rw [this]; push_cast; omega
            · show r.turn = _; rw [htu]; push_cast; omega
            · exact h.dl (j + 1) (by simp; omega) (by omega)
            · show r.way k = some a ↔ _
              rw [h.way k a]
              exact ⟨fun ⟨q, hq, g1, g2, g3⟩ => by
                rcases List.mem_cons.1 hq with e | hq
                · subst e; rw [hdl0] at g3; cases g3
                · exact ⟨q, hq, g1, g2, g3⟩, fun ⟨q, hq, g⟩ => ⟨q, by simp [hq], g⟩⟩
            · show r.early k = some a ↔ _
              rw [h.early k a]
              exact ⟨fun ⟨q, hq, g1, g2, g3, g4⟩ => by
                rcases List.mem_cons.1 hq with e | hq
                · subst e; exfalso; rw [← g1, hnum0, htu] at g4; push_cast at g4; omega
                · exact ⟨q, hq, g1, g2, g3, g4⟩, fun ⟨q, hq, g⟩ => ⟨q, by simp [hq], g⟩⟩
            · have := h.ads
              rw [List.map_cons, List.nodup_cons] at this
              exact this.2
            · show r.count - 1 = _
              rw [hc]; simp; omega
          | cons y xs =>
            have e : recvR r = { r with buffer := is, count := r.count - 1, pt := decPt p.ad r.pt, credits := r.credits } := by
              unfold recvR; rw [hb]; simp [hleft]; omega
            refine .inr ⟨y, xs, hpe, by rw [e], ?_⟩
            rw [e]
            refine ⟨⟨by rw [h2]; rfl, fun j hj => ?_, ?_, by simp; omega, fun j hj hjm => ?_, fun k a => ?_, fun k a => ?_, fun q hq => ?_, fun q hq => ?_, ?_, by rw [decPt_ad]; exact h.nd, ?_⟩, h.tn⟩
            · cases j with
              | zero => exact h.num 0 (by simp)
              | succ j => exact h.num (j + 1) hj
            · show r.turn = _; rw [htu]; simp
            · cases j with
              | zero => exact hdl0
              | succ j => exact h.dl (j + 1) hj hjm
            · show r.way k = some a ↔ _
              rw [h.way k a]
              exact ⟨fun ⟨q, hq, g1, g2, g3⟩ => by
                rcases List.mem_cons.1 hq with e | hq
                · subst e; rw [hdl0] at g3; cases g3
                · exact ⟨q, by simp [hq], g1, g2, g3⟩, fun ⟨q, hq, g1, g2, g3⟩ => by
                rcases List.mem_cons.1 hq with e | hq
                · subst e; rw [show p.dl = false from g3] at hdl0; cases hdl0
                · exact ⟨q, by simp [hq], g1, g2, g3⟩⟩
            · show r.early k = some a ↔ _
              rw [h.early k a]
              exact ⟨fun ⟨q, hq, g1, g2, g3, g4⟩ => by
                rcases List.mem_cons.1 hq with e | hq
                · subst e; exact ⟨_, List.mem_cons_self, g1, g2, g3, g4⟩
                · exact ⟨q, by simp [hq], g1, g2, g3, g4⟩, fun ⟨q, hq, g1, g2, g3, g4⟩ => by
                rcases List.mem_cons.1 hq with e | hq
                · subst e; exact ⟨_, List.mem_cons_self, g1, g2, g3, g4⟩
                · exact ⟨q, by simp [hq], g1, g2, g3, g4⟩⟩
            · rcases List.mem_cons.1 hq with e | hq
              · subst e
                obtain ⟨t, ht, g1, g2, g3⟩ := h.pt p (by simp)
                have hd := decPt_mem (a := p.ad) ht
                rw [if_pos g1] at hd
                refine ⟨_, hd, g1, ?_, fun hh => ?_⟩
                · show t.left - 1 = _; rw [g2, hpe]; simp
                · exfalso
                  have hh' : r.turn ≤ p.num := hh
                  rw [hnum0, htu] at hh'; push_cast at hh'; omega
              · exact hpt q hq
            · rcases List.mem_cons.1 hq with e | hq
              · subst e; simp
              · exact h.ne q (by simp [hq])
            · exact h.ads
            · show r.count - 1 = _
              rw [hc, List.flatMap_cons]; simp; omega
end
end Go.Proofs.Ytfkphdmnelchmaa
/- Wires, in plain words: with the bounds; every act's step. -/
namespace Go.Proofs.Ytfkphdmnelchmaa

structure Sound (c : Int) (n : Nat) (r : Raw) (ah : List El) (ps : List PK) (m : Nat) : Prop extends Sim r ah ps m where
  s1 : 1 ≤ r.size ∧ r.size ≤ 100
  rm : 1 ≤ r.room ∧ r.room ≤ 1000
  cr : r.credits + ps.length = c
  c0 : 0 ≤ r.credits
  c1 : 1 ≤ c ∧ c ≤ 100
  nx : 0 ≤ r.next - ps.length
  n1 : r.next ≤ n
  k1 : r.count ≤ 4000
  ok : ∀ x ∈ contentsOf r ah ps, validEl x = true ∧ x.ok
  pe : ∀ p ∈ r.pt, p.els.length ≤ 4000

theorem mem_take_flat {α β : Type} {f : α → List β} {l : List α} {m : Nat} {x : β} (h : x ∈ (l.take m).flatMap f) : x ∈ l.flatMap f := by
  obtain ⟨a, ha, hx⟩ := List.mem_flatMap.1 h
  exact List.mem_flatMap.2 ⟨a, List.mem_of_mem_take ha, hx⟩
theorem len_flat_take {α β : Type} {f : α → List β} : ∀ (l : List α) (m : Nat), ((l.take m).flatMap f).length ≤ (l.flatMap f).length
  | [], m => by simp
  | x :: l, 0 => by simp
  | x :: l, m + 1 => by
    rw [List.take_succ_cons, List.flatMap_cons, List.flatMap_cons, List.length_append, List.length_append]
    have := len_flat_take (f := f) l m
    omega
theorem items_len : ∀ (l : List PK), (l.flatMap pkItems).length = (l.flatMap (·.els)).length
  | [] => rfl
  | p :: l => by rw [List.flatMap_cons, List.flatMap_cons, List.length_append, List.length_append, items_len l]; simp [pkItems]
theorem len_mem_flat {α β : Type} {f : α → List β} {l : List α} {a : α} (h : a ∈ l) : (f a).length ≤ (l.flatMap f).length := by
  induction l with
  | nil => cases h
  | cons x l ih =>
    rw [List.flatMap_cons, List.length_append]
    rcases List.mem_cons.1 h with e | h
    · subst e; omega
    · have := ih h; omega

section
variable {c : Int} {n : Nat} {r : Raw} {ah : List El} {ps : List PK} {m : Nat}
theorem Sound.mono (h : Sound c n r ah ps m) {n' : Nat} (hn : n ≤ n') : Sound c n' r ah ps m := ⟨h.toSim, h.s1, h.rm, h.cr, h.c0, h.c1, h.nx, by have := h.n1; omega, h.k1, h.ok, h.pe⟩
theorem Sound.fine (h : Sound c n r ah ps m) (hn : n ≤ 1000000) : Fine r := by
  have hc := h.cnt
  have hk := h.k1
  have htu := h.tu
  have hm := h.hm
  have hnx := h.nx
  have hbl : r.buffer.length ≤ ah.length + (ps.flatMap (·.els)).length := by
    rw [h.buf, List.length_append, List.length_map]
    have := len_flat_take (f := pkItems) ps m
    have e := items_len ps
    omega
  have hbel : ∀ i ∈ r.buffer, i.el ∈ contentsOf r ah ps := fun i hi => by
    rw [h.buf] at hi
    unfold contentsOf
    rcases List.mem_append.1 hi with hi | hi
    · obtain ⟨x, hx, rfl⟩ := List.mem_map.1 hi
      simp [hx]
    · obtain ⟨p, hp, hx⟩ := List.mem_flatMap.1 (mem_take_flat hi)
      obtain ⟨x, hx', rfl⟩ := List.mem_map.1 hx
      exact List.mem_append_left _ (List.mem_append_right _ (List.mem_flatMap.2 ⟨p, hp, hx'⟩))
  refine ⟨h.s1.1, h.s1.2, h.c0, by have := h.cr; have := h.c1; omega, by omega, by have := h.n1; omega, by omega, by omega, by omega, hk, by omega, by omega, ?_, fun i hi => (by have := validEl_row (h.ok _ (hbel i hi)).1; omega), fun i hi a ha => ?_, fun k a hw => ?_, fun k a he => ?_, h.pe, h.rm⟩
  · by_cases hb : r.buffer = []
    · exact .inr hb
    · have := List.length_pos_iff.2 hb
      exact .inl (by omega)
  · rw [h.buf] at hi
    rcases List.mem_append.1 hi with hi | hi
    · obtain ⟨x, _, rfl⟩ := List.mem_map.1 hi; cases ha
    · obtain ⟨p, hp, hx⟩ := List.mem_flatMap.1 (mem_take_flat hi)
      obtain ⟨x, hx, rfl⟩ := List.mem_map.1 hx
      cases ha
      obtain ⟨q, hq, g1, g2, _⟩ := h.pt p hp
      have hne := List.length_pos_iff.2 (h.ne p hp)
      have := len_mem_flat (f := fun p : PK => p.els) hp
      exact ⟨q, hq, g1, by omega, by omega⟩
  · obtain ⟨p, hp, h1, h2, _⟩ := (h.way k a).1 hw
    obtain ⟨q, hq, g1, _⟩ := h.pt p hp
    exact ⟨by rw [← h1]; exact h.toSimX.numLt hp, q, hq, g1.trans h2⟩
  · obtain ⟨p, hp, h1, h2, _⟩ := (h.early k a).1 he
    obtain ⟨q, hq, g1, _⟩ := h.pt p hp
    exact ⟨by rw [← h1]; exact h.toSimX.numLt hp, q, hq, g1.trans h2⟩
end
end Go.Proofs.Ytfkphdmnelchmaa
/- wire.Contents. -/
namespace Go.Proofs.Ytfkphdmnelchmaa
open Go.RowKit Go.Maps

def ContOut (W : World) (r : Raw) (e : Ending) (W' : World) : Prop := Below W.heap.size W W' ∧ ∃ v ss, e = .returned (.tuple #[v, .int .i64 0]) ∧ SortedKeys (mergeF r.way r.early) ss ∧ tEls.rv ((mem W').on (W.heap.size ≤ ·)) [v] (contR r ss)
/-- The cells of an element. -/
theorem elAt {m : Mem} {b o : Nat} {x : El} (h : tEl.at m b o x) : ∃ a c, c ≤ 9223372036854775807 ∧ m b o = some (.int .i64 x.kind) ∧ m b (o + 1) = some (.int .i64 x.n) ∧ m b (o + 2) = some (.int .i64 x.time) ∧ m b (o + 3) = some (.slice a x.row.length c) ∧ m b (o + 4) = some (.int .i64 x.cn) ∧ x.ok ∧ tRow.rv m [.slice a x.row.length c] x.row := by
  obtain ⟨cs, hc, s, rfl, i, hr⟩ := h
  obtain ⟨a, c, rfl, _, hm, hr⟩ := slice_form hr
  exact ⟨a, c, (by unfold maxLen at hm; exact hm), hc 0 _ rfl, hc 1 _ rfl, hc 2 _ rfl, hc 3 _ rfl, hc 4 _ rfl, ⟨i.1, i.2.1, i.2.2.1, i.2.2.2⟩, hr⟩
theorem take_map_succ {α β : Type} {f : α → β} {l : List α} {k : Nat} (h : k < l.length) : (l.take k).map f ++ [f l[k]] = (l.take (k + 1)).map f := by
  rw [List.take_succ_eq_append_getElem h, List.map_append]; rfl
theorem take_snoc {α : Type} {l : List α} {k : Nat} (h : k < l.length) : l.take k ++ [l[k]] = l.take (k + 1) := (List.take_succ_eq_append_getElem h).symm

set_option maxRecDepth 100000 in
set_option maxHeartbeats 8000000 in
theorem contents_any (base b : Nat) (L : WL) (r : Raw) (W : World) (hI : WireInv W base b L r) (hbf : r.buffer.length ≤ 4000) (hq : r.queue.length ≤ 4000) (hpe : ∀ p ∈ r.pt, p.els.length ≤ 4000) (hnw : L.nw ≤ 1000000) (hne : L.ne ≤ 1000000)
    (h8 : ∀ i ∈ r.buffer, i.el.row.length ≤ 1000000) (h9 : ∀ k a, mergeF r.way r.early k = some a → ∀ p ∈ r.pt, p.ad = a → ∀ x ∈ p.els, x.row.length ≤ 1000000) (h10 : ∀ x ∈ r.queue, x.row.length ≤ 1000000)
    (hw : ∀ k a, mergeF r.way r.early k = some a → ∃ p ∈ r.pt, p.ad = a) (htot : ∀ ss, SortedKeys (mergeF r.way r.early) ss → (contR r ss).length ≤ 100000) :
    Calls Try.prog 26 #[.pointer (some ⟨b, 0, none⟩)] W (ContOut W r) := by
  obtain ⟨ab, cb, hbv, hb1, hb2⟩ := hI.bf.form
  obtain ⟨aq, cq, hqv, hq1, hq2⟩ := hI.q.form
  have hcb : cb ≤ 9223372036854775807 := by unfold maxLen at hb2; exact hb2
  have hcq : cq ≤ 9223372036854775807 := by unfold maxLen at hq2; exact hq2
  have c7 : W.cell? ⟨b, 7, none⟩ = some (.slice ab r.buffer.length cb) := by have h := hI.cell 7; rw [show (wCells L r)[7]? = some L.bv from rfl, hbv] at h; exact h
  have HI := Lib.hid hI
  have HBV := Lib.hid hbv
  have HQV := Lib.hid hqv
  have HO := Lib.hid (fun (x : El) (s : Value) (w : World) (hr : tRow.rv (mem w) [s] x.row) (h : x.row.length ≤ 1000000) => own_el x s w hr h)
  clear hI hbv hqv hb2 hq2
  go_enter Try.func26, Try.ntmps26
  go_wp2
  go_loopg [4, 22] r.buffer.length (fun g u i wr => ∃ k a c, k + g = r.buffer.length ∧ i = .int .i64 k ∧ u = .slice a (List.length ((r.buffer.take k).map (·.el))) c ∧ Hid (Col W wr (.slice a (List.length ((r.buffer.take k).map (·.el))) c) ((r.buffer.take k).map (·.el))))
  case atStart => exact ⟨0, none, 0, by omega, by go_num, rfl, Lib.hid (Col.start W)⟩
  case round =>
    clear c7
    obtain ⟨k, au, cu, hkg, rfl, rfl, HC⟩ := hrel
    cases gk with
    | succ g2 =>
      have hlt : k < r.buffer.length := by omega
      obtain ⟨gb, off, cap, cs, h1, h2, h3, ⟨s, rfl, hin, hr⟩, h5⟩ := HI.out.bf.at hlt
      obtain ⟨ar, crr, rfl, _, hcr, hr⟩ := slice_form hr
      rw [HBV.out] at h1
      obtain ⟨rfl, rfl⟩ : ab = some ⟨gb, off, none⟩ ∧ cb = cap := by simp at h1; exact ⟨h1.1, h1.2⟩
      have hr : tRow.rv (mem W) _ _ := tRow.mono _ _ _ _ (Mem.on_le _ _) hr
      have hmw : (mem W).le (mem wr) := below_mem HC.out.bel
      have e0 : wr.cell? ⟨gb, off + k * 6, none⟩ = some (.int .i64 r.buffer[k].el.kind) := hmw _ _ _ (h5 0 _ rfl)
      have e1 : wr.cell? ⟨gb, off + k * 6 + 1, none⟩ = some (.int .i64 r.buffer[k].el.n) := hmw _ _ _ (h5 1 _ rfl)
      have e2 : wr.cell? ⟨gb, off + k * 6 + 2, none⟩ = some (.int .i64 r.buffer[k].el.time) := hmw _ _ _ (h5 2 _ rfl)
      have e3 : wr.cell? ⟨gb, off + k * 6 + 3, none⟩ = some (.slice ar r.buffer[k].el.row.length crr) := hmw _ _ _ (h5 3 _ rfl)
      have e4 : wr.cell? ⟨gb, off + k * 6 + 4, none⟩ = some (.int .i64 r.buffer[k].el.cn) := hmw _ _ _ (h5 4 _ rfl)
      have e5 : wr.cell? ⟨gb, off + k * 6 + 5, none⟩ = some (ofV r.buffer[k].of) := hmw _ _ _ (h5 5 _ rfl)
      have hx8 := h8 _ (List.getElem_mem hlt)
      have hsn := take_map_succ (f := fun i : Item => i.el) hlt
      have HSN := Lib.hid hsn
      have HX := Lib.hid (show r.buffer[k].el.ok from ⟨hin.1, hin.2.1, hin.2.2.1, hin.2.2.2⟩)
      have hlen : ((r.buffer.take k).map (·.el)).length ≤ 4000 := by simp; omega
      generalize hit : r.buffer[k] = it at *
      obtain ⟨x, of⟩ := it
      simp only at e0 e1 e2 e3 e4 e5 hr hx8 HSN HX
      obtain ⟨pv, hpv⟩ : ∃ pv, ofV of = .pointer pv := by cases of <;> exact ⟨_, rfl⟩
      rw [hpv] at e5
      generalize (r.buffer.take k).map (fun i : Item => i.el) = outs at *
      have hBA : ∀ o, Below wr.heap.size wr (wr.alloc o) := fun o => (Below.refl _ _).alloc (Nat.le_refl _) o
      have HC1 := Lib.hid (HC.out.pure (hBA (.cells #[.int .i64 x.kind, .int .i64 x.n, .int .i64 x.time, .slice ar x.row.length crr, .int .i64 x.cn, .pointer pv] 94)))
      have HO1 := Lib.hid (fun (wq : World) (h : Below (wr.alloc (.cells #[.int .i64 x.kind, .int .i64 x.n, .int .i64 x.time, .slice ar x.row.length crr, .int .i64 x.cn, .pointer pv] 94)).heap.size (wr.alloc (.cells #[.int .i64 x.kind, .int .i64 x.n, .int .i64 x.time, .slice ar x.row.length crr, .int .i64 x.cn, .pointer pv] 94)) wq) => HO.out x _ wq (tRow.mono _ _ _ _ (Mem.le_trans (below_mem HC1.out.bel) (below_mem h)) hr) hx8)
      have HL1 := Lib.hid (show outs.length + 1 ≤ maxLen by unfold maxLen; omega)
      have HL2 := Lib.hid (show (outs.length + 1) * 56 ≤ 140737488355328 by omega)
      have y := heap_alloc_new wr (.cells #[.int .i64 x.kind, .int .i64 x.n, .int .i64 x.time, .slice ar x.row.length crr, .int .i64 x.cn, .pointer pv] 94)
      clear hr h5 hmw hin hx8 hBA hsn hlen h3 hcr h2
      go_upto_region 7 with fail
      generalize (wr.alloc (.cells #[.int .i64 x.kind, .int .i64 x.n, .int .i64 x.time, .slice ar x.row.length crr, .int .i64 x.cn, .pointer pv] 94)) = Y at HC1 HO1 y ⊢
      generalize wr.heap.size = yb at y ⊢
      clear e0 e1 e2 e3 e4 e5 HC
      have y0 : Y.cell? ⟨yb, 0, none⟩ = some (.int .i64 x.kind) := mem_cells y 0
      have y1 : Y.cell? ⟨yb, 1, none⟩ = some (.int .i64 x.n) := mem_cells y 1
      have y2 : Y.cell? ⟨yb, 2, none⟩ = some (.int .i64 x.time) := mem_cells y 2
      have y3 : Y.cell? ⟨yb, 3, none⟩ = some (.slice ar x.row.length crr) := mem_cells y 3
      have y4 : Y.cell? ⟨yb, 4, none⟩ = some (.int .i64 x.cn) := mem_cells y 4
      go_wp2_with fail
      refine (HO1.out Y (Below.refl _ _)).mono ?_
      rintro e w4 ⟨a4, c4, rfl, hu, hb4⟩
      have HCP := Lib.hid (fun o => HC1.out.copy hb4 HX.out hu o)
      
      clear hb4 hu HO1 y y0 y1 y2 y3 y4
      go_wp2_with (at_builtin; refine wpList_append_o1 rfl (.tmp 26) (.tmp 30) 36 rfl (tIn (colM W (w4.alloc (.cells #[.int .i64 x.kind, .int .i64 x.n, .int .i64 x.time, .slice a4 x.row.length c4, .int .i64 x.cn] 42)) _) tEl) Try.underlying36 (infoEl _) rfl _ outs rfl (HCP.out _).1.own _ _ x rfl _ el_cells (HCP.out _).2 el_one HL1.out HL2.out ?_)
      intro v' w5 own5 happ
      obtain ⟨a5, c5, rfl, _⟩ := own5.form
      have HC5 := Lib.hid ((HCP.out _).1.add own5 happ)
      clear own5 happ HCP HL1 HL2 HC1
      go_wp2
      go_roundg g2
      case measure => omega
      case rel => exact ⟨k + 1, a5, c5, by omega, by go_num, by rw [← HSN.out], by rw [← HSN.out]; exact HC5⟩
    | zero =>
      obtain rfl : k = r.buffer.length := by omega
      rw [List.take_length] at HC ⊢
      have HIw := Lib.hid (HI.out.pure HC.out.bel)
      have c8 : wr.cell? ⟨b, 8, none⟩ = some (.map (some L.wm)) := HIw.out.cell 8
      have HK := Lib.hid HIw.out.wm.clone
      have hlem := HIw.out.em.lt
      have hbw := HC.out.bel.size
      clear hkg
      go_wp2_with fail
      refine HK.out.mono ?_
      rintro e w1 ⟨rfl, hM1, hb1'⟩
      have hI1 := HIw.out.pure hb1'
      have hC1 := HC.out.pure hb1'
      have c6 : w1.cell? ⟨b, 6, none⟩ = some (.map (some L.em)) := hI1.cell 6
      have HCp := Lib.hid (hM1.copy hI1.em (by omega) (by unfold maxLen; omega))
      have HM1 := Lib.hid hM1
      have HC1 := Lib.hid hC1
      clear HK HIw HC c8 hb1' hM1 hC1 hI1
      go_wp2_with fail
      refine HCp.out.mono ?_
      rintro e w2 ⟨rfl, hM2, hg2⟩
      obtain ⟨es0, cl0, hob⟩ := HM1.out.obj
      have hC2 := HC1.out.map hg2 hbw (fun o => by simp [mem, World.cell?, hob]) (fun e => by obtain ⟨cur, hcur⟩ := HC1.out.own.cells _ e; rw [hob] at hcur; cases hcur)
      have HKy := Lib.hid (keys_any (some wr.heap.size) w2)
      have HSo := Lib.hid (sortedKeys_any wr.heap.size _ _ w2 hM2 (by omega))
      have HM2 := Lib.hid hM2
      have HC2 := Lib.hid hC2
      clear HCp HM1 HC1 c6 hM2 hC2 hg2 hob es0 cl0
      go_wp2_with fail
      refine HKy.out.mono ?_
      rintro e w3 ⟨rfl, rfl⟩
      go_wp2_with fail
      refine HSo.out.mono ?_
      rintro e w4 ⟨vs, ss, rfl, hrs, hks, _, hb4⟩
      have hM4 : PMap w4 wr.heap.size _ (mergeF r.way r.early) := HM2.out.at (hb4.block _ HM2.out.lt)
      obtain ⟨es, cl, hob⟩ := hM4.obj
      have hEx : Ext W wr.heap.size (.map es cl) vs ss w4 _ := ⟨hob, (tSlice tInt).mono _ _ _ _ (colM_new HC2.out hb4) hrs⟩
      obtain ⟨asl, cs, rfl, hs1, hs2, _⟩ := slice_form hEx.rd
      have hcs : cs ≤ 9223372036854775807 := by unfold maxLen at hs2; exact hs2
      have HC4 := Lib.hid (HC2.out.pure hb4)
      have HM4 := Lib.hid (fun (wq : World) (e : wq.heap[wr.heap.size]? = some (.map es cl)) => (hM4.at (e.trans hob.symm) : PMap wq wr.heap.size _ (mergeF r.way r.early)))
      have HEx := Lib.hid hEx
      have HKS := Lib.hid hks
      have htt := htot ss hks
      clear HKy HSo HM2 HC2 hrs hks hb4 hM4 hob hEx hs2
      generalize hmb : wr.heap.size = mb at *
      generalize hbo : r.buffer.map (fun i : Item => i.el) = bo at *
      have htt2 : bo.length + (ss.flatMap (elsAt r)).length + r.queue.length ≤ 100000 := by
        unfold contR at htt; rw [← hbo]; simp at htt ⊢; omega
      clear htt
      go_wp2
      go_loopg [4, 49] ss.length (fun g u i wx => ∃ k a c, ∃ outs : List El, k + g = ss.length ∧ i = .int .i64 k ∧ u = .slice a outs.length c ∧ Hid (outs = bo ++ (ss.take k).flatMap (elsAt r)) ∧ Hid (Col W wx (.slice a outs.length c) outs ∧ Ext W mb (.map es cl) (.slice asl ss.length cs) ss wx (.slice a outs.length c)))
      case atStart => exact ⟨0, au, cu, bo, by omega, by go_num, by rw [← hbo]; simp, Lib.hid (by simp), Lib.hid ⟨HC4.out, HEx.out⟩⟩
      case round =>
        clear HC4 HEx
        obtain ⟨k, au, cu, outs, hkg, rfl, rfl, HE, HC⟩ := hrel
        have hok : outs.length ≤ 100000 := by
          rw [HE.out, List.length_append]; have := len_flat_take (f := elsAt r) ss k; omega
        cases gk with
        | zero =>
          obtain rfl : k = ss.length := by omega
          have HIw := Lib.hid (HI.out.pure HC.out.1.bel)
          have c0 : wr.cell? ⟨b, 0, none⟩ = some (.slice aq r.queue.length cq) := by have h := HIw.out.cell 0; rw [show (wCells L r)[0]? = some L.qv from rfl, HQV.out] at h; exact h
          have hE : outs = bo ++ ss.flatMap (elsAt r) := by rw [HE.out, List.take_length]
          have HC0 := Lib.hid HC.out.1
          clear HE HC HIw
          have HE := Lib.hid hE
          clear hE hkg
          go_wp2
          go_loopg [4, 77] r.queue.length (fun g u i wx => ∃ k a c, ∃ outs2 : List El, k + g = r.queue.length ∧ i = .int .i64 k ∧ u = .slice a outs2.length c ∧ Hid (outs2 = outs ++ r.queue.take k) ∧ Hid (Col W wx (.slice a outs2.length c) outs2))
          case atStart => exact ⟨0, au, cu, outs, by omega, by go_num, rfl, Lib.hid (by simp), HC0⟩
          case round =>
            clear HC0 c0
            obtain ⟨k, au, cu, outs2, hkg, rfl, rfl, HE2, HC⟩ := hrel
            cases gk with
            | zero =>
              obtain rfl : k = r.queue.length := by omega
              have hE : outs2 = contR r ss := by rw [HE2.out, HE.out, List.take_length, ← hbo]; rfl
              go_wp2
              go_ret2
              exact ⟨HC.out.bel, _, ss, rfl, HKS.out, by rw [← hE]; exact HC.out.done⟩
            | succ g2 =>
              have hlt : k < r.queue.length := by omega
              obtain ⟨gb, off, cap, cs2, h1, h2, h3, ⟨s, rfl, hin, hr⟩, h5⟩ := HI.out.q.at hlt
              obtain ⟨ar, crr, rfl, _, hcr, hr⟩ := slice_form hr
              rw [HQV.out] at h1
              obtain ⟨rfl, rfl⟩ : aq = some ⟨gb, off, none⟩ ∧ cq = cap := by simp at h1; exact ⟨h1.1, h1.2⟩
              have hr : tRow.rv (mem W) _ _ := tRow.mono _ _ _ _ (Mem.on_le _ _) hr
              have hmw : (mem W).le (mem wr) := below_mem HC.out.bel
              have e0 : wr.cell? ⟨gb, off + k * 5, none⟩ = some (.int .i64 r.queue[k].kind) := hmw _ _ _ (h5 0 _ rfl)
              have e1 : wr.cell? ⟨gb, off + k * 5 + 1, none⟩ = some (.int .i64 r.queue[k].n) := hmw _ _ _ (h5 1 _ rfl)
              have e2 : wr.cell? ⟨gb, off + k * 5 + 2, none⟩ = some (.int .i64 r.queue[k].time) := hmw _ _ _ (h5 2 _ rfl)
              have e3 : wr.cell? ⟨gb, off + k * 5 + 3, none⟩ = some (.slice ar r.queue[k].row.length crr) := hmw _ _ _ (h5 3 _ rfl)
              have e4 : wr.cell? ⟨gb, off + k * 5 + 4, none⟩ = some (.int .i64 r.queue[k].cn) := hmw _ _ _ (h5 4 _ rfl)
              have hx8 := h10 _ (List.getElem_mem hlt)
              have HSN := Lib.hid (show outs2 ++ [r.queue[k]] = outs ++ r.queue.take (k + 1) by rw [HE2.out, List.append_assoc, take_snoc hlt])
              have HX := Lib.hid (show r.queue[k].ok from ⟨hin.1, hin.2.1, hin.2.2.1, hin.2.2.2⟩)
              have hlen : outs2.length ≤ 200000 := by rw [HE2.out, List.length_append, List.length_take]; omega
              generalize r.queue[k] = x at *
              have hBA : ∀ o, Below wr.heap.size wr (wr.alloc o) := fun o => (Below.refl _ _).alloc (Nat.le_refl _) o
              have HC1 := Lib.hid (HC.out.pure (hBA (.cells #[.int .i64 x.kind, .int .i64 x.n, .int .i64 x.time, .slice ar x.row.length crr, .int .i64 x.cn] 42)))
              have HO1 := Lib.hid (fun (wq : World) (h : Below (wr.alloc (.cells #[.int .i64 x.kind, .int .i64 x.n, .int .i64 x.time, .slice ar x.row.length crr, .int .i64 x.cn] 42)).heap.size (wr.alloc (.cells #[.int .i64 x.kind, .int .i64 x.n, .int .i64 x.time, .slice ar x.row.length crr, .int .i64 x.cn] 42)) wq) => HO.out x _ wq (tRow.mono _ _ _ _ (Mem.le_trans (below_mem HC1.out.bel) (below_mem h)) hr) hx8)
              have HL1 := Lib.hid (show outs2.length + 1 ≤ maxLen by unfold maxLen; omega)
              have HL2 := Lib.hid (show (outs2.length + 1) * 56 ≤ 140737488355328 by omega)
              have y := heap_alloc_new wr (.cells #[.int .i64 x.kind, .int .i64 x.n, .int .i64 x.time, .slice ar x.row.length crr, .int .i64 x.cn] 42)
              clear hr h5 hmw hin hx8 h3 hcr h2
              go_upto_region 23 with fail
              generalize (wr.alloc (.cells #[.int .i64 x.kind, .int .i64 x.n, .int .i64 x.time, .slice ar x.row.length crr, .int .i64 x.cn] 42)) = Y at HC1 HO1 y ⊢
              generalize wr.heap.size = yb at y ⊢
              clear e0 e1 e2 e3 e4 HC
              have y0 : Y.cell? ⟨yb, 0, none⟩ = some (.int .i64 x.kind) := mem_cells y 0
              have y1 : Y.cell? ⟨yb, 1, none⟩ = some (.int .i64 x.n) := mem_cells y 1
              have y2 : Y.cell? ⟨yb, 2, none⟩ = some (.int .i64 x.time) := mem_cells y 2
              have y3 : Y.cell? ⟨yb, 3, none⟩ = some (.slice ar x.row.length crr) := mem_cells y 3
              have y4 : Y.cell? ⟨yb, 4, none⟩ = some (.int .i64 x.cn) := mem_cells y 4
              go_wp2_with fail
              refine (HO1.out Y (Below.refl _ _)).mono ?_
              rintro e w4 ⟨a4, c4, rfl, hu, hb4⟩
              have HCP := Lib.hid (fun o => HC1.out.copy hb4 HX.out hu o)
      
              clear hb4 hu HO1 y y0 y1 y2 y3 y4
              go_wp2_with (at_builtin; refine wpList_append_o1 rfl (.tmp 81) (.tmp 84) 36 rfl (tIn (colM W (w4.alloc (.cells #[.int .i64 x.kind, .int .i64 x.n, .int .i64 x.time, .slice a4 x.row.length c4, .int .i64 x.cn] 42)) _) tEl) Try.underlying36 (infoEl _) rfl _ outs2 rfl (HCP.out _).1.own _ _ x rfl _ el_cells (HCP.out _).2 el_one HL1.out HL2.out ?_)
              intro v' w5 own5 happ
              obtain ⟨a5, c5, rfl, _⟩ := own5.form
              have HC5 := Lib.hid ((HCP.out _).1.add own5 happ)
              clear own5 happ HCP HL1 HL2 HC1
              go_wp2
              go_roundg g2
              case measure => omega
              case rel => exact ⟨k + 1, a5, c5, outs2 ++ [x], by omega, by go_num, rfl, HSN, HC5⟩
        | succ g2 =>
          have hlt : k < ss.length := by omega
          obtain ⟨bw, ow, rfl, cs2, hcs2, rfl, hin⟩ := slice_at HC.out.2.rd hlt
          have q := colM_mem _ _ _ (hcs2 0 _ rfl)
          have q : wr.cell? ⟨bw, ow + k, none⟩ = some (.int .i64 ss[k]) := by simpa [mem, tInt] using q
          have hlk := (HM4.out wr HC.out.2.mp).look hin
          have hse := (HKS.out.mem ss[k]).1 (List.getElem_mem hlt)
          obtain ⟨ka, hka⟩ : ∃ a, mergeF r.way r.early ss[k] = some a := by
            cases e : mergeF r.way r.early ss[k] with
            | none => rw [e] at hse; cases hse
            | some a => exact ⟨a, rfl⟩
          obtain ⟨p, hp, rfl⟩ := hw _ _ hka
          rw [hka] at hlk
          simp only [ptrOr, ptrTo] at hlk
          have hEA : elsAt r ss[k] = p.els := by unfold elsAt; rw [hka]; exact elsOf_mem HI.out.nd hp
          obtain ⟨lv, hpB, hpE0⟩ := HI.out.pk p hp
          have hpE := tEls.mono _ _ _ _ (Mem.on_le _ _) hpE0
          obtain ⟨al, cl2, rfl, hpl1, hpl2, hpE⟩ := slice_form hpE
          have hcl : cl2 ≤ 9223372036854775807 := by unfold maxLen at hpl2; exact hpl2
          have d0 : wr.cell? ⟨p.ad, 0, none⟩ = some (.slice al p.els.length cl2) := mem_cells ((HC.out.1.bel.block _ (Array.getElem?_eq_some_iff.1 hpB).1).trans hpB) 0
          have HSO := Lib.hid (show outs ++ p.els = bo ++ (ss.take (k + 1)).flatMap (elsAt r) by rw [HE.out, List.take_succ_eq_append_getElem hlt, List.flatMap_append, ← hEA]; simp)
          have hle : outs.length + p.els.length ≤ 100000 := by
            have h := congrArg List.length HSO.out
            have := len_flat_take (f := elsAt r) ss (k + 1)
            simp only [List.length_append] at h; omega
          have HPE := Lib.hid hpE
          have h9p := h9 _ _ hka p hp rfl
          clear hcs2 hse hka hEA hpB hpE0 hpE hpl2
          generalize ss[k] = num at *
          go_wp2
          go_loopg [4, 60] p.els.length (fun g u i wy => ∃ k2 a c, ∃ outs2 : List El, k2 + g = p.els.length ∧ i = .int .i64 k2 ∧ u = .slice a outs2.length c ∧ Hid (outs2 = outs ++ p.els.take k2) ∧ Hid (Col W wy (.slice a outs2.length c) outs2 ∧ Ext W mb (.map es cl) (.slice (some ⟨bw, ow, none⟩) ss.length cs) ss wy (.slice a outs2.length c)))
          case atStart => exact ⟨0, au, cu, outs, by omega, by go_num, rfl, Lib.hid (by simp), HC⟩
          case round =>
            clear HC q hlk d0
            obtain ⟨k2, au, cu, outs2, hkg2, rfl, rfl, HE2, HC⟩ := hrel
            cases gk with
            | zero =>
              obtain rfl : k2 = p.els.length := by omega
              have hE : outs2 = bo ++ (ss.take (k + 1)).flatMap (elsAt r) := by rw [HE2.out, List.take_length, HSO.out]
              go_wp2
              go_roundg g2
              case measure => omega
              case rel => exact ⟨k + 1, au, cu, outs2, by omega, by go_num, rfl, Lib.hid hE, HC⟩
            | succ g3 =>
              have hlt2 : k2 < p.els.length := by omega
              obtain ⟨gb, off, rfl, hat⟩ := slice_at HPE.out hlt2
              obtain ⟨ar, crr, hcr, q0, q1, q2, q3, q4, hok2, hr⟩ := elAt hat
              have hmw : (mem W).le (mem wr) := below_mem HC.out.1.bel
              have e0 : wr.cell? ⟨gb, off + k2 * 5, none⟩ = some (.int .i64 p.els[k2].kind) := hmw _ _ _ q0
              have e1 : wr.cell? ⟨gb, off + k2 * 5 + 1, none⟩ = some (.int .i64 p.els[k2].n) := hmw _ _ _ q1
              have e2 : wr.cell? ⟨gb, off + k2 * 5 + 2, none⟩ = some (.int .i64 p.els[k2].time) := hmw _ _ _ q2
              have e3 : wr.cell? ⟨gb, off + k2 * 5 + 3, none⟩ = some (.slice ar p.els[k2].row.length crr) := hmw _ _ _ q3
              have e4 : wr.cell? ⟨gb, off + k2 * 5 + 4, none⟩ = some (.int .i64 p.els[k2].cn) := hmw _ _ _ q4
              have hx8 := h9p _ (List.getElem_mem hlt2)
              have HSN := Lib.hid (show outs2 ++ [p.els[k2]] = outs ++ p.els.take (k2 + 1) by rw [HE2.out, List.append_assoc, take_snoc hlt2])
              have HX := Lib.hid hok2
              have hlen : outs2.length ≤ 200000 := by rw [HE2.out, List.length_append, List.length_take]; omega
              clear hat q0 q1 q2 q3 q4 hok2
              generalize p.els[k2] = x at *
              have hBA : ∀ o, Below wr.heap.size wr (wr.alloc o) := fun o => (Below.refl _ _).alloc (Nat.le_refl _) o
              have HC1 := Lib.hid (HC.out.1.pure (hBA (.cells #[.int .i64 x.kind, .int .i64 x.n, .int .i64 x.time, .slice ar x.row.length crr, .int .i64 x.cn] 42)))
              have HO1 := Lib.hid (fun (wq : World) (h : Below (wr.alloc (.cells #[.int .i64 x.kind, .int .i64 x.n, .int .i64 x.time, .slice ar x.row.length crr, .int .i64 x.cn] 42)).heap.size (wr.alloc (.cells #[.int .i64 x.kind, .int .i64 x.n, .int .i64 x.time, .slice ar x.row.length crr, .int .i64 x.cn] 42)) wq) => HO.out x _ wq (tRow.mono _ _ _ _ (Mem.le_trans (below_mem HC1.out.bel) (below_mem h)) hr) hx8)
              have HL1 := Lib.hid (show outs2.length + 1 ≤ maxLen by unfold maxLen; omega)
              have HL2 := Lib.hid (show (outs2.length + 1) * 56 ≤ 140737488355328 by omega)
              have y := heap_alloc_new wr (.cells #[.int .i64 x.kind, .int .i64 x.n, .int .i64 x.time, .slice ar x.row.length crr, .int .i64 x.cn] 42)
              have HEX1 := Lib.hid (HC.out.2.pure (hBA (.cells #[.int .i64 x.kind, .int .i64 x.n, .int .i64 x.time, .slice ar x.row.length crr, .int .i64 x.cn] 42)))
              clear hr hmw hx8 hBA hcr
              go_upto_region 17 with fail
              generalize (wr.alloc (.cells #[.int .i64 x.kind, .int .i64 x.n, .int .i64 x.time, .slice ar x.row.length crr, .int .i64 x.cn] 42)) = Y at HC1 HO1 HEX1 y ⊢
              generalize wr.heap.size = yb at y ⊢
              clear e0 e1 e2 e3 e4 HC
              have y0 : Y.cell? ⟨yb, 0, none⟩ = some (.int .i64 x.kind) := mem_cells y 0
              have y1 : Y.cell? ⟨yb, 1, none⟩ = some (.int .i64 x.n) := mem_cells y 1
              have y2 : Y.cell? ⟨yb, 2, none⟩ = some (.int .i64 x.time) := mem_cells y 2
              have y3 : Y.cell? ⟨yb, 3, none⟩ = some (.slice ar x.row.length crr) := mem_cells y 3
              have y4 : Y.cell? ⟨yb, 4, none⟩ = some (.int .i64 x.cn) := mem_cells y 4
              go_wp2_with fail
              refine (HO1.out Y (Below.refl _ _)).mono ?_
              rintro e w4 ⟨a4, c4, rfl, hu, hb4⟩
              have HCP := Lib.hid (fun o => HC1.out.copy hb4 HX.out hu o)
              have HEW := Lib.hid (fun o => (HEX1.out.pure hb4).pure ((Below.refl _ _).alloc (Nat.le_refl _) o))
              clear hb4 hu HO1 y y0 y1 y2 y3 y4
              go_wp2_with (at_builtin; refine wpList_append_o1 rfl (.tmp 64) (.tmp 67) 36 rfl (tIn (colM W (w4.alloc (.cells #[.int .i64 x.kind, .int .i64 x.n, .int .i64 x.time, .slice a4 x.row.length c4, .int .i64 x.cn] 42)) _) tEl) Try.underlying36 (infoEl _) rfl _ outs2 rfl (HCP.out _).1.own _ _ x rfl _ el_cells (HCP.out _).2 el_one HL1.out HL2.out ?_)
              intro v' w5 own5 happ
              obtain ⟨a5, c5, rfl, _⟩ := own5.form
              have HC5 := Lib.hid ((HCP.out _).1.add own5 happ)
              have HE5 := Lib.hid ((HEW.out _).add (HCP.out _).1 happ)
              clear own5 happ HCP HL1 HL2 HC1 HEX1 HEW
              go_wp2
              go_roundg g3
              case measure => omega
              case rel => exact ⟨k2 + 1, a5, c5, outs2 ++ [x], by omega, by go_num, rfl, HSN, Lib.hid ⟨HC5.out, HE5.out⟩⟩
end Go.Proofs.Ytfkphdmnelchmaa
