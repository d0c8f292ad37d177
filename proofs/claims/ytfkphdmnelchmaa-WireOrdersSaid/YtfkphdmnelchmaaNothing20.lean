/- The law WireNothing: acts as arguments; the walk. -/
import Derived.Test.YtfkphdmnelchmaaNil20
namespace Go.Proofs.Ytfkphdmnelchmaa
open Go.RowKit Go.Maps

def tU8 : Ty Int := ⟨1, fun _ cs x => cs = [.int .u8 x] ∧ 0 ≤ x ∧ x ≤ 255, fun _ _ _ h => by rw [h.1]; rfl, fun _ _ _ _ _ h => h⟩
theorem reads_u8 {P : Program} {T : TypeId} (ht : P.underlying T = some (.int .u8)) : Reads P T tU8 := fun _ _ _ _ _ _ h => by
  obtain ⟨n, h1, _, h3⟩ := DataW.trod_int ht h
  refine ⟨n, h1, ?_⟩
  have : 0 ≤ n ∧ n ≤ 255 := by simpa [Lit.wf, IntKind.min, IntKind.max, IntKind.signed, IntKind.bits] using h3
  exact this
def tCh : Ty (Int × List Val × Int) := ⟨3, fun m cs x => ∃ s, cs = [.int .i64 x.1, s, .int .i64 x.2.2] ∧ (inI64 x.1 ∧ inI64 x.2.2) ∧ tRow.rv m [s] x.2.1, fun _ _ _ h => by obtain ⟨s, rfl, _⟩ := h; rfl, fun m m' cs x hm h => by obtain ⟨s, e, i, r⟩ := h; exact ⟨s, e, i, tRow.mono _ _ _ _ hm r⟩⟩
set_option maxRecDepth 100000 in
theorem reads_val20 : Reads Try.prog 118 tVal := fun H enc w n cs d h => by
  obtain ⟨xs, n', _, _, hl, hx, hg⟩ := DataW.trod_struct Try.underlying118 h
  rw [show Try.prog.cellsOf 118 = 3 from by kernel_rfl] at hl
  have g0 := hg 0 _ rfl
  obtain ⟨x0, r0⟩ := field_read (reads_int Try.underlying3) 0 1 rfl rfl (by kernel_rfl) g0 (by rw [hx]; decide)
  have g1 := hg 1 _ rfl
  obtain ⟨x1, r1⟩ := field_read (reads_int Try.underlying3) 1 1 rfl rfl (by kernel_rfl) g1 (by rw [hx]; decide)
  have g2 := hg 2 _ rfl
  obtain ⟨x2, r2⟩ := field_read (reads_str Try.underlying9) 2 1 rfl rfl (by kernel_rfl) g2 (by rw [hx]; decide)
  match cs, hl with
  | [c0, c1, c2], _ =>
    obtain ⟨e0, i0⟩ := r0
    obtain ⟨e1, i1⟩ := r1
    obtain ⟨e2, i2⟩ := r2
    simp at e0 e1 e2
    exact ⟨⟨x0, x1, x2⟩, by rw [e0, e1, e2], i0, i1, i2⟩
theorem reads_row20 : Reads Try.prog 38 tRow := reads_slice Try.underlying38 (by kernel_rfl) (by decide) reads_val20
set_option maxRecDepth 100000 in
theorem reads_ch : Reads Try.prog 40 tCh := fun H enc w n cs d h => by
  obtain ⟨xs, n', _, _, hl, hx, hg⟩ := DataW.trod_struct Try.underlying40 h
  rw [show Try.prog.cellsOf 40 = 3 from by kernel_rfl] at hl
  have g0 := hg 0 _ rfl
  obtain ⟨x0, r0⟩ := field_read (reads_int Try.underlying3) 0 1 rfl rfl (by kernel_rfl) g0 (by rw [hx]; decide)
  have g1 := hg 1 _ rfl
  obtain ⟨x1, r1⟩ := field_read reads_row20 1 1 rfl rfl (by kernel_rfl) g1 (by rw [hx]; decide)
  have g2 := hg 2 _ rfl
  obtain ⟨x2, r2⟩ := field_read (reads_int Try.underlying3) 2 1 rfl rfl (by kernel_rfl) g2 (by rw [hx]; decide)
  match cs, hl with
  | [c0, c1, c2], _ =>
    obtain ⟨e0, i0⟩ := r0
    obtain ⟨e2, i2⟩ := r2
    simp at e0 e2
    exact ⟨(x0, x1, x2), c1, by rw [e0, e2], ⟨i0, i2⟩, by simpa using r1⟩
set_option maxRecDepth 100000 in
theorem reads_el : Reads Try.prog 42 tEl := fun H enc w n cs d h => by
  obtain ⟨xs, n', _, _, hl, hx, hg⟩ := DataW.trod_struct Try.underlying42 h
  rw [show Try.prog.cellsOf 42 = 5 from by kernel_rfl] at hl
  have g0 := hg 0 _ rfl
  obtain ⟨x0, r0⟩ := field_read (reads_int Try.underlying3) 0 1 rfl rfl (by kernel_rfl) g0 (by rw [hx]; decide)
  have g1 := hg 1 _ rfl
  obtain ⟨x1, r1⟩ := field_read (reads_int Try.underlying3) 1 1 rfl rfl (by kernel_rfl) g1 (by rw [hx]; decide)
  have g2 := hg 2 _ rfl
  obtain ⟨x2, r2⟩ := field_read reads_ch 2 3 rfl rfl (by kernel_rfl) g2 (by rw [hx]; decide)
  match cs, hl with
  | [c0, c1, c2, c3, c4], _ =>
    obtain ⟨e0, i0⟩ := r0
    obtain ⟨e1, i1⟩ := r1
    obtain ⟨s, e2, i2, hr⟩ := r2
    simp at e0 e1 e2
    obtain ⟨rfl, rfl, rfl⟩ := e2
    exact ⟨⟨x0, x1, x2.1, x2.2.1, x2.2.2⟩, _, by rw [e0, e1], ⟨i0, i1, i2.1, i2.2⟩, hr⟩
theorem reads_els : Reads Try.prog 36 tEls := reads_slice Try.underlying36 (by kernel_rfl) (by decide) reads_el
structure Act20 where
  kind : Int
  n : Int
  el : El
  deriving Inhabited
def tAct : Ty Act20 := ⟨7, fun m cs x => ∃ s, cs = [.int .u8 x.kind, .int .i64 x.n, .int .i64 x.el.kind, .int .i64 x.el.n, .int .i64 x.el.time, s, .int .i64 x.el.cn] ∧ (0 ≤ x.kind ∧ x.kind ≤ 255) ∧ inI64 x.n ∧ x.el.ok ∧ tRow.rv m [s] x.el.row,
  fun _ _ _ h => by obtain ⟨s, rfl, _⟩ := h; rfl, fun m m' cs x hm h => by obtain ⟨s, e, i, j, k, r⟩ := h; exact ⟨s, e, i, j, k, tRow.mono _ _ _ _ hm r⟩⟩
set_option maxRecDepth 100000 in
theorem reads_act : Reads Try.prog 44 tAct := fun H enc w n cs d h => by
  obtain ⟨xs, n', _, _, hl, hx, hg⟩ := DataW.trod_struct Try.underlying44 h
  rw [show Try.prog.cellsOf 44 = 7 from by kernel_rfl] at hl
  have g0 := hg 0 _ rfl
  obtain ⟨x0, r0⟩ := field_read (reads_u8 Try.underlying5) 0 1 rfl rfl (by kernel_rfl) g0 (by rw [hx]; decide)
  have g1 := hg 1 _ rfl
  obtain ⟨x1, r1⟩ := field_read (reads_int Try.underlying3) 1 1 rfl rfl (by kernel_rfl) g1 (by rw [hx]; decide)
  have g2 := hg 2 _ rfl
  obtain ⟨x2, r2⟩ := field_read reads_el 2 5 rfl rfl (by kernel_rfl) g2 (by rw [hx]; decide)
  match cs, hl with
  | [c0, c1, c2, c3, c4, c5, c6], _ =>
    obtain ⟨e0, i0⟩ := r0
    obtain ⟨e1, i1⟩ := r1
    obtain ⟨s, e2, i2, hr⟩ := r2
    simp at e0 e1 e2
    obtain ⟨rfl, rfl, rfl, rfl, rfl⟩ := e2
    exact ⟨⟨x0, x1, x2⟩, _, by rw [e0, e1], i0, i1, ⟨i2.1, i2.2.1, i2.2.2.1, i2.2.2.2⟩, hr⟩
theorem reads_acts : Reads Try.prog 31 (tSlice tAct) := reads_slice Try.underlying31 (by kernel_rfl) (by decide) reads_act


set_option maxRecDepth 100000 in
set_option maxHeartbeats 4000000 in
theorem wireNothing_any (a : Act20) (s : Value) (W : World) (hv : tRow.rv (mem W) [s] a.el.row) :
    Calls Try.prog 8 #[.agg #[.int .u8 a.kind, .int .i64 a.n, .int .i64 a.el.kind, .int .i64 a.el.n, .int .i64 a.el.time, s, .int .i64 a.el.cn]] W fun e W' => e = .returned (.bool true) ∧ Below W.heap.size W W' := by
  obtain ⟨ar, cr, rfl, hl, hm, hv⟩ := slice_form hv
  have HG := Lib.hid (fun (wq : World) (h : Below W.heap.size W wq) => great_any a.el _ wq (tRow.mono _ _ _ _ (below_mem h) hv))
  have hb0 : Below W.heap.size W (W.alloc (.cells #[.int .u8 a.kind, .int .i64 a.n, .int .i64 a.el.kind, .int .i64 a.el.n, .int .i64 a.el.time, .slice ar a.el.row.length cr, .int .i64 a.el.cn] 44)) := (Below.refl _ _).alloc (Nat.le_refl _) _
  have HB0 := Lib.hid hb0
  clear hv hb0
  go_enter Try.func8, Try.ntmps8
  go_wp2_with fail
  refine (awake20 _).mono ?_
  rintro e w1 ⟨rfl, hb⟩
  have HB := Lib.hid hb
  clear hb
  have c1 : w1.cell? ⟨W.heap.size, 1, none⟩ = some (.int .i64 a.n) := below_mem HB.out _ _ _ (cell_new 1 rfl)
  have c2 : w1.cell? ⟨W.heap.size, 2, none⟩ = some (.int .i64 a.el.kind) := below_mem HB.out _ _ _ (cell_new 2 rfl)
  have c3 : w1.cell? ⟨W.heap.size, 3, none⟩ = some (.int .i64 a.el.n) := below_mem HB.out _ _ _ (cell_new 3 rfl)
  have c4 : w1.cell? ⟨W.heap.size, 4, none⟩ = some (.int .i64 a.el.time) := below_mem HB.out _ _ _ (cell_new 4 rfl)
  have c5 : w1.cell? ⟨W.heap.size, 5, none⟩ = some (.slice ar a.el.row.length cr) := below_mem HB.out _ _ _ (cell_new 5 rfl)
  have c6 : w1.cell? ⟨W.heap.size, 6, none⟩ = some (.int .i64 a.el.cn) := below_mem HB.out _ _ _ (cell_new 6 rfl)
  go_wp2_with fail
  refine (HG.out _ (HB0.out.trans (HB.out.mono (by simp)))).mono ?_
  rintro e w2 ⟨⟨q, rfl, _⟩, hb⟩
  have HB2 := Lib.hid (HB.out.trans (hb.mono HB.out.size))
  clear hb HB c1 c2 c3 c4 c5 c6
  have HB := HB2
  clear HB2
  cases q
  rotate_left
  · go_wp2
    go_ret
    exact ⟨rfl, HB0.out.trans (HB.out.mono (by simp))⟩
  go_wp2_with fail
  refine (send_nil _).mono ?_
  rintro e w3 ⟨rfl, rfl⟩
  go_wp2_with fail
  refine (receive_nil _).mono ?_
  rintro e w4 ⟨rfl, hb⟩
  have HB2 := Lib.hid ((HB.out.trans (hb.mono HB.out.size)).alloc (Nat.le_trans HB.out.size hb.size) (.cells #[.int .i64 noEl.kind, .int .i64 noEl.n, .int .i64 noEl.time, .slice none 0 0, .int .i64 noEl.cn] 42))
  clear hb HB
  have HB := HB2
  clear HB2
  go_wp2_with fail
  refine (peek_nil _).mono ?_
  rintro e w5 ⟨rfl, hb⟩
  have HB2 := Lib.hid ((HB.out.trans (hb.mono HB.out.size)).alloc (Nat.le_trans HB.out.size hb.size) (.cells #[.int .i64 noEl.kind, .int .i64 noEl.n, .int .i64 noEl.time, .slice none 0 0, .int .i64 noEl.cn] 42))
  clear hb HB
  have HB := HB2
  clear HB2
  go_upto_region 9 with fail
  generalize (w5.alloc (.cells #[.int .i64 noEl.kind, .int .i64 noEl.n, .int .i64 noEl.time, .slice none 0 0, .int .i64 noEl.cn] 42)) = X at HB ⊢
  have c1 : X.cell? ⟨W.heap.size, 1, none⟩ = some (.int .i64 a.n) := below_mem HB.out _ _ _ (cell_new 1 rfl)
  have c2 : X.cell? ⟨W.heap.size, 2, none⟩ = some (.int .i64 a.el.kind) := below_mem HB.out _ _ _ (cell_new 2 rfl)
  have c3 : X.cell? ⟨W.heap.size, 3, none⟩ = some (.int .i64 a.el.n) := below_mem HB.out _ _ _ (cell_new 3 rfl)
  have c4 : X.cell? ⟨W.heap.size, 4, none⟩ = some (.int .i64 a.el.time) := below_mem HB.out _ _ _ (cell_new 4 rfl)
  have c5 : X.cell? ⟨W.heap.size, 5, none⟩ = some (.slice ar a.el.row.length cr) := below_mem HB.out _ _ _ (cell_new 5 rfl)
  have c6 : X.cell? ⟨W.heap.size, 6, none⟩ = some (.int .i64 a.el.cn) := below_mem HB.out _ _ _ (cell_new 6 rfl)
  go_wp2_with fail
  refine (contents_nil _).mono ?_
  rintro e w6 ⟨rfl, rfl⟩
  go_wp2_with fail
  refine (overtake_nil a.el ar a.el.row.length cr _).mono ?_
  rintro e w7 ⟨rfl, hb⟩
  have HB2 := Lib.hid (HB.out.trans (hb.mono HB.out.size))
  clear hb HB c1 c2 c3 c4 c5 c6
  have HB := HB2
  clear HB2
  have c1 : w7.cell? ⟨W.heap.size, 1, none⟩ = some (.int .i64 a.n) := below_mem HB.out _ _ _ (cell_new 1 rfl)
  have c2 : w7.cell? ⟨W.heap.size, 2, none⟩ = some (.int .i64 a.el.kind) := below_mem HB.out _ _ _ (cell_new 2 rfl)
  have c3 : w7.cell? ⟨W.heap.size, 3, none⟩ = some (.int .i64 a.el.n) := below_mem HB.out _ _ _ (cell_new 3 rfl)
  have c4 : w7.cell? ⟨W.heap.size, 4, none⟩ = some (.int .i64 a.el.time) := below_mem HB.out _ _ _ (cell_new 4 rfl)
  have c5 : w7.cell? ⟨W.heap.size, 5, none⟩ = some (.slice ar a.el.row.length cr) := below_mem HB.out _ _ _ (cell_new 5 rfl)
  have c6 : w7.cell? ⟨W.heap.size, 6, none⟩ = some (.int .i64 a.el.cn) := below_mem HB.out _ _ _ (cell_new 6 rfl)
  go_wp2_with fail
  refine (put_nil a.el ar a.el.row.length cr _).mono ?_
  rintro e w8 ⟨rfl, hb⟩
  have HB2 := Lib.hid (HB.out.trans (hb.mono HB.out.size))
  clear hb HB c1 c2 c3 c4 c5 c6
  have HB := HB2
  clear HB2
  have c1 : w8.cell? ⟨W.heap.size, 1, none⟩ = some (.int .i64 a.n) := below_mem HB.out _ _ _ (cell_new 1 rfl)
  go_wp2_with (first | (go_at_call 18; refine (deliver_nil _ _).mono ?_; rintro e w' ⟨rfl, rfl⟩) | (go_at_call 19; refine (lose_nil _ _).mono ?_; rintro e w' ⟨rfl, rfl⟩) | (go_at_call 21; refine (resize_nil _ _).mono ?_; rintro e w' ⟨rfl, rfl⟩) | (go_at_call 29; refine (waits_nil _).mono ?_; rintro e w' ⟨rfl, rfl⟩) | (go_at_call 30; refine (queue_nil _).mono ?_; rintro e w' ⟨rfl, rfl⟩) | (go_at_call 31; refine (buffer_nil _).mono ?_; rintro e w' ⟨rfl, rfl⟩) | (go_at_call 28; refine (credits_nil _).mono ?_; rintro e w' ⟨rfl, rfl⟩) | (go_at_call 37; refine (spilled_nil _).mono ?_; rintro e w' ⟨rfl, rfl⟩) | (go_at_call 38; refine (way_nil _).mono ?_; rintro e w' ⟨rfl, rfl⟩))
  go_ret
  exact ⟨rfl, HB0.out.trans (HB.out.mono (by simp))⟩
end Go.Proofs.Ytfkphdmnelchmaa
