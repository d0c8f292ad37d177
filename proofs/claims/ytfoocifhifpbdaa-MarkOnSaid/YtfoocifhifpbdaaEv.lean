/- Events: readings, validity, long. -/
import Derived.Test.YtfoocifhifpbdaaGaugeR6
import Derived.Test.YtfoocifhifpbdaaOwn6
import Derived.Test.YtfoocifhifpbdaaLong6
namespace Go.Proofs.Ytfoocifhifpbdaa
open Go.RowKit

structure Ev where
  time : Int
  row : List Val
  deriving Inhabited
def tEv : Ty Ev := ⟨2, fun m cs x => ∃ s, cs = [.int .i64 x.time, s] ∧ inI64 x.time ∧ tRow.rv m [s] x.row, fun _ _ _ h => by obtain ⟨s, rfl, _⟩ := h; rfl, fun m m' cs x hm h => by obtain ⟨s, e, i, r⟩ := h; exact ⟨s, e, i, tRow.mono _ _ _ _ hm r⟩⟩
theorem ev_at {m : Mem} {b o : Nat} {x : Ev} (h : tEv.at m b o x) : ∃ a cap, m b o = some (.int .i64 x.time) ∧ m b (o + 1) = some (.slice a x.row.length cap) ∧ inI64 x.time ∧ tRow.rv m [.slice a x.row.length cap] x.row ∧ cap ≤ maxLen := by
  obtain ⟨cs, hc, s, rfl, hi, hr⟩ := h
  obtain ⟨a, cap, rfl, _, h4, h5⟩ := slice_form hr
  exact ⟨a, cap, hc 0 _ rfl, hc 1 _ rfl, hi, h5, h4⟩
def validEv (x : Ev) : Bool := decide (-1000000000000 ≤ x.time ∧ x.time ≤ 1000000000000) && validRow x.row
def tEvs : Ty (List Ev) := tSlice tEv
set_option maxRecDepth 100000 in
theorem reads_val : Reads Try.prog 98 tVal := fun H enc w n cs d h => by
  obtain ⟨xs, n', _, _, hl, hx, hg⟩ := DataW.trod_struct Try.underlying98 h
  rw [show Try.prog.cellsOf 98 = 3 from by kernel_rfl] at hl
  have g0 := hg 0 _ rfl
  obtain ⟨x0, r0⟩ := field_read (reads_int Try.underlying3) 0 1 rfl rfl (by kernel_rfl) g0 (by rw [hx]; decide)
  have g1 := hg 1 _ rfl
  obtain ⟨x1, r1⟩ := field_read (reads_int Try.underlying3) 1 1 rfl rfl (by kernel_rfl) g1 (by rw [hx]; decide)
  have g2 := hg 2 _ rfl
  obtain ⟨x2, r2⟩ := field_read (reads_str Try.underlying9) 2 1 rfl rfl (by kernel_rfl) g2 (by rw [hx]; decide)
  match cs, hl with
  | [c0, c1, c2], _ =>
    obtain ⟨e0, i0⟩ := r0
    obtain ⟨e1, i1⟩ := r1
    obtain ⟨e2, i2⟩ := r2
    simp at e0 e1 e2
    exact ⟨⟨x0, x1, x2⟩, by rw [e0, e1, e2], i0, i1, i2⟩
theorem reads_row : Reads Try.prog 37 tRow := reads_slice Try.underlying37 (by kernel_rfl) (by decide) reads_val
set_option maxRecDepth 100000 in
theorem reads_ev : Reads Try.prog 39 tEv := fun H enc w n cs d h => by
  obtain ⟨xs, n', _, _, hl, hx, hg⟩ := DataW.trod_struct Try.underlying39 h
  rw [show Try.prog.cellsOf 39 = 2 from by kernel_rfl] at hl
  have g0 := hg 0 _ rfl
  obtain ⟨x0, r0⟩ := field_read (reads_int Try.underlying3) 0 1 rfl rfl (by kernel_rfl) g0 (by rw [hx]; decide)
  have g1 := hg 1 _ rfl
  obtain ⟨x1, r1⟩ := field_read reads_row 1 1 rfl rfl (by kernel_rfl) g1 (by rw [hx]; decide)
  match cs, hl with
  | [c0, c1], _ =>
    obtain ⟨e0, i0⟩ := r0
    simp at e0
    exact ⟨⟨x0, x1⟩, c1, by rw [e0], i0, by simpa using r1⟩
theorem reads_evs : Reads Try.prog 23 tEvs := reads_slice Try.underlying23 (by kernel_rfl) (by decide) reads_ev

/-! Validity. -/
set_option maxRecDepth 100000 in
set_option maxHeartbeats 1000000 in
theorem refValidEvent_any (x : Ev) (s : Value) (w : World) (hv : tRow.rv (mem w) [s] x.row) :
    Calls Try.prog 65 #[.agg #[.int .i64 x.time, s]] w fun e w' => e = .returned (.bool (validEv x)) ∧ Below w.heap.size w w' := by
  have hb0 : ∀ o, Below w.heap.size w (w.alloc o) := fun o => (Below.refl _ _).alloc (Nat.le_refl _) o
  obtain ⟨a, cap, rfl, _, _, hv'⟩ := slice_form hv
  have HV := Lib.hid (fun o => refValid_any x.row _ (w.alloc o) (tRow.mono _ _ _ _ (below_mem (hb0 o)) hv'))
  have HT := Lib.hid (rvalid_any x.time)
  have HE := Lib.hid (show validEv x = (decide (-1000000000000 ≤ x.time ∧ x.time ≤ 1000000000000) && validRow x.row) from rfl)
  clear hv hv'
  generalize validRow x.row = r at HV HE
  generalize decide (-1000000000000 ≤ x.time ∧ x.time ≤ 1000000000000) = q at HT HE
  cases q
  · go_enter Try.func65, Try.ntmps65
    go_wp2_with (first | (go_at_call 57; refine (HT.out _).mono ?_; rintro e w' ⟨rfl, rfl⟩) | fail)
    go_ret
    exact ⟨by rw [HE.out]; rfl, hb0 _⟩
  · go_enter Try.func65, Try.ntmps65
    go_wp2_with (first | (go_at_call 57; refine (HT.out _).mono ?_; rintro e w' ⟨rfl, rfl⟩) | (go_at_call 79; refine (HV.out _).mono ?_; rintro e w' ⟨rfl, hb⟩) | fail)
    go_ret
    exact ⟨by rw [HE.out]; rfl, (hb0 _).trans (hb.mono (by simp))⟩
set_option maxRecDepth 100000 in
set_option maxHeartbeats 1000000 in
theorem sorted1_any (x : Ev) (s : Value) (w : World) (hv : tRow.rv (mem w) [s] x.row) :
    Calls Try.prog 35 #[.agg #[.int .i64 x.time, s]] w fun e w' => e = .returned (.bool (!validEv x)) ∧ Below w.heap.size w w' := by
  have hb0 : ∀ o, Below w.heap.size w (w.alloc o) := fun o => (Below.refl _ _).alloc (Nat.le_refl _) o
  obtain ⟨a, cap, rfl, _, _, hv'⟩ := slice_form hv
  have HV := Lib.hid (fun o => rowValid_any x.row _ (w.alloc o) (tRow.mono _ _ _ _ (below_mem (hb0 o)) hv'))
  have HT := Lib.hid (cvalid_any x.time)
  have HE := Lib.hid (show validEv x = (decide (-1000000000000 ≤ x.time ∧ x.time ≤ 1000000000000) && validRow x.row) from rfl)
  clear hv hv'
  generalize validRow x.row = r at HV HE
  generalize decide (-1000000000000 ≤ x.time ∧ x.time ≤ 1000000000000) = q at HT HE
  cases q
  · go_enter Try.func35, Try.ntmps35
    go_wp2_with (first | (go_at_call 36; refine (HT.out _).mono ?_; rintro e w' ⟨rfl, rfl⟩) | fail)
    go_ret
    exact ⟨by rw [HE.out]; rfl, hb0 _⟩
  · go_enter Try.func35, Try.ntmps35
    go_wp2_with (first | (go_at_call 36; refine (HT.out _).mono ?_; rintro e w' ⟨rfl, rfl⟩) | (go_at_call 37; refine (HV.out _).mono ?_; rintro e w' ⟨rfl, hb⟩) | fail)
    go_ret
    exact ⟨by rw [HE.out]; rfl, (hb0 _).trans (hb.mono (by simp))⟩
end Go.Proofs.Ytfoocifhifpbdaa
