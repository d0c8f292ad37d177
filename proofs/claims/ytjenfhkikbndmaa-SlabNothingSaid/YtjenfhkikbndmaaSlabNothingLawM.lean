/- The statement SlabNothingSaid: for every input the law SlabNothing returns true and leaves its arguments as they were. -/
import Derived.Shelf.SlIterI.Keys
import Derived.Shelf.SlIterI.Sorted
import Derived.Shelf.SlIterI.Nil
import Derived.Shelf.SortM.Plain
import Derived.Shelf.SortM.SortNone
import Derived.Ground.GgzProg
import Derived.Ground.SlgmProg
import Derived.Test.YtjenfhkikbndmaaProg
import Derived.Test.YtjenfhkikbndmaaSn04
set_option linter.unusedVariables false
set_option linter.unusedSimpArgs false
/- package slab: checked (for chapter 14; printed out of XHeapB). -/
namespace Go.Proofs.Ytjenfhkikbndmaa
open Go.RowKit Go.Maps

def bigS (t : ByteArray) : Bool := decide (65536 < t.size)
/-- checked's answer. -/
def chkS (N g : Int) (nm : ByteArray) (ts : List ByteArray) : Int := if isName nm = true ∧ ts.any bigS = false then (if 0 ≤ g ∧ g < N then 0 else 7) else 1
theorem chkS_ok {N g : Int} {nm : ByteArray} {ts : List ByteArray} (h : chkS N g nm ts = 0) : isName nm = true ∧ ts.any bigS = false ∧ 0 ≤ g ∧ g < N := by
  unfold chkS at h
  split at h
  · next h1 =>
    split at h
    · next h2 => exact ⟨h1.1, h1.2, h2⟩
    · cases h
  · cases h
theorem chkS_cases (N g : Int) (nm : ByteArray) (ts : List ByteArray) : chkS N g nm ts = 0 ∨ chkS N g nm ts = 1 ∨ chkS N g nm ts = 7 := by
  unfold chkS
  split
  · split
    · exact .inl rfl
    · exact .inr (.inr rfl)
  · exact .inr (.inl rfl)
set_option maxHeartbeats 400000 in
theorem checkedS1_any (t : ByteArray) (w : World) (ht : t.size ≤ maxLen) :
    Calls Try.prog 42 #[.string t] w fun e w' => e = .returned (.bool (bigS t)) ∧ Below w.heap.size w w' := by
  unfold maxLen at ht
  by_cases h : (65536 : Int) < t.size
  all_goals
    have h' : decide (65536 < t.size) = decide ((65536 : Int) < t.size) := by congr 1; apply propext; omega
    have HB := Lib.hid h'
    clear h'
    go_enter Try.func42, Try.ntmps42
    go_wp2
    go_ret
    exact ⟨by unfold bigS; rw [HB.out]; simp [h], Below.refl _ _⟩
set_option maxHeartbeats 1000000 in
theorem checkedS_nil (g : Int) (nm : ByteArray) (v : Value) (w : World) :
    Calls Try.prog 21 #[.pointer none, .int .i64 g, .string nm, v] w fun e w' => e = .returned (.int .i64 1) ∧ Below w.heap.size w w' := by
  go_enter Try.func21, Try.ntmps21
  go_wp2
  go_ret
  exact ⟨rfl, Below.refl _ _⟩
set_option maxRecDepth 100000 in
set_option maxHeartbeats 2000000 in
theorem checkedS_any {base p : Nat} {r : HL} (g : Int) (nm : ByteArray) (ts : List ByteArray) (v : Value) (w : World) (hI : LInv w base p r) (hg : inI64 g) (hn : nm.size ≤ maxLen) (hv : tStrs.rv (mem w) [v] ts) :
    Calls Try.prog 21 #[.pointer (some ⟨p, 0, none⟩), .int .i64 g, .string nm, v] w fun e w' => e = .returned (.int .i64 (chkS r.s.groups g nm ts)) ∧ Below w.heap.size w w' := by
  have HCF := Lib.hid (fun wr (h : Below w.heap.size w wr) => containsFuncStr 42 #[] bigS ts v wr (tStrs.mono _ _ _ _ (below_mem h) hv)
    (fun _ _ => rfl) (fun x hx wr _ => checkedS1_any x wr hx))
  have HCV := Lib.hid (fun wr (h : Below w.heap.size w wr) => (show wr.cell? ⟨p, 0, none⟩ = some (.int .i64 r.s.groups) from mem_cells (hI.pure h).hb 0))
  obtain ⟨a, k, rfl, _⟩ := slice_form hv
  clear hI hv
  generalize r.s.groups = N at *
  go_enter Try.func21, Try.ntmps21
  go_wp2_with fail
  refine (rowName_any nm _ hn).mono ?_
  rintro e w1 ⟨rfl, rfl⟩
  cases hnm : isName nm with
  | false =>
    have HE := Lib.hid (show chkS N g nm ts = 1 from by unfold chkS; rw [hnm]; simp)
    clear hnm
    go_wp2
    go_ret
    exact ⟨by rw [HE.out] <;> rfl, Below.refl _ _⟩
  | true =>
  go_wp2_with fail
  refine (HCF.out _ (Below.refl _ _)).mono ?_
  rintro e w1 ⟨rfl, hB⟩
  cases hts : ts.any bigS with
  | true =>
    have HE := Lib.hid (show chkS N g nm ts = 1 from by unfold chkS; rw [hts]; simp)
    clear hnm hts
    go_wp2
    go_ret
    exact ⟨by rw [HE.out] <;> rfl, hB⟩
  | false =>
  have HE := Lib.hid (show chkS N g nm ts = if 0 ≤ g ∧ g < N then 0 else 7 from by unfold chkS; rw [hnm, hts]; simp)
  have hcell := HCV.out _ hB
  clear hnm hts HCF HCV
  by_cases h0 : g < 0
  · have HF := Lib.hid (show ¬ (0 ≤ g ∧ g < N) by omega)
    go_wp2
    go_ret
    exact ⟨by rw [HE.out, if_neg HF.out] <;> rfl, hB⟩
  · by_cases h1 : N ≤ g
    · have HF := Lib.hid (show ¬ (0 ≤ g ∧ g < N) by omega)
      go_wp2
      go_ret
      exact ⟨by rw [HE.out, if_neg HF.out] <;> rfl, hB⟩
    · have HF := Lib.hid (show (0 ≤ g ∧ g < N) by omega)
      go_wp2
      go_ret
      exact ⟨by rw [HE.out, if_pos HF.out] <;> rfl, hB⟩
end Go.Proofs.Ytjenfhkikbndmaa
/- The methods of a nil slab (for chapter 14). -/
namespace Go.Proofs.Ytjenfhkikbndmaa
open Go.RowKit Go.Maps
attribute [local go_sem] Oper.semAt_some
theorem getNil14 (g : Int) (nm key : ByteArray) (w : World) : Calls Try.prog 6 #[.pointer none, .int .i64 g, .string nm, .string key] w fun e w' => e = .returned (.tuple #[.string ⟨#[]⟩, .int .i64 1]) ∧ Below w.heap.size w w' := by
  have hb0 : ∀ o, Below w.heap.size w (w.alloc o) := fun o => (Below.refl _ _).alloc (Nat.le_refl _) o
  go_enter Try.func6, Try.ntmps6
  go_wp2_with fail
  refine (checkedS_nil _ _ _ _).mono ?_
  rintro e w1 ⟨rfl, hb⟩
  have hB := pure_trans (hb0 _) hb
  go_wp2
  go_ret2
  exact ⟨rfl, hB⟩
theorem putNil14 (g : Int) (nm key val : ByteArray) (w : World) : Calls Try.prog 10 #[.pointer none, .int .i64 g, .string nm, .string key, .string val] w fun e w' => e = .returned (.int .i64 1) ∧ Below w.heap.size w w' := by
  have hb0 : ∀ o, Below w.heap.size w (w.alloc o) := fun o => (Below.refl _ _).alloc (Nat.le_refl _) o
  go_enter Try.func10, Try.ntmps10
  go_wp2_with fail
  refine (checkedS_nil _ _ _ _).mono ?_
  rintro e w1 ⟨rfl, hb⟩
  have hB := pure_trans (hb0 _) hb
  go_wp2
  go_ret
  exact ⟨rfl, hB⟩
theorem scanNil14 (g : Int) (nm a b : ByteArray) (w : World) : Calls Try.prog 23 #[.pointer none, .int .i64 g, .string nm, .string a, .string b] w fun e w' => e = .returned (.tuple #[.slice none 0 0, .int .i64 1]) ∧ Below w.heap.size w w' := by
  have hb0 : ∀ o, Below w.heap.size w (w.alloc o) := fun o => (Below.refl _ _).alloc (Nat.le_refl _) o
  go_enter Try.func23, Try.ntmps23
  go_wp2_with fail
  refine (checkedS_nil _ _ _ _).mono ?_
  rintro e w1 ⟨rfl, hb⟩
  have hB := pure_trans (hb0 _) hb
  go_wp2
  go_ret2
  exact ⟨rfl, hB⟩
theorem clearNil14 (g : Int) (nm : ByteArray) (w : World) : Calls Try.prog 7 #[.pointer none, .int .i64 g, .string nm] w fun e w' => e = .returned (.tuple #[.int .i64 0, .int .i64 1]) ∧ Below w.heap.size w w' := by
  go_enter Try.func7, Try.ntmps7
  go_wp2_with fail
  refine (scanNil14 _ _ _ _ _).mono ?_
  rintro e w1 ⟨rfl, hb⟩
  go_wp2
  refine wp_loop_rounds 1 ?_
  rw [rounds_succ]
  go_wp2
  go_ret2
  exact ⟨rfl, hb⟩
theorem snapshotNil14 (w : World) : Calls Try.prog 8 #[.pointer none] w fun e w' => e = .returned (.tuple #[.int .i64 0, .int .i64 1]) ∧ Below w.heap.size w w' := by
  go_enter Try.func8, Try.ntmps8
  go_wp2
  go_ret2
  exact ⟨rfl, Below.refl _ _⟩
theorem allNil14 (w : World) : Calls Try.prog 11 #[.pointer none] w fun e w' => e = .returned (.slice none 0 0) ∧ Below w.heap.size w w' := by
  go_enter Try.func11, Try.ntmps11
  go_wp2
  go_ret
  exact ⟨rfl, Below.refl _ _⟩
theorem countNil14 (w : World) : Calls Try.prog 12 #[.pointer none] w fun e w' => e = .returned (.int .i64 0) ∧ Below w.heap.size w w' := by
  go_enter Try.func12, Try.ntmps12
  go_wp2
  go_ret
  exact ⟨rfl, Below.refl _ _⟩
theorem tableNil14 (w : World) : Calls Try.prog 13 #[.pointer none] w fun e w' => e = .returned (.int .i64 0) ∧ Below w.heap.size w w' := by
  go_enter Try.func13, Try.ntmps13
  go_wp2
  go_ret
  exact ⟨rfl, Below.refl _ _⟩
theorem snapshotsNil14 (w : World) : Calls Try.prog 14 #[.pointer none] w fun e w' => e = .returned (.slice none 0 0) ∧ Below w.heap.size w w' := by
  go_enter Try.func14, Try.ntmps14
  go_wp2
  go_ret
  exact ⟨rfl, Below.refl _ _⟩
theorem keptNil14 (w : World) : Calls Try.prog 15 #[.pointer none] w fun e w' => e = .returned (.slice none 0 0) ∧ Below w.heap.size w w' := by
  go_enter Try.func15, Try.ntmps15
  go_wp2
  go_ret
  exact ⟨rfl, Below.refl _ _⟩
theorem levelsNil14 (w : World) : Calls Try.prog 16 #[.pointer none] w fun e w' => e = .returned (.slice none 0 0) ∧ Below w.heap.size w w' := by
  go_enter Try.func16, Try.ntmps16
  go_wp2
  go_ret
  exact ⟨rfl, Below.refl _ _⟩
theorem flushNil14 (w : World) : Calls Try.prog 18 #[.pointer none] w fun e w' => e = .returned (.int .i64 1) ∧ Below w.heap.size w w' := by
  go_enter Try.func18, Try.ntmps18
  go_wp2
  go_ret
  exact ⟨rfl, Below.refl _ _⟩
theorem snapNil14 (k : Int) (w : World) : Calls Try.prog 29 #[.pointer none, .int .i64 k] w fun e w' => e = .returned (.tuple #[.slice none 0 0, .int .i64 1]) ∧ Below w.heap.size w w' := by
  go_enter Try.func29, Try.ntmps29
  go_wp2
  go_ret2
  exact ⟨rfl, Below.refl _ _⟩
theorem dropNil14 (k : Int) (w : World) : Calls Try.prog 17 #[.pointer none, .int .i64 k] w fun e w' => e = .returned (.int .i64 1) ∧ Below w.heap.size w w' := by
  go_enter Try.func17, Try.ntmps17
  go_wp2_with fail
  refine (snapNil14 _ _).mono ?_
  rintro e w1 ⟨rfl, hb⟩
  go_wp2
  go_ret
  exact ⟨rfl, hb⟩
theorem growNone (w : World) : Calls Try.prog 49 #[.slice none 0 0, .int .i64 0] w fun e w' => e = .returned (.slice none 0 0) ∧ w' = w := by
  go_enter Try.func49, Try.ntmps49
  go_wp2
  go_ret
  exact ⟨rfl, rfl⟩
theorem concatNone (w : World) : Calls Try.prog 31 #[.slice none 0 0] w fun e w' => e = .returned (.slice none 0 0) ∧ w' = w := by
  go_enter Try.func31, Try.ntmps31
  go_wp2
  refine wp_loop_rounds 1 ?_
  rw [rounds_succ]
  go_wp2_with fail
  refine (growNone _).mono ?_
  rintro e w1 ⟨rfl, rfl⟩
  go_wp2
  refine wp_loop_rounds 1 ?_
  rw [rounds_succ]
  go_wp2
  go_ret
  exact ⟨rfl, rfl⟩
theorem numbersNone (w : World) : Calls Try.prog 30 #[.slice none 0 0] w fun e w' => e = .returned (.slice none 0 0) ∧ w' = w := by
  go_enter Try.func30, Try.ntmps30
  go_wp2
  refine wp_loop_rounds 1 ?_
  rw [rounds_succ]
  go_wp2
  go_ret
  exact ⟨rfl, rfl⟩
theorem runsNil14 (k : Int) (w : World) : Calls Try.prog 9 #[.pointer none, .int .i64 k] w fun e w' => e = .returned (.tuple #[.slice none 0 0, .int .i64 1]) ∧ Below w.heap.size w w' := by
  go_enter Try.func9, Try.ntmps9
  go_wp2_with fail
  refine (snapNil14 _ _).mono ?_
  rintro e w1 ⟨rfl, hb⟩
  have HB := Lib.hid hb
  clear hb
  go_wp2_with fail
  refine (concatNone _).mono ?_
  rintro e w2 ⟨rfl, rfl⟩
  go_wp2_with fail
  refine (numbersNone _).mono ?_
  rintro e w3 ⟨rfl, rfl⟩
  go_wp2
  go_ret2
  exact ⟨rfl, HB.out⟩
end Go.Proofs.Ytjenfhkikbndmaa
/- Acts of chapter 13 read of a law's arguments. -/
namespace Go.Proofs.Ytjenfhkikbndmaa
open Go.RowKit Go.Maps

def tU8 : Ty Int := ⟨1, fun _ cs x => cs = [.int .u8 x] ∧ 0 ≤ x ∧ x ≤ 255, fun _ _ _ h => by rw [h.1]; rfl, fun _ _ _ _ _ h => h⟩
theorem reads_u8 {P : Program} {T : TypeId} (ht : P.underlying T = some (.int .u8)) : Reads P T tU8 := fun _ _ _ _ _ _ h => by
  obtain ⟨n, h1, _, h3⟩ := DataW.trod_int ht h
  refine ⟨n, h1, ?_⟩
  have : 0 ≤ n ∧ n ≤ 255 := by simpa [Lit.wf, IntKind.min, IntKind.max, IntKind.signed, IntKind.bits] using h3
  exact this
set_option maxRecDepth 100000 in
theorem reads_hact : Reads Try.prog 23 tAct := fun H enc w n cs d h => by
  obtain ⟨xs, n', _, _, hl, hx, hg⟩ := DataW.trod_struct Try.underlying23 h
  rw [show Try.prog.cellsOf 23 = 6 from by kernel_rfl] at hl
  have g0 := hg 0 _ rfl
  obtain ⟨x0, r0⟩ := field_read (reads_u8 Try.underlying5) 0 1 rfl rfl (by kernel_rfl) g0 (by rw [hx]; decide)
  have g1 := hg 1 _ rfl
  obtain ⟨x1, r1⟩ := field_read (reads_int Try.underlying3) 1 1 rfl rfl (by kernel_rfl) g1 (by rw [hx]; decide)
  have g2 := hg 2 _ rfl
  obtain ⟨x2, r2⟩ := field_read (reads_int Try.underlying3) 2 1 rfl rfl (by kernel_rfl) g2 (by rw [hx]; decide)
  have g3 := hg 3 _ rfl
  obtain ⟨x3, r3⟩ := field_read (reads_str Try.underlying9) 3 1 rfl rfl (by kernel_rfl) g3 (by rw [hx]; decide)
  have g4 := hg 4 _ rfl
  obtain ⟨x4, r4⟩ := field_read (reads_str Try.underlying9) 4 1 rfl rfl (by kernel_rfl) g4 (by rw [hx]; decide)
  have g5 := hg 5 _ rfl
  obtain ⟨x5, r5⟩ := field_read (reads_str Try.underlying9) 5 1 rfl rfl (by kernel_rfl) g5 (by rw [hx]; decide)
  match cs, hl with
  | [c0, c1, c2, c3, c4, c5], _ =>
    obtain ⟨e0, i0⟩ := r0
    obtain ⟨e1, i1⟩ := r1
    obtain ⟨e2, i2⟩ := r2
    obtain ⟨e3, i3⟩ := r3
    obtain ⟨e4, i4⟩ := r4
    obtain ⟨e5, i5⟩ := r5
    simp at e0 e1 e2 e3 e4 e5
    exact ⟨⟨x0, x1, x2, x3, x4, x5⟩, by rw [e0, e1, e2, e3, e4, e5], i0, i1, i2, i3, i4, i5⟩
theorem reads_hacts : Reads Try.prog 26 tActs := reads_slice Try.underlying26 (by kernel_rfl) (by decide) reads_hact
end Go.Proofs.Ytjenfhkikbndmaa
/- package slab: Put (for chapter 14). -/
namespace Go.Proofs.Ytjenfhkikbndmaa
open Go.RowKit Go.Maps
/-- What Put answers. -/
def LS.hasE (s : LS) (x : Ent) : Bool := match lkC recC s.lists ⟨x, false⟩ with | some y => !y.grave | none => false
def LS.putAns (s : LS) (x : Ent) : Int := if chkS s.groups x.g x.nm [x.key, x.val] = 0 then (if s.hasE x = false ∧ s.count = 4000 then 4 else 0) else chkS s.groups x.g x.nm [x.key, x.val]
noncomputable def LS.putS (s : LS) (x : Ent) : LS := if s.putAns x = 0 then ({ s with count := if s.hasE x then s.count else s.count + 1 } : LS).write ⟨x, false⟩ else s
/-- A slab at rest. -/
structure LS.Rest (s : LS) (w : Nat) : Prop where
  snd : s.Sound
  bd : s.Bd w
  asc : AscC recC s.table
  fan2 : 2 ≤ s.fan
  fan8 : s.fan ≤ 8
  fill2 : 2 ≤ s.fill ∧ s.fill ≤ 64
  tl : (s.table.length : Int) < s.fill
  cnt : 0 ≤ s.count ∧ s.count ≤ 4000
theorem LS.Rest.fit {s : LS} {w : Nat} (h : s.Rest w) (hw : w ≤ 9000000) : s.Fit := by
  have hb := h.bd
  have hrc : ∀ n ∈ s.lv.flatten, (s.rc n).length ≤ w := fun n hn => by
    have h1 := wr_le (f := recW s) hn
    have h2 := hb.rcd
    show recW s n ≤ w
    omega
  refine ⟨fun l hl => ?_, fun l hl => ?_, h.snd.lvKept, by have := hb.len; omega, by have := hb.num; omega, fun x hx => by have := row_le hx; have := hb.num; omega⟩
  · unfold LS.lists at hl
    rcases List.mem_cons.1 hl with rfl | hl
    · exact h.asc
    · obtain ⟨n, hn, rfl⟩ := List.mem_map.1 hl
      obtain ⟨x, hx, hnx⟩ := List.mem_flatten.1 hn
      exact h.snd.asc n (h.snd.lvKept x hx n hnx)
  · unfold LS.lists at hl
    rcases List.mem_cons.1 hl with rfl | hl
    · have := h.tl; have := h.fill2; omega
    · obtain ⟨n, hn, rfl⟩ := List.mem_map.1 hl
      have := hrc n hn; omega
theorem strs2 {m : Mem} {b : Nat} {x y : ByteArray} (h0 : m b 0 = some (.string x)) (h1 : m b 1 = some (.string y)) (hx : x.size ≤ maxLen) (hy : y.size ≤ maxLen) : tStrs.rv m [.slice (some ⟨b, 0, none⟩) 2 2] [x, y] := by
  refine ⟨some ⟨b, 0, none⟩, 2, rfl, Nat.le_refl 2, by unfold maxLen; decide, fun _ => ⟨b, 0, rfl, fun k hk => ?_⟩⟩
  have hk : k < 2 := hk
  match k, hk with
  | 0, _ => exact ⟨[.string x], fun j v hj => by match j, hj with | 0, hj => simp at hj; subst hj; exact h0, rfl, hx⟩
  | 1, _ => exact ⟨[.string y], fun j v hj => by match j, hj with | 0, hj => simp at hj; subst hj; exact h1, rfl, hy⟩
theorem LS.Rest.count {s : LS} {w : Nat} (h : s.Rest w) {c : Int} (hc : 0 ≤ c ∧ c ≤ 4000) : ({ s with count := c } : LS).Rest w :=
  ⟨h.snd.same rfl rfl rfl rfl (fun _ => rfl), ⟨h.bd.len, h.bd.num, h.bd.rcd, h.bd.sn, h.bd.snl, h.bd.run⟩, h.asc, h.fan2, h.fan8, h.fill2, h.tl, hc⟩
section
variable {base p : Nat} {r : HL}
theorem writeR_any (W : World) (w : Nat) (hI : LInv W base p r) (ht : r.tc = r.tv) (hR : r.s.Rest w) (hw : w ≤ 8000000) (hnn : r.nn ≤ 100000000000000) (x : RecS) (hx : x.e.okE) :
    Calls Try.prog 32 #[ptrS p, x.v] W fun e w' => e = .returned (.tuple #[]) ∧ ∃ r', LStep W base p r w' r' ∧ r'.s = r.s.write x ∧ r'.tc = r'.tv ∧ r'.nn ≤ r.nn + w + 5 :=
  write_any W w hI ht hR.snd hR.bd hR.asc hR.fan2 hR.fan8 (by omega) hnn (by have := hR.tl; have := hR.fill2; omega) x hx
theorem LStep.counted {W Y : World} (hI : LInv W base p r) (ht : r.tc = r.tv) (hb : Below W.heap.size W Y) (c : Int) :
    LStep W base p r (Y.setCell ⟨p, 3, none⟩ (.int .i64 c)) { r with s := { r.s with count := c } } ∧ ∀ b, W.heap.size ≤ b → b < Y.heap.size → (Y.setCell ⟨p, 3, none⟩ (.int .i64 c)).heap[b]? = Y.heap[b]? := by
  have hp := hI.kind p (.inl rfl)
  have h1 := LStep.own (hI.pure hb) ((Keeps.refl (fun k => k = p) Y).setCell (p := ⟨p, 3, none⟩) (fun _ => rfl) (.int .i64 c)) { r.s with count := c } rfl rfl rfl rfl rfl rfl (Nat.le_refl _) r.tc (setS (hI.pure hb).hb)
  exact ⟨(LStep.pure hI hb).trans h1, fun b hbb hbl => ((Keeps.refl (fun k => k = p) Y).setCell (p := ⟨p, 3, none⟩) (fun _ => rfl) (.int .i64 c)).block b hbl (by omega)⟩
set_option maxRecDepth 100000 in
set_option maxHeartbeats 2000000 in
theorem put14_any (W : World) (w : Nat) (hI : LInv W base p r) (ht : r.tc = r.tv) (hR : r.s.Rest w) (hw : w ≤ 8000000) (hnn : r.nn ≤ 100000000000000) (x : Ent) (hx : x.okE) :
    Calls Try.prog 10 #[ptrS p, .int .i64 x.g, .string x.nm, .string x.key, .string x.val] W fun e w' => e = .returned (.int .i64 (r.s.putAns x)) ∧ ∃ r', LStep W base p r w' r' ∧ r'.s = r.s.putS x ∧ r'.tc = r'.tv ∧ r'.nn ≤ r.nn + w + 5 := by
  have HX0 := Lib.hid (show Below W.heap.size W (W.alloc (.cells #[.string x.key, .string x.val] 9)) from (Below.refl _ _).alloc (Nat.le_refl _) _)
  have hs0 := strs2 (m := mem (W.alloc (.cells #[.string x.key, .string x.val] 9))) (b := W.heap.size) (x := x.key) (y := x.val) (mem_cells_new W _ _ (0, 0) 0) (mem_cells_new W _ _ (0, 0) 1) hx.2.2.1 hx.2.2.2
  have HCK := Lib.hid (checkedS_any x.g x.nm [x.key, x.val] _ _ (hI.pure HX0.out) hx.1 hx.2.1 hs0)
  have HFIT := Lib.hid (hR.fit (by omega))
  have HPA := Lib.hid (show r.s.putAns x = if chkS r.s.groups x.g x.nm [x.key, x.val] = 0 then (if r.s.hasE x = false ∧ r.s.count = 4000 then 4 else 0) else chkS r.s.groups x.g x.nm [x.key, x.val] from rfl)
  have HPS := Lib.hid (show r.s.putS x = if r.s.putAns x = 0 then ({ r.s with count := if r.s.hasE x then r.s.count else r.s.count + 1 } : LS).write ⟨x, false⟩ else r.s from rfl)
  have HHE := Lib.hid (show r.s.hasE x = match lkC recC r.s.lists ⟨x, false⟩ with | some y => !y.grave | none => false from rfl)
  have HNW := Lib.hid (fun (Y : World) (h : Below W.heap.size W Y) => newest_any x Y (hI.pure h) ht HFIT.out)
  have HI := Lib.hid hI
  have HR := Lib.hid hR
  have HXK := Lib.hid hx
  have hcnt := hR.cnt
  clear hI hR hx hs0
  obtain ⟨g1, n1, k1, v1⟩ := x
  simp only at HX0 HCK HPA HPS HHE HNW
  generalize chkS r.s.groups g1 n1 [k1, v1] = c at *
  generalize hpa : r.s.putAns ⟨g1, n1, k1, v1⟩ = A at *
  go_enter Try.func10, Try.ntmps10
  go_wp2_with fail
  refine HCK.out.mono ?_
  rintro e w1 ⟨rfl, hb1⟩
  have HB1 := Lib.hid (pure_trans HX0.out hb1)
  clear hb1 HCK HX0
  by_cases hc : c = 0
  · subst hc
    rw [if_pos rfl] at HPA
    have HBA := Lib.hid (show Below W.heap.size W (w1.alloc (.cells #[.int .i64 g1, .string n1, .string k1, .string v1] 52)) from HB1.out.alloc HB1.out.size _)
    have HEA := Lib.hid (heap_alloc_new w1 (.cells #[.int .i64 g1, .string n1, .string k1, .string v1] 52))
    go_wp2_with fail
    refine (HNW.out _ HBA.out).mono ?_
    rintro e w2 ⟨rfl, hb2⟩
    have HB2 := Lib.hid (pure_trans HBA.out hb2)
    have HE2 := Lib.hid ((hb2.block _ (Array.getElem?_eq_some_iff.1 HEA.out).1).trans HEA.out)
    clear hb2 HNW HEA HBA
    generalize hlk : lkC recC r.s.lists ⟨⟨g1, n1, k1, v1⟩, false⟩ = A1 at *
    have HCT := Lib.hid (fun (Y : World) (h : Below W.heap.size W Y) => LStep.counted HI.out ht h (r.s.count + 1))
    have HC3 := Lib.hid (fun (Y : World) (h : Below W.heap.size W Y) => (show Y.cell? ⟨p, 3, none⟩ = some (.int .i64 r.s.count) from mem_cells (HI.out.pure h).hb 3))
    have HWR := Lib.hid (fun (Y : World) (h : Below W.heap.size W Y) => writeR_any Y w (HI.out.pure h) ht HR.out hw hnn ⟨⟨g1, n1, k1, v1⟩, false⟩ HXK.out)
    have HWC := Lib.hid (fun (Y : World) (h : Below W.heap.size W Y) (hc : r.s.count + 1 ≤ 4000) => writeR_any (Y.setCell ⟨p, 3, none⟩ (.int .i64 (r.s.count + 1))) w (HCT.out Y h).1.inv ht (HR.out.count (by omega)) hw hnn ⟨⟨g1, n1, k1, v1⟩, false⟩ HXK.out)
    have hwr : IntKind.i64.wrap (r.s.count + 1) = r.s.count + 1 := IntWalk.i64_in _ (by omega)
    have HSZ := Lib.hid (show W.heap.size ≤ w1.heap.size from HB1.out.size)
    clear HXK HFIT HB1
    cases A1 with
    | none =>
      have HB3 := Lib.hid (show Below W.heap.size W (w2.alloc (.cells recZ.cells.toArray 54)) from HB2.out.alloc HB2.out.size _)
      have hE3 : (w2.alloc (.cells recZ.cells.toArray 54)).heap[w1.heap.size]? = some (.cells #[.int .i64 g1, .string n1, .string k1, .string v1] 52 (0, 0)) := (Below.heap_alloc _ _ _ (Array.getElem?_eq_some_iff.1 HE2.out).1).trans HE2.out
      have hG3 : (w2.alloc (.cells recZ.cells.toArray 54)).cell? ⟨w2.heap.size, 4, none⟩ = some (.bool recZ.grave) := mem_cells (heap_alloc_new w2 _) 4
      have hl3 : w1.heap.size < (w2.alloc (.cells recZ.cells.toArray 54)).heap.size := (Array.getElem?_eq_some_iff.1 hE3).1
      have HE4 := Lib.hid (((HCT.out _ HB3.out).2 _ HSZ.out hl3).trans hE3)
      have c3 := HC3.out _ HB3.out
      have e0 : (w2.alloc (.cells recZ.cells.toArray 54)).cell? ⟨w1.heap.size, 0, none⟩ = some (.int .i64 g1) := mem_cells hE3 0
      have e1 : (w2.alloc (.cells recZ.cells.toArray 54)).cell? ⟨w1.heap.size, 1, none⟩ = some (.string n1) := mem_cells hE3 1
      have e2 : (w2.alloc (.cells recZ.cells.toArray 54)).cell? ⟨w1.heap.size, 2, none⟩ = some (.string k1) := mem_cells hE3 2
      have e3 : (w2.alloc (.cells recZ.cells.toArray 54)).cell? ⟨w1.heap.size, 3, none⟩ = some (.string v1) := mem_cells hE3 3
      have d0 : ((w2.alloc (.cells recZ.cells.toArray 54)).setCell ⟨p, 3, none⟩ (.int .i64 (r.s.count + 1))).cell? ⟨w1.heap.size, 0, none⟩ = some (.int .i64 g1) := mem_cells HE4.out 0
      have d1 : ((w2.alloc (.cells recZ.cells.toArray 54)).setCell ⟨p, 3, none⟩ (.int .i64 (r.s.count + 1))).cell? ⟨w1.heap.size, 1, none⟩ = some (.string n1) := mem_cells HE4.out 1
      have d2 : ((w2.alloc (.cells recZ.cells.toArray 54)).setCell ⟨p, 3, none⟩ (.int .i64 (r.s.count + 1))).cell? ⟨w1.heap.size, 2, none⟩ = some (.string k1) := mem_cells HE4.out 2
      have d3 : ((w2.alloc (.cells recZ.cells.toArray 54)).setCell ⟨p, 3, none⟩ (.int .i64 (r.s.count + 1))).cell? ⟨w1.heap.size, 3, none⟩ = some (.string v1) := mem_cells HE4.out 3
      clear HE2 hE3 hl3
      by_cases h4 : r.s.count = 4000
      · have hd : (r.s.count == 4000) = true := by simp [h4]
        have HA := Lib.hid (show A = 4 by rw [HPA.out, if_pos ⟨HHE.out, h4⟩])
        have HP := Lib.hid (show r.s.putS ⟨g1, n1, k1, v1⟩ = r.s by rw [HPS.out, if_neg (by rw [HA.out]; decide)])
        clear HPA HPS h4
        go_wp2
        go_ret
        exact ⟨by rw [HA.out] <;> rfl, r, LStep.pure HI.out HB3.out, HP.out.symm, ht, by omega⟩
      · have hd : (r.s.count == 4000) = false := by simp [h4]
        have z3 := frozen_cells (HI.out.pure HB3.out).hb 3
        have HA := Lib.hid (show A = 0 by rw [HPA.out, if_neg (fun h => h4 h.2)])
        have HP := Lib.hid (show r.s.putS ⟨g1, n1, k1, v1⟩ = ({ r.s with count := r.s.count + 1 } : LS).write ⟨⟨g1, n1, k1, v1⟩, false⟩ by rw [HPS.out, if_pos HA.out, if_neg (by rw [HHE.out]; simp)])
        have HW4 := Lib.hid (HWC.out _ HB3.out (by omega))
        clear HPA HPS h4
        go_wp2_with fail
        refine HW4.out.mono ?_
        rintro e w9 ⟨rfl, r9, hst, es, et, en⟩
        go_wp2
        go_ret
        exact ⟨by rw [HA.out] <;> rfl, r9, (HCT.out _ HB3.out).1.trans hst, by rw [HP.out]; exact es, et, en⟩
    | some y =>
      have HB3 := Lib.hid (show Below W.heap.size W (w2.alloc (.cells y.cells.toArray 54)) from HB2.out.alloc HB2.out.size _)
      obtain ⟨ye, yg⟩ := y
      cases yg with
      | true =>
        have hE3 : (w2.alloc (.cells (⟨ye, true⟩ : RecS).cells.toArray 54)).heap[w1.heap.size]? = some (.cells #[.int .i64 g1, .string n1, .string k1, .string v1] 52 (0, 0)) := (Below.heap_alloc _ _ _ (Array.getElem?_eq_some_iff.1 HE2.out).1).trans HE2.out
        have hG3 : (w2.alloc (.cells (⟨ye, true⟩ : RecS).cells.toArray 54)).cell? ⟨w2.heap.size, 4, none⟩ = some (.bool (⟨ye, true⟩ : RecS).grave) := mem_cells (heap_alloc_new w2 _) 4
        have hl3 : w1.heap.size < (w2.alloc (.cells (⟨ye, true⟩ : RecS).cells.toArray 54)).heap.size := (Array.getElem?_eq_some_iff.1 hE3).1
        have HE4 := Lib.hid (((HCT.out _ HB3.out).2 _ HSZ.out hl3).trans hE3)
        have c3 := HC3.out _ HB3.out
        have e0 : (w2.alloc (.cells (⟨ye, true⟩ : RecS).cells.toArray 54)).cell? ⟨w1.heap.size, 0, none⟩ = some (.int .i64 g1) := mem_cells hE3 0
        have e1 : (w2.alloc (.cells (⟨ye, true⟩ : RecS).cells.toArray 54)).cell? ⟨w1.heap.size, 1, none⟩ = some (.string n1) := mem_cells hE3 1
        have e2 : (w2.alloc (.cells (⟨ye, true⟩ : RecS).cells.toArray 54)).cell? ⟨w1.heap.size, 2, none⟩ = some (.string k1) := mem_cells hE3 2
        have e3 : (w2.alloc (.cells (⟨ye, true⟩ : RecS).cells.toArray 54)).cell? ⟨w1.heap.size, 3, none⟩ = some (.string v1) := mem_cells hE3 3
        have d0 : ((w2.alloc (.cells (⟨ye, true⟩ : RecS).cells.toArray 54)).setCell ⟨p, 3, none⟩ (.int .i64 (r.s.count + 1))).cell? ⟨w1.heap.size, 0, none⟩ = some (.int .i64 g1) := mem_cells HE4.out 0
        have d1 : ((w2.alloc (.cells (⟨ye, true⟩ : RecS).cells.toArray 54)).setCell ⟨p, 3, none⟩ (.int .i64 (r.s.count + 1))).cell? ⟨w1.heap.size, 1, none⟩ = some (.string n1) := mem_cells HE4.out 1
        have d2 : ((w2.alloc (.cells (⟨ye, true⟩ : RecS).cells.toArray 54)).setCell ⟨p, 3, none⟩ (.int .i64 (r.s.count + 1))).cell? ⟨w1.heap.size, 2, none⟩ = some (.string k1) := mem_cells HE4.out 2
        have d3 : ((w2.alloc (.cells (⟨ye, true⟩ : RecS).cells.toArray 54)).setCell ⟨p, 3, none⟩ (.int .i64 (r.s.count + 1))).cell? ⟨w1.heap.size, 3, none⟩ = some (.string v1) := mem_cells HE4.out 3
        clear HE2 hE3 hl3
        by_cases h4 : r.s.count = 4000
        · have hd : (r.s.count == 4000) = true := by simp [h4]
          have HA := Lib.hid (show A = 4 by rw [HPA.out, if_pos ⟨HHE.out, h4⟩])
          have HP := Lib.hid (show r.s.putS ⟨g1, n1, k1, v1⟩ = r.s by rw [HPS.out, if_neg (by rw [HA.out]; decide)])
          clear HPA HPS h4
          go_wp2
          go_ret
          exact ⟨by rw [HA.out] <;> rfl, r, LStep.pure HI.out HB3.out, HP.out.symm, ht, by omega⟩
        · have hd : (r.s.count == 4000) = false := by simp [h4]
          have z3 := frozen_cells (HI.out.pure HB3.out).hb 3
          have HA := Lib.hid (show A = 0 by rw [HPA.out, if_neg (fun h => h4 h.2)])
          have HP := Lib.hid (show r.s.putS ⟨g1, n1, k1, v1⟩ = ({ r.s with count := r.s.count + 1 } : LS).write ⟨⟨g1, n1, k1, v1⟩, false⟩ by rw [HPS.out, if_pos HA.out, if_neg (by rw [HHE.out]; simp)])
          have HW4 := Lib.hid (HWC.out _ HB3.out (by omega))
          clear HPA HPS h4
          go_wp2_with fail
          refine HW4.out.mono ?_
          rintro e w9 ⟨rfl, r9, hst, es, et, en⟩
          go_wp2
          go_ret
          exact ⟨by rw [HA.out] <;> rfl, r9, (HCT.out _ HB3.out).1.trans hst, by rw [HP.out]; exact es, et, en⟩
      | false =>
        have HA := Lib.hid (show A = 0 by rw [HPA.out, if_neg (fun h => by rw [HHE.out] at h; exact absurd h.1 (by simp))])
        have HP := Lib.hid (show r.s.putS ⟨g1, n1, k1, v1⟩ = r.s.write ⟨⟨g1, n1, k1, v1⟩, false⟩ by rw [HPS.out, if_pos HA.out, if_pos (by rw [HHE.out]; simp)])
        have HW4 := Lib.hid (HWR.out _ HB3.out)
        have hE3 : (w2.alloc (.cells (⟨ye, false⟩ : RecS).cells.toArray 54)).heap[w1.heap.size]? = some (.cells #[.int .i64 g1, .string n1, .string k1, .string v1] 52 (0, 0)) := (Below.heap_alloc _ _ _ (Array.getElem?_eq_some_iff.1 HE2.out).1).trans HE2.out
        have hG3 : (w2.alloc (.cells (⟨ye, false⟩ : RecS).cells.toArray 54)).cell? ⟨w2.heap.size, 4, none⟩ = some (.bool (⟨ye, false⟩ : RecS).grave) := mem_cells (heap_alloc_new w2 _) 4
        have hl3 : w1.heap.size < (w2.alloc (.cells (⟨ye, false⟩ : RecS).cells.toArray 54)).heap.size := (Array.getElem?_eq_some_iff.1 hE3).1
        have HE4 := Lib.hid (((HCT.out _ HB3.out).2 _ HSZ.out hl3).trans hE3)
        have c3 := HC3.out _ HB3.out
        have e0 : (w2.alloc (.cells (⟨ye, false⟩ : RecS).cells.toArray 54)).cell? ⟨w1.heap.size, 0, none⟩ = some (.int .i64 g1) := mem_cells hE3 0
        have e1 : (w2.alloc (.cells (⟨ye, false⟩ : RecS).cells.toArray 54)).cell? ⟨w1.heap.size, 1, none⟩ = some (.string n1) := mem_cells hE3 1
        have e2 : (w2.alloc (.cells (⟨ye, false⟩ : RecS).cells.toArray 54)).cell? ⟨w1.heap.size, 2, none⟩ = some (.string k1) := mem_cells hE3 2
        have e3 : (w2.alloc (.cells (⟨ye, false⟩ : RecS).cells.toArray 54)).cell? ⟨w1.heap.size, 3, none⟩ = some (.string v1) := mem_cells hE3 3
        have d0 : ((w2.alloc (.cells (⟨ye, false⟩ : RecS).cells.toArray 54)).setCell ⟨p, 3, none⟩ (.int .i64 (r.s.count + 1))).cell? ⟨w1.heap.size, 0, none⟩ = some (.int .i64 g1) := mem_cells HE4.out 0
        have d1 : ((w2.alloc (.cells (⟨ye, false⟩ : RecS).cells.toArray 54)).setCell ⟨p, 3, none⟩ (.int .i64 (r.s.count + 1))).cell? ⟨w1.heap.size, 1, none⟩ = some (.string n1) := mem_cells HE4.out 1
        have d2 : ((w2.alloc (.cells (⟨ye, false⟩ : RecS).cells.toArray 54)).setCell ⟨p, 3, none⟩ (.int .i64 (r.s.count + 1))).cell? ⟨w1.heap.size, 2, none⟩ = some (.string k1) := mem_cells HE4.out 2
        have d3 : ((w2.alloc (.cells (⟨ye, false⟩ : RecS).cells.toArray 54)).setCell ⟨p, 3, none⟩ (.int .i64 (r.s.count + 1))).cell? ⟨w1.heap.size, 3, none⟩ = some (.string v1) := mem_cells HE4.out 3
        clear HE2 hE3 hl3
        clear d0 d1 d2 d3 HPA HPS HWC
        go_wp2_with fail
        refine HW4.out.mono ?_
        rintro e w9 ⟨rfl, r9, hst, es, et, en⟩
        go_wp2
        go_ret
        exact ⟨by rw [HA.out] <;> rfl, r9, (LStep.pure HI.out HB3.out).trans hst, by rw [HP.out]; exact es, et, en⟩
  · have hcb : (c != 0) = true := by simp [hc]
    rw [if_neg hc] at HPA
    have hA0 : A ≠ 0 := by rw [HPA.out]; exact hc
    rw [if_neg hA0] at HPS
    go_wp2
    go_ret
    exact ⟨by rw [HPA.out] <;> rfl, r, LStep.pure HI.out HB1.out, HPS.out.symm, ht, by omega⟩
end
end Go.Proofs.Ytjenfhkikbndmaa
/- package slab: New (for chapter 14). -/
namespace Go.Proofs.Ytjenfhkikbndmaa
open Go.RowKit Go.Maps
def newS (g f n : Int) : Int := if (1 ≤ g ∧ g ≤ 128) ∧ (2 ≤ f ∧ f ≤ 64) ∧ (2 ≤ n ∧ n ≤ 8) then 0 else 7
def LS.fresh (g f n : Int) : LS := ⟨g, f, n, 0, [], [], [], [], fun _ => [], fun _ => 0, 0, 0⟩
set_option maxRecDepth 100000 in
set_option maxHeartbeats 1000000 in
theorem slabNew_bad (g f n : Int) (w : World) (h : newS g f n ≠ 0) :
    Calls Try.prog 19 #[.int .i64 g, .int .i64 f, .int .i64 n] w fun e w' => e = .returned (.tuple #[.pointer none, .int .i64 7]) ∧ w' = w := by
  have hh : ¬ ((1 ≤ g ∧ g ≤ 128) ∧ (2 ≤ f ∧ f ≤ 64) ∧ (2 ≤ n ∧ n ≤ 8)) := fun e => h (if_pos e)
  by_cases h1 : g < 1
  · go_enter Try.func19, Try.ntmps19
    go_wp2
    go_ret2
    first | exact ⟨rfl, rfl⟩ | rfl
  by_cases h2 : 128 < g
  · go_enter Try.func19, Try.ntmps19
    go_wp2
    go_ret2
    first | exact ⟨rfl, rfl⟩ | rfl
  by_cases h3 : f < 2
  · go_enter Try.func19, Try.ntmps19
    go_wp2
    go_ret2
    first | exact ⟨rfl, rfl⟩ | rfl
  by_cases h4 : 64 < f
  · go_enter Try.func19, Try.ntmps19
    go_wp2
    go_ret2
    first | exact ⟨rfl, rfl⟩ | rfl
  by_cases h5 : n < 2
  · go_enter Try.func19, Try.ntmps19
    go_wp2
    go_ret2
    first | exact ⟨rfl, rfl⟩ | rfl
  by_cases h6 : 8 < n
  · go_enter Try.func19, Try.ntmps19
    go_wp2
    go_ret2
    first | exact ⟨rfl, rfl⟩ | rfl
  exact absurd ⟨⟨by omega, by omega⟩, ⟨by omega, by omega⟩, ⟨by omega, by omega⟩⟩ hh
set_option maxRecDepth 100000 in
set_option maxHeartbeats 1000000 in
theorem slabNew_any (g f n : Int) (w : World) (h : newS g f n = 0) :
    Calls Try.prog 19 #[.int .i64 g, .int .i64 f, .int .i64 n] w fun e w' => ∃ p r, e = .returned (.tuple #[ptrS p, .int .i64 0]) ∧ LInv w' w.heap.size p r ∧ r.s = LS.fresh g f n ∧ r.tc = r.tv ∧ r.nn = 0 ∧ Below w.heap.size w w' ∧ ∀ b o v, r.M b o ≠ some v := by
  have hh : (1 ≤ g ∧ g ≤ 128) ∧ (2 ≤ f ∧ f ≤ 64) ∧ (2 ≤ n ∧ n ≤ 8) := by
    unfold newS at h
    split at h
    · assumption
    · cases h
  obtain ⟨⟨a1, a2⟩, ⟨a3, a4⟩, a5, a6⟩ := hh
  have b1 : ¬ g < 1 := by omega
  have b2 : ¬ 128 < g := by omega
  have b3 : ¬ f < 2 := by omega
  have b4 : ¬ 64 < f := by omega
  have b5 : ¬ n < 2 := by omega
  have b6 : ¬ 8 < n := by omega
  have hmm := @run_makeMap Try.prog
  obtain ⟨X, hX⟩ : ∃ X, X = (w.alloc (.map #[] 0)).alloc (.map #[] 0) := ⟨_, rfl⟩
  have hXs : X.heap.size = w.heap.size + 2 := by rw [hX]; simp
  have HI := Lib.hid (show LInv (X.alloc (.cells #[.int .i64 g, .int .i64 f, .int .i64 n, .int .i64 0, .slice none 0 0, .slice none 0 0, .map (some w.heap.size), .map (some (w.heap.size + 1)), .int .i64 0, .int .i64 0] 65)) w.heap.size X.heap.size ⟨LS.fresh g f n, .slice none 0 0, .slice none 0 0, .slice none 0 0, w.heap.size, w.heap.size + 1, 0, fun _ => none, noMem⟩ from by
    have hm1 : IMap (vSn noMem (fun _ => none)) X w.heap.size 0 (fun _ => none) := by rw [hX]; exact (MapOf.made w).alloc _
    have hm2 : IMap (vRn (fun _ => none)) X (w.heap.size + 1) 0 (fun _ => none) := by
      rw [hX]
      have := MapOf.made (P := Try.prog) (k := 3) (lk := keyI) (vr := vRn (fun _ => none)) (w.alloc (.map #[] 0))
      rwa [World.size_alloc] at this
    refine ⟨heap_alloc_new X _, Owns.nil _ _ _ _, Owns.nil _ _ _ _, ?_, ?_, fun m hm => absurd hm (by simp [LS.fresh]), fun _ _ _ e => (by cases e), fun _ _ e => (by cases e), (by show w.heap.size ≠ w.heap.size + 1; omega), fun _ _ _ e => (by cases e), ?_, (by simp; omega)⟩
    · have e : snF (LS.fresh g f n) = fun _ => none := by funext k; rfl
      show IMap _ _ _ _ (snF (LS.fresh g f n))
      rw [e]; exact hm1.alloc _
    · have e : keptF (LS.fresh g f n) = fun _ => none := by funext k; unfold keptF LS.fresh; simp
      show IMap _ _ _ _ (keptF (LS.fresh g f n))
      rw [e]; exact hm2.alloc _
    · rintro b (e | e | e | e | e | ⟨j, hj, _⟩)
      · omega
      · have e : b = w.heap.size := e
        omega
      · have e : b = w.heap.size + 1 := e
        omega
      · cases e
      · cases e
      · exact absurd hj (by simp [LS.fresh]))
  have HB := Lib.hid (show Below w.heap.size w (X.alloc (.cells #[.int .i64 g, .int .i64 f, .int .i64 n, .int .i64 0, .slice none 0 0, .slice none 0 0, .map (some w.heap.size), .map (some (w.heap.size + 1)), .int .i64 0, .int .i64 0] 65)) from by
    have h1 : Below w.heap.size w X := by rw [hX]; exact ((Below.refl _ _).alloc (Nat.le_refl _) _).alloc (by simp) _
    exact h1.alloc (by omega) _)
  rw [hXs] at HI
  subst hX
  clear h a1 a2 a3 a4 a5 a6 hXs
  go_enter Try.func19, Try.ntmps19
  go_wp2
  go_ret2
  exact ⟨w.heap.size + 2, rfl, _, HI.out, rfl, rfl, rfl, HB.out, fun b o v e => (by cases e)⟩
end Go.Proofs.Ytjenfhkikbndmaa
/- A slab at rest stays so (for chapter 14). No program in sight. -/
namespace Go.Proofs.Ytjenfhkikbndmaa
/-- What only levels and runs change not. -/
structure Kin (s t : LS) : Prop where
  groups : t.groups = s.groups
  fill : t.fill = s.fill
  fan : t.fan = s.fan
  count : t.count = s.count
  sn : t.sn = s.sn
  last : t.last = s.last
theorem Kin.refl (s : LS) : Kin s s := ⟨rfl, rfl, rfl, rfl, rfl, rfl⟩
theorem Kin.trans {a b c : LS} (h : Kin a b) (k : Kin b c) : Kin a c := ⟨k.groups.trans h.groups, k.fill.trans h.fill, k.fan.trans h.fan, k.count.trans h.count, k.sn.trans h.sn, k.last.trans h.last⟩
theorem SameBut.kin {s t : LS} (h : SameBut s t) : Kin s t := ⟨h.groups, h.fill, h.fan, h.count, h.sn, h.last⟩
theorem merge1_kin (s : LS) (n : Nat) : Kin s (s.merge1 n) := by
  have h := (lefts_same (lvL s.lv n) { s with lv := s.lv.set n [] }).kin
  have h0 : Kin s { s with lv := s.lv.set n [] } := ⟨rfl, rfl, rfl, rfl, rfl, rfl⟩
  unfold LS.merge1
  split
  · exact h0.trans h
  · exact (h0.trans h).trans ⟨rfl, rfl, rfl, rfl, rfl, rfl⟩
theorem casc_kin : ∀ (k n : Nat) (s : LS), Kin s (LS.cascF k n s)
  | 0, _, s => Kin.refl s
  | k + 1, n, s => by
    unfold LS.cascF
    split
    · exact (merge1_kin s n).trans (casc_kin k _ _)
    · exact Kin.refl s
theorem flush_kin (s : LS) : Kin s s.flush := by
  unfold LS.flush
  split
  · exact Kin.refl s
  · exact Kin.trans (b := s.tabled) ⟨rfl, rfl, rfl, rfl, rfl, rfl⟩ (casc_kin _ _ _)
theorem LS.write_kin (s : LS) (x : RecS) : Kin s (s.write x) := by
  unfold LS.write
  split
  · exact Kin.trans (b := s.tab x) ⟨rfl, rfl, rfl, rfl, rfl, rfl⟩ (flush_kin _)
  · exact ⟨rfl, rfl, rfl, rfl, rfl, rfl⟩
theorem LS.Bd.wide {s : LS} {w w' : Nat} (h : s.Bd w) (hw : w ≤ w') : s.Bd w' := by
  refine ⟨by have := h.len; omega, by have := h.num; omega, by have := h.rcd; omega, fun x hx => by have := h.sn x hx; omega, h.snl, ?_⟩
  have := h.run
  have h3 : w * (w + 2) ≤ w' * (w' + 2) := Nat.mul_le_mul hw (by omega)
  omega
theorem LS.Rest.wide {s : LS} {w w' : Nat} (h : s.Rest w) (hw : w ≤ w') : s.Rest w' := ⟨h.snd, h.bd.wide hw, h.asc, h.fan2, h.fan8, h.fill2, h.tl, h.cnt⟩
theorem LS.Rest.flush {s : LS} {w : Nat} (h : s.Rest w) : s.flush.Rest (w + 2) := by
  obtain ⟨h1, h2, h3⟩ := LS.flush_keeps h.snd h.bd h.asc h.fan2
  have hk := flush_kin s
  exact ⟨h1, h2, by rw [h3]; exact List.Pairwise.nil, by rw [hk.fan]; exact h.fan2, by rw [hk.fan]; exact h.fan8, by rw [hk.fill]; exact h.fill2, by rw [hk.fill, h3]; have := h.fill2; simp; omega, by rw [hk.count]; exact h.cnt⟩
theorem LS.Rest.write {s : LS} {w : Nat} (h : s.Rest w) (x : RecS) : (s.write x).Rest (w + 3) := by
  have hs := LS.tab_sound h.snd x
  have hb := LS.tab_bd h.bd x
  have ha : AscC recC (s.tab x).table := withC_asc recC_good h.asc x
  have hl : (s.tab x).table.length ≤ s.table.length + 1 := withC_le s.table x
  have ht := h.tl
  unfold LS.write
  by_cases hf : ((s.tab x).table.length : Int) = s.fill
  · rw [if_pos hf]
    obtain ⟨h1, h2, h3⟩ := LS.flush_keeps hs hb ha h.fan2
    have hk := flush_kin (s.tab x)
    refine ⟨h1, h2.wide (by omega), by rw [h3]; exact List.Pairwise.nil, by rw [hk.fan]; exact h.fan2, by rw [hk.fan]; exact h.fan8, by rw [hk.fill]; exact h.fill2, by rw [hk.fill, h3]; have := h.fill2; show ((0 : Nat) : Int) < s.fill; omega, by rw [hk.count]; exact h.cnt⟩
  · rw [if_neg hf]
    exact ⟨hs, hb.wide (by omega), ha, h.fan2, h.fan8, h.fill2, by show ((s.tab x).table.length : Int) < s.fill; omega, h.cnt⟩
theorem LS.Rest.putS {s : LS} {w : Nat} (h : s.Rest w) (x : Ent) : (s.putS x).Rest (w + 3) := by
  unfold LS.putS
  split
  · next he =>
    refine (h.count ?_).write ⟨x, false⟩
    have hc := h.cnt
    by_cases hh : s.hasE x = true
    · rw [if_pos hh]; exact hc
    · rw [if_neg hh]
      unfold LS.putAns at he
      split at he
      · split at he
        · cases he
        · next h1 h2 =>
          have : s.count ≠ 4000 := fun e => h2 ⟨by simpa using hh, e⟩
          omega
      · next h1 => exact absurd he h1
  · exact h.wide (by omega)
theorem LS.Rest.fresh {g f n : Int} (h : newS g f n = 0) : (LS.fresh g f n).Rest 0 := by
  have hh : (1 ≤ g ∧ g ≤ 128) ∧ (2 ≤ f ∧ f ≤ 64) ∧ (2 ≤ n ∧ n ≤ 8) := by
    unfold newS at h
    split at h
    · assumption
    · cases h
  obtain ⟨-, h2, h3⟩ := hh
  refine ⟨⟨fun m hm => (by cases hm), fun m => ⟨fun hm => (by cases hm), fun hm => absurd hm (by unfold LS.cnt snCnt LS.fresh; simp [wr])⟩, fun m hm => (by cases hm), List.Pairwise.nil, fun m hm => (by cases hm)⟩, ⟨Nat.le_refl _, Nat.le_refl _, Nat.le_refl _, fun x hx => (by cases hx), Nat.zero_le _, Nat.le_refl _⟩, List.Pairwise.nil, h3.1, h3.2, h2, ?_, ⟨Int.le_refl _, (by decide : (0 : Int) ≤ 4000)⟩⟩
  show ((0 : Nat) : Int) < f
  omega
end Go.Proofs.Ytjenfhkikbndmaa
/- Chapter 14's example, plainly. No program in sight. -/
namespace Go.Proofs.Ytjenfhkikbndmaa
abbrev nS : ByteArray := ⟨#[110]⟩
abbrev xA : Ent := ⟨0, nS, ⟨#[97]⟩, ⟨#[49]⟩⟩
abbrev xB : Ent := ⟨0, nS, ⟨#[98]⟩, ⟨#[50]⟩⟩
abbrev xC : Ent := ⟨0, nS, ⟨#[99]⟩, ⟨#[51]⟩⟩
abbrev xD : Ent := ⟨0, nS, ⟨#[97]⟩, ⟨#[52]⟩⟩
theorem put_small {s : LS} {x : Ent} (hg : s.groups = 8) (hx : chkS 8 x.g x.nm [x.key, x.val] = 0) (hc : s.count ≠ 4000) : s.putAns x = 0 := by
  unfold LS.putAns
  rw [hg, if_pos hx, if_neg (fun h => hc h.2)]
theorem putS_of {s : LS} {x : Ent} {b : Bool} (h : s.putAns x = 0) (hb : s.hasE x = b) : s.putS x = ({ s with count := if b then s.count else s.count + 1 } : LS).write ⟨x, false⟩ := by
  unfold LS.putS
  rw [if_pos h, hb]
theorem write_full {s : LS} {x : RecS} {l : List RecS} (h : withC recC s.table x = l) (hf : (l.length : Int) = s.fill) : s.write x = ({ s with table := l } : LS).flush := by
  unfold LS.write LS.tab
  rw [h]
  exact if_pos hf
theorem write_part {s : LS} {x : RecS} {l : List RecS} (h : withC recC s.table x = l) (hf : (l.length : Int) ≠ s.fill) : s.write x = ({ s with table := l } : LS) := by
  unfold LS.write LS.tab
  rw [h]
  exact if_neg hf
theorem casc_stop {k n : Nat} {s : LS} (h : ¬ (n < s.lv.length ∧ s.fan ≤ ((lvL s.lv n).length : Int))) : LS.cascF (k + 1) n s = s := by
  unfold LS.cascF
  exact if_neg h
theorem casc_go {k n : Nat} {s : LS} (h : n < s.lv.length ∧ s.fan ≤ ((lvL s.lv n).length : Int)) : LS.cascF (k + 1) n s = LS.cascF k (n + 1) (s.merge1 n) := by
  conv => lhs; unfold LS.cascF
  exact if_pos h
def aw1 : LS := ⟨8, 2, 2, 1, [⟨xA, false⟩], [], [], [], fun _ => [], fun _ => 0, 0, 0⟩
theorem hasA : (LS.fresh 8 2 2).hasE xA = false := by kernel_rfl
theorem aw1_eq : (LS.fresh 8 2 2).putS xA = aw1 := by
  rw [putS_of (put_small rfl (by decide) (by decide)) hasA, write_part (l := [⟨xA, false⟩]) rfl (by decide)]
  rfl
theorem aw1_b : withC recC aw1.table ⟨xB, false⟩ = [⟨xA, false⟩, ⟨xB, false⟩] := by kernel_rfl
theorem hasB : aw1.hasE xB = false := by kernel_rfl
def aw2 : LS := ⟨8, 2, 2, 2, [], [[1]], [], [1], updN (fun _ => []) 1 [⟨xA, false⟩, ⟨xB, false⟩], updN (fun _ => 0) 1 1, 0, 1⟩
theorem aw2_eq : aw1.putS xB = aw2 := by
  rw [putS_of (put_small rfl (by decide) (by decide)) hasB, show (({ aw1 with count := if false = true then aw1.count else aw1.count + 1 } : LS)) = { aw1 with count := 2 } from rfl, write_full (s := { aw1 with count := 2 }) (l := [⟨xA, false⟩, ⟨xB, false⟩]) aw1_b rfl, LS.flush_eq _ (by simp), casc_stop (fun h => absurd h.2 (by decide))]
  rfl
theorem hasC : aw2.hasE xC = false := by kernel_rfl
def aw3 : LS := { aw2 with count := 3, table := [⟨xC, false⟩] }
theorem aw3_eq : aw2.putS xC = aw3 := by
  rw [putS_of (put_small rfl (by decide) (by decide)) hasC, write_part (l := [⟨xC, false⟩]) rfl (by decide)]
  rfl
theorem hasD : aw3.hasE xD = true := by kernel_rfl
theorem aw3_d : withC recC aw3.table ⟨xD, false⟩ = [⟨xD, false⟩, ⟨xC, false⟩] := by kernel_rfl
def aw4 : LS := ⟨8, 2, 2, 3, [], [[2, 1]], [], [1, 2], updN (updN (fun _ => []) 1 [⟨xA, false⟩, ⟨xB, false⟩]) 2 [⟨xD, false⟩, ⟨xC, false⟩], updN (updN (fun _ => 0) 1 1) 2 1, 0, 2⟩
theorem aw4_m : mergeC recC ((lvL aw4.lv 0).map aw4.rc) = [⟨xD, false⟩, ⟨xB, false⟩, ⟨xC, false⟩] := by kernel_rfl
theorem aw4_left : aw4.leftL 0 ≠ [] := by
  unfold LS.leftL
  rw [aw4_m]
  simp [liveR]
theorem aw5_eq : aw3.putS xD = aw4.merge1 0 := by
  rw [putS_of (put_small rfl (by decide) (by decide)) hasD, show (({ aw3 with count := if true = true then aw3.count else aw3.count + 1 } : LS)) = { aw3 with count := 3 } from rfl, write_full (s := { aw3 with count := 3 }) (l := [⟨xD, false⟩, ⟨xC, false⟩]) aw3_d rfl, LS.flush_eq _ (by simp)]
  refine Eq.trans (casc_go (s := aw4) (k := 3) (n := 0) ⟨by decide, by decide⟩) (casc_stop (fun h => absurd h.2 ?_))
  unfold LS.merge1
  rw [if_neg aw4_left]
  decide
theorem aw5_says : (aw3.putS xD).kept = [3] ∧ (aw3.putS xD).count = 3 := by
  rw [aw5_eq]
  unfold LS.merge1
  rw [if_neg aw4_left]
  exact ⟨by decide, by decide⟩
end Go.Proofs.Ytjenfhkikbndmaa
/-
  DERIVED: THE SHELF's CONTRACTS AT THIS DUMP, IN PLAIN WORDS (tools/lay-plain.mjs out of 'TryShelfZ24.lean', which tools/lay-shelf.mjs wrote): THE SAME DECLARATIONS UNDER THE SAME NAMES: 'import', 'namespace', 'open', 'def', 'theorem' AND NOTHING ELSE: no command of the shelf's: FOR A HAND-IN. Each laying: the table of numbers ('.._ren') and one theorem, a field a fact of the dump's own or the kernel's comparison; each contract: ONE APPLICATION.
-/
namespace Go.Proofs
open Go.Shelf
def Try.keys37_ren : Go.Shelf.Ren := ⟨fun | 7 => 37 | 10 => 54 | n => n, fun | 23 => 63 | 26 => 3 | 3 => 74 | 28 => 81 | 0 => 0 | 27 => 80 | 33 => 84 | 4 => 4 | n => n, fun | n => n⟩
theorem Try.keys37 : Go.Proofs.SlLaysZI.n7 Try.prog Try.keys37_ren := {
  mixed := by kernel_rfl
  f7 := ⟨Try.f37.name, by decide, Try.func37.trans (congrArg some (by kernel_rfl))⟩
  f10 := ⟨Try.f54.name, by decide, Try.func54.trans (congrArg some (by kernel_rfl))⟩
  t0 := Try.underlying0
  a0 := Try.isAgg0
  z0 := Try.sizeOf0
  v0 := Try.zeroValue0
  t4 := Try.underlying4
  a4 := Try.isAgg4
  z4 := Try.sizeOf4
  v4 := Try.zeroValue4
  t23 := Try.underlying63
  a23 := Try.isAgg63
  z23 := Try.sizeOf63
  v23 := Try.zeroValue63
  t26 := Try.underlying3
  a26 := Try.isAgg3
  z26 := Try.sizeOf3
  v26 := Try.zeroValue3
  t27 := Try.underlying80
  a27 := Try.isAgg80
  z27 := Try.sizeOf80
  v27 := Try.zeroValue80
  t28 := Try.underlying81
  a28 := Try.isAgg81
  z28 := Try.sizeOf81
  v28 := Try.zeroValue81
  t33 := Try.underlying84
  a33 := Try.isAgg84
  z33 := Try.sizeOf84
  v33 := Try.zeroValue84 }
def Try.sorted35_ren : Go.Shelf.Ren := ⟨fun | 6 => 35 | 8 => 51 | 9 => 52 | 11 => 63 | 13 => 65 | 12 => 64 | 23 => 80 | 24 => 81 | 14 => 71 | 15 => 72 | 16 => 73 | 17 => 74 | 18 => 75 | 19 => 76 | 20 => 77 | 21 => 78 | 22 => 79 | 25 => 85 | 26 => 86 | 27 => 87 | 28 => 88 | 29 => 89 | 30 => 82 | 31 => 90 | n => n, fun | 26 => 3 | 28 => 81 | 24 => 34 | 0 => 0 | 3 => 3 | 37 => 114 | 48 => 128 | 50 => 130 | 4 => 4 | 40 => 121 | 39 => 120 | 45 => 88 | 5 => 5 | 9 => 9 | 51 => 132 | 55 => 136 | 57 => 138 | 58 => 139 | 33 => 84 | n => n, fun | n => n⟩
theorem Try.sorted35 : Go.Proofs.SlLaysZI.n6 Try.prog Try.sorted35_ren := {
  mixed := by kernel_rfl
  f6 := ⟨Try.f35.name, by decide, Try.func35.trans (congrArg some (by kernel_rfl))⟩
  f8 := ⟨Try.f51.name, by decide, Try.func51.trans (congrArg some (by kernel_rfl))⟩
  f11 := ⟨Try.f63.name, by decide, Try.func63.trans (congrArg some (by kernel_rfl))⟩
  t0 := Try.underlying0
  a0 := Try.isAgg0
  z0 := Try.sizeOf0
  v0 := Try.zeroValue0
  t24 := Try.underlying34
  a24 := Try.isAgg34
  z24 := Try.sizeOf34
  v24 := Try.zeroValue34
  t26 := Try.underlying3
  a26 := Try.isAgg3
  z26 := Try.sizeOf3
  v26 := Try.zeroValue3
  t28 := Try.underlying81
  a28 := Try.isAgg81
  z28 := Try.sizeOf81
  v28 := Try.zeroValue81
  i26 := by kernel_rfl }
def Try.sortI52_ren : Go.Shelf.Ren := ⟨fun | 5 => 52 | 8 => 65 | 7 => 64 | 19 => 80 | 20 => 81 | 10 => 71 | 11 => 72 | 12 => 73 | 13 => 74 | 14 => 75 | 15 => 76 | 16 => 77 | 17 => 78 | 18 => 79 | 30 => 85 | 31 => 86 | 32 => 87 | 33 => 88 | 34 => 89 | 35 => 82 | 40 => 90 | n => n, fun | 23 => 34 | 25 => 3 | 3 => 3 | 32 => 114 | 22 => 34 | 0 => 0 | 44 => 128 | 46 => 130 | 4 => 4 | 36 => 121 | 35 => 120 | 41 => 88 | 5 => 5 | 9 => 9 | 53 => 132 | 57 => 136 | 63 => 138 | 64 => 139 | n => n, fun | n => n⟩
theorem Try.sortI52 : Go.Proofs.SlLaysM.n5 Try.prog Try.sortI52_ren := {
  mixed := by kernel_rfl
  f5 := ⟨Try.f52.name, by decide, Try.func52.trans (congrArg some (by kernel_rfl))⟩
  f7 := ⟨Try.f64.name, by decide, Try.func64.trans (congrArg some (by kernel_rfl))⟩
  f8 := Try.func65.trans (congrArg some (by kernel_rfl))
  f10 := ⟨Try.f71.name, by decide, Try.func71.trans (congrArg some (by kernel_rfl))⟩
  f11 := ⟨Try.f72.name, by decide, Try.func72.trans (congrArg some (by kernel_rfl))⟩
  f12 := ⟨Try.f73.name, by decide, Try.func73.trans (congrArg some (by kernel_rfl))⟩
  f13 := ⟨Try.f74.name, by decide, Try.func74.trans (congrArg some (by kernel_rfl))⟩
  f14 := ⟨Try.f75.name, by decide, Try.func75.trans (congrArg some (by kernel_rfl))⟩
  f15 := ⟨Try.f76.name, by decide, Try.func76.trans (congrArg some (by kernel_rfl))⟩
  f16 := ⟨Try.f77.name, by decide, Try.func77.trans (congrArg some (by kernel_rfl))⟩
  f17 := ⟨Try.f78.name, by decide, Try.func78.trans (congrArg some (by kernel_rfl))⟩
  f18 := ⟨Try.f79.name, by decide, Try.func79.trans (congrArg some (by kernel_rfl))⟩
  f19 := Try.func80.trans (congrArg some (by kernel_rfl))
  f20 := Try.func81.trans (congrArg some (by kernel_rfl))
  f30 := ⟨Try.f85.name, by decide, Try.func85.trans (congrArg some (by kernel_rfl))⟩
  f31 := Try.func86.trans (congrArg some (by kernel_rfl))
  f32 := Try.func87.trans (congrArg some (by kernel_rfl))
  f33 := ⟨Try.f88.name, by decide, Try.func88.trans (congrArg some (by kernel_rfl))⟩
  f34 := ⟨Try.f89.name, by decide, Try.func89.trans (congrArg some (by kernel_rfl))⟩
  f35 := ⟨Try.f82.name, by decide, Try.func82.trans (congrArg some (by kernel_rfl))⟩
  f40 := ⟨Try.f90.name, by decide, Try.func90.trans (congrArg some (by kernel_rfl))⟩
  t0 := Try.underlying0
  a0 := Try.isAgg0
  z0 := Try.sizeOf0
  v0 := Try.zeroValue0
  t3 := Try.underlying3
  a3 := Try.isAgg3
  z3 := Try.sizeOf3
  v3 := Try.zeroValue3
  t4 := Try.underlying4
  a4 := Try.isAgg4
  z4 := Try.sizeOf4
  v4 := Try.zeroValue4
  t5 := Try.underlying5
  a5 := Try.isAgg5
  z5 := Try.sizeOf5
  v5 := Try.zeroValue5
  t9 := Try.underlying9
  a9 := Try.isAgg9
  z9 := Try.sizeOf9
  v9 := Try.zeroValue9
  t22 := Try.underlying34
  a22 := Try.isAgg34
  z22 := Try.sizeOf34
  v22 := Try.zeroValue34
  t23 := Try.underlying34
  a23 := Try.isAgg34
  z23 := Try.sizeOf34
  v23 := Try.zeroValue34
  t25 := Try.underlying3
  a25 := Try.isAgg3
  z25 := Try.sizeOf3
  v25 := Try.zeroValue3
  t32 := Try.underlying114
  a32 := Try.isAgg114
  z32 := Try.sizeOf114
  v32 := Try.zeroValue114
  t35 := Try.underlying120
  a35 := Try.isAgg120
  z35 := Try.sizeOf120
  v35 := Try.zeroValue120
  t36 := Try.underlying121
  a36 := Try.isAgg121
  z36 := Try.sizeOf121
  v36 := Try.zeroValue121
  t41 := Try.underlying88
  a41 := Try.isAgg88
  z41 := Try.sizeOf88
  v41 := Try.zeroValue88
  t44 := Try.underlying128
  a44 := Try.isAgg128
  z44 := Try.sizeOf128
  v44 := Try.zeroValue128
  t46 := Try.underlying130
  a46 := Try.isAgg130
  z46 := Try.sizeOf130
  v46 := Try.zeroValue130
  t53 := Try.underlying132
  a53 := Try.isAgg132
  z53 := Try.sizeOf132
  v53 := Try.zeroValue132
  t57 := Try.underlying136
  a57 := Try.isAgg136
  z57 := Try.sizeOf136
  v57 := Try.zeroValue136
  t63 := Try.underlying138
  a63 := Try.isAgg138
  z63 := Try.sizeOf138
  v63 := Try.zeroValue138
  t64 := Try.underlying139
  a64 := Try.isAgg139
  z64 := Try.sizeOf139
  v64 := Try.zeroValue139 }
end Go.Proofs
/- package slab: the numbers of the runs that are kept, and how many entries there are (for chapter 14; its first half printed out of XVMap). -/
namespace Go.Proofs.Ytjenfhkikbndmaa
open Go.RowKit Go.Maps Go.Sort Go.Shelf

theorem sort_ord (ss : List Int) : (ss.mergeSort (fun x y => decide (x ≤ y))).Pairwise (· ≤ ·) :=
  (List.pairwise_mergeSort (le := fun x y => decide (x ≤ y)) (fun a b c h1 h2 => by simp at *; omega) (fun a b => by simp; omega) ss).imp (fun h => by simpa using h)
/-- The keys, in order. -/
structure SortedKeys {α : Type} (f : Int → Option α) (ss : List Int) : Prop where
  mem : ∀ k, k ∈ ss ↔ (f k).isSome = true
  nd : ss.Nodup
  ord : ss.Pairwise (· ≤ ·)
theorem SortedKeys.unique {α : Type} {f : Int → Option α} {ss ss' : List Int} (h : SortedKeys f ss) (h' : SortedKeys f ss') : ss = ss' :=
  List.Perm.eq_of_pairwise (fun a b _ _ h1 h2 => Int.le_antisymm h1 h2) h.ord h'.ord ((List.perm_ext_iff_of_nodup h.nd h'.nd).2 fun k => (h.mem k).trans (h'.mem k).symm)

theorem IMap.keys {α : Type} {vr : VR α} {W : World} {b n : Nat} {f : Int → Option α} (h : IMap vr W b n f) : ∃ D, W.ownsMap Try.prog 3 rawE b n D ∧ Maps.size D ≤ n ∧ (∀ k, k ∈ intKeys D ↔ (f k).isSome = true) ∧ (intKeys D).Nodup ∧ ∀ k ∈ intKeys D, inI64 k := by
  obtain ⟨D, hown, h1, h2, h3⟩ := h
  obtain ⟨es, hD, hpw⟩ := hown.tidy keyedI
  have hwf := intKeys_wf hown Try.underlying3
  have hko : ∀ p ∈ es, ∃ x, p.1 = .int .i64 x := fun p hp => by
    obtain ⟨es', hD', hko⟩ := hown.keysOf
    obtain rfl : es = es' := by rw [hD] at hD'; simpa using hD'
    obtain ⟨v, hv⟩ := hko p hp
    obtain ⟨x, _, hx, _⟩ := Maps.keyOf_i64 Try.underlying3 hv
    exact ⟨x, hx⟩
  refine ⟨D, hown, hown.size_le, fun k => ?_, ?_, fun k hk => ?_⟩
  · have hh : Maps.has D (keyI k) = true ↔ k ∈ intKeys D := by
      subst hD
      rw [has_eq, List.any_eq_true]
      show _ ↔ k ∈ es.map fun p => Go.intOf p.1
      rw [List.mem_map]
      constructor
      · rintro ⟨p, hp', hs⟩
        obtain ⟨a, ha⟩ := hko p hp'
        rw [ha] at hs
        exact ⟨p, hp', by rw [ha]; simpa [Lit.sameKey, Go.intOf, keyI] using hs⟩
      · rintro ⟨p, hp', rfl⟩
        obtain ⟨a, ha⟩ := hko p hp'
        exact ⟨p, hp', by rw [ha]; simp [Lit.sameKey, Go.intOf, keyI]⟩
    rw [← hh]
    cases hf : f k with
    | none => rw [h1 k hf]; simp
    | some a => rw [(h2 k a hf).1]; simp
  · subst hD
    show (es.map fun p => Go.intOf p.1).Nodup
    refine List.pairwise_map.2 (hpw.imp_of_mem fun {p q} hp' hq' hne e => hne ?_)
    obtain ⟨a, ha⟩ := hko p hp'
    obtain ⟨b, hb⟩ := hko q hq'
    rw [ha, hb] at e ⊢
    exact congrArg _ e
  · have := hwf k hk
    unfold inI64
    simpa [Lit.wf, IntKind.min, IntKind.max, IntKind.signed, IntKind.bits] using this

theorem sortsInt (m : Nat) : AnyZI.SortsIn Try.prog Try.sorted35_ren Fence.wide m :=
  ⟨fun blk off cap ss W hH hblk hsz => callsIn_wide.2 (AnyM.slices_Sort_int Try.sortI52 blk off cap ss W hH hblk hsz),
   fun p cap W => callsIn_wide.2 (AnyM.slices_Sort_int_none Try.sortI52 p cap W)⟩
theorem runKeys_any (mb : Option Nat) (W : World) : Calls Try.prog 37 #[.map mb] W fun e w' => e = .returned (.func (.func 54) #[] #[.pointer (some ⟨W.heap.size, 0, none⟩)]) ∧ w' = W.alloc (.cells #[.map mb] 63) :=
  (callsIn_wide (n := 5)).1 (AnyZI.keys_in Try.keys37 Fence.wide 5 trivial rfl mb W)
set_option maxRecDepth 100000 in
set_option maxHeartbeats 1000000 in
theorem sortedRuns_any {α : Type} {vr : VR α} (b n : Nat) (f : Int → Option α) (w : World) (h : IMap vr w b n f) (hn : n ≤ 1000000000) :
    Calls Try.prog 35 #[.func (.func 54) #[] #[.pointer (some ⟨w.heap.size, 0, none⟩)]] (w.alloc (.cells #[.map (some b)] 63)) fun e w' => ∃ v ss, e = .returned v ∧ (tSlice tInt).rv ((mem w').on (w.heap.size ≤ ·)) [v] ss ∧ SortedKeys f ss ∧ ss.length ≤ n ∧ Below w.heap.size w w' := by
  obtain ⟨D0, hown, hsz, hmem, hnd, hin⟩ := h.keys
  have hbl := hown.lt
  have hseq : SeqGives Fence.wide 2 Try.prog 54 #[.pointer (some ⟨w.heap.size, 0, none⟩)] encZ (fun ss => ss.Perm (intKeys D0)) (Maps.size D0) (w.alloc (.cells #[.map (some b)] 63)) :=
    AnyZI.keys_gives (ρ := Try.keys37_ren) { Try.keys37 with } Fence.wide _ trivial rfl (by omega) w.heap.size b n D0 _ (by simp) (by simp) (by
      obtain ⟨es, clock, hb, Ft, hs, hD⟩ := hown
      exact ⟨es, clock, (Below.heap_alloc _ _ b hbl).trans hb, Ft, hs, hD⟩)
  have cS := AnyZI.sorted_in Try.sorted35 Fence.wide 5 trivial trivial trivial trivial rfl (by omega) (sortsInt _) (enters_of Try.func52 (by kernel_rfl) rfl) 54 #[.pointer (some ⟨w.heap.size, 0, none⟩)] trivial (enters_of Try.func54 (by kernel_rfl) rfl) _ _ (by unfold maxLen; omega) (by omega) _ hseq
  change CallsIn _ _ Try.prog 35 _ _ _ at cS
  refine ((callsIn_wide (n := 5)).1 cS).mono ?_
  rintro e w' ⟨v, ss, rfl, hS, hrow, _, hb⟩
  have hlen : ss.length ≤ n := by
    have h1 := hS.length_eq
    have h2 : (intKeys D0).length = Maps.size D0 := by cases D0 <;> simp [intKeys, Maps.size]
    omega
  have hperm : (ss.mergeSort (fun x y => decide (x ≤ y))).Perm (intKeys D0) := (List.mergeSort_perm _ _).trans hS
  have hord := (sort_ord ss)
  have hl2 : (ss.mergeSort (fun x y => decide (x ≤ y))).length = ss.length := by simp
  rw [← hl2] at hlen hrow
  generalize (ss.mergeSort (fun x y => decide (x ≤ y))) = qs at hperm hord hrow hlen
  have hO : Owns tInt w' (w.alloc (.cells #[.map (some b)] 63)).heap.size 3 v qs := by
    refine ⟨qs.map fun x => [.int .i64 x], by simp, ?_, fun c hc => ?_, fun k h h' => ?_⟩
    · have e : (qs.map fun x => [Value.int .i64 x]).flatten = qs.map encZ := by
        clear hperm hord hrow hlen
        induction qs with
        | nil => rfl
        | cons x l ih => simp [ih]
      rw [e]; exact hrow
    · obtain ⟨x, _, rfl⟩ := List.mem_map.1 hc; rfl
    · simp only [List.getElem_map]
      exact ⟨rfl, hin _ (hperm.mem_iff.1 (List.getElem_mem h'))⟩
  exact ⟨v, qs, rfl, hO.rv (fun k hk => by simp at hk; omega) (fun _ _ _ hk => hk), ⟨fun k => (hperm.mem_iff).trans (hmem k), hperm.nodup_iff.2 hnd, hord⟩, hlen, ((Below.refl _ w).alloc (Nat.le_refl _) _).trans (hb.mono (by simp))⟩


section
variable {base p : Nat} {r : HL}
set_option maxRecDepth 100000 in
set_option maxHeartbeats 600000 in
/-- Kept: the numbers of the runs that are kept, ascending. -/
theorem kept_any (W : World) (hI : LInv W base p r) (hn : r.nn ≤ 1000000000) :
    Calls Try.prog 15 #[ptrS p] W fun e w' => ∃ v ss, e = .returned v ∧ (tSlice tInt).rv ((mem w').on (W.heap.size ≤ ·)) [v] ss ∧ SortedKeys (keptF r.s) ss ∧ ss.length ≤ r.nn ∧ Below W.heap.size W w' := by
  have c7 : W.cell? ⟨p, 7, none⟩ = some (.map (some r.kb)) := mem_cells hI.hb 7
  have HK := Lib.hid (runKeys_any (some r.kb) W)
  have HS := Lib.hid (sortedRuns_any r.kb r.nn (keptF r.s) W hI.km hn)
  clear hI
  go_enter Try.func15, Try.ntmps15
  go_wp2_with fail
  refine HK.out.mono ?_
  rintro e w1 ⟨rfl, rfl⟩
  go_wp2_with fail
  refine HS.out.mono ?_
  rintro e w2 ⟨v, ss, rfl, hr, hk, hl, hb⟩
  go_wp2
  go_ret
  exact ⟨v, ss, rfl, hr, hk, hl, hb⟩
theorem count_any (W : World) (hI : LInv W base p r) : Calls Try.prog 12 #[ptrS p] W fun e w' => e = .returned (.int .i64 r.s.count) ∧ w' = W := by
  have c3 : W.cell? ⟨p, 3, none⟩ = some (.int .i64 r.s.count) := mem_cells hI.hb 3
  clear hI
  go_enter Try.func12, Try.ntmps12
  go_wp2
  go_ret
  exact ⟨rfl, rfl⟩
end
end Go.Proofs.Ytjenfhkikbndmaa
/- Backpressure, in plain words: what is met walking against the edges. No program in sight. -/
namespace Go.Proofs.Ytjenfhkikbndmaa

/-- Number x is reached in one step out of S. -/
def BStep (es : List (Int × Int)) (ws : List Bool) (S : List Int) (x : Int) : Prop := ∃ i : Nat, ∃ e, ws[i]? = some true ∧ es[i]? = some e ∧ e.2 ∈ S ∧ e.1 = x
theorem BStep.mono {es : List (Int × Int)} {ws : List Bool} {S S' : List Int} {x : Int} (h : BStep es ws S x) (hs : ∀ y ∈ S, y ∈ S') : BStep es ws S' x := by
  obtain ⟨i, e, h1, h2, h3, h4⟩ := h
  exact ⟨i, e, h1, h2, hs _ h3, h4⟩
/-- What was met so far, in some order. -/
inductive BGen (es : List (Int × Int)) (ws : List Bool) (p : Int) : List Int → Prop
  | nil : BGen es ws p []
  | snoc (L : List Int) (x : Int) : BGen es ws p L → BStep es ws (p :: L) x → x ∉ p :: L → BGen es ws p (L ++ [x])
def BDone (es : List (Int × Int)) (ws : List Bool) (p : Int) (L : List Int) : Prop := ∀ x, BStep es ws (p :: L) x → x ∈ p :: L

theorem BGen.sub {es : List (Int × Int)} {ws : List Bool} {p : Int} {L L' : List Int} (h : BGen es ws p L) (h' : BDone es ws p L') : ∀ x ∈ p :: L, x ∈ p :: L' := by
  induction h with
  | nil => intro x hx; simp at hx; simp [hx]
  | snoc L x _ hst _ ih =>
    intro y hy
    rcases List.mem_cons.1 hy with e | hy
    · simp [e]
    · rcases List.mem_append.1 hy with hy | hy
      · exact ih _ (List.mem_cons_of_mem _ hy)
      · rw [List.mem_singleton] at hy
        subst hy
        exact h' _ (hst.mono ih)
theorem BGen.nodup {es : List (Int × Int)} {ws : List Bool} {p : Int} {L : List Int} (h : BGen es ws p L) : (p :: L).Nodup := by
  induction h with
  | nil => simp
  | snoc L x _ _ hx ih =>
    rw [← List.cons_append]
    refine List.nodup_append.2 ⟨ih, by simp, ?_⟩
    intro a ha b hb e
    simp at hb
    subst hb; subst e
    exact hx ha
theorem nodup_len {M : List Int} : ∀ {L : List Int}, L.Nodup → (∀ x ∈ L, x ∈ M) → L.length ≤ M.length := by
  induction M with
  | nil => intro L _ h; cases L with
    | nil => simp
    | cons x L => exact absurd (h x (by simp)) (by simp)
  | cons m M ih =>
    intro L hn h
    have h1 : (L.erase m).length ≤ M.length := ih (hn.erase m) (fun x hx => by
      have hx2 := (List.Nodup.mem_erase_iff hn).1 hx
      rcases List.mem_cons.1 (h x hx2.2) with e | e
      · exact absurd e hx2.1
      · exact e)
    by_cases hm : m ∈ L
    · rw [List.length_erase_of_mem hm] at h1
      simp; omega
    · rw [List.erase_of_not_mem hm] at h1
      simp; omega
theorem BGen.inEs {es : List (Int × Int)} {ws : List Bool} {p : Int} {L : List Int} (h : BGen es ws p L) : ∀ x ∈ L, x ∈ es.map (·.1) := by
  induction h with
  | nil => intro x hx; cases hx
  | snoc L x _ hst _ ih =>
    intro y hy
    rcases List.mem_append.1 hy with hy | hy
    · exact ih y hy
    · rw [List.mem_singleton] at hy
      subst hy
      obtain ⟨i, e, _, h2, _, h4⟩ := hst
      exact List.mem_map.2 ⟨e, List.mem_of_getElem? h2, h4⟩
theorem BGen.len {es : List (Int × Int)} {ws : List Bool} {p : Int} {L : List Int} (h : BGen es ws p L) : L.length ≤ es.length := by
  have := nodup_len (List.nodup_cons.1 h.nodup).2 h.inEs
  simpa using this
theorem BGen.perm {es : List (Int × Int)} {ws : List Bool} {p : Int} {L L' : List Int} (h : BGen es ws p L) (d : BDone es ws p L) (h' : BGen es ws p L') (d' : BDone es ws p L') : L.Perm L' := by
  have n1 := List.nodup_cons.1 h.nodup
  have n2 := List.nodup_cons.1 h'.nodup
  refine (List.perm_ext_iff_of_nodup n1.2 n2.2).2 fun x => ⟨fun hx => ?_, fun hx => ?_⟩
  · rcases List.mem_cons.1 (h.sub d' x (List.mem_cons_of_mem _ hx)) with e | e
    · subst e; exact absurd hx n1.1
    · exact e
  · rcases List.mem_cons.1 (h'.sub d x (List.mem_cons_of_mem _ hx)) with e | e
    · subst e; exact absurd hx n2.1
    · exact e
/-- The list in order, told by what it is. -/
def InOrder (L S : List Int) : Prop := S.Perm L ∧ S.Pairwise (· ≤ ·)
theorem InOrder.unique {L L' S S' : List Int} (h : InOrder L S) (h' : InOrder L' S') (p : L.Perm L') : S = S' :=
  List.Perm.eq_of_pairwise (fun a b _ _ h1 h2 => Int.le_antisymm h1 h2) h.2 h'.2 ((h.1.trans p).trans h'.1.symm)
theorem InOrder.sort (L : List Int) : InOrder L (L.mergeSort fun x y => decide (x ≤ y)) :=
  ⟨List.mergeSort_perm _ _, by
    have := List.pairwise_mergeSort (le := fun x y : Int => decide (x ≤ y)) (fun a b c h1 h2 => by simp at *; omega) (fun a b => by simp; omega) L
    exact this.imp (by simp)⟩

def inCount (x : Int) : Bool := decide (0 ≤ x) && decide (x < 1000000)
def edgesOk (es : List (Int × Int)) : Bool := es.all fun e => inCount e.1 && inCount e.2
/-- What Backpressure says: errno and list. -/
def BackSays (es : List (Int × Int)) (ws : List Bool) (p : Int) (code : Int) (S : List Int) : Prop :=
  if es.length ≠ ws.length then code = 9 ∧ S = [] else if (inCount p && edgesOk es) = false then code = 7 ∧ S = [] else code = 0 ∧ ∃ L, BGen es ws p L ∧ BDone es ws p L ∧ InOrder L S
theorem BackSays.unique {es : List (Int × Int)} {ws : List Bool} {p c c' : Int} {S S' : List Int} (h : BackSays es ws p c S) (h' : BackSays es ws p c' S') : c = c' ∧ S = S' := by
  unfold BackSays at h h'
  split at h
  · rename_i hn; rw [if_pos hn] at h'; exact ⟨h.1.trans h'.1.symm, h.2.trans h'.2.symm⟩
  · rename_i hn; rw [if_neg hn] at h'
    split at h
    · rename_i hk; rw [if_pos hk] at h'; exact ⟨h.1.trans h'.1.symm, h.2.trans h'.2.symm⟩
    · rename_i hk; rw [if_neg hk] at h'
      obtain ⟨h0, L, a, b, o⟩ := h
      obtain ⟨h0', L', a', b', o'⟩ := h'
      exact ⟨h0.trans h0'.symm, o.unique o' (a.perm b a' b')⟩
end Go.Proofs.Ytjenfhkikbndmaa
/- Reference chapter 12's helpers: SameInts, Has, Sorted. -/
namespace Go.Proofs.Ytjenfhkikbndmaa
open Go.RowKit

set_option maxHeartbeats 1000000 in
theorem sameInts_any (xs ys : List Int) (u v : Value) (w : World) (hu : (tSlice tInt).rv (mem w) [u] xs) (hv : (tSlice tInt).rv (mem w) [v] ys) :
    Calls Try.prog 20 #[u, v] w fun e w' => e = .returned (.bool (decide (xs = ys))) ∧ Below w.heap.size w w' := by
  obtain ⟨a, cap, rfl, hl, hm, hu⟩ := slice_form hu
  obtain ⟨b, cap', rfl, hl', hm', hv⟩ := slice_form hv
  have hcap : cap ≤ 9223372036854775807 := by unfold maxLen at hm; exact hm
  have hcap' : cap' ≤ 9223372036854775807 := by unfold maxLen at hm'; exact hm'
  clear hm hm'
  by_cases hn : xs.length = ys.length
  · have hne : ((xs.length : Int) != (ys.length : Int)) = false := by simp [hn]
    have HN := Lib.hid hn
    have hle : ys.length ≤ xs.length := by omega
    have hle' : xs.length ≤ ys.length := by omega
    clear hn
    go_enter Try.func20, Try.ntmps20
    go_wp2
    go_loopw [5] (fun i wr => ∃ k : Nat, k ≤ xs.length ∧ i = .int .i64 k ∧ Hid (xs.take k = ys.take k) ∧ Below w.heap.size w wr) (fun i _ => xs.length - (intOf i).toNat)
    case atStart => exact ⟨0, by omega, rfl, Lib.hid rfl, Below.refl _ _⟩
    case round =>
      obtain ⟨k, hk, rfl, HT, hB⟩ := hrel
      by_cases hlt : k < xs.length
      · obtain ⟨b1, o1, rfl, hat⟩ := slice_at (t := tInt) hu hlt
        obtain ⟨b2, o2, rfl, hat2⟩ := slice_at (t := tInt) hv (show k < ys.length by omega)
        obtain ⟨hc, hin⟩ := int_at hat
        obtain ⟨hc2, hin2⟩ := int_at hat2
        have hc' : wr.cell? ⟨b1, o1 + k, none⟩ = some (.int .i64 xs[k]) := by
          have := (mem_of_block (hB.block b1 (mem_lt hc)) _).trans hc
          simpa [tInt, mem] using this
        have hc2' : wr.cell? ⟨b2, o2 + k, none⟩ = some (.int .i64 (ys[k]'(by omega))) := by
          have := (mem_of_block (hB.block b2 (mem_lt hc2)) _).trans hc2
          simpa [tInt, mem] using this
        have hlty : k < ys.length := by omega
        have HTx := Lib.hid (List.take_succ_eq_append_getElem hlt)
        have HTy := Lib.hid (List.take_succ_eq_append_getElem hlty)
        have HX := Lib.hid (show xs[k]? = some xs[k] from List.getElem?_eq_getElem hlt)
        have HY := Lib.hid (show ys[k]? = some ys[k] from List.getElem?_eq_getElem hlty)
        clear hc hc2 hat hat2 hu hv hin hin2
        generalize xs[k] = p at hc' HTx HX
        generalize ys[k]'hlty = q at hc2' HTy HY
        by_cases hpq : p = q
        · have hb : (p != q) = false := by simp [hpq]
          have HP := Lib.hid hpq
          clear hpq
          go_wp2
          go_region
          go_wp2
          go_roundw
          case rel => exact ⟨k + 1, by omega, by go_num, Lib.hid (by rw [HTx.out, HTy.out, HT.out, HP.out]), below_drewN hB _⟩
          case measure => simp [intOf]; omega
        · have hb : (p != q) = true := by simp [hpq]
          have HD := Lib.hid (show decide (xs = ys) = false by
            simp only [decide_eq_false_iff_not]
            intro e
            have h1 := HX.out; have h2 := HY.out
            rw [e, h2] at h1
            exact hpq (Option.some.inj h1).symm)
          clear hpq
          go_wp2
          go_region
          go_wp2
          go_ret
          exact ⟨by rw [HD.out]; rfl, below_drewN hB _⟩
      · obtain rfl : k = xs.length := by omega
        have HD := Lib.hid (show decide (xs = ys) = true by
          have := HT.out
          rw [List.take_length, List.take_of_length_le (by omega)] at this
          simpa using this)
        go_wp2
        go_ret
        exact ⟨by rw [HD.out]; rfl, hB⟩
  · have hne : ((xs.length : Int) != (ys.length : Int)) = true := by simp; omega
    have HD := Lib.hid (show decide (xs = ys) = false by simp only [decide_eq_false_iff_not]; intro e; exact hn (by rw [e]))
    clear hn
    go_enter Try.func20, Try.ntmps20
    go_wp2
    go_ret
    exact ⟨by rw [HD.out]; rfl, Below.refl _ _⟩
end Go.Proofs.Ytjenfhkikbndmaa
/- Chapter 14's example. -/
namespace Go.Proofs.Ytjenfhkikbndmaa
open Go.RowKit Go.Maps
theorem keys_one {s : LS} {n : Nat} (h : s.kept = [n]) {ss : List Int} (hk : SortedKeys (keptF s) ss) : ss = [(n : Int)] := by
  refine hk.unique ⟨fun k => ?_, by simp, by simp⟩
  unfold keptF
  rw [h]
  by_cases e : k = n
  · subst e; simp
  · rw [if_neg (fun h => by have h2 := List.mem_singleton.1 h.2; omega)]
    simp [e]
theorem one_int {m : Mem} {b : Nat} {k : Int} (h : m b 0 = some (.int .i64 k)) (hk : inI64 k) : (tSlice tInt).rv m [.slice (some ⟨b, 0, none⟩) 1 1] [k] := by
  refine ⟨some ⟨b, 0, none⟩, 1, rfl, Nat.le_refl 1, by unfold maxLen; decide, fun _ => ⟨b, 0, rfl, fun j hj => ?_⟩⟩
  have hj : j < 1 := hj
  match j, hj with
  | 0, _ => exact ⟨[.int .i64 k], fun i v hi => by match i, hi with | 0, hi => simp at hi; subst hi; exact h, rfl, hk⟩
section
variable {base p : Nat} {r : HL}
/-- A put that is answered well, at rest. -/
theorem putOk_any (W : World) (w : Nat) (hI : LInv W base p r) (ht : r.tc = r.tv) (hR : r.s.Rest w) (hw : w ≤ 100) (hnn : r.nn ≤ 1000) (x : Ent) (hx : x.okE) {s' : LS} (ha : r.s.putAns x = 0) (hs : r.s.putS x = s') :
    Calls Try.prog 10 #[ptrS p, .int .i64 x.g, .string x.nm, .string x.key, .string x.val] W fun e w' => e = .returned (.int .i64 0) ∧ ∃ r', LStep W base p r w' r' ∧ r'.s = s' ∧ r'.tc = r'.tv ∧ r'.nn ≤ r.nn + w + 5 ∧ s'.Rest (w + 3) := by
  refine (put14_any W w hI ht hR (by omega) (by omega) x hx).mono ?_
  rintro e w' ⟨rfl, r', h1, h2, h3, h4⟩
  exact ⟨by rw [ha], r', h1, h2.trans hs, h3, h4, hs ▸ hR.putS x⟩
end
set_option maxRecDepth 100000 in
set_option maxHeartbeats 1000000 in
theorem awake14_any (w : World) :
    Calls Try.prog 4 #[] w fun e w' => e = .returned (.bool true) ∧ Below w.heap.size w w' := by
  have HN := Lib.hid (slabNew_any 8 2 2 w (by decide))
  have HRF := Lib.hid (LS.Rest.fresh (g := 8) (f := 2) (n := 2) (by decide))
  have ok1 : ∀ y z : UInt8, (⟨0, nS, ⟨#[y]⟩, ⟨#[z]⟩⟩ : Ent).okE := fun y z => ⟨(by unfold inI64; decide : inI64 0), (by unfold maxLen; decide : 1 ≤ maxLen), (by unfold maxLen; decide : 1 ≤ maxLen), (by unfold maxLen; decide : 1 ≤ maxLen)⟩
  have HOK := Lib.hid ok1
  clear ok1
  go_enter Try.func4, Try.ntmps4
  go_wp2_with fail
  refine HN.out.mono ?_
  rintro e w1 ⟨p, r1, rfl, hi1, hs1, ht1, hn1, hb1, -⟩
  have HP1 := Lib.hid (putOk_any (s' := aw1) w1 0 hi1 ht1 (by rw [hs1]; exact HRF.out) (by omega) (by omega) xA (HOK.out _ _) (by rw [hs1]; exact put_small rfl (by decide) (by decide)) (by rw [hs1]; exact aw1_eq))
  have HI1 := Lib.hid hi1
  have HB1 := Lib.hid hb1
  clear hi1 hs1 ht1 hb1 HN HRF
  go_wp2_with fail
  refine HP1.out.mono ?_
  rintro e w2 ⟨rfl, r2, hst2, hs2, ht2, hn2, hr2⟩
  have HP2 := Lib.hid (putOk_any (s' := aw2) w2 3 hst2.inv ht2 (by rw [hs2]; exact hr2) (by omega) (by omega) xB (HOK.out _ _) (by rw [hs2]; exact put_small rfl (by decide) (by decide)) (by rw [hs2]; exact aw2_eq))
  have HS2 := Lib.hid hst2
  have hn2' : r2.nn ≤ 5 := by omega
  clear hst2 hs2 ht2 hr2 HP1 hn2 hn1
  go_wp2_with fail
  refine HP2.out.mono ?_
  rintro e w3 ⟨rfl, r3, hst3, hs3, ht3, hn3, hr3⟩
  have HS3 := Lib.hid (HS2.out.trans hst3)
  have hn3' : r3.nn ≤ 13 := by omega
  have HR3 := Lib.hid hr3
  have HE3 := Lib.hid hs3
  have HK3 := Lib.hid (kept_any w3 hst3.inv (by omega))
  have HKS3 := Lib.hid (fun (ss : List Int) (h : SortedKeys (keptF r3.s) ss) => keys_one (n := 1) (by rw [hs3]; rfl) h)
  have HT3 := Lib.hid ht3
  clear hst3 hs3 ht3 hr3 HP2 hn3 hn2' HS2
  go_wp2_with fail
  refine HK3.out.mono ?_
  rintro e w4 ⟨v4, ss4, rfl, hv4, hk4, -, hb4⟩
  obtain rfl := HKS3.out ss4 hk4
  have hv4' := (tSlice tInt).mono _ _ _ _ (Mem.on_le _ _) hv4
  obtain ⟨a4, c4, rfl, hl4, hm4, -⟩ := slice_form hv4'
  have HSI := Lib.hid (fun (T : TypeId) => sameInts_any [((1 : Nat) : Int)] [1] (.slice a4 1 c4) (.slice (some ⟨w4.heap.size, 0, none⟩) 1 1) (w4.alloc (.cells #[.int .i64 1] T)) ((tSlice tInt).mono _ _ _ _ (below_mem ((Below.refl _ _).alloc (Nat.le_refl _) _)) hv4') (one_int (mem_cells_new w4 _ _ (0, 0) 0) (by unfold inI64; decide)))
  have HB4 := Lib.hid hb4
  have HBA := Lib.hid (fun (T : TypeId) => (show Below w4.heap.size w4 (w4.alloc (.cells #[.int .i64 1] T)) from (Below.refl _ _).alloc (Nat.le_refl _) _))
  clear hv4 hv4' hk4 hb4 HK3 HKS3 hm4
  go_wp2_with fail
  refine (HSI.out _).mono ?_
  rintro e w5 ⟨rfl, hb5⟩
  have HB5 := Lib.hid (pure_trans HB4.out (pure_trans (HBA.out _) hb5))
  have HS5 := Lib.hid (HS3.out.trans (LStep.pure HS3.out.inv HB5.out))
  have HP5 := Lib.hid (putOk_any (s' := aw3) w5 6 HS5.out.inv HT3.out (by rw [HE3.out]; exact HR3.out) (by omega) (by omega) xC (HOK.out _ _) (by rw [HE3.out]; exact put_small rfl (by decide) (by decide)) (by rw [HE3.out]; exact aw3_eq))
  clear hb5 HSI HBA HB4 HB5 HS3 HE3 HR3 HT3
  go_wp2_with fail
  refine HP5.out.mono ?_
  rintro e w6 ⟨rfl, r6, hst6, hs6, ht6, hn6, hr6⟩
  have HP6 := Lib.hid (putOk_any (s' := aw3.putS xD) w6 9 hst6.inv ht6 (by rw [hs6]; exact hr6) (by omega) (by omega) xD (HOK.out _ _) (by rw [hs6]; exact put_small rfl (by decide) (by decide)) (by rw [hs6]))
  have HS6 := Lib.hid (HS5.out.trans hst6)
  have hn6' : r6.nn ≤ 30 := by omega
  clear hst6 hs6 ht6 hr6 HP5 hn6 hn3' HS5
  go_wp2_with fail
  refine HP6.out.mono ?_
  rintro e w7 ⟨rfl, r7, hst7, hs7, ht7, hn7, hr7⟩
  have HS7 := Lib.hid (HS6.out.trans hst7)
  have HK7 := Lib.hid (kept_any w7 hst7.inv (by omega))
  have HKS7 := Lib.hid (fun (ss : List Int) (h : SortedKeys (keptF r7.s) ss) => keys_one (n := 3) (by rw [hs7]; exact aw5_says.1) h)
  have HCT := Lib.hid (show r7.s.count = 3 by rw [hs7]; exact aw5_says.2)
  clear hst7 hs7 ht7 hr7 HP6 hn7 HS6
  go_wp2_with fail
  refine HK7.out.mono ?_
  rintro e w8 ⟨v8, ss8, rfl, hv8, hk8, -, hb8⟩
  obtain rfl := HKS7.out ss8 hk8
  have hv8' := (tSlice tInt).mono _ _ _ _ (Mem.on_le _ _) hv8
  obtain ⟨a8, c8, rfl, hl8, hm8, -⟩ := slice_form hv8'
  have HSI := Lib.hid (fun (T : TypeId) => sameInts_any [((3 : Nat) : Int)] [3] (.slice a8 1 c8) (.slice (some ⟨w8.heap.size, 0, none⟩) 1 1) (w8.alloc (.cells #[.int .i64 3] T)) ((tSlice tInt).mono _ _ _ _ (below_mem ((Below.refl _ _).alloc (Nat.le_refl _) _)) hv8') (one_int (mem_cells_new w8 _ _ (0, 0) 0) (by unfold inI64; decide)))
  have HB8 := Lib.hid hb8
  have HBA := Lib.hid (fun (T : TypeId) => (show Below w8.heap.size w8 (w8.alloc (.cells #[.int .i64 3] T)) from (Below.refl _ _).alloc (Nat.le_refl _) _))
  clear hv8 hv8' hk8 hb8 HK7 HKS7 hm8
  go_wp2_with fail
  refine (HSI.out _).mono ?_
  rintro e w9 ⟨rfl, hb9⟩
  have HB9 := Lib.hid (pure_trans HB8.out (pure_trans (HBA.out _) hb9))
  have HS9 := Lib.hid (HS7.out.trans (LStep.pure HS7.out.inv HB9.out))
  have HC9 := Lib.hid (count_any w9 HS9.out.inv)
  rw [HCT.out] at HC9
  have HBF := Lib.hid (HB1.out.trans (HS9.out.below HI1.out))
  clear hb9 HSI HBA HB8 HB9 HS7 HI1 HB1
  go_wp2_with fail
  refine HC9.out.mono ?_
  rintro e w10 ⟨rfl, rfl⟩
  go_wp2
  go_ret
  exact ⟨rfl, HBF.out⟩
end Go.Proofs.Ytjenfhkikbndmaa
/- The law SlabNothing, walked (printed by gen_slnothing.py). -/
namespace Go.Proofs.Ytjenfhkikbndmaa
open Go.RowKit Go.Maps

theorem act_one {m : Mem} {b : Nat} {x : HAct} (h : ∀ j v, x.cs[j]? = some v → m b j = some v) (hok : x.okA) : tActs.rv m [.slice (some ⟨b, 0, none⟩) 1 1] [x] := by
  refine ⟨some ⟨b, 0, none⟩, 1, rfl, Nat.le_refl 1, by unfold maxLen; decide, fun _ => ⟨b, 0, rfl, fun k hk => ?_⟩⟩
  have hk : k < 1 := hk
  match k, hk with
  | 0, _ => exact ⟨x.cs, fun j v hj => by rw [show 0 + 0 * tAct.sz + j = j by omega]; exact h j v hj, rfl, hok⟩
set_option maxRecDepth 100000 in
set_option maxHeartbeats 8000000 in
theorem slabNothing_any (a : HAct) (w : World) (hok : a.okA) :
    Calls Try.prog 3 #[.agg #[.int .u8 a.k, .int .i64 a.g, .int .i64 a.n, .string a.nm, .string a.key, .string a.val]] w fun e w' => e = .returned (.bool true) ∧ Below w.heap.size w w' := by
  obtain ⟨xk, xg, xn, nm, key, val⟩ := a
  have HOK := Lib.hid hok
  have HB0 := Lib.hid (show Below w.heap.size w (w.alloc (.cells #[.int .u8 xk, .int .i64 xg, .int .i64 xn, .string nm, .string key, .string val] 23)) from (Below.refl _ _).alloc (Nat.le_refl _) _)
  have HBK := Lib.hid (heap_alloc_new w (.cells #[.int .u8 xk, .int .i64 xg, .int .i64 xn, .string nm, .string key, .string val] 23))
  clear hok
  go_enter Try.func3, Try.ntmps3
  go_wp2_with fail
  refine (awake14_any _).mono ?_
  rintro e w1 ⟨rfl, hb⟩
  have HB1 := Lib.hid (pure_trans HB0.out hb)
  have hbk1 := (hb.block w.heap.size (by simp)).trans HBK.out
  have HBK1 := Lib.hid hbk1
  have c0 : w1.cell? ⟨w.heap.size, 0, none⟩ = some (.int .u8 xk) := mem_cells hbk1 0
  have c1 : w1.cell? ⟨w.heap.size, 1, none⟩ = some (.int .i64 xg) := mem_cells hbk1 1
  have c2 : w1.cell? ⟨w.heap.size, 2, none⟩ = some (.int .i64 xn) := mem_cells hbk1 2
  have c3 : w1.cell? ⟨w.heap.size, 3, none⟩ = some (.string nm) := mem_cells hbk1 3
  have c4 : w1.cell? ⟨w.heap.size, 4, none⟩ = some (.string key) := mem_cells hbk1 4
  have c5 : w1.cell? ⟨w.heap.size, 5, none⟩ = some (.string val) := mem_cells hbk1 5
  have HMA := Lib.hid (fun (T : TypeId) => many_any [⟨xk, xg, xn, nm, key, val⟩] (.slice (some ⟨w1.heap.size, 0, none⟩) 1 1) (w1.alloc (.cells #[.int .u8 xk, .int .i64 xg, .int .i64 xn, .string nm, .string key, .string val] T)) (act_one (x := ⟨xk, xg, xn, nm, key, val⟩) (fun j v hj => by
    have := mem_cells_new w1 #[.int .u8 xk, .int .i64 xg, .int .i64 xn, .string nm, .string key, .string val] T (0, 0) j
    have h2 : (#[.int .u8 xk, .int .i64 xg, .int .i64 xn, .string nm, .string key, .string val] : Array Value)[j]? = some v := by simpa using hj
    rw [h2] at this
    exact this) HOK.out))
  have HBL := Lib.hid (fun o => (show Below w1.heap.size w1 (w1.alloc o) from (Below.refl _ _).alloc (Nat.le_refl _) o))
  clear hb hbk1 HB0 HBK
  go_wp2_with fail
  refine (HMA.out _).mono ?_
  generalize manyOf _ = b
  rintro e w2 ⟨rfl, hb⟩
  have HB12 := Lib.hid (pure_trans (HBL.out _) hb)
  have HB2 := Lib.hid (pure_trans HB1.out HB12.out)
  have hbk2 := (HB12.out.block w.heap.size (mem_lt c0)).trans HBK1.out
  have HBK2 := Lib.hid hbk2
  clear hb HMA HBL HB1 HB12 HBK1 c0 c1 c2 c3 c4 c5
  cases b with
  | true =>
    clear hbk2
    go_wp2
    go_ret
    exact ⟨rfl, HB2.out⟩
  | false =>
  have HCC := Lib.hid (fun (W : World) (h : Below w2.heap.size w2 W) => (show W.cell? ⟨w.heap.size, 1, none⟩ = some (.int .i64 xg) ∧ W.cell? ⟨w.heap.size, 2, none⟩ = some (.int .i64 xn) ∧ W.cell? ⟨w.heap.size, 3, none⟩ = some (.string nm) ∧ W.cell? ⟨w.heap.size, 4, none⟩ = some (.string key) ∧ W.cell? ⟨w.heap.size, 5, none⟩ = some (.string val) from
    have hbk := (h.block w.heap.size (Array.getElem?_eq_some_iff.1 HBK2.out).1).trans HBK2.out
    ⟨mem_cells hbk 1, mem_cells hbk 2, mem_cells hbk 3, mem_cells hbk 4, mem_cells hbk 5⟩))
  clear hbk2
  obtain ⟨c1, c2, c3, c4, c5⟩ := HCC.out w2 (Below.refl _ _)
  go_wp2_with fail
  refine (getNil14 _ _ _ _).mono ?_
  rintro e w3 ⟨rfl, hb⟩
  have HB3 := Lib.hid hb
  clear hb c1 c2 c3 c4 c5
  obtain ⟨c1, c2, c3, c4, c5⟩ := HCC.out w3 HB3.out
  go_wp2_with fail
  refine (clearNil14 _ _ _).mono ?_
  rintro e w4 ⟨rfl, hb⟩
  have HB4 := Lib.hid (pure_trans HB3.out hb)
  clear hb c1 c2 c3 c4 c5
  obtain ⟨c1, c2, c3, c4, c5⟩ := HCC.out w4 HB4.out
  go_wp2_with fail
  refine (snapshotNil14 _).mono ?_
  rintro e w5 ⟨rfl, hb⟩
  have HB5 := Lib.hid (pure_trans HB4.out hb)
  clear hb c1 c2 c3 c4 c5
  obtain ⟨c1, c2, c3, c4, c5⟩ := HCC.out w5 HB5.out
  go_wp2_with fail
  refine (runsNil14 _ _).mono ?_
  rintro e w6 ⟨rfl, hb⟩
  have HB6 := Lib.hid (pure_trans HB5.out hb)
  clear hb c1 c2 c3 c4 c5
  obtain ⟨c1, c2, c3, c4, c5⟩ := HCC.out w6 HB6.out
  go_wp2_with fail
  refine (putNil14 _ _ _ _ _).mono ?_
  rintro e w7 ⟨rfl, hb⟩
  have HB7 := Lib.hid (pure_trans HB6.out hb)
  clear hb c1 c2 c3 c4 c5
  obtain ⟨c1, c2, c3, c4, c5⟩ := HCC.out w7 HB7.out
  go_wp2_with fail
  refine (allNil14 _).mono ?_
  rintro e w8 ⟨rfl, hb⟩
  have HB8 := Lib.hid (pure_trans HB7.out hb)
  clear hb c1 c2 c3 c4 c5
  obtain ⟨c1, c2, c3, c4, c5⟩ := HCC.out w8 HB8.out
  go_wp2_with fail
  refine (countNil14 _).mono ?_
  rintro e w9 ⟨rfl, hb⟩
  have HB9 := Lib.hid (pure_trans HB8.out hb)
  clear hb c1 c2 c3 c4 c5
  obtain ⟨c1, c2, c3, c4, c5⟩ := HCC.out w9 HB9.out
  go_wp2_with fail
  refine (tableNil14 _).mono ?_
  rintro e w10 ⟨rfl, hb⟩
  have HB10 := Lib.hid (pure_trans HB9.out hb)
  clear hb c1 c2 c3 c4 c5
  obtain ⟨c1, c2, c3, c4, c5⟩ := HCC.out w10 HB10.out
  go_wp2_with fail
  refine (snapshotsNil14 _).mono ?_
  rintro e w11 ⟨rfl, hb⟩
  have HB11 := Lib.hid (pure_trans HB10.out hb)
  clear hb c1 c2 c3 c4 c5
  obtain ⟨c1, c2, c3, c4, c5⟩ := HCC.out w11 HB11.out
  go_wp2_with fail
  refine (keptNil14 _).mono ?_
  rintro e w12 ⟨rfl, hb⟩
  have HB12 := Lib.hid (pure_trans HB11.out hb)
  clear hb c1 c2 c3 c4 c5
  obtain ⟨c1, c2, c3, c4, c5⟩ := HCC.out w12 HB12.out
  go_wp2_with fail
  refine (levelsNil14 _).mono ?_
  rintro e w13 ⟨rfl, hb⟩
  have HB13 := Lib.hid (pure_trans HB12.out hb)
  clear hb c1 c2 c3 c4 c5
  obtain ⟨c1, c2, c3, c4, c5⟩ := HCC.out w13 HB13.out
  go_wp2_with fail
  refine (dropNil14 _ _).mono ?_
  rintro e w14 ⟨rfl, hb⟩
  have HB14 := Lib.hid (pure_trans HB13.out hb)
  clear hb c1 c2 c3 c4 c5
  obtain ⟨c1, c2, c3, c4, c5⟩ := HCC.out w14 HB14.out
  go_wp2_with fail
  refine (flushNil14 _).mono ?_
  rintro e w15 ⟨rfl, hb⟩
  have HBF := Lib.hid (pure_trans HB2.out (pure_trans HB14.out hb))
  clear hb c1 c2 c3 c4 c5
  go_wp2
  go_ret
  exact ⟨rfl, HBF.out⟩
end Go.Proofs.Ytjenfhkikbndmaa
namespace Go.Proofs.Ytjenfhkikbndmaa.lawSlabNothing
open Go.ChangeShapes Go.WideShapes Go.ChangeAt Go.RowKit
set_option maxRecDepth 100000 in
theorem lifted (os : Os) (started : os.Started) (H : Type) (enc : TypeId × Value → H) :
    ReturnsInHanded {} Try.checked os 3 .any (Rows.slabNothingSpec.pre6 enc Try.prog Try.f3 Rows.slabNothingRow.domain false) (Rows.slabNothingSpec.post enc Try.prog Try.f3 false true false false) := by
  refine returnsInHanded_of_change (C := Try.checked) Try.own started (by kernel_rfl) Try.func3
    (ChangeSpec.witness6 (enc := enc) (C := Try.checked) false ⟨#[], #[.agg #[.int .u8 0, .int .i64 0, .int .i64 0, .string .empty, .string .empty, .string .empty]], []⟩ 8 (by kernel_rfl) (by kernel_rfl) (by kernel_rfl) (by kernel_rfl)) ?_
  intro W base args ds gs before hval0 hW hcnd _
  have hval : ∀ (j : Nat) t v, Try.f3.params[j]? = some t → args[j]? = some v → Value.okWide Try.prog W .any base t v := hval0
  have hW' := hW
  obtain ⟨p, q, hA0, hV, rfl, hfz, hnd⟩ := hW
  have hA : DataW.TrodAll enc Try.prog W 0 (fun _ => true) true Try.f3.params.toList args.toList ds p := hA0
  rw [Try.params3] at hA hval
  obtain ⟨v0, vs0, d0, ds0, p0, q0, hargs, rfl, rfl, h0, r0⟩ := trodAll_cons hA
  obtain ⟨rfl, rfl, rfl⟩ := trodAll_nil r0
  obtain rfl : args = #[v0] := by cases args; simp_all
  obtain ⟨rfl, rfl⟩ := trodVars_none hV
  obtain ⟨x0, cs0, rfl, e0, w0⟩ := arg_struct (t := tAct) reads_hact Try.underlying23 (hval 0 23 v0 rfl rfl) h0
  obtain rfl : cs0 = #[.int .u8 x0.k, .int .i64 x0.g, .int .i64 x0.n, .string x0.nm, .string x0.key, .string x0.val] := by cases cs0; simpa using e0
  clear hA0 hval0
  refine (slabNothing_any x0 W w0).mono fun e W' ⟨he, bel⟩ => ?_
  subst he
  exact ⟨_, rfl, law_post Try.laidOut rfl (by rw [Try.params3]; intro t ht; have hs : Try.prog.types.size = Try.prog.types.size := rfl; simp only [List.mem_cons, List.not_mem_nil, or_false] at ht; rcases ht with rfl <;> exact ⟨by kernel_rfl, of_decide_eq_true (by kernel_rfl)⟩) (by kernel_rfl) Try.underlying4 rfl rfl rfl hW' bel⟩

theorem proved : Rows.SlabNothingSaid :=
  OpenClaim.holds_of_wide 3 Try.f3 rfl rfl rfl rfl rfl rfl rfl ⟨rfl, rfl, rfl, rfl, rfl⟩ rfl rfl rfl rfl rfl (by kernel_rfl) Try.func3 (by kernel_rfl)
    (of_decide_eq_true (by kernel_rfl)) (by unfold Func.isWrapper; first | (rw [if_pos (by decide +kernel)]; kernel_rfl) | (rw [if_neg (by decide +kernel)]; exact ⟨rfl, rfl⟩))
    (fun os started H enc _ => lifted os started H enc)
#print axioms proved
end Go.Proofs.Ytjenfhkikbndmaa.lawSlabNothing
