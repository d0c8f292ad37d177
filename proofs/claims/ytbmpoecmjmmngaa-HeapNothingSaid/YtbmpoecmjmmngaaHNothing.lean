/- The law HeapNothing, walked. -/
import Derived.Test.YtbmpoecmjmmngaaHNil
import Derived.Test.YtbmpoecmjmmngaaArg
namespace Go.Proofs.Ytbmpoecmjmmngaa
open Go.RowKit Go.Maps

def tU8 : Ty Int := ⟨1, fun _ cs x => cs = [.int .u8 x] ∧ 0 ≤ x ∧ x ≤ 255, fun _ _ _ h => by rw [h.1]; rfl, fun _ _ _ _ _ h => h⟩
theorem reads_u8 {P : Program} {T : TypeId} (ht : P.underlying T = some (.int .u8)) : Reads P T tU8 := fun _ _ _ _ _ _ h => by
  obtain ⟨n, h1, _, h3⟩ := DataW.trod_int ht h
  refine ⟨n, h1, ?_⟩
  have : 0 ≤ n ∧ n ≤ 255 := by simpa [Lit.wf, IntKind.min, IntKind.max, IntKind.signed, IntKind.bits] using h3
  exact this
set_option maxRecDepth 100000 in
theorem reads_hact : Reads Try.prog 46 tAct := fun H enc w n cs d h => by
  obtain ⟨xs, n', _, _, hl, hx, hg⟩ := DataW.trod_struct Try.underlying46 h
  rw [show Try.prog.cellsOf 46 = 6 from by kernel_rfl] at hl
  have g0 := hg 0 _ rfl
  obtain ⟨x0, r0⟩ := field_read (reads_u8 Try.underlying5) 0 1 rfl rfl (by kernel_rfl) g0 (by rw [hx]; decide)
  have g1 := hg 1 _ rfl
  obtain ⟨x1, r1⟩ := field_read (reads_int Try.underlying3) 1 1 rfl rfl (by kernel_rfl) g1 (by rw [hx]; decide)
  have g2 := hg 2 _ rfl
  obtain ⟨x2, r2⟩ := field_read (reads_int Try.underlying3) 2 1 rfl rfl (by kernel_rfl) g2 (by rw [hx]; decide)
  have g3 := hg 3 _ rfl
  obtain ⟨x3, r3⟩ := field_read (reads_str Try.underlying9) 3 1 rfl rfl (by kernel_rfl) g3 (by rw [hx]; decide)
  have g4 := hg 4 _ rfl
  obtain ⟨x4, r4⟩ := field_read (reads_str Try.underlying9) 4 1 rfl rfl (by kernel_rfl) g4 (by rw [hx]; decide)
  have g5 := hg 5 _ rfl
  obtain ⟨x5, r5⟩ := field_read (reads_str Try.underlying9) 5 1 rfl rfl (by kernel_rfl) g5 (by rw [hx]; decide)
  match cs, hl with
  | [c0, c1, c2, c3, c4, c5], _ =>
    obtain ⟨e0, i0⟩ := r0
    obtain ⟨e1, i1⟩ := r1
    obtain ⟨e2, i2⟩ := r2
    obtain ⟨e3, i3⟩ := r3
    obtain ⟨e4, i4⟩ := r4
    obtain ⟨e5, i5⟩ := r5
    simp at e0 e1 e2 e3 e4 e5
    exact ⟨⟨x0, x1, x2, x3, x4, x5⟩, by rw [e0, e1, e2, e3, e4, e5], i0, i1, i2, i3, i4, i5⟩
theorem reads_hacts : Reads Try.prog 35 tActs := reads_slice Try.underlying35 (by kernel_rfl) (by decide) reads_hact
theorem act_one {m : Mem} {b : Nat} {x : HAct} (h : ∀ j v, x.cs[j]? = some v → m b j = some v) (hok : x.okA) : tActs.rv m [.slice (some ⟨b, 0, none⟩) 1 1] [x] := by
  refine ⟨some ⟨b, 0, none⟩, 1, rfl, Nat.le_refl 1, by unfold maxLen; decide, fun _ => ⟨b, 0, rfl, fun k hk => ?_⟩⟩
  have hk : k < 1 := hk
  match k, hk with
  | 0, _ => exact ⟨x.cs, fun j v hj => by rw [show 0 + 0 * tAct.sz + j = j by omega]; exact h j v hj, rfl, hok⟩
set_option maxRecDepth 100000 in
set_option maxHeartbeats 8000000 in
theorem heapNothing_any (a : HAct) (w : World) (hok : a.okA) :
    Calls Try.prog 5 #[.agg #[.int .u8 a.k, .int .i64 a.g, .int .i64 a.n, .string a.nm, .string a.key, .string a.val]] w fun e w' => e = .returned (.bool true) ∧ Below w.heap.size w w' := by
  obtain ⟨xk, xg, xn, nm, key, val⟩ := a
  have HOK := Lib.hid hok
  have HB0 := Lib.hid (show Below w.heap.size w (w.alloc (.cells #[.int .u8 xk, .int .i64 xg, .int .i64 xn, .string nm, .string key, .string val] 46)) from (Below.refl _ _).alloc (Nat.le_refl _) _)
  have HBK := Lib.hid (heap_alloc_new w (.cells #[.int .u8 xk, .int .i64 xg, .int .i64 xn, .string nm, .string key, .string val] 46))
  clear hok
  go_enter Try.func5, Try.ntmps5
  go_wp2_with fail
  refine (awake_any _).mono ?_
  rintro e w1 ⟨rfl, hb⟩
  have HB1 := Lib.hid (pure_trans HB0.out hb)
  have hbk1 := (hb.block w.heap.size (by simp)).trans HBK.out
  have HBK1 := Lib.hid hbk1
  have c0 : w1.cell? ⟨w.heap.size, 0, none⟩ = some (.int .u8 xk) := mem_cells hbk1 0
  have c1 : w1.cell? ⟨w.heap.size, 1, none⟩ = some (.int .i64 xg) := mem_cells hbk1 1
  have c2 : w1.cell? ⟨w.heap.size, 2, none⟩ = some (.int .i64 xn) := mem_cells hbk1 2
  have c3 : w1.cell? ⟨w.heap.size, 3, none⟩ = some (.string nm) := mem_cells hbk1 3
  have c4 : w1.cell? ⟨w.heap.size, 4, none⟩ = some (.string key) := mem_cells hbk1 4
  have c5 : w1.cell? ⟨w.heap.size, 5, none⟩ = some (.string val) := mem_cells hbk1 5
  have HMA := Lib.hid (fun (T : TypeId) => many_any [⟨xk, xg, xn, nm, key, val⟩] (.slice (some ⟨w1.heap.size, 0, none⟩) 1 1) (w1.alloc (.cells #[.int .u8 xk, .int .i64 xg, .int .i64 xn, .string nm, .string key, .string val] T)) (act_one (x := ⟨xk, xg, xn, nm, key, val⟩) (fun j v hj => by
    have := mem_cells_new w1 #[.int .u8 xk, .int .i64 xg, .int .i64 xn, .string nm, .string key, .string val] T (0, 0) j
    have h2 : (#[.int .u8 xk, .int .i64 xg, .int .i64 xn, .string nm, .string key, .string val] : Array Value)[j]? = some v := by simpa using hj
    rw [h2] at this
    exact this) HOK.out))
  have HBL := Lib.hid (fun o => (show Below w1.heap.size w1 (w1.alloc o) from (Below.refl _ _).alloc (Nat.le_refl _) o))
  clear hb hbk1 HB0 HBK
  go_wp2_with fail
  refine (HMA.out _).mono ?_
  generalize manyOf _ = b
  rintro e w2 ⟨rfl, hb⟩
  have HB12 := Lib.hid (pure_trans (HBL.out _) hb)
  have HB2 := Lib.hid (pure_trans HB1.out HB12.out)
  have hbk2 := (HB12.out.block w.heap.size (mem_lt c0)).trans HBK1.out
  have HBK2 := Lib.hid hbk2
  clear hb HMA HBL HB1 HB12 HBK1 c0 c1 c2 c3 c4 c5
  cases b with
  | true =>
    clear hbk2
    go_wp2
    go_ret
    exact ⟨rfl, HB2.out⟩
  | false =>
  have HCC := Lib.hid (fun (W : World) (h : Below w2.heap.size w2 W) => (show W.cell? ⟨w.heap.size, 1, none⟩ = some (.int .i64 xg) ∧ W.cell? ⟨w.heap.size, 2, none⟩ = some (.int .i64 xn) ∧ W.cell? ⟨w.heap.size, 3, none⟩ = some (.string nm) ∧ W.cell? ⟨w.heap.size, 4, none⟩ = some (.string key) ∧ W.cell? ⟨w.heap.size, 5, none⟩ = some (.string val) from
    have hbk := (h.block w.heap.size (Array.getElem?_eq_some_iff.1 HBK2.out).1).trans HBK2.out
    ⟨mem_cells hbk 1, mem_cells hbk 2, mem_cells hbk 3, mem_cells hbk 4, mem_cells hbk 5⟩))
  clear hbk2
  obtain ⟨c1, c2, c3, c4, c5⟩ := HCC.out w2 (Below.refl _ _)
  go_wp2_with fail
  refine (getNil _ _ _ _).mono ?_
  rintro e w3 ⟨rfl, hb⟩
  have HB3 := Lib.hid hb
  clear hb c1 c2 c3 c4 c5
  obtain ⟨c1, c2, c3, c4, c5⟩ := HCC.out w3 HB3.out
  go_wp2_with fail
  refine (clearNil _ _ _).mono ?_
  rintro e w4 ⟨rfl, hb⟩
  have HB4 := Lib.hid (pure_trans HB3.out hb)
  clear hb c1 c2 c3 c4 c5
  obtain ⟨c1, c2, c3, c4, c5⟩ := HCC.out w4 HB4.out
  go_wp2_with fail
  refine (snapshotNil _).mono ?_
  rintro e w5 ⟨rfl, hb⟩
  have HB5 := Lib.hid (pure_trans HB4.out hb)
  clear hb c1 c2 c3 c4 c5
  obtain ⟨c1, c2, c3, c4, c5⟩ := HCC.out w5 HB5.out
  go_wp2_with fail
  refine (groupsNil _ _ _).mono ?_
  rintro e w6 ⟨rfl, hb⟩
  have HB6 := Lib.hid (pure_trans HB5.out hb)
  clear hb c1 c2 c3 c4 c5
  obtain ⟨c1, c2, c3, c4, c5⟩ := HCC.out w6 HB6.out
  go_wp2_with fail
  refine (putNil _ _ _ _ _).mono ?_
  rintro e w7 ⟨rfl, hb⟩
  have HB7 := Lib.hid (pure_trans HB6.out hb)
  clear hb c1 c2 c3 c4 c5
  obtain ⟨c1, c2, c3, c4, c5⟩ := HCC.out w7 HB7.out
  go_wp2_with fail
  refine (deleteNil _ _ _ _).mono ?_
  rintro e w8 ⟨rfl, hb⟩
  have HB8 := Lib.hid (pure_trans HB7.out hb)
  clear hb c1 c2 c3 c4 c5
  obtain ⟨c1, c2, c3, c4, c5⟩ := HCC.out w8 HB8.out
  go_wp2_with fail
  refine (allNil _).mono ?_
  rintro e w9 ⟨rfl, hb⟩
  have HB9 := Lib.hid (pure_trans HB8.out hb)
  clear hb c1 c2 c3 c4 c5
  obtain ⟨c1, c2, c3, c4, c5⟩ := HCC.out w9 HB9.out
  go_wp2_with fail
  refine (countNil _).mono ?_
  rintro e w10 ⟨rfl, hb⟩
  have HB10 := Lib.hid (pure_trans HB9.out hb)
  clear hb c1 c2 c3 c4 c5
  obtain ⟨c1, c2, c3, c4, c5⟩ := HCC.out w10 HB10.out
  go_wp2_with fail
  refine (snapshotsNil _).mono ?_
  rintro e w11 ⟨rfl, hb⟩
  have HB11 := Lib.hid (pure_trans HB10.out hb)
  clear hb c1 c2 c3 c4 c5
  obtain ⟨c1, c2, c3, c4, c5⟩ := HCC.out w11 HB11.out
  go_wp2_with fail
  refine (dropNil _ _).mono ?_
  rintro e w12 ⟨rfl, hb⟩
  have HB12 := Lib.hid (pure_trans HB11.out hb)
  clear hb c1 c2 c3 c4 c5
  obtain ⟨c1, c2, c3, c4, c5⟩ := HCC.out w12 HB12.out
  go_wp2_with fail
  refine (resetNil _ _).mono ?_
  rintro e w13 ⟨rfl, hb⟩
  have HB13 := Lib.hid (pure_trans HB2.out (pure_trans HB12.out hb))
  clear hb c1 c2 c3 c4 c5
  go_wp2
  go_ret
  exact ⟨rfl, HB13.out⟩
end Go.Proofs.Ytbmpoecmjmmngaa
