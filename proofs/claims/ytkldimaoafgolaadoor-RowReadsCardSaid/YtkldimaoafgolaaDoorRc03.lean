/- Part 3 of the texts that the law's proof stands on, merged. -/
import Derived.Lib.IndexLaws
import Derived.Deep.RegionHeld3
import Derived.Test.YtkldimaoafgolaaDoorRc02
set_option linter.unusedVariables false
set_option linter.unusedSimpArgs false
/- The readers of package row: number and null. -/
namespace Go.Proofs.YtkldimaoafgolaaDoor
open Go.RowKit

def endOf (l : List UInt8) : Nat := if Lib.indexByte l 44 < 0 then l.length else (Lib.indexByte l 44).toNat
theorem idx44 (l : List UInt8) : (Lib.indexByte l 44 < 0 ∧ ∀ k : Nat, l[k]? ≠ some 44) ∨ ∃ o : Nat, Lib.indexByte l 44 = o ∧ o < l.length ∧ l[o]? = some 44 ∧ ∀ k : Nat, k < o → l[k]? ≠ some 44 := by
  have hg := Lib.indexByte_ge l 44
  by_cases h : Lib.indexByte l 44 < 0
  · exact .inl ⟨h, Lib.indexByte_none (by omega)⟩
  · have he : Lib.indexByte l 44 = ((Lib.indexByte l 44).toNat : Int) := by omega
    obtain ⟨h1, h2⟩ := Lib.indexByte_some he
    exact .inr ⟨_, he, (List.getElem?_eq_some_iff.1 h1).1, h1, h2⟩
theorem endOf_le (l : List UInt8) : endOf l ≤ l.length := by
  unfold endOf
  split
  · exact Nat.le_refl _
  · rcases idx44 l with ⟨h, _⟩ | ⟨o, h, h2, _⟩
    · omega
    · rw [h]; omega
theorem itoa_no44 {n : Int} {k : Nat} : (Lib.itoa n)[k]? ≠ some 44 := fun h => by
  have := itoa_bytes n 44 (List.mem_of_getElem? h)
  rcases this with h | h
  · cases h
  · exact absurd h.1 (by decide)
theorem endOf_itoa (n : Int) (rest : List UInt8) (hr : rest = [] ∨ ∃ r, rest = 44 :: r) : endOf (Lib.itoa n ++ rest) = (Lib.itoa n).length := by
  unfold endOf
  rcases idx44 (Lib.itoa n ++ rest) with ⟨h, h2⟩ | ⟨o, h, h2, h3, h4⟩
  · rw [if_pos h]
    rcases hr with rfl | ⟨r, rfl⟩
    · simp
    · exact absurd (by rw [List.getElem?_append_right (Nat.le_refl _)]; simp) (h2 (Lib.itoa n).length)
  · rw [h, if_neg (by omega)]
    show o = _
    rcases Nat.lt_trichotomy o (Lib.itoa n).length with g | g | g
    · rw [List.getElem?_append_left g] at h3
      exact absurd h3 itoa_no44
    · exact g
    · rcases hr with rfl | ⟨r, rfl⟩
      · simp at h2; omega
      · exact absurd (by rw [List.getElem?_append_right (Nat.le_refl _)]; simp) (h4 (Lib.itoa n).length g)

set_option maxRecDepth 100000 in
set_option maxHeartbeats 2000000 in
theorem readNull_any (b : Nat) (s : ByteArray) (w : World) (h : Rd w b s) (h0 : 0 < s.size) :
    Calls Tryd.prog 86 #[.pointer (some ⟨b, 0, none⟩)] w fun e W' => e = .returned (.tuple #[valV ⟨0, 0, ⟨#[]⟩⟩, .bool true]) ∧ Rd W' b (s.extract 1 s.size) ∧ Keeps (fun k => k = b) w W' := by
  have c0 : w.cell? ⟨b, 0, none⟩ = some (.string s) := mem_cells h 0
  have hlt : b < w.heap.size := lt_of_block h
  have hpos : (1 : Int) ≤ (s.size : Int) := by omega
  go_enter Tryd.func86, Tryd.ntmps86
  go_upto_region 1 with fail
  have HY := Lib.hid (And.intro ((Below.refl w.heap.size w).alloc (Nat.le_refl _) (.cells #[.int .i64 0, .int .i64 0, .string ⟨#[]⟩] 30)) (heap_alloc_new w (.cells #[.int .i64 0, .int .i64 0, .string ⟨#[]⟩] 30)))
  have HSY := Lib.hid (show (w.alloc (.cells #[.int .i64 0, .int .i64 0, .string ⟨#[]⟩] 30)).heap.size = w.heap.size + 1 by simp)
  generalize w.alloc (.cells #[.int .i64 0, .int .i64 0, .string ⟨#[]⟩] 30) = Y at HY HSY ⊢
  have HYB := Lib.hid (show Y.heap[b]? = some (.cells #[.string s] 99 (0, 0)) from (HY.out.1.block b hlt).trans h)
  clear c0
  have c0 : Y.cell? ⟨b, 0, none⟩ = some (.string s) := mem_cells HYB.out 0
  have fb : ∀ o, Y.frozen? ⟨b, o, none⟩ = false := frozen_cells HYB.out
  have HWB := HYB
  have HWR := Lib.hid HY.out.2
  have HYW := Lib.hid (Below.refl (w.heap.size + 1) Y)
  go_upto_region 2 with fail
  have hkX : Keeps (fun k => k = b) Y (Y.setCell ⟨b, 0, none⟩ (.string (s.extract 1 s.size))) := keepC (F := fun k => k = b) (Keeps.refl _ Y) rfl 0 _
  have HRD := Lib.hid (show Rd (Y.setCell ⟨b, 0, none⟩ (.string (s.extract 1 s.size))) b (s.extract 1 s.size) from setC_block HWB.out)
  have yR := (hkX.block w.heap.size (lt_of_block HWR.out) (by omega)).trans HWR.out
  have HKX := Lib.hid (hkX.wide (G := fun k => k = b ∨ w.heap.size ≤ k) (fun k _ e => .inl e))
  generalize Y.setCell ⟨b, 0, none⟩ (.string (s.extract 1 s.size)) = X at hkX HRD yR HKX ⊢
  have m0 : X.cell? ⟨w.heap.size, 0, none⟩ = some (.int .i64 0) := mem_cells yR 0
  have m1 : X.cell? ⟨w.heap.size, 1, none⟩ = some (.int .i64 0) := mem_cells yR 1
  have m2 : X.cell? ⟨w.heap.size, 2, none⟩ = some (.string ⟨#[]⟩) := mem_cells yR 2
  have fR : ∀ o, X.frozen? ⟨w.heap.size, o, none⟩ = false := frozen_cells yR
  clear c0 fb
  go_wp2
  have r1 := set3_block yR (.int .i64 0) (.int .i64 0) (.string ⟨#[]⟩)
  have hk3 := set3_keeps X w.heap.size (.int .i64 0) (.int .i64 0) (.string ⟨#[]⟩)
  show bodyPost _ _ _ _ _ (set3 X w.heap.size (.int .i64 0) (.int .i64 0) (.string ⟨#[]⟩))
  generalize set3 X w.heap.size (.int .i64 0) (.int .i64 0) (.string ⟨#[]⟩) = w9 at r1 hk3 ⊢
  have hrd : Rd w9 b (s.extract 1 s.size) := (hk3.block b (lt_of_block HRD.out) (by omega)).trans HRD.out
  have hK9 : Keeps (fun k => k = b) w w9 := keeps_out HY.out.1 HYW.out (HKX.out.trans (hk3.wide (fun k _ e => .inr (by omega))))
  have g0 : w9.cell? ⟨w.heap.size, 0, none⟩ = some (.int .i64 0) := mem_cells r1 0
  have g1 : w9.cell? ⟨w.heap.size, 1, none⟩ = some (.int .i64 0) := mem_cells r1 1
  have g2 : w9.cell? ⟨w.heap.size, 2, none⟩ = some (.string ⟨#[]⟩) := mem_cells r1 2
  exact bodyPost_ret (v := .tuple #[.agg #[.int .i64 0, .int .i64 0, .string ⟨#[]⟩], .bool true]) (by simp [results, Tryd.results86, go_sem, g0, g1, g2]) rfl ⟨rfl, hrd, hK9⟩

def NumPost (b : Nat) (s : ByteArray) (w : World) (e : Ending) (W' : World) : Prop := ∃ (ok : Bool) (x : Val) (s' : ByteArray), e = .returned (.tuple #[valV x, .bool ok]) ∧ Rd W' b s' ∧ Keeps (fun k => k = b) w W' ∧ s'.size ≤ s.size ∧ (inI64 x.kind ∧ inI64 x.n ∧ x.s.size ≤ 100000) ∧
      ∀ n rest, inI64 n → bl s = Lib.itoa n ++ rest → (rest = [] ∨ ∃ r, rest = 44 :: r) → ok = true ∧ x = ⟨1, n, ⟨#[]⟩⟩ ∧ bl s' = rest
set_option maxRecDepth 100000 in
set_option maxHeartbeats 2000000 in
theorem readNumber_any (b : Nat) (s : ByteArray) (w : World) (h : Rd w b s) (hs : s.size ≤ 100000) (he : Tryd.Errs w) :
    Calls Tryd.prog 84 #[.pointer (some ⟨b, 0, none⟩)] w (NumPost b s w) := by
  have c0 : w.cell? ⟨b, 0, none⟩ = some (.string s) := mem_cells h 0
  have hlt : b < w.heap.size := lt_of_block h
  go_enter Tryd.func84, Tryd.ntmps84
  go_upto_region 1 with fail
  have HY := Lib.hid (And.intro ((Below.refl w.heap.size w).alloc (Nat.le_refl _) (.cells #[.int .i64 0, .int .i64 0, .string ⟨#[]⟩] 30)) (heap_alloc_new w (.cells #[.int .i64 0, .int .i64 0, .string ⟨#[]⟩] 30)))
  have HSY := Lib.hid (show (w.alloc (.cells #[.int .i64 0, .int .i64 0, .string ⟨#[]⟩] 30)).heap.size = w.heap.size + 1 by simp)
  generalize w.alloc (.cells #[.int .i64 0, .int .i64 0, .string ⟨#[]⟩] 30) = Y at HY HSY ⊢
  have HYB := Lib.hid (show Y.heap[b]? = some (.cells #[.string s] 99 (0, 0)) from (HY.out.1.block b hlt).trans h)
  clear c0
  have HE := Lib.hid (Tryd.errsStay he HY.out.1)
  clear he
  have c0 : Y.cell? ⟨b, 0, none⟩ = some (.string s) := mem_cells HYB.out 0
  have HI := Lib.hid (Tryd.strings_IndexByte s 44 Y)
  have HK := Lib.hid (show endOf (bl s) = if Lib.indexByte (bl s) 44 < 0 then s.size else (Lib.indexByte (bl s) 44).toNat from rfl)
  have HKL := Lib.hid (show endOf (bl s) ≤ s.size from endOf_le (bl s))
  have HN := Lib.hid (fun (n : Int) (rest : List UInt8) (e : bl s = Lib.itoa n ++ rest) (hr : rest = [] ∨ ∃ r, rest = 44 :: r) => show endOf (bl s) = (Lib.itoa n).length from by rw [e]; exact endOf_itoa n rest hr)
  obtain ⟨ix, hix⟩ : ∃ ix, ix = Lib.indexByte (bl s) 44 := ⟨_, rfl⟩
  rw [← hix] at HK
  have HI : Hid (Calls Tryd.prog 103 #[.string s, .int .u8 44] Y fun e w' => e = .returned (.int .i64 ix) ∧ w' = Y) := Lib.hid (by rw [hix]; exact HI.out)
  clear hix
  generalize endOf (bl s) = k at HK HKL HN
  have HAT := Lib.hid (atoi_any (s.extract 0 k) (by rw [ByteArray.size_extract]; omega) Y HE.out)
  go_wp2_with fail
  refine HI.out.mono ?_
  rintro e w1 ⟨rfl, rfl⟩
  by_cases hneg : ix < 0
  · have hk : k = s.size := by rw [HK.out, if_pos hneg]
    subst hk
    rw [show s.extract 0 s.size = s from bl_inj (by rw [bl_tail]; rfl)] at HAT
    go_wp2_with fail
    refine HAT.out.mono ?_
    rintro e w2 ⟨n, ev, rfl, hn, hev, hcan, hb2⟩
    have HWB := Lib.hid ((hb2.block b (lt_of_block HYB.out)).trans HYB.out)
    have HWR := Lib.hid ((hb2.block w.heap.size (lt_of_block HY.out.2)).trans HY.out.2)
    have HYW := Lib.hid (show Below (w.heap.size + 1) w1 w2 from hb2.mono (by have := HSY.out; omega))
    have HCAN := Lib.hid hcan
    have HNI := Lib.hid hn
    have c0 : w2.cell? ⟨b, 0, none⟩ = some (.string s) := mem_cells HWB.out 0
    have fb : ∀ o, w2.frozen? ⟨b, o, none⟩ = false := frozen_cells HWB.out
    clear hb2 hcan hn HI HAT HE
    go_upto_region 6 with fail
    have hkX : Keeps (fun k => k = b) w2 (w2.setCell ⟨b, 0, none⟩ (.string ByteArray.empty)) := keepC (F := fun k => k = b) (Keeps.refl _ w2) rfl 0 _
    have HRD := Lib.hid (show Rd (w2.setCell ⟨b, 0, none⟩ (.string ByteArray.empty)) b ByteArray.empty from setC_block HWB.out)
    have yR := (hkX.block w.heap.size (lt_of_block HWR.out) (by omega)).trans HWR.out
    have HKX := Lib.hid (hkX.wide (G := fun k => k = b ∨ w.heap.size ≤ k) (fun k _ e => .inl e))
    generalize w2.setCell ⟨b, 0, none⟩ (.string ByteArray.empty) = X at hkX HRD yR HKX ⊢
    have m0 : X.cell? ⟨w.heap.size, 0, none⟩ = some (.int .i64 0) := mem_cells yR 0
    have m1 : X.cell? ⟨w.heap.size, 1, none⟩ = some (.int .i64 0) := mem_cells yR 1
    have m2 : X.cell? ⟨w.heap.size, 2, none⟩ = some (.string ⟨#[]⟩) := mem_cells yR 2
    have fR : ∀ o, X.frozen? ⟨w.heap.size, o, none⟩ = false := frozen_cells yR
    have HSZ := Lib.hid (show (ByteArray.empty).size = 0 from rfl)
    have HSP := Lib.hid (show bl ByteArray.empty = (bl s).drop s.size from by rw [List.drop_eq_nil_of_le (by rw [bl_len]; omega)]; rfl)
    have HXE := Lib.hid (fun (m : Int) (hx : bl (s.extract 0 s.size) = Lib.itoa m) => (show bl s = Lib.itoa m from by rw [bl_tail] at hx; exact hx))
    clear hkX
    rcases hev with rfl | ⟨t, p, rfl⟩
    · clear c0 fb HWB HWR
      go_region
      all_goals
        go_wp2
        have hk0 := set3_keeps X w.heap.size (.int .i64 1) (.int .i64 n) (.string ⟨#[]⟩)
        have r1 : (set3 X w.heap.size (.int .i64 1) (.int .i64 n) (.string ⟨#[]⟩)).drew.heap[w.heap.size]? = some (.cells #[.int .i64 1, .int .i64 n, .string ⟨#[]⟩] 30 (0, 0)) := set3_block yR (.int .i64 1) (.int .i64 n) (.string ⟨#[]⟩)
        have hk3 : Keeps (fun k => k = w.heap.size) X (set3 X w.heap.size (.int .i64 1) (.int .i64 n) (.string ⟨#[]⟩)).drew := ⟨hk0.os, hk0.tape, hk0.output, hk0.size, hk0.block⟩
        show bodyPost _ _ _ _ _ (set3 X w.heap.size (.int .i64 1) (.int .i64 n) (.string ⟨#[]⟩)).drew
        clear hk0
        generalize (set3 X w.heap.size (.int .i64 1) (.int .i64 n) (.string ⟨#[]⟩)).drew = w9 at r1 hk3 ⊢
        have hrd : Rd w9 b ByteArray.empty := (hk3.block b (lt_of_block HRD.out) (by omega)).trans HRD.out
        have hK9 : Keeps (fun k => k = b) w w9 := keeps_out HY.out.1 HYW.out (HKX.out.trans (hk3.wide (fun k _ e => .inr (by omega))))
        have g0 : w9.cell? ⟨w.heap.size, 0, none⟩ = some (.int .i64 1) := mem_cells r1 0
        have g1 : w9.cell? ⟨w.heap.size, 1, none⟩ = some (.int .i64 n) := mem_cells r1 1
        have g2 : w9.cell? ⟨w.heap.size, 2, none⟩ = some (.string ⟨#[]⟩) := mem_cells r1 2
        exact bodyPost_ret (v := .tuple #[.agg #[.int .i64 1, .int .i64 n, .string ⟨#[]⟩], .bool true]) (by simp [results, Tryd.results84, go_sem, g0, g1, g2]) rfl (by unfold NumPost; exact ⟨true, ⟨1, n, ⟨#[]⟩⟩, ByteArray.empty, rfl, hrd, hK9, by rw [HSZ.out]; omega, ⟨by unfold inI64; simp, HNI.out, by show 0 ≤ 100000; omega⟩, fun m rest hm e hr => by
                  have hk2 := HN.out m rest e hr
                  have hx : bl (s.extract 0 s.size) = Lib.itoa m := by rw [bl_extract, e, Nat.sub_zero, hk2]; simp
                  obtain ⟨e1, e2⟩ := HCAN.out m hm (HXE.out m hx)
                  exact ⟨rfl, by rw [e1], by rw [HSP.out, e, hk2]; simp⟩⟩)
    · clear c0 fb HWB HWR
      go_region
      all_goals
        go_wp2
        have hk0 := set3_keeps X w.heap.size (.int .i64 1) (.int .i64 n) (.string ⟨#[]⟩)
        have r1 : (set3 X w.heap.size (.int .i64 1) (.int .i64 n) (.string ⟨#[]⟩)).drew.heap[w.heap.size]? = some (.cells #[.int .i64 1, .int .i64 n, .string ⟨#[]⟩] 30 (0, 0)) := set3_block yR (.int .i64 1) (.int .i64 n) (.string ⟨#[]⟩)
        have hk3 : Keeps (fun k => k = w.heap.size) X (set3 X w.heap.size (.int .i64 1) (.int .i64 n) (.string ⟨#[]⟩)).drew := ⟨hk0.os, hk0.tape, hk0.output, hk0.size, hk0.block⟩
        show bodyPost _ _ _ _ _ (set3 X w.heap.size (.int .i64 1) (.int .i64 n) (.string ⟨#[]⟩)).drew
        clear hk0
        generalize (set3 X w.heap.size (.int .i64 1) (.int .i64 n) (.string ⟨#[]⟩)).drew = w9 at r1 hk3 ⊢
        have hrd : Rd w9 b ByteArray.empty := (hk3.block b (lt_of_block HRD.out) (by omega)).trans HRD.out
        have hK9 : Keeps (fun k => k = b) w w9 := keeps_out HY.out.1 HYW.out (HKX.out.trans (hk3.wide (fun k _ e => .inr (by omega))))
        have g0 : w9.cell? ⟨w.heap.size, 0, none⟩ = some (.int .i64 1) := mem_cells r1 0
        have g1 : w9.cell? ⟨w.heap.size, 1, none⟩ = some (.int .i64 n) := mem_cells r1 1
        have g2 : w9.cell? ⟨w.heap.size, 2, none⟩ = some (.string ⟨#[]⟩) := mem_cells r1 2
        exact bodyPost_ret (v := .tuple #[.agg #[.int .i64 1, .int .i64 n, .string ⟨#[]⟩], .bool false]) (by simp [results, Tryd.results84, go_sem, g0, g1, g2]) rfl (by unfold NumPost; exact ⟨false, ⟨1, n, ⟨#[]⟩⟩, ByteArray.empty, rfl, hrd, hK9, by rw [HSZ.out]; omega, ⟨by unfold inI64; simp, HNI.out, by show 0 ≤ 100000; omega⟩, fun m rest hm e hr => by
                  have hk2 := HN.out m rest e hr
                  have hx : bl (s.extract 0 s.size) = Lib.itoa m := by rw [bl_extract, e, Nat.sub_zero, hk2]; simp
                  obtain ⟨e1, e2⟩ := HCAN.out m hm (HXE.out m hx)
                  cases e2⟩)
  · have hk : ix = (k : Int) := by have := HK.out; rw [if_neg hneg] at this; omega
    subst hk
    have hkl : (k : Int) ≤ (s.size : Int) := by have := HKL.out; omega
    go_wp2_with fail
    refine HAT.out.mono ?_
    rintro e w2 ⟨n, ev, rfl, hn, hev, hcan, hb2⟩
    have HWB := Lib.hid ((hb2.block b (lt_of_block HYB.out)).trans HYB.out)
    have HWR := Lib.hid ((hb2.block w.heap.size (lt_of_block HY.out.2)).trans HY.out.2)
    have HYW := Lib.hid (show Below (w.heap.size + 1) w1 w2 from hb2.mono (by have := HSY.out; omega))
    have HCAN := Lib.hid hcan
    have HNI := Lib.hid hn
    have c0 : w2.cell? ⟨b, 0, none⟩ = some (.string s) := mem_cells HWB.out 0
    have fb : ∀ o, w2.frozen? ⟨b, o, none⟩ = false := frozen_cells HWB.out
    clear hb2 hcan hn HI HAT HE
    go_upto_region 6 with fail
    have hkX : Keeps (fun k => k = b) w2 (w2.setCell ⟨b, 0, none⟩ (.string (s.extract k s.size))) := keepC (F := fun k => k = b) (Keeps.refl _ w2) rfl 0 _
    have HRD := Lib.hid (show Rd (w2.setCell ⟨b, 0, none⟩ (.string (s.extract k s.size))) b (s.extract k s.size) from setC_block HWB.out)
    have yR := (hkX.block w.heap.size (lt_of_block HWR.out) (by omega)).trans HWR.out
    have HKX := Lib.hid (hkX.wide (G := fun k => k = b ∨ w.heap.size ≤ k) (fun k _ e => .inl e))
    generalize w2.setCell ⟨b, 0, none⟩ (.string (s.extract k s.size)) = X at hkX HRD yR HKX ⊢
    have m0 : X.cell? ⟨w.heap.size, 0, none⟩ = some (.int .i64 0) := mem_cells yR 0
    have m1 : X.cell? ⟨w.heap.size, 1, none⟩ = some (.int .i64 0) := mem_cells yR 1
    have m2 : X.cell? ⟨w.heap.size, 2, none⟩ = some (.string ⟨#[]⟩) := mem_cells yR 2
    have fR : ∀ o, X.frozen? ⟨w.heap.size, o, none⟩ = false := frozen_cells yR
    have HSZ := Lib.hid (show (s.extract k s.size).size = s.size - k by rw [ByteArray.size_extract]; omega)
    have HSP := Lib.hid (show bl (s.extract k s.size) = (bl s).drop k from bl_tail s k)
    have HXE := Lib.hid (fun (m : Int) (hx : bl (s.extract 0 k) = Lib.itoa m) => (hx : (s.extract 0 k).data.toList = Lib.itoa m))
    clear hkX
    rcases hev with rfl | ⟨t, p, rfl⟩
    · clear c0 fb HWB HWR
      go_region
      all_goals
        go_wp2
        have hk0 := set3_keeps X w.heap.size (.int .i64 1) (.int .i64 n) (.string ⟨#[]⟩)
        have r1 : (set3 X w.heap.size (.int .i64 1) (.int .i64 n) (.string ⟨#[]⟩)).drew.heap[w.heap.size]? = some (.cells #[.int .i64 1, .int .i64 n, .string ⟨#[]⟩] 30 (0, 0)) := set3_block yR (.int .i64 1) (.int .i64 n) (.string ⟨#[]⟩)
        have hk3 : Keeps (fun k => k = w.heap.size) X (set3 X w.heap.size (.int .i64 1) (.int .i64 n) (.string ⟨#[]⟩)).drew := ⟨hk0.os, hk0.tape, hk0.output, hk0.size, hk0.block⟩
        show bodyPost _ _ _ _ _ (set3 X w.heap.size (.int .i64 1) (.int .i64 n) (.string ⟨#[]⟩)).drew
        clear hk0
        generalize (set3 X w.heap.size (.int .i64 1) (.int .i64 n) (.string ⟨#[]⟩)).drew = w9 at r1 hk3 ⊢
        have hrd : Rd w9 b (s.extract k s.size) := (hk3.block b (lt_of_block HRD.out) (by omega)).trans HRD.out
        have hK9 : Keeps (fun k => k = b) w w9 := keeps_out HY.out.1 HYW.out (HKX.out.trans (hk3.wide (fun k _ e => .inr (by omega))))
        have g0 : w9.cell? ⟨w.heap.size, 0, none⟩ = some (.int .i64 1) := mem_cells r1 0
        have g1 : w9.cell? ⟨w.heap.size, 1, none⟩ = some (.int .i64 n) := mem_cells r1 1
        have g2 : w9.cell? ⟨w.heap.size, 2, none⟩ = some (.string ⟨#[]⟩) := mem_cells r1 2
        exact bodyPost_ret (v := .tuple #[.agg #[.int .i64 1, .int .i64 n, .string ⟨#[]⟩], .bool true]) (by simp [results, Tryd.results84, go_sem, g0, g1, g2]) rfl (by unfold NumPost; exact ⟨true, ⟨1, n, ⟨#[]⟩⟩, (s.extract k s.size), rfl, hrd, hK9, by rw [HSZ.out]; omega, ⟨by unfold inI64; simp, HNI.out, by show 0 ≤ 100000; omega⟩, fun m rest hm e hr => by
                  have hk2 := HN.out m rest e hr
                  have hx : bl (s.extract 0 k) = Lib.itoa m := by rw [bl_extract, e, Nat.sub_zero, hk2]; simp
                  obtain ⟨e1, e2⟩ := HCAN.out m hm (HXE.out m hx)
                  exact ⟨rfl, by rw [e1], by rw [HSP.out, e, hk2]; simp⟩⟩)
    · clear c0 fb HWB HWR
      go_region
      all_goals
        go_wp2
        have hk0 := set3_keeps X w.heap.size (.int .i64 1) (.int .i64 n) (.string ⟨#[]⟩)
        have r1 : (set3 X w.heap.size (.int .i64 1) (.int .i64 n) (.string ⟨#[]⟩)).drew.heap[w.heap.size]? = some (.cells #[.int .i64 1, .int .i64 n, .string ⟨#[]⟩] 30 (0, 0)) := set3_block yR (.int .i64 1) (.int .i64 n) (.string ⟨#[]⟩)
        have hk3 : Keeps (fun k => k = w.heap.size) X (set3 X w.heap.size (.int .i64 1) (.int .i64 n) (.string ⟨#[]⟩)).drew := ⟨hk0.os, hk0.tape, hk0.output, hk0.size, hk0.block⟩
        show bodyPost _ _ _ _ _ (set3 X w.heap.size (.int .i64 1) (.int .i64 n) (.string ⟨#[]⟩)).drew
        clear hk0
        generalize (set3 X w.heap.size (.int .i64 1) (.int .i64 n) (.string ⟨#[]⟩)).drew = w9 at r1 hk3 ⊢
        have hrd : Rd w9 b (s.extract k s.size) := (hk3.block b (lt_of_block HRD.out) (by omega)).trans HRD.out
        have hK9 : Keeps (fun k => k = b) w w9 := keeps_out HY.out.1 HYW.out (HKX.out.trans (hk3.wide (fun k _ e => .inr (by omega))))
        have g0 : w9.cell? ⟨w.heap.size, 0, none⟩ = some (.int .i64 1) := mem_cells r1 0
        have g1 : w9.cell? ⟨w.heap.size, 1, none⟩ = some (.int .i64 n) := mem_cells r1 1
        have g2 : w9.cell? ⟨w.heap.size, 2, none⟩ = some (.string ⟨#[]⟩) := mem_cells r1 2
        exact bodyPost_ret (v := .tuple #[.agg #[.int .i64 1, .int .i64 n, .string ⟨#[]⟩], .bool false]) (by simp [results, Tryd.results84, go_sem, g0, g1, g2]) rfl (by unfold NumPost; exact ⟨false, ⟨1, n, ⟨#[]⟩⟩, (s.extract k s.size), rfl, hrd, hK9, by rw [HSZ.out]; omega, ⟨by unfold inI64; simp, HNI.out, by show 0 ≤ 100000; omega⟩, fun m rest hm e hr => by
                  have hk2 := HN.out m rest e hr
                  have hx : bl (s.extract 0 k) = Lib.itoa m := by rw [bl_extract, e, Nat.sub_zero, hk2]; simp
                  obtain ⟨e1, e2⟩ := HCAN.out m hm (HXE.out m hx)
                  cases e2⟩)
end Go.Proofs.YtkldimaoafgolaaDoor
/- row.Parse: what is read of a canonical text is its row; whatever else is refused. -/
namespace Go.Proofs.YtkldimaoafgolaaDoor
open Go.RowKit

theorem val_eq0 {y : Val} (h : validVal y = true) (k : y.kind = 0) : y = ⟨0, 0, ⟨#[]⟩⟩ := by
  obtain ⟨yk, yn, ys⟩ := y
  simp only at k
  subst k
  rw [validVal_0, empty_iff] at h
  simp only [Bool.and_eq_true, decide_eq_true_eq] at h
  have hs : ys = ⟨#[]⟩ := bl_inj (List.length_eq_zero_iff.1 (by have := h; show ys.size = 0; omega))
  have hn : yn = 0 := by simp at h; omega
  rw [hs, hn]
theorem val_eq1 {y : Val} (h : validVal y = true) (k : y.kind = 1) : y = ⟨1, y.n, ⟨#[]⟩⟩ ∧ inI64 y.n := by
  obtain ⟨yk, yn, ys⟩ := y
  simp only at k
  subst k
  rw [validVal_1, empty_iff] at h
  simp only [Bool.and_eq_true, decide_eq_true_eq] at h
  have hs : ys = ⟨#[]⟩ := bl_inj (List.length_eq_zero_iff.1 (by have := h; show ys.size = 0; omega))
  refine ⟨by rw [hs], ?_⟩
  show inI64 yn
  unfold inI64; omega
theorem val_eq2 {y : Val} (h : validVal y = true) (k : y.kind = 2) : y = ⟨2, 0, ⟨(bl y.s).toArray⟩⟩ := by
  obtain ⟨yk, yn, ys⟩ := y
  simp only at k
  subst k
  rw [validVal_2] at h
  simp only [Bool.and_eq_true, decide_eq_true_eq] at h
  have hn : yn = 0 := by simp at h; omega
  rw [hn]
  congr 1
theorem val_first {y : Val} (h : validVal y = true) : (y.kind = 0 ∧ valText y = [126]) ∨ (y.kind = 1 ∧ valText y = Lib.itoa y.n ∧ ∃ c l, valText y = c :: l ∧ c.toNat ≠ 34 ∧ c.toNat ≠ 126) ∨ (y.kind = 2 ∧ valText y = quoteList (bl y.s)) := by
  rcases val_head h with ⟨k, e⟩ | ⟨k, e⟩ | ⟨k, e⟩
  · exact .inl ⟨k, e⟩
  · refine .inr (.inl ⟨k, e, ?_⟩)
    cases hi : Lib.itoa y.n with
    | nil => exact absurd hi (itoa_ne y.n)
    | cons c l =>
      have := itoa_bytes y.n c (by rw [hi]; exact List.mem_cons_self)
      exact ⟨c, l, by rw [e, hi], by omega, by omega⟩
  · exact .inr (.inr ⟨k, e⟩)
def Ends (rest : List UInt8) : Prop := rest = [] ∨ ∃ r, rest = 44 :: r
/-- What a reader of one value gives. -/
def RPost (b : Nat) (s : ByteArray) (w : World) (e : Ending) (W' : World) : Prop :=
  ∃ (ok : Bool) (x : Val) (s' : ByteArray), e = .returned (.tuple #[valV x, .bool ok]) ∧ Rd W' b s' ∧ Keeps (fun k => k = b) w W' ∧ s'.size ≤ s.size ∧ (inI64 x.kind ∧ inI64 x.n ∧ x.s.size ≤ 100000) ∧
    Hid (∀ y rest, validVal y = true → bl s = valText y ++ rest → Ends rest → ok = true ∧ x = y ∧ bl s' = rest)
theorem read_text (b : Nat) (s : ByteArray) (w : World) (h : Rd w b s) (hs : s.size ≤ 100000) (h0 : 0 < s.size) (h34 : s[0].toNat = 34) (he : Tryd.Errs w) : Calls Tryd.prog 85 #[.pointer (some ⟨b, 0, none⟩)] w (RPost b s w) := by
  have hq : bl s = 34 :: bl (s.extract 1 s.size) := by
    rw [bl_tail]
    have := bl_get s 0 h0
    rw [show s[0] = 34 from UInt8.toNat_inj.1 h34] at this
    exact this
  refine (readText_any b s w h hs h0 hq he).mono fun e W' ⟨ok, x, s', h1, h2, h3, h4, h5, h6⟩ => ⟨ok, x, s', h1, h2, h3, h4, h5, Lib.hid fun y rest hv e hr => ?_⟩
  rcases val_first hv with ⟨_, e1⟩ | ⟨_, _, c, l, e1, e2, _⟩ | ⟨k, e1⟩
  · rw [e1, hq] at e; injection e with e _; cases e
  · rw [e1, hq] at e; injection e with e _; exact absurd (by rw [← e]; rfl) e2
  · rw [e1, quote_rest] at e
    obtain ⟨g1, g2, g3⟩ := h6 (bl y.s) rest e
    exact ⟨g1, by rw [g2, ← val_eq2 hv k], g3⟩
theorem read_null (b : Nat) (s : ByteArray) (w : World) (h : Rd w b s) (h0 : 0 < s.size) (h126 : s[0].toNat = 126) : Calls Tryd.prog 86 #[.pointer (some ⟨b, 0, none⟩)] w (RPost b s w) := by
  have hq : bl s = 126 :: bl (s.extract 1 s.size) := by
    rw [bl_tail]
    have := bl_get s 0 h0
    rw [show s[0] = 126 from UInt8.toNat_inj.1 h126] at this
    exact this
  refine (readNull_any b s w h h0).mono fun e W' ⟨h1, h2, h3⟩ => ⟨true, _, _, h1, h2, h3, by rw [ByteArray.size_extract]; omega, ⟨by unfold inI64; simp, by unfold inI64; simp, by show 0 ≤ 100000; omega⟩, Lib.hid fun y rest hv e hr => ?_⟩
  rcases val_first hv with ⟨k, e1⟩ | ⟨_, _, c, l, e1, _, e2⟩ | ⟨k, e1⟩
  · rw [e1, hq] at e; injection e with _ e
    exact ⟨rfl, (val_eq0 hv k).symm, e⟩
  · rw [e1, hq] at e; injection e with e _; exact absurd (by rw [← e]; rfl) e2
  · rw [e1, hq, quote_rest] at e; injection e with e _; cases e
theorem read_number (b : Nat) (s : ByteArray) (w : World) (h : Rd w b s) (hs : s.size ≤ 100000) (hf : ∀ h0 : 0 < s.size, s[0].toNat ≠ 34 ∧ s[0].toNat ≠ 126) (he : Tryd.Errs w) : Calls Tryd.prog 84 #[.pointer (some ⟨b, 0, none⟩)] w (RPost b s w) := by
  refine (readNumber_any b s w h hs he).mono fun e W' ⟨ok, x, s', h1, h2, h3, h4, h5, h6⟩ => ⟨ok, x, s', h1, h2, h3, h4, h5, Lib.hid fun y rest hv e hr => ?_⟩
  have hfst : ∀ c l, bl s = c :: l → c.toNat ≠ 34 ∧ c.toNat ≠ 126 := fun c l e => by
    have h0 : 0 < s.size := by rw [← bl_len, e]; simp
    have := bl_get s 0 h0
    rw [List.drop_zero, e] at this
    injection this with e1 _
    rw [e1]; exact hf h0
  rcases val_first hv with ⟨k, e1⟩ | ⟨k, e1, _⟩ | ⟨k, e1⟩
  · rw [e1] at e; exact absurd rfl (hfst _ _ e).2
  · obtain ⟨g1, g2⟩ := val_eq1 hv k
    rw [e1] at e
    obtain ⟨f1, f2, f3⟩ := h6 y.n rest g2 e hr
    exact ⟨f1, by rw [f2, ← g1], f3⟩
  · rw [e1, quote_rest] at e; exact absurd rfl (hfst _ _ e).1

/-- The text of a row. -/
def IsRow (r : List Val) (t : ByteArray) : Prop := validRow r = true ∧ bl t = rowText r
theorem IsRow.all {r : List Val} {t : ByteArray} (h : IsRow r t) : r.length ≤ 8 ∧ ∀ x ∈ r, validVal x = true := by
  have h := h.1
  unfold validRow at h
  simpa using h
def PCond (t : ByteArray) (outs : List Val) (s : ByteArray) : Prop := ∀ r, IsRow r t → ∃ k, k < r.length ∧ outs = r.take k ∧ bl s = leftText (r.drop k)
def PMid (t : ByteArray) (outs : List Val) (s : ByteArray) : Prop := ∀ r, IsRow r t → ∃ k, k < r.length ∧ outs = r.take (k + 1) ∧ ((k + 1 = r.length ∧ bl s = []) ∨ (k + 1 < r.length ∧ bl s = 44 :: leftText (r.drop (k + 1))))
def PEnd (t : ByteArray) (outs : List Val) : Prop := ∀ r, IsRow r t → outs = r
theorem PCond.start {t : ByteArray} (h : t.size ≠ 0) : PCond t [] t := fun r hr => by
  have e := hr.2
  rw [left_row hr.1] at e
  refine ⟨0, ?_, rfl, e⟩
  cases r with
  | nil => rw [← bl_len, e] at h; exact absurd rfl h
  | cons x l => simp
theorem PCond.read {t s s' : ByteArray} {outs : List Val} {ok : Bool} {x : Val} (h : PCond t outs s) (hr : ∀ y rest, validVal y = true → bl s = valText y ++ rest → Ends rest → ok = true ∧ x = y ∧ bl s' = rest) : (∀ r, IsRow r t → ok = true ∧ outs.length < 8) ∧ PMid t (outs ++ [x]) s' := by
  have key : ∀ r, IsRow r t → ∃ k, ∃ hk : k < r.length, outs = r.take k ∧ ok = true ∧ x = r[k] ∧ ((k + 1 = r.length ∧ bl s' = []) ∨ (k + 1 < r.length ∧ bl s' = 44 :: leftText (r.drop (k + 1)))) := fun r hrow => by
    obtain ⟨k, hk, ho, hs⟩ := h r hrow
    have hv := hrow.all.2 _ (List.getElem_mem hk)
    rw [List.drop_eq_getElem_cons hk] at hs
    by_cases hl : k + 1 = r.length
    · have e0 : r.drop (k + 1) = [] := List.drop_eq_nil_of_le (by omega)
      rw [e0, left_one] at hs
      obtain ⟨a, b, c⟩ := hr r[k] [] hv (by rw [hs, List.append_nil]) (.inl rfl)
      exact ⟨k, hk, ho, a, b, .inl ⟨hl, c⟩⟩
    · have hk1 : k + 1 < r.length := by omega
      have e1 := List.drop_eq_getElem_cons hk1
      rw [e1, left_more, ← e1] at hs
      obtain ⟨a, b, c⟩ := hr r[k] _ hv hs (.inr ⟨_, rfl⟩)
      exact ⟨k, hk, ho, a, b, .inr ⟨hk1, c⟩⟩
  refine ⟨fun r hrow => ?_, fun r hrow => ?_⟩
  · obtain ⟨k, hk, ho, a, _⟩ := key r hrow
    have := hrow.all.1
    exact ⟨a, by rw [ho, List.length_take]; omega⟩
  · obtain ⟨k, hk, ho, _, b, c⟩ := key r hrow
    exact ⟨k, hk, by rw [ho, b, List.take_succ_eq_append_getElem hk], c⟩
theorem PMid.done {t s : ByteArray} {outs : List Val} (h : PMid t outs s) (hs : s.size = 0) : PEnd t outs := fun r hr => by
  obtain ⟨k, hk, ho, ⟨h1, _⟩ | ⟨_, h2⟩⟩ := h r hr
  · rw [ho, h1, List.take_length]
  · have : (bl s).length = 0 := hs
    rw [h2] at this; simp at this
theorem PMid.next {t s : ByteArray} {outs : List Val} (h : PMid t outs s) (h0 : 0 < s.size) : (s[0].toNat = 44 → PCond t outs (s.extract 1 s.size)) ∧ (s[0].toNat ≠ 44 → ∀ r, ¬ IsRow r t) := by
  have hb := bl_get s 0 h0
  rw [List.drop_zero] at hb
  refine ⟨fun _ r hr => ?_, fun hne r hr => ?_⟩
  · obtain ⟨k, hk, ho, ⟨h1, h2⟩ | ⟨h1, h2⟩⟩ := h r hr
    · rw [h2] at hb; cases hb
    · rw [h2] at hb; injection hb with _ hb
      exact ⟨k + 1, h1, ho, by rw [bl_tail, h2]; rfl⟩
  · obtain ⟨k, hk, ho, ⟨h1, h2⟩ | ⟨h1, h2⟩⟩ := h r hr
    · rw [h2] at hb; cases hb
    · rw [h2] at hb; injection hb with hb _
      exact hne (by rw [← hb]; rfl)
theorem PEnd.ends {t : ByteArray} {outs : List Val} (h : PEnd t outs) (h0 : t.size ≠ 0) : (rowText outs = bl t → IsRow outs t ∧ ∀ r, IsRow r t → r = outs) ∧ (rowText outs ≠ bl t → ∀ r, ¬ IsRow r t) := by
  refine ⟨fun e => ⟨⟨?_, e.symm⟩, fun r hr => (h r hr).symm⟩, fun hne r hr => hne (by rw [h r hr]; exact hr.2.symm)⟩
  cases hv : validRow outs with
  | true => rfl
  | false =>
    have : rowText outs = [] := by unfold rowText; rw [hv]; rfl
    rw [this] at e
    exact absurd (by rw [← bl_len, ← e]; rfl) h0
theorem row_empty {r : List Val} {t : ByteArray} (h : IsRow r t) (h0 : bl t = []) : r = [] := by
  have e := h.2
  rw [left_row h.1, h0] at e
  cases r with
  | nil => rfl
  | cons x l =>
    have hv := h.all.2 x List.mem_cons_self
    have hne : valText x ≠ [] := by
      rcases val_first hv with ⟨_, e1⟩ | ⟨_, _, c, l', e1, _⟩ | ⟨_, e1⟩ <;> rw [e1] <;> simp [quoteList]
    cases l with
    | nil => rw [left_one] at e; exact absurd e.symm hne
    | cons y l => rw [left_more] at e; simp at e
def ParseOut (t : ByteArray) (w : World) (e : Ending) (W' : World) : Prop :=
  Below w.heap.size w W' ∧ ((65536 < t.size ∧ e = .returned (.tuple #[.slice none 0 0, .int .i64 3])) ∨ (t.size ≤ 65536 ∧ (∀ r, ¬ IsRow r t) ∧ e = .returned (.tuple #[.slice none 0 0, .int .i64 2])) ∨
    (t.size ≤ 65536 ∧ ∃ r v, (IsRow r t ∧ ∀ r', IsRow r' t → r' = r) ∧ e = .returned (.tuple #[v, .int .i64 0]) ∧ tRow.rv ((mem W').on (w.heap.size ≤ ·)) [v] r))
theorem infoVal : (Tryd.prog.info? 30).map (fun i => (i.zero, i.size, i.bytes)) = some (some (.agg #[.int .i64 0, .int .i64 0, .string ⟨#[]⟩]), tVal.sz, 32) := by kernel_rfl
end Go.Proofs.YtkldimaoafgolaaDoor
/- row.Parse, walked. -/
namespace Go.Proofs.YtkldimaoafgolaaDoor
open Go.RowKit

theorem val_cells {w : World} {x : Val} : At (mem (w.alloc (.cells #[.int .i64 x.kind, .int .i64 x.n, .string x.s] 30))) w.heap.size 0 [.int .i64 x.kind, .int .i64 x.n, .string x.s] := fun j u hj => by
  have h := heap_alloc_new w (.cells #[.int .i64 x.kind, .int .i64 x.n, .string x.s] 30)
  match j, hj with
  | 0, hj => simp at hj; subst hj; exact mem_cells h 0
  | 1, hj => simp at hj; subst hj; exact mem_cells h 1
  | 2, hj => simp at hj; subst hj; exact mem_cells h 2
theorem rowText_nil : rowText [] = [] := rfl
def PCond2 (t : ByteArray) (outs : List Val) (s : ByteArray) : Prop := (t.size = 0 → outs = []) ∧ (t.size ≠ 0 → PCond t outs s)
theorem PCond2.start (t : ByteArray) : PCond2 t [] t := ⟨fun _ => rfl, fun h => PCond.start h⟩
set_option maxRecDepth 100000 in
set_option maxHeartbeats 8000000 in
theorem rowParse_any (t : ByteArray) (w : World) (hs : t.size ≤ 200000) (ht : Tryd.Tab w) (he : Tryd.Errs w) :
    Calls Tryd.prog 48 #[.string t] w (ParseOut t w) := by
  go_enter Tryd.func48, Tryd.ntmps48
  by_cases h64 : 65536 < t.size
  · have h64i : (65536 : Int) < (t.size : Int) := by omega
    go_wp2
    go_ret2
    exact ⟨Below.refl _ _, .inl ⟨h64, rfl⟩⟩
  have h64i : (t.size : Int) ≤ 65536 := by omega
  have H64 := Lib.hid h64
  clear h64
  go_upto_region 5 with fail
  clear h64i
  have HB0 := Lib.hid ((Below.refl w.heap.size w).alloc (Nat.le_refl _) (.cells #[.string t] 99))
  have HR0 := Lib.hid (show Rd (w.alloc (.cells #[.string t] 99)) w.heap.size t from heap_alloc_new w _)
  have HT := Lib.hid ht
  have HE := Lib.hid he
  clear ht he
  generalize w.alloc (.cells #[.string t] 99) = Y at HB0 HR0 ⊢
  go_loopg [4] (t.size + 1) (fun g ov wr => ∃ outs sl, Owns tVal wr (w.heap.size + 1) 30 ov outs ∧ Hid (Rd wr w.heap.size sl) ∧ Hid (Below w.heap.size w wr) ∧ Hid (PCond2 t outs sl) ∧ sl.size ≤ g ∧ sl.size ≤ t.size ∧ outs.length ≤ 8)
  case atStart => exact ⟨[], t, Owns.nil _ _ _ _, HR0, HB0, Lib.hid (PCond2.start t), by omega, Nat.le_refl _, by simp⟩
  case round =>
    clear HR0 HB0
    obtain ⟨outs, sl, hown, HRD, HB, HPC, hg, hlt, hlen⟩ := hrel
    by_cases hz : t.size = 0
    · have hsl : t = ⟨#[]⟩ := bl_inj (List.length_eq_zero_iff.1 hz)
      have hem : t.toList.isEmpty = true := by
        rw [← decide_eq_emptyBytes]
        exact decide_eq_true (by rw [hsl]; rfl)
      obtain rfl : outs = [] := HPC.out.1 hz
      obtain ⟨ao, co, rfl, _⟩ := hown.len
      have HE0 := Lib.hid (show (rowText [] = bl t → IsRow [] t ∧ ∀ r, IsRow r t → r = []) ∧ (rowText [] ≠ bl t → ∀ r, ¬ IsRow r t) from ⟨fun _ => ⟨⟨rfl, by rw [hsl]; rfl⟩, fun r hr => row_empty hr (by rw [hsl]; rfl)⟩, fun h => absurd (by rw [hsl]; rfl) h⟩)
      clear hsl
      have HX := Lib.hid (rowText_any [] _ _ hown.rv' (Tryd.tabStays HT.out HB.out))
      go_wp2_with fail
      refine HX.out.mono ?_
      rintro e w8 ⟨rfl, hb8⟩
      have HB8 := Lib.hid (pure_trans HB.out hb8)
      have HO8 := Lib.hid (hown.keeps hb8)
      clear hb8 HX
      by_cases heq : rowText [] = bl t
      · have HR := Lib.hid ((HE0.out).1 heq)
        rw [show (⟨(rowText []).toArray⟩ : ByteArray) = t from bl_inj heq]
        clear heq
        go_wp2
        go_ret2
        exact ⟨HB8.out, .inr (.inr ⟨by have := H64.out; omega, _, _, HR.out, rfl, HO8.out.rv (S := fun b => w.heap.size ≤ b) (fun b hb => by omega) (fun _ _ _ h => h)⟩)⟩
      · have HR := Lib.hid ((HE0.out).2 heq)
        have hne : (rowText [] == t.toList) = false := by
          rw [Lib.toList_data]
          exact beq_eq_false_iff_ne.2 heq
        clear heq
        go_wp2
        go_ret2
        exact ⟨HB8.out, .inr (.inl ⟨by have := H64.out; omega, HR.out, rfl⟩)⟩
    have hemt : t.toList.isEmpty = false := by
      rw [← decide_eq_emptyBytes]
      exact decide_eq_false (fun h => hz (by rw [h]; rfl))
    have HPC := Lib.hid (HPC.out.2 hz)
    have hsl100 : sl.size ≤ 100000 := by have := H64.out; omega
    have HEW := Lib.hid (Tryd.errsStay HE.out HB.out)
    have c0 : wr.cell? ⟨w.heap.size, 0, none⟩ = some (.string sl) := mem_cells HRD.out 0
    by_cases hz2 : sl.size = 0
    · have hem2 : sl.toList.isEmpty = true := by
        rw [← decide_eq_emptyBytes]
        exact decide_eq_true (by rw [show sl = ⟨#[]⟩ from bl_inj (List.length_eq_zero_iff.1 hz2)]; rfl)
      have HRN := Lib.hid (read_number w.heap.size sl wr HRD.out hsl100 (fun h0 => by omega) HEW.out)
      clear HEW
      go_wp2_with fail
      refine HRN.out.mono ?_
      rintro e w2 ⟨ok, x, s', rfl, hrd, hk, hsz, ⟨hx1, hx2, hx3⟩, hcond⟩
      have own2 := hown.keepsFlat tVal_flat hk (fun k e => by have := (hown.lt k e).1; omega)
      have hlt2 := lt_of_block hrd
      have hb2 : Below w.heap.size wr w2 := hk.below (by have := HB.out.size; omega) (fun k e => by omega)
      have HB3 := Lib.hid ((HB.out.trans hb2).alloc (by omega) (.cells #[.int .i64 x.kind, .int .i64 x.n, .string x.s] 30))
      have hrd3 : Rd (w2.alloc (.cells #[.int .i64 x.kind, .int .i64 x.n, .string x.s] 30)) w.heap.size s' := (((Below.refl w2.heap.size w2).alloc (Nat.le_refl _) _).block w.heap.size hlt2).trans hrd
      have HRD3 := Lib.hid hrd3
      have HV3 := Lib.hid (show At (mem (w2.alloc (.cells #[.int .i64 x.kind, .int .i64 x.n, .string x.s] 30))) w2.heap.size 0 [.int .i64 x.kind, .int .i64 x.n, .string x.s] from val_cells)
      have HXI := Lib.hid (And.intro hx1 (And.intro hx2 hx3))
      have own3 := own2.alloc (.cells #[.int .i64 x.kind, .int .i64 x.n, .string x.s] 30)
      have HS3 := Lib.hid (show w.heap.size + 1 ≤ (w2.alloc (.cells #[.int .i64 x.kind, .int .i64 x.n, .string x.s] 30)).heap.size from by rw [World.size_alloc]; omega)
      obtain ⟨hall, hmid⟩ := HPC.out.read hcond.out
      have HALL := Lib.hid hall
      have HMID := Lib.hid hmid
      obtain ⟨ao, co, rfl, hml⟩ := hown.len
      clear hall hmid hcond hrd hk hown own2 hrd3 hb2 HB HRD HPC hx1 hx2 hx3 HRN
      cases ok with
      | false =>
        have HNC := Lib.hid (show ∀ r, ¬ IsRow r t from fun r hr => by have := (HALL.out r hr).1; cases this)
        go_wp2
        try rw [Exit.noGoto_ret]
        go_ret2
        exact ⟨HB3.out, .inr (.inl ⟨by have := H64.out; omega, HNC.out, rfl⟩)⟩
      | true =>
      by_cases h8 : outs.length = 8
      · have h8f : ((outs.length : Int) == 8) = true := by simp; omega
        have HNC := Lib.hid (show ∀ r, ¬ IsRow r t from fun r hr => by have := (HALL.out r hr).2; omega)
        go_wp2
        try rw [Exit.noGoto_ret]
        go_ret2
        exact ⟨HB3.out, .inr (.inl ⟨by have := H64.out; omega, HNC.out, rfl⟩)⟩
      have h8f : ((outs.length : Int) == 8) = false := by simp; omega
      go_upto_region 14 with fail
      generalize hX3 : w2.alloc (.cells #[.int .i64 x.kind, .int .i64 x.n, .string x.s] 30) = w3 at HB3 HRD3 HV3 own3 HS3 ⊢
      clear hX3
      generalize w2.heap.size = xb at HV3 ⊢
      have x0 : w3.cell? ⟨xb, 0, none⟩ = some (.int .i64 x.kind) := HV3.out 0 _ rfl
      have x1 : w3.cell? ⟨xb, 1, none⟩ = some (.int .i64 x.n) := HV3.out 1 _ rfl
      have x2 : w3.cell? ⟨xb, 2, none⟩ = some (.string x.s) := HV3.out 2 _ rfl
      go_wp2_with (at_builtin; refine wpList_append_one rfl _ _ 25 rfl tVal Tryd.underlying25 infoVal rfl (by decide) (w.heap.size + 1) _ outs rfl (own3.alloc _) _ _ x rfl _ val_cells ⟨rfl, HXI.out.1, HXI.out.2.1, (by have := HXI.out.2.2; unfold maxLen; omega)⟩ ?c1 ?c2 ?c3 ?c4 ?_)
      case c1 => intro u hu; simp at hu; rcases hu with rfl | rfl | rfl <;> rfl
      case c2 => unfold maxLen; omega
      case c3 => omega
      case c4 => have := HS3.out; simp; omega
      intro v' w5 own5 hgrow _
      obtain ⟨a5, cq5, rfl, _⟩ := own5.len
      have HB5 := Lib.hid ((HB3.out.alloc (by have := HS3.out; omega) _).grown hgrow (by have := HS3.out; simp; omega) (fun k hk => by have := (own3.lt k hk).1; omega))
      have HRD5 := Lib.hid (show Rd w5 w.heap.size s' from (hgrow.block w.heap.size (by have := HS3.out; simp; omega) (fun e => by have := (own3.lt w.heap.size e.symm).1; omega)).trans ((((Below.refl w3.heap.size w3).alloc (Nat.le_refl _) _).block w.heap.size (by have := HS3.out; omega)).trans HRD3.out))
      have HS5 := Lib.hid (show w.heap.size + 1 ≤ w5.heap.size from lt_of_block HRD5.out)
      clear own3 hgrow HV3 HRD3 HS3 HB3 HXI x0 x1 x2 HALL
      have c5 : w5.cell? ⟨w.heap.size, 0, none⟩ = some (.string s') := mem_cells HRD5.out 0
      by_cases hz5 : s'.size = 0
      · have hsl5 : s' = ⟨#[]⟩ := bl_inj (List.length_eq_zero_iff.1 hz5)
        have hem5 : s'.toList.isEmpty = true := by
          rw [← decide_eq_emptyBytes]
          exact decide_eq_true (by rw [hsl5]; rfl)
        have HPE := Lib.hid ((HMID.out.done hz5).ends hz)
        generalize outs ++ [x] = outs5 at own5 HPE ⊢
        clear HMID hsl5
        have HX := Lib.hid (rowText_any outs5 _ _ own5.rv' (Tryd.tabStays HT.out HB5.out))
        go_wp2_with fail
        refine HX.out.mono ?_
        rintro e w8 ⟨rfl, hb8⟩
        have HB8 := Lib.hid (pure_trans HB5.out hb8)
        have HO8 := Lib.hid (own5.keeps hb8)
        clear hb8 HX
        by_cases heq : rowText outs5 = bl t
        · have HR := Lib.hid ((HPE.out).1 heq)
          rw [show (⟨(rowText outs5).toArray⟩ : ByteArray) = t from bl_inj heq]
          clear heq
          go_wp2
          go_ret2
          exact ⟨HB8.out, .inr (.inr ⟨by have := H64.out; omega, _, _, HR.out, rfl, HO8.out.rv (S := fun b => w.heap.size ≤ b) (fun b hb => by omega) (fun _ _ _ h => h)⟩)⟩
        · have HR := Lib.hid ((HPE.out).2 heq)
          have hne : (rowText outs5 == t.toList) = false := by
            rw [Lib.toList_data]
            exact beq_eq_false_iff_ne.2 heq
          clear heq
          go_wp2
          go_ret2
          exact ⟨HB8.out, .inr (.inl ⟨by have := H64.out; omega, HR.out, rfl⟩)⟩
      exfalso; omega
    have hpos2 : (0 : Int) < (sl.size : Int) := by omega
    have hem2 : sl.toList.isEmpty = false := by
      rw [← decide_eq_emptyBytes]
      exact decide_eq_false (fun h => hz2 (by rw [h]; rfl))
    by_cases h34 : sl[0].toNat = 34
    · have h34f : ((sl[0].toNat : Int) == 34) = true := by simp; omega
      have HRN := Lib.hid (read_text w.heap.size sl wr HRD.out hsl100 (by omega) h34 HEW.out)
      clear HEW
      go_wp2_with fail
      refine HRN.out.mono ?_
      rintro e w2 ⟨ok, x, s', rfl, hrd, hk, hsz, ⟨hx1, hx2, hx3⟩, hcond⟩
      have own2 := hown.keepsFlat tVal_flat hk (fun k e => by have := (hown.lt k e).1; omega)
      have hlt2 := lt_of_block hrd
      have hb2 : Below w.heap.size wr w2 := hk.below (by have := HB.out.size; omega) (fun k e => by omega)
      have HB3 := Lib.hid ((HB.out.trans hb2).alloc (by omega) (.cells #[.int .i64 x.kind, .int .i64 x.n, .string x.s] 30))
      have hrd3 : Rd (w2.alloc (.cells #[.int .i64 x.kind, .int .i64 x.n, .string x.s] 30)) w.heap.size s' := (((Below.refl w2.heap.size w2).alloc (Nat.le_refl _) _).block w.heap.size hlt2).trans hrd
      have HRD3 := Lib.hid hrd3
      have HV3 := Lib.hid (show At (mem (w2.alloc (.cells #[.int .i64 x.kind, .int .i64 x.n, .string x.s] 30))) w2.heap.size 0 [.int .i64 x.kind, .int .i64 x.n, .string x.s] from val_cells)
      have HXI := Lib.hid (And.intro hx1 (And.intro hx2 hx3))
      have own3 := own2.alloc (.cells #[.int .i64 x.kind, .int .i64 x.n, .string x.s] 30)
      have HS3 := Lib.hid (show w.heap.size + 1 ≤ (w2.alloc (.cells #[.int .i64 x.kind, .int .i64 x.n, .string x.s] 30)).heap.size from by rw [World.size_alloc]; omega)
      obtain ⟨hall, hmid⟩ := HPC.out.read hcond.out
      have HALL := Lib.hid hall
      have HMID := Lib.hid hmid
      obtain ⟨ao, co, rfl, hml⟩ := hown.len
      clear hall hmid hcond hrd hk hown own2 hrd3 hb2 HB HRD HPC hx1 hx2 hx3 HRN
      cases ok with
      | false =>
        have HNC := Lib.hid (show ∀ r, ¬ IsRow r t from fun r hr => by have := (HALL.out r hr).1; cases this)
        go_wp2
        try rw [Exit.noGoto_ret]
        go_ret2
        exact ⟨HB3.out, .inr (.inl ⟨by have := H64.out; omega, HNC.out, rfl⟩)⟩
      | true =>
      by_cases h8 : outs.length = 8
      · have h8f : ((outs.length : Int) == 8) = true := by simp; omega
        have HNC := Lib.hid (show ∀ r, ¬ IsRow r t from fun r hr => by have := (HALL.out r hr).2; omega)
        go_wp2
        try rw [Exit.noGoto_ret]
        go_ret2
        exact ⟨HB3.out, .inr (.inl ⟨by have := H64.out; omega, HNC.out, rfl⟩)⟩
      have h8f : ((outs.length : Int) == 8) = false := by simp; omega
      go_upto_region 14 with fail
      generalize hX3 : w2.alloc (.cells #[.int .i64 x.kind, .int .i64 x.n, .string x.s] 30) = w3 at HB3 HRD3 HV3 own3 HS3 ⊢
      clear hX3
      generalize w2.heap.size = xb at HV3 ⊢
      have x0 : w3.cell? ⟨xb, 0, none⟩ = some (.int .i64 x.kind) := HV3.out 0 _ rfl
      have x1 : w3.cell? ⟨xb, 1, none⟩ = some (.int .i64 x.n) := HV3.out 1 _ rfl
      have x2 : w3.cell? ⟨xb, 2, none⟩ = some (.string x.s) := HV3.out 2 _ rfl
      go_wp2_with (at_builtin; refine wpList_append_one rfl _ _ 25 rfl tVal Tryd.underlying25 infoVal rfl (by decide) (w.heap.size + 1) _ outs rfl (own3.alloc _) _ _ x rfl _ val_cells ⟨rfl, HXI.out.1, HXI.out.2.1, (by have := HXI.out.2.2; unfold maxLen; omega)⟩ ?c1 ?c2 ?c3 ?c4 ?_)
      case c1 => intro u hu; simp at hu; rcases hu with rfl | rfl | rfl <;> rfl
      case c2 => unfold maxLen; omega
      case c3 => omega
      case c4 => have := HS3.out; simp; omega
      intro v' w5 own5 hgrow _
      obtain ⟨a5, cq5, rfl, _⟩ := own5.len
      have HB5 := Lib.hid ((HB3.out.alloc (by have := HS3.out; omega) _).grown hgrow (by have := HS3.out; simp; omega) (fun k hk => by have := (own3.lt k hk).1; omega))
      have HRD5 := Lib.hid (show Rd w5 w.heap.size s' from (hgrow.block w.heap.size (by have := HS3.out; simp; omega) (fun e => by have := (own3.lt w.heap.size e.symm).1; omega)).trans ((((Below.refl w3.heap.size w3).alloc (Nat.le_refl _) _).block w.heap.size (by have := HS3.out; omega)).trans HRD3.out))
      have HS5 := Lib.hid (show w.heap.size + 1 ≤ w5.heap.size from lt_of_block HRD5.out)
      clear own3 hgrow HV3 HRD3 HS3 HB3 HXI x0 x1 x2 HALL
      have c5 : w5.cell? ⟨w.heap.size, 0, none⟩ = some (.string s') := mem_cells HRD5.out 0
      by_cases hz5 : s'.size = 0
      · have hsl5 : s' = ⟨#[]⟩ := bl_inj (List.length_eq_zero_iff.1 hz5)
        have hem5 : s'.toList.isEmpty = true := by
          rw [← decide_eq_emptyBytes]
          exact decide_eq_true (by rw [hsl5]; rfl)
        have HPE := Lib.hid ((HMID.out.done hz5).ends hz)
        generalize outs ++ [x] = outs5 at own5 HPE ⊢
        clear HMID hsl5
        have HX := Lib.hid (rowText_any outs5 _ _ own5.rv' (Tryd.tabStays HT.out HB5.out))
        go_wp2_with fail
        refine HX.out.mono ?_
        rintro e w8 ⟨rfl, hb8⟩
        have HB8 := Lib.hid (pure_trans HB5.out hb8)
        have HO8 := Lib.hid (own5.keeps hb8)
        clear hb8 HX
        by_cases heq : rowText outs5 = bl t
        · have HR := Lib.hid ((HPE.out).1 heq)
          rw [show (⟨(rowText outs5).toArray⟩ : ByteArray) = t from bl_inj heq]
          clear heq
          go_wp2
          go_ret2
          exact ⟨HB8.out, .inr (.inr ⟨by have := H64.out; omega, _, _, HR.out, rfl, HO8.out.rv (S := fun b => w.heap.size ≤ b) (fun b hb => by omega) (fun _ _ _ h => h)⟩)⟩
        · have HR := Lib.hid ((HPE.out).2 heq)
          have hne : (rowText outs5 == t.toList) = false := by
            rw [Lib.toList_data]
            exact beq_eq_false_iff_ne.2 heq
          clear heq
          go_wp2
          go_ret2
          exact ⟨HB8.out, .inr (.inl ⟨by have := H64.out; omega, HR.out, rfl⟩)⟩
      have hpos5 : (0 : Int) < (s'.size : Int) := by omega
      have hem5 : s'.toList.isEmpty = false := by
        rw [← decide_eq_emptyBytes]
        exact decide_eq_false (fun h => hz5 (by rw [h]; rfl))
      have hle5 : (1 : Int) ≤ (s'.size : Int) := by omega
      obtain ⟨hn1, hn2⟩ := HMID.out.next (by omega)
      by_cases h44 : s'[0].toNat = 44
      · have h44f : ((s'[0].toNat : Int) != 44) = false := by simp; omega
        have HPN := Lib.hid (hn1 h44)
        have f5 : ∀ o, w5.frozen? ⟨w.heap.size, o, none⟩ = false := frozen_cells HRD5.out
        have HRD6 := Lib.hid (show Rd (w5.setCell ⟨w.heap.size, 0, none⟩ (.string (s'.extract 1 s'.size))) w.heap.size (s'.extract 1 s'.size) from setC_block HRD5.out)
        have hk6 : Keeps (fun k => k = w.heap.size) w5 (w5.setCell ⟨w.heap.size, 0, none⟩ (.string (s'.extract 1 s'.size))) := keepC (F := fun k => k = w.heap.size) (Keeps.refl _ w5) rfl 0 _
        have own6 := own5.keepsFlat tVal_flat hk6 (fun k e => by have := (own5.lt k e).1; omega)
        have HB6 := Lib.hid (HB5.out.trans (hk6.below (by have := HS5.out; omega) (fun k e => by omega)))
        have hl6 : (outs ++ [x]).length ≤ 8 := by simp; omega
        have hsz6 : (s'.extract 1 s'.size).size + 1 = s'.size := by rw [ByteArray.size_extract]; omega
        generalize outs ++ [x] = outs5 at own6 HPN hl6 ⊢
        clear own5 hk6 hn1 hn2 HMID HRD5 HB5
        cases gk with
        | zero => omega
        | succ g2 =>
        go_wp2
        generalize w5.setCell ⟨w.heap.size, 0, none⟩ (.string (s'.extract 1 s'.size)) = w6 at HRD6 own6 HB6 ⊢
        go_roundg g2
        case measure => omega
        case rel => exact ⟨outs5, s'.extract 1 s'.size, own6, HRD6, HB6, Lib.hid ⟨fun h => absurd h hz, fun _ => HPN.out⟩, by omega, by omega, hl6⟩
      · have h44f : ((s'[0].toNat : Int) != 44) = true := by simp; omega
        have HNC := Lib.hid (hn2 h44)
        have HB3 := HB5
        clear hn1 hn2
        go_wp2
        try rw [Exit.noGoto_ret]
        go_ret2
        exact ⟨HB3.out, .inr (.inl ⟨by have := H64.out; omega, HNC.out, rfl⟩)⟩
    have h34f : ((sl[0].toNat : Int) == 34) = false := by simp; omega
    by_cases h126 : sl[0].toNat = 126
    · have h126f : ((sl[0].toNat : Int) == 126) = true := by simp; omega
      have HRN := Lib.hid (read_null w.heap.size sl wr HRD.out (by omega) h126)
      clear HEW
      go_wp2_with fail
      refine HRN.out.mono ?_
      rintro e w2 ⟨ok, x, s', rfl, hrd, hk, hsz, ⟨hx1, hx2, hx3⟩, hcond⟩
      have own2 := hown.keepsFlat tVal_flat hk (fun k e => by have := (hown.lt k e).1; omega)
      have hlt2 := lt_of_block hrd
      have hb2 : Below w.heap.size wr w2 := hk.below (by have := HB.out.size; omega) (fun k e => by omega)
      have HB3 := Lib.hid ((HB.out.trans hb2).alloc (by omega) (.cells #[.int .i64 x.kind, .int .i64 x.n, .string x.s] 30))
      have hrd3 : Rd (w2.alloc (.cells #[.int .i64 x.kind, .int .i64 x.n, .string x.s] 30)) w.heap.size s' := (((Below.refl w2.heap.size w2).alloc (Nat.le_refl _) _).block w.heap.size hlt2).trans hrd
      have HRD3 := Lib.hid hrd3
      have HV3 := Lib.hid (show At (mem (w2.alloc (.cells #[.int .i64 x.kind, .int .i64 x.n, .string x.s] 30))) w2.heap.size 0 [.int .i64 x.kind, .int .i64 x.n, .string x.s] from val_cells)
      have HXI := Lib.hid (And.intro hx1 (And.intro hx2 hx3))
      have own3 := own2.alloc (.cells #[.int .i64 x.kind, .int .i64 x.n, .string x.s] 30)
      have HS3 := Lib.hid (show w.heap.size + 1 ≤ (w2.alloc (.cells #[.int .i64 x.kind, .int .i64 x.n, .string x.s] 30)).heap.size from by rw [World.size_alloc]; omega)
      obtain ⟨hall, hmid⟩ := HPC.out.read hcond.out
      have HALL := Lib.hid hall
      have HMID := Lib.hid hmid
      obtain ⟨ao, co, rfl, hml⟩ := hown.len
      clear hall hmid hcond hrd hk hown own2 hrd3 hb2 HB HRD HPC hx1 hx2 hx3 HRN
      cases ok with
      | false =>
        have HNC := Lib.hid (show ∀ r, ¬ IsRow r t from fun r hr => by have := (HALL.out r hr).1; cases this)
        go_wp2
        try rw [Exit.noGoto_ret]
        go_ret2
        exact ⟨HB3.out, .inr (.inl ⟨by have := H64.out; omega, HNC.out, rfl⟩)⟩
      | true =>
      by_cases h8 : outs.length = 8
      · have h8f : ((outs.length : Int) == 8) = true := by simp; omega
        have HNC := Lib.hid (show ∀ r, ¬ IsRow r t from fun r hr => by have := (HALL.out r hr).2; omega)
        go_wp2
        try rw [Exit.noGoto_ret]
        go_ret2
        exact ⟨HB3.out, .inr (.inl ⟨by have := H64.out; omega, HNC.out, rfl⟩)⟩
      have h8f : ((outs.length : Int) == 8) = false := by simp; omega
      go_upto_region 14 with fail
      generalize hX3 : w2.alloc (.cells #[.int .i64 x.kind, .int .i64 x.n, .string x.s] 30) = w3 at HB3 HRD3 HV3 own3 HS3 ⊢
      clear hX3
      generalize w2.heap.size = xb at HV3 ⊢
      have x0 : w3.cell? ⟨xb, 0, none⟩ = some (.int .i64 x.kind) := HV3.out 0 _ rfl
      have x1 : w3.cell? ⟨xb, 1, none⟩ = some (.int .i64 x.n) := HV3.out 1 _ rfl
      have x2 : w3.cell? ⟨xb, 2, none⟩ = some (.string x.s) := HV3.out 2 _ rfl
      go_wp2_with (at_builtin; refine wpList_append_one rfl _ _ 25 rfl tVal Tryd.underlying25 infoVal rfl (by decide) (w.heap.size + 1) _ outs rfl (own3.alloc _) _ _ x rfl _ val_cells ⟨rfl, HXI.out.1, HXI.out.2.1, (by have := HXI.out.2.2; unfold maxLen; omega)⟩ ?c1 ?c2 ?c3 ?c4 ?_)
      case c1 => intro u hu; simp at hu; rcases hu with rfl | rfl | rfl <;> rfl
      case c2 => unfold maxLen; omega
      case c3 => omega
      case c4 => have := HS3.out; simp; omega
      intro v' w5 own5 hgrow _
      obtain ⟨a5, cq5, rfl, _⟩ := own5.len
      have HB5 := Lib.hid ((HB3.out.alloc (by have := HS3.out; omega) _).grown hgrow (by have := HS3.out; simp; omega) (fun k hk => by have := (own3.lt k hk).1; omega))
      have HRD5 := Lib.hid (show Rd w5 w.heap.size s' from (hgrow.block w.heap.size (by have := HS3.out; simp; omega) (fun e => by have := (own3.lt w.heap.size e.symm).1; omega)).trans ((((Below.refl w3.heap.size w3).alloc (Nat.le_refl _) _).block w.heap.size (by have := HS3.out; omega)).trans HRD3.out))
      have HS5 := Lib.hid (show w.heap.size + 1 ≤ w5.heap.size from lt_of_block HRD5.out)
      clear own3 hgrow HV3 HRD3 HS3 HB3 HXI x0 x1 x2 HALL
      have c5 : w5.cell? ⟨w.heap.size, 0, none⟩ = some (.string s') := mem_cells HRD5.out 0
      by_cases hz5 : s'.size = 0
      · have hsl5 : s' = ⟨#[]⟩ := bl_inj (List.length_eq_zero_iff.1 hz5)
        have hem5 : s'.toList.isEmpty = true := by
          rw [← decide_eq_emptyBytes]
          exact decide_eq_true (by rw [hsl5]; rfl)
        have HPE := Lib.hid ((HMID.out.done hz5).ends hz)
        generalize outs ++ [x] = outs5 at own5 HPE ⊢
        clear HMID hsl5
        have HX := Lib.hid (rowText_any outs5 _ _ own5.rv' (Tryd.tabStays HT.out HB5.out))
        go_wp2_with fail
        refine HX.out.mono ?_
        rintro e w8 ⟨rfl, hb8⟩
        have HB8 := Lib.hid (pure_trans HB5.out hb8)
        have HO8 := Lib.hid (own5.keeps hb8)
        clear hb8 HX
        by_cases heq : rowText outs5 = bl t
        · have HR := Lib.hid ((HPE.out).1 heq)
          rw [show (⟨(rowText outs5).toArray⟩ : ByteArray) = t from bl_inj heq]
          clear heq
          go_wp2
          go_ret2
          exact ⟨HB8.out, .inr (.inr ⟨by have := H64.out; omega, _, _, HR.out, rfl, HO8.out.rv (S := fun b => w.heap.size ≤ b) (fun b hb => by omega) (fun _ _ _ h => h)⟩)⟩
        · have HR := Lib.hid ((HPE.out).2 heq)
          have hne : (rowText outs5 == t.toList) = false := by
            rw [Lib.toList_data]
            exact beq_eq_false_iff_ne.2 heq
          clear heq
          go_wp2
          go_ret2
          exact ⟨HB8.out, .inr (.inl ⟨by have := H64.out; omega, HR.out, rfl⟩)⟩
      have hpos5 : (0 : Int) < (s'.size : Int) := by omega
      have hem5 : s'.toList.isEmpty = false := by
        rw [← decide_eq_emptyBytes]
        exact decide_eq_false (fun h => hz5 (by rw [h]; rfl))
      have hle5 : (1 : Int) ≤ (s'.size : Int) := by omega
      obtain ⟨hn1, hn2⟩ := HMID.out.next (by omega)
      by_cases h44 : s'[0].toNat = 44
      · have h44f : ((s'[0].toNat : Int) != 44) = false := by simp; omega
        have HPN := Lib.hid (hn1 h44)
        have f5 : ∀ o, w5.frozen? ⟨w.heap.size, o, none⟩ = false := frozen_cells HRD5.out
        have HRD6 := Lib.hid (show Rd (w5.setCell ⟨w.heap.size, 0, none⟩ (.string (s'.extract 1 s'.size))) w.heap.size (s'.extract 1 s'.size) from setC_block HRD5.out)
        have hk6 : Keeps (fun k => k = w.heap.size) w5 (w5.setCell ⟨w.heap.size, 0, none⟩ (.string (s'.extract 1 s'.size))) := keepC (F := fun k => k = w.heap.size) (Keeps.refl _ w5) rfl 0 _
        have own6 := own5.keepsFlat tVal_flat hk6 (fun k e => by have := (own5.lt k e).1; omega)
        have HB6 := Lib.hid (HB5.out.trans (hk6.below (by have := HS5.out; omega) (fun k e => by omega)))
        have hl6 : (outs ++ [x]).length ≤ 8 := by simp; omega
        have hsz6 : (s'.extract 1 s'.size).size + 1 = s'.size := by rw [ByteArray.size_extract]; omega
        generalize outs ++ [x] = outs5 at own6 HPN hl6 ⊢
        clear own5 hk6 hn1 hn2 HMID HRD5 HB5
        cases gk with
        | zero => omega
        | succ g2 =>
        go_wp2
        generalize w5.setCell ⟨w.heap.size, 0, none⟩ (.string (s'.extract 1 s'.size)) = w6 at HRD6 own6 HB6 ⊢
        go_roundg g2
        case measure => omega
        case rel => exact ⟨outs5, s'.extract 1 s'.size, own6, HRD6, HB6, Lib.hid ⟨fun h => absurd h hz, fun _ => HPN.out⟩, by omega, by omega, hl6⟩
      · have h44f : ((s'[0].toNat : Int) != 44) = true := by simp; omega
        have HNC := Lib.hid (hn2 h44)
        have HB3 := HB5
        clear hn1 hn2
        go_wp2
        try rw [Exit.noGoto_ret]
        go_ret2
        exact ⟨HB3.out, .inr (.inl ⟨by have := H64.out; omega, HNC.out, rfl⟩)⟩
    · have h126f : ((sl[0].toNat : Int) == 126) = false := by simp; omega
      have HRN := Lib.hid (read_number w.heap.size sl wr HRD.out hsl100 (fun h0 => ⟨h34, h126⟩) HEW.out)
      clear HEW
      go_wp2_with fail
      refine HRN.out.mono ?_
      rintro e w2 ⟨ok, x, s', rfl, hrd, hk, hsz, ⟨hx1, hx2, hx3⟩, hcond⟩
      have own2 := hown.keepsFlat tVal_flat hk (fun k e => by have := (hown.lt k e).1; omega)
      have hlt2 := lt_of_block hrd
      have hb2 : Below w.heap.size wr w2 := hk.below (by have := HB.out.size; omega) (fun k e => by omega)
      have HB3 := Lib.hid ((HB.out.trans hb2).alloc (by omega) (.cells #[.int .i64 x.kind, .int .i64 x.n, .string x.s] 30))
      have hrd3 : Rd (w2.alloc (.cells #[.int .i64 x.kind, .int .i64 x.n, .string x.s] 30)) w.heap.size s' := (((Below.refl w2.heap.size w2).alloc (Nat.le_refl _) _).block w.heap.size hlt2).trans hrd
      have HRD3 := Lib.hid hrd3
      have HV3 := Lib.hid (show At (mem (w2.alloc (.cells #[.int .i64 x.kind, .int .i64 x.n, .string x.s] 30))) w2.heap.size 0 [.int .i64 x.kind, .int .i64 x.n, .string x.s] from val_cells)
      have HXI := Lib.hid (And.intro hx1 (And.intro hx2 hx3))
      have own3 := own2.alloc (.cells #[.int .i64 x.kind, .int .i64 x.n, .string x.s] 30)
      have HS3 := Lib.hid (show w.heap.size + 1 ≤ (w2.alloc (.cells #[.int .i64 x.kind, .int .i64 x.n, .string x.s] 30)).heap.size from by rw [World.size_alloc]; omega)
      obtain ⟨hall, hmid⟩ := HPC.out.read hcond.out
      have HALL := Lib.hid hall
      have HMID := Lib.hid hmid
      obtain ⟨ao, co, rfl, hml⟩ := hown.len
      clear hall hmid hcond hrd hk hown own2 hrd3 hb2 HB HRD HPC hx1 hx2 hx3 HRN
      cases ok with
      | false =>
        have HNC := Lib.hid (show ∀ r, ¬ IsRow r t from fun r hr => by have := (HALL.out r hr).1; cases this)
        go_wp2
        try rw [Exit.noGoto_ret]
        go_ret2
        exact ⟨HB3.out, .inr (.inl ⟨by have := H64.out; omega, HNC.out, rfl⟩)⟩
      | true =>
      by_cases h8 : outs.length = 8
      · have h8f : ((outs.length : Int) == 8) = true := by simp; omega
        have HNC := Lib.hid (show ∀ r, ¬ IsRow r t from fun r hr => by have := (HALL.out r hr).2; omega)
        go_wp2
        try rw [Exit.noGoto_ret]
        go_ret2
        exact ⟨HB3.out, .inr (.inl ⟨by have := H64.out; omega, HNC.out, rfl⟩)⟩
      have h8f : ((outs.length : Int) == 8) = false := by simp; omega
      go_upto_region 14 with fail
      generalize hX3 : w2.alloc (.cells #[.int .i64 x.kind, .int .i64 x.n, .string x.s] 30) = w3 at HB3 HRD3 HV3 own3 HS3 ⊢
      clear hX3
      generalize w2.heap.size = xb at HV3 ⊢
      have x0 : w3.cell? ⟨xb, 0, none⟩ = some (.int .i64 x.kind) := HV3.out 0 _ rfl
      have x1 : w3.cell? ⟨xb, 1, none⟩ = some (.int .i64 x.n) := HV3.out 1 _ rfl
      have x2 : w3.cell? ⟨xb, 2, none⟩ = some (.string x.s) := HV3.out 2 _ rfl
      go_wp2_with (at_builtin; refine wpList_append_one rfl _ _ 25 rfl tVal Tryd.underlying25 infoVal rfl (by decide) (w.heap.size + 1) _ outs rfl (own3.alloc _) _ _ x rfl _ val_cells ⟨rfl, HXI.out.1, HXI.out.2.1, (by have := HXI.out.2.2; unfold maxLen; omega)⟩ ?c1 ?c2 ?c3 ?c4 ?_)
      case c1 => intro u hu; simp at hu; rcases hu with rfl | rfl | rfl <;> rfl
      case c2 => unfold maxLen; omega
      case c3 => omega
      case c4 => have := HS3.out; simp; omega
      intro v' w5 own5 hgrow _
      obtain ⟨a5, cq5, rfl, _⟩ := own5.len
      have HB5 := Lib.hid ((HB3.out.alloc (by have := HS3.out; omega) _).grown hgrow (by have := HS3.out; simp; omega) (fun k hk => by have := (own3.lt k hk).1; omega))
      have HRD5 := Lib.hid (show Rd w5 w.heap.size s' from (hgrow.block w.heap.size (by have := HS3.out; simp; omega) (fun e => by have := (own3.lt w.heap.size e.symm).1; omega)).trans ((((Below.refl w3.heap.size w3).alloc (Nat.le_refl _) _).block w.heap.size (by have := HS3.out; omega)).trans HRD3.out))
      have HS5 := Lib.hid (show w.heap.size + 1 ≤ w5.heap.size from lt_of_block HRD5.out)
      clear own3 hgrow HV3 HRD3 HS3 HB3 HXI x0 x1 x2 HALL
      have c5 : w5.cell? ⟨w.heap.size, 0, none⟩ = some (.string s') := mem_cells HRD5.out 0
      by_cases hz5 : s'.size = 0
      · have hsl5 : s' = ⟨#[]⟩ := bl_inj (List.length_eq_zero_iff.1 hz5)
        have hem5 : s'.toList.isEmpty = true := by
          rw [← decide_eq_emptyBytes]
          exact decide_eq_true (by rw [hsl5]; rfl)
        have HPE := Lib.hid ((HMID.out.done hz5).ends hz)
        generalize outs ++ [x] = outs5 at own5 HPE ⊢
        clear HMID hsl5
        have HX := Lib.hid (rowText_any outs5 _ _ own5.rv' (Tryd.tabStays HT.out HB5.out))
        go_wp2_with fail
        refine HX.out.mono ?_
        rintro e w8 ⟨rfl, hb8⟩
        have HB8 := Lib.hid (pure_trans HB5.out hb8)
        have HO8 := Lib.hid (own5.keeps hb8)
        clear hb8 HX
        by_cases heq : rowText outs5 = bl t
        · have HR := Lib.hid ((HPE.out).1 heq)
          rw [show (⟨(rowText outs5).toArray⟩ : ByteArray) = t from bl_inj heq]
          clear heq
          go_wp2
          go_ret2
          exact ⟨HB8.out, .inr (.inr ⟨by have := H64.out; omega, _, _, HR.out, rfl, HO8.out.rv (S := fun b => w.heap.size ≤ b) (fun b hb => by omega) (fun _ _ _ h => h)⟩)⟩
        · have HR := Lib.hid ((HPE.out).2 heq)
          have hne : (rowText outs5 == t.toList) = false := by
            rw [Lib.toList_data]
            exact beq_eq_false_iff_ne.2 heq
          clear heq
          go_wp2
          go_ret2
          exact ⟨HB8.out, .inr (.inl ⟨by have := H64.out; omega, HR.out, rfl⟩)⟩
      have hpos5 : (0 : Int) < (s'.size : Int) := by omega
      have hem5 : s'.toList.isEmpty = false := by
        rw [← decide_eq_emptyBytes]
        exact decide_eq_false (fun h => hz5 (by rw [h]; rfl))
      have hle5 : (1 : Int) ≤ (s'.size : Int) := by omega
      obtain ⟨hn1, hn2⟩ := HMID.out.next (by omega)
      by_cases h44 : s'[0].toNat = 44
      · have h44f : ((s'[0].toNat : Int) != 44) = false := by simp; omega
        have HPN := Lib.hid (hn1 h44)
        have f5 : ∀ o, w5.frozen? ⟨w.heap.size, o, none⟩ = false := frozen_cells HRD5.out
        have HRD6 := Lib.hid (show Rd (w5.setCell ⟨w.heap.size, 0, none⟩ (.string (s'.extract 1 s'.size))) w.heap.size (s'.extract 1 s'.size) from setC_block HRD5.out)
        have hk6 : Keeps (fun k => k = w.heap.size) w5 (w5.setCell ⟨w.heap.size, 0, none⟩ (.string (s'.extract 1 s'.size))) := keepC (F := fun k => k = w.heap.size) (Keeps.refl _ w5) rfl 0 _
        have own6 := own5.keepsFlat tVal_flat hk6 (fun k e => by have := (own5.lt k e).1; omega)
        have HB6 := Lib.hid (HB5.out.trans (hk6.below (by have := HS5.out; omega) (fun k e => by omega)))
        have hl6 : (outs ++ [x]).length ≤ 8 := by simp; omega
        have hsz6 : (s'.extract 1 s'.size).size + 1 = s'.size := by rw [ByteArray.size_extract]; omega
        generalize outs ++ [x] = outs5 at own6 HPN hl6 ⊢
        clear own5 hk6 hn1 hn2 HMID HRD5 HB5
        cases gk with
        | zero => omega
        | succ g2 =>
        go_wp2
        generalize w5.setCell ⟨w.heap.size, 0, none⟩ (.string (s'.extract 1 s'.size)) = w6 at HRD6 own6 HB6 ⊢
        go_roundg g2
        case measure => omega
        case rel => exact ⟨outs5, s'.extract 1 s'.size, own6, HRD6, HB6, Lib.hid ⟨fun h => absurd h hz, fun _ => HPN.out⟩, by omega, by omega, hl6⟩
      · have h44f : ((s'[0].toNat : Int) != 44) = true := by simp; omega
        have HNC := Lib.hid (hn2 h44)
        have HB3 := HB5
        clear hn1 hn2
        go_wp2
        try rw [Exit.noGoto_ret]
        go_ret2
        exact ⟨HB3.out, .inr (.inl ⟨by have := H64.out; omega, HNC.out, rfl⟩)⟩
end Go.Proofs.YtkldimaoafgolaaDoor
/- The reference's Quoted, TextOf and Text. -/
namespace Go.Proofs.YtkldimaoafgolaaDoor
open Go.RowKit

theorem bl_append (a b : ByteArray) : bl (a ++ b) = bl a ++ bl b := by unfold bl; rw [ByteArray.data_append, Array.toList_append]
theorem bl_one (s : ByteArray) (k : Nat) (hk : k < s.size) : bl (s.extract k (k + 1)) = [s[k]] := by
  rw [bl_extract, show k + 1 - k = 1 by omega, bl_get s k hk]; rfl
theorem hex_one (d : Nat) (h : d < 16) : bl (hexText.extract d (d + 1)) = [hexDigit d] := by
  have : ∀ n : Fin 16, bl (hexText.extract n.val (n.val + 1)) = [hexDigit n.val] := by decide
  exact this ⟨d, h⟩
set_option maxRecDepth 100000 in
set_option maxHeartbeats 4000000 in
theorem refQuoted_any (s : ByteArray) (w : World) (hs : s.size ≤ 1000000) :
    Calls Tryd.prog 102 #[.string s] w fun e w' => e = .returned (.string ⟨(quoteList (bl s)).toArray⟩) ∧ Below w.heap.size w w' := by
  go_enter Tryd.func102, Tryd.ntmps102
  go_wp2
  go_loopw [4, 5] (fun ov i wr => ∃ (k : Nat) (o : ByteArray), k ≤ s.size ∧ i = .int .i64 k ∧ ov = .string o ∧ Hid (bl o = 34 :: ((bl s).take k).flatMap quoteByte) ∧ Below w.heap.size w wr ∧ o.size ≤ 4000001) (fun _ i _ => s.size - (intOf i).toNat)
  case atStart => exact ⟨0, ⟨#[34]⟩, by omega, rfl, rfl, Lib.hid rfl, Below.refl _ _, by show 1 ≤ _; omega⟩
  case round =>
    obtain ⟨k, o, hk, rfl, rfl, HO, hB, hos⟩ := hrel
    by_cases hlt : k < s.size
    · have hbk := bl_one s k hlt
      have hflat : ((bl s).take (k + 1)).flatMap quoteByte = ((bl s).take k).flatMap quoteByte ++ quoteByte s[k] := flat_snoc (l := bl s) (k := k) hlt
      have HZ := Lib.hid (fun (o' : ByteArray) (h : bl o' = 34 :: ((bl s).take (k + 1)).flatMap quoteByte) => show o'.size ≤ 4000001 from by
        have h1 := quoteFlat_length ((bl s).take (k + 1))
        rw [List.length_take, bl_len] at h1
        rw [← bl_len, h, List.length_cons]
        omega)
      have hc2 : s[k].toNat < 256 := UInt8.toNat_lt _
      by_cases h34 : s[k].toNat = 34
      · have HN := Lib.hid (show bl (o ++ ⟨#[92]⟩ ++ s.extract k (k + 1)) = 34 :: ((bl s).take (k + 1)).flatMap quoteByte from by
          rw [bl_append, bl_append, HO.out, hbk, hflat, show quoteByte s[k] = [92, s[k]] by unfold quoteByte; rw [if_pos (.inl h34)]]
          show (34 :: _) ++ [92] ++ [s[k]] = _
          simp)
        clear HO hbk hflat
        go_wp2
        go_roundw
        case rel => exact ⟨k + 1, _, by omega, by go_num, rfl, HN, hB, HZ.out _ HN.out⟩
        case measure => simp [intOf]; omega
      by_cases h92 : s[k].toNat = 92
      · have HN := Lib.hid (show bl (o ++ ⟨#[92]⟩ ++ s.extract k (k + 1)) = 34 :: ((bl s).take (k + 1)).flatMap quoteByte from by
          rw [bl_append, bl_append, HO.out, hbk, hflat, show quoteByte s[k] = [92, s[k]] by unfold quoteByte; rw [if_pos (.inr h92)]]
          show (34 :: _) ++ [92] ++ [s[k]] = _
          simp)
        clear HO hbk hflat
        go_wp2
        go_roundw
        case rel => exact ⟨k + 1, _, by omega, by go_num, rfl, HN, hB, HZ.out _ HN.out⟩
        case measure => simp [intOf]; omega
      by_cases h10 : s[k].toNat = 10
      · have HN := Lib.hid (show bl (o ++ ⟨#[92, 110]⟩) = 34 :: ((bl s).take (k + 1)).flatMap quoteByte from by
          rw [bl_append, HO.out, hflat, show quoteByte s[k] = [92, 110] by unfold quoteByte; rw [if_neg (by omega), if_pos h10]]
          rfl)
        have q34 : ((s[k].toNat : Int) == 34) = false := by simp; omega
        have q92 : ((s[k].toNat : Int) == 92) = false := by simp; omega
        clear HO hbk hflat
        go_wp2
        go_roundw
        case rel => exact ⟨k + 1, _, by omega, by go_num, rfl, HN, hB, HZ.out _ HN.out⟩
        case measure => simp [intOf]; omega
      have q34 : ((s[k].toNat : Int) == 34) = false := by simp; omega
      have q92 : ((s[k].toNat : Int) == 92) = false := by simp; omega
      have q10 : ((s[k].toNat : Int) == 10) = false := by simp; omega
      by_cases hx : s[k].toNat < 32 ∨ 126 < s[k].toNat
      · have hd1 : s[k].toNat / 16 < 16 := by omega
        have hd2 : s[k].toNat % 16 < 16 := by omega
        have HN := Lib.hid (show bl (o ++ ⟨#[92, 120]⟩ ++ hexText.extract (s[k].toNat / 16) (s[k].toNat / 16 + 1) ++ hexText.extract (s[k].toNat % 16) (s[k].toNat % 16 + 1)) = 34 :: ((bl s).take (k + 1)).flatMap quoteByte from by
          rw [bl_append, bl_append, bl_append, HO.out, hflat, hex_one _ hd1, hex_one _ hd2, show quoteByte s[k] = [92, 120, hexDigit (s[k].toNat / 16), hexDigit (s[k].toNat % 16)] by unfold quoteByte; rw [if_neg (by omega), if_neg h10, if_pos hx]]
          show (34 :: _) ++ [92, 120] ++ [_] ++ [_] = _
          simp)
        have hq1 : Int.tdiv (s[k].toNat : Int) 16 = ((s[k].toNat / 16 : Nat) : Int) := by rw [Int.tdiv_eq_ediv_of_nonneg (by omega)]; omega
        have hq2 : Int.tmod (s[k].toNat : Int) 16 = ((s[k].toNat % 16 : Nat) : Int) := by rw [Int.tmod_eq_emod_of_nonneg (by omega)]; omega
        have hl1 : ((s[k].toNat / 16 : Nat) : Int) + 1 ≤ 16 := by omega
        have hl2 : ((s[k].toNat % 16 : Nat) : Int) + 1 ≤ 16 := by omega
        clear HO hbk hflat
        by_cases h32 : s[k].toNat < 32
        · have q32 : decide ((s[k].toNat : Int) < 32) = true := by simp; omega
          clear hx
          go_upto_region 13 with fail
          go_quiet (fail)
          go_wp2
          go_roundw
          case rel => exact ⟨k + 1, _, by omega, by go_num, rfl, HN, hB.trans ⟨rfl, rfl, rfl, Nat.le_refl _, fun _ _ => rfl⟩, HZ.out _ HN.out⟩
          case measure => simp [intOf]; omega
        · have q32 : decide ((s[k].toNat : Int) < 32) = false := by simp; omega
          have q126 : decide ((126 : Int) < (s[k].toNat : Int)) = true := by simp; omega
          clear hx
          go_upto_region 13 with fail
          go_quiet (fail)
          go_wp2
          go_roundw
          case rel => exact ⟨k + 1, _, by omega, by go_num, rfl, HN, hB.trans ⟨rfl, rfl, rfl, Nat.le_refl _, fun _ _ => rfl⟩, HZ.out _ HN.out⟩
          case measure => simp [intOf]; omega
      · have HN := Lib.hid (show bl (o ++ s.extract k (k + 1)) = 34 :: ((bl s).take (k + 1)).flatMap quoteByte from by
          rw [bl_append, HO.out, hbk, hflat, show quoteByte s[k] = [s[k]] by unfold quoteByte; rw [if_neg (by omega), if_neg h10, if_neg hx]]
          rfl)
        have q32 : decide ((s[k].toNat : Int) < 32) = false := by simp; omega
        have q126 : decide ((126 : Int) < (s[k].toNat : Int)) = false := by simp; omega
        clear HO hbk hflat
        go_wp2
        go_roundw
        case rel => exact ⟨k + 1, _, by omega, by go_num, rfl, HN, hB, HZ.out _ HN.out⟩
        case measure => simp [intOf]; omega
    · obtain rfl : k = s.size := by omega
      have HE := Lib.hid (show (o ++ ⟨#[34]⟩ : ByteArray) = ⟨(quoteList (bl s)).toArray⟩ from bl_inj (by
        have h := HO.out
        rw [List.take_of_length_le (by rw [bl_len]; exact Nat.le_refl _)] at h
        rw [bl_append, h, bl_mk]
        rfl))
      clear HO
      go_wp2
      go_ret
      exact ⟨by rw [← HE.out]; rfl, hB⟩
set_option maxRecDepth 100000 in
set_option maxHeartbeats 4000000 in
theorem refTextOf_any (x : Val) (w : World) (hx : validVal x = true) (hn : inI64 x.n) (ht : Tryd.Tab w) :
    Calls Tryd.prog 83 #[valV x] w fun e w' => e = .returned (.string ⟨(valText x).toArray⟩) ∧ Below w.heap.size w w' := by
  have hb := Lib.hid (fun o => (Below.refl w.heap.size w).alloc (Nat.le_refl _) o)
  have HT := Lib.hid ht
  have hsz := validVal_size hx
  clear ht
  go_enter Tryd.func83, Tryd.ntmps83
  rcases val_head hx with ⟨k, e⟩ | ⟨k, e⟩ | ⟨k, e⟩
  · have k1 : (x.kind == 1) = false := by rw [k]; rfl
    have k2 : (x.kind == 2) = false := by rw [k]; rfl
    rw [e]
    clear k e hx
    go_wp2
    go_ret
    exact ⟨rfl, hb.out _⟩
  · have k1 : (x.kind == 1) = true := by rw [k]; rfl
    rw [e]
    have HI := Lib.hid (fun o => itoa_any x.n hn (w.alloc o) (Tryd.tabStays HT.out (hb.out o)))
    clear k e hx
    go_wp2_with fail
    refine (HI.out _).mono ?_
    rintro e w1 ⟨rfl, hb1⟩
    have HB := Lib.hid (pure_trans (hb.out _) hb1)
    clear hb1
    go_wp2
    go_ret
    exact ⟨rfl, HB.out⟩
  · have k1 : (x.kind == 1) = false := by rw [k]; rfl
    have k2 : (x.kind == 2) = true := by rw [k]; rfl
    rw [e]
    have HI := Lib.hid (fun o => refQuoted_any x.s (w.alloc o) (by omega))
    clear k e hx
    go_wp2_with fail
    refine (HI.out _).mono ?_
    rintro e w1 ⟨rfl, hb1⟩
    have HB := Lib.hid (pure_trans (hb.out _) hb1)
    clear hb1
    go_wp2
    go_ret
    exact ⟨rfl, HB.out⟩
/-- What is written of the first k values, with what stands between. -/
def preText (r : List Val) (k : Nat) : List UInt8 := leftText (r.take k)
theorem left_snoc (l : List Val) (x : Val) (h : l ≠ []) : leftText (l ++ [x]) = leftText l ++ 44 :: valText x := by
  induction l with
  | nil => exact absurd rfl h
  | cons y l ih =>
    cases l with
    | nil => rw [List.singleton_append, left_more, left_one, left_one]
    | cons z l =>
      rw [List.cons_append, List.cons_append, left_more, left_more, ← List.cons_append, ih (by simp)]
      simp
set_option maxRecDepth 100000 in
set_option maxHeartbeats 4000000 in
theorem refText_any (xs : List Val) (v : Value) (w : World) (hv : tRow.rv (mem w) [v] xs) (ht : Tryd.Tab w) :
    Calls Tryd.prog 47 #[v] w fun e w' => e = .returned (.string ⟨(rowText xs).toArray⟩) ∧ Below w.heap.size w w' := by
  have HV := Lib.hid (refValid_any xs v w hv)
  obtain ⟨a, cap, rfl, hl, hm, hv⟩ := slice_form hv
  have hcap : cap ≤ 9223372036854775807 := by unfold maxLen at hm; exact hm
  have HVV := Lib.hid hv
  clear hm hv
  have HT := Lib.hid ht
  clear ht
  go_enter Tryd.func47, Tryd.ntmps47
  cases hva : validRow xs with
  | false =>
    rw [hva] at HV
    have HE := Lib.hid (show rowText xs = [] by unfold rowText; rw [hva]; rfl)
    clear hva
    go_wp2_with fail
    refine HV.out.mono ?_
    rintro e w1 ⟨rfl, hb1⟩
    have HB := Lib.hid hb1
    clear hb1
    go_wp2
    go_ret
    exact ⟨by rw [HE.out]; rfl, HB.out⟩
  | true =>
    rw [hva] at HV
    have HE := Lib.hid (show rowText xs = leftText (xs.take xs.length) by rw [List.take_length]; exact left_row hva)
    have hall : xs.length ≤ 8 ∧ ∀ x ∈ xs, validVal x = true := by unfold validRow at hva; simpa using hva
    have h8 := hall.1
    have HA := Lib.hid hall.2
    clear hva hall
    go_wp2_with fail
    refine HV.out.mono ?_
    rintro e w1 ⟨rfl, hb1⟩
    have HB := Lib.hid hb1
    clear hb1
    go_wp2
    go_loopw [3, 4] (fun ov i wr => ∃ (k : Nat) (o : ByteArray), k ≤ xs.length ∧ i = .int .i64 k ∧ ov = .string o ∧ Hid (bl o = leftText (xs.take k)) ∧ Hid (Below w.heap.size w wr) ∧ o.size ≤ 1000 * k) (fun _ i _ => xs.length - (intOf i).toNat)
    case atStart => exact ⟨0, ⟨#[]⟩, by omega, rfl, rfl, Lib.hid rfl, HB, by show 0 ≤ _; omega⟩
    case round =>
      clear HB
      obtain ⟨k, o, hk, rfl, rfl, HO, HB, hos⟩ := hrel
      by_cases hlt : k < xs.length
      · obtain ⟨b, oo, rfl, hat⟩ := slice_at HVV.out hlt
        obtain ⟨c0, c1, c2, i0, i1, i2⟩ := val_at (tVal.at_mono (below_mem HB.out) hat)
        have c0 : wr.cell? ⟨b, oo + k * 3, none⟩ = some (.int .i64 xs[k].kind) := c0
        have c1 : wr.cell? ⟨b, oo + k * 3 + 1, none⟩ = some (.int .i64 xs[k].n) := c1
        have c2 : wr.cell? ⟨b, oo + k * 3 + 2, none⟩ = some (.string xs[k].s) := c2
        have hvk := HA.out _ (List.getElem_mem hlt)
        have hlen := valText_length hvk i1
        have HC := Lib.hid (refTextOf_any xs[k] wr hvk i1 (Tryd.tabStays HT.out HB.out))
        have htk := List.take_succ_eq_append_getElem hlt
        have HN0 := Lib.hid (show k = 0 → bl (o ++ ⟨(valText xs[k]).toArray⟩) = leftText (xs.take (k + 1)) from fun h => by
          have h0 := HO.out
          rw [bl_append, h0, bl_mk, htk]
          simp only [h, List.take_zero, List.nil_append]
          rw [left_one]; rfl)
        have HN1 := Lib.hid (show 0 < k → bl (o ++ ⟨#[44]⟩ ++ ⟨(valText xs[k]).toArray⟩) = leftText (xs.take (k + 1)) from fun h => by
          rw [bl_append, bl_append, HO.out, bl_mk, htk, left_snoc _ _ (by intro e; have := congrArg List.length e; rw [List.length_take, List.length_nil] at this; omega)]
          show _ ++ [44] ++ _ = _
          simp [bl])
        clear hat htk HO i0 i1 i2 hvk
        generalize xs[k] = x at *
        generalize valText x = vt at *
        by_cases hk0 : k = 0
        · have HN := Lib.hid (HN0.out hk0)
          clear HN0 HN1
          obtain rfl := hk0
          have c0 : wr.cell? ⟨b, oo, none⟩ = some (.int .i64 x.kind) := by simpa using c0
          have c1 : wr.cell? ⟨b, oo + 1, none⟩ = some (.int .i64 x.n) := by simpa using c1
          have c2 : wr.cell? ⟨b, oo + 2, none⟩ = some (.string x.s) := by simpa using c2
          go_wp2_with fail
          refine HC.out.mono ?_
          rintro e w2 ⟨rfl, hb2⟩
          have HB2 := Lib.hid (pure_trans HB.out hb2)
          have hvs : (⟨vt.toArray⟩ : ByteArray).size ≤ 802 := hlen
          clear hb2 HC c0 c1 c2
          go_wp2
          go_roundw
          case rel => exact ⟨1, _, by omega, by go_num, rfl, HN, HB2, by rw [ByteArray.size_append]; omega⟩
          case measure => simp [intOf]; omega
        · have HN := Lib.hid (HN1.out (by omega))
          have q0 : (0 : Int) < (k : Int) := by omega
          clear HN0 HN1
          go_wp2_with fail
          refine HC.out.mono ?_
          rintro e w2 ⟨rfl, hb2⟩
          have HB2 := Lib.hid (pure_trans HB.out hb2)
          have hvs : (⟨vt.toArray⟩ : ByteArray).size ≤ 802 := hlen
          clear hb2 HC c0 c1 c2
          go_wp2
          go_roundw
          case rel => exact ⟨k + 1, _, by omega, by go_num, rfl, HN, HB2, by rw [ByteArray.size_append, ByteArray.size_append]; have : (⟨#[44]⟩ : ByteArray).size = 1 := rfl; omega⟩
          case measure => simp [intOf]; omega
      · obtain rfl : k = xs.length := by omega
        have HX := Lib.hid (show o = ⟨(rowText xs).toArray⟩ from bl_inj (by rw [HO.out, HE.out]; rfl))
        go_wp2
        go_ret
        exact ⟨by rw [← HX.out]; rfl, HB.out⟩
end Go.Proofs.YtkldimaoafgolaaDoor
/- Chapter 2's example. -/
namespace Go.Proofs.YtkldimaoafgolaaDoor
open Go.RowKit

def wakeRow : List Val := [⟨0, 0, ⟨#[]⟩⟩, ⟨1, -5, ⟨#[]⟩⟩, ⟨2, 0, ⟨#[97, 34, 98]⟩⟩]
theorem wake_itoa : Lib.itoa (-5) = [45, 53] := by
  have h : Lib.decDigits 5 = [53] := by
    rw [Lib.decDigits, dif_pos (by decide)]
    rfl
  show 45 :: Lib.decDigits 5 = _
  rw [h]
theorem wakeText : (⟨(rowText wakeRow).toArray⟩ : ByteArray) = ⟨#[126, 44, 45, 53, 44, 34, 97, 92, 34, 98, 34]⟩ := by
  have hv : validRow wakeRow = true := by decide
  have e : wakeRow.map valText = [[126], [45, 53], [34, 97, 92, 34, 98, 34]] := by
    show [[126], Lib.itoa (-5), quoteList [97, 34, 98]] = _
    rw [wake_itoa]
    rfl
  unfold rowText
  rw [if_pos hv, e]
  rfl

theorem wake_rv {m : Mem} {b : Nat} (h : ∀ j v, ([.int .i64 0, .int .i64 0, .string ⟨#[]⟩, .int .i64 1, .int .i64 (-5), .string ⟨#[]⟩, .int .i64 2, .int .i64 0, .string ⟨#[97, 34, 98]⟩] : List Value)[j]? = some v → m b j = some v) :
    tRow.rv m [.slice (some ⟨b, 0, none⟩) 3 3] wakeRow := by
  refine ⟨some ⟨b, 0, none⟩, 3, rfl, by decide, by unfold maxLen; decide, fun _ => ⟨b, 0, rfl, fun k hk => ?_⟩⟩
  have hk : k < 3 := hk
  match k, hk with
  | 0, _ => exact ⟨_, fun j v hj => h (0 + 0 * 3 + j) v (by match j, hj with | 0, hj => exact hj | 1, hj => exact hj | 2, hj => exact hj), rfl, (show inI64 0 by unfold inI64; decide), (show inI64 0 by unfold inI64; decide), (show (ByteArray.mk #[]).size ≤ maxLen by unfold maxLen; decide)⟩
  | 1, _ => exact ⟨_, fun j v hj => h (0 + 1 * 3 + j) v (by match j, hj with | 0, hj => exact hj | 1, hj => exact hj | 2, hj => exact hj), rfl, (show inI64 1 by unfold inI64; decide), (show inI64 (-5) by unfold inI64; decide), (show (ByteArray.mk #[]).size ≤ maxLen by unfold maxLen; decide)⟩
  | 2, _ => exact ⟨_, fun j v hj => h (0 + 2 * 3 + j) v (by match j, hj with | 0, hj => exact hj | 1, hj => exact hj | 2, hj => exact hj), rfl, (show inI64 2 by unfold inI64; decide), (show inI64 0 by unfold inI64; decide), (show (ByteArray.mk #[97, 34, 98]).size ≤ maxLen by unfold maxLen; decide)⟩

set_option maxRecDepth 100000 in
set_option maxHeartbeats 1000000 in
theorem awake_any (w : World) (ht : Tryd.Tab w) :
    Calls Tryd.prog 12 #[] w fun e w' => e = .returned (.bool true) ∧ Below w.heap.size w w' := by
  have hb : ∀ o, Below w.heap.size w (w.alloc o) := fun o => (Below.refl _ _).alloc (Nat.le_refl _) o
  go_enter Tryd.func12, Tryd.ntmps12
  go_wp2_with fail
  refine (rowText_any wakeRow _ _ (wake_rv ?c1) (Tryd.tabStays ht (hb _))).mono ?_
  case c1 =>
    intro j v hj
    rw [mem, mem_cells_new]
    simpa using hj
  rintro e w' ⟨rfl, hb2⟩
  have hB := (hb _).trans (hb2.mono (by simp))
  rw [wakeText]
  clear hb2
  go_wp2
  go_ret
  exact ⟨rfl, hB⟩

def tRows : Ty (List (List Val)) := tSlice tRow
theorem rows_at {m : Mem} {b o : Nat} {xs : List Val} (h : tRow.at m b o xs) : ∃ a cap, m b o = some (.slice a xs.length cap) ∧ tRow.rv m [.slice a xs.length cap] xs ∧ cap ≤ maxLen := by
  obtain ⟨v, h1, h2⟩ := slice_cell h
  obtain ⟨a, cap, rfl, _, h4, h5⟩ := slice_form h2
  exact ⟨a, cap, h1, h5, h4⟩

set_option maxRecDepth 100000 in
set_option maxHeartbeats 1000000 in
theorem long_any (ls : List (List Val)) (v : Value) (w : World) (hv : tRows.rv (mem w) [v] ls) :
    Calls Tryd.prog 11 #[v] w fun e w' => (∃ r, e = .returned (.bool r)) ∧ Below w.heap.size w w' := by
  obtain ⟨a, cap, rfl, hl, hm, hv⟩ := slice_form hv
  have hcap : cap ≤ 9223372036854775807 := by unfold maxLen at hm; exact hm
  clear hm
  go_enter Tryd.func11, Tryd.ntmps11
  go_wp2
  go_loopw [3, 4] (fun nv i wr => (∃ n, nv = .int .i64 n) ∧ ∃ k : Nat, k ≤ ls.length ∧ i = .int .i64 k ∧ Below w.heap.size w wr) (fun _ i _ => ls.length - (intOf i).toNat)
  case atStart => exact ⟨⟨_, rfl⟩, 0, by omega, rfl, Below.refl _ _⟩
  case round =>
    obtain ⟨⟨n, rfl⟩, k, hk, rfl, hB⟩ := hrel
    by_cases hlt : k < ls.length
    · obtain ⟨b, o, rfl, hat⟩ := slice_at hv hlt
      obtain ⟨a2, cap2, hc, hr, hm2⟩ := rows_at (tRow.at_mono (below_mem hB) hat)
      have hc : wr.cell? ⟨b, o + k, none⟩ = some (.slice a2 ls[k].length cap2) := by
        have e : k * tRow.sz = k := Nat.mul_one k
        rw [e] at hc; exact hc
      have hl2 := (slice_len hr).2.1
      have hm2 : cap2 ≤ 9223372036854775807 := by unfold maxLen at hm2; exact hm2
      clear hat hv
      generalize ls[k] = xs at *
      go_wp2
      go_loopw [3, 5] (fun nv i wr => (∃ n, nv = .int .i64 n) ∧ ∃ j : Nat, j ≤ xs.length ∧ i = .int .i64 j ∧ Below w.heap.size w wr ∧ wr.cell? ⟨b, o + k, none⟩ = some (.slice a2 xs.length cap2) ∧ tRow.rv (mem wr) [.slice a2 xs.length cap2] xs) (fun _ i _ => xs.length - (intOf i).toNat)
      case atStart => exact ⟨⟨_, rfl⟩, 0, by omega, rfl, hB, hc, hr⟩
      case round =>
        obtain ⟨⟨n, rfl⟩, j, hj, rfl, hB, hc, hr⟩ := hrel
        by_cases hlt2 : j < xs.length
        · obtain ⟨b2, o2, rfl, hat2⟩ := slice_at hr hlt2
          obtain ⟨c0, c1, c2, i0, i1, i2⟩ := val_at hat2
          have c2 : wr.cell? ⟨b2, o2 + j * 3 + 2, none⟩ = some (.string xs[j].s) := c2
          have hHr := Lib.hid hr
          clear hat2 c0 c1 i0 i1 i2 hr
          generalize xs[j].s = s at *
          go_wp2
          go_roundw
          case rel => exact ⟨⟨_, rfl⟩, j + 1, by omega, by go_num, hB, hc, hHr.out⟩
          case measure => simp [intOf]; omega
        · obtain rfl : j = xs.length := by omega
          go_wp2
          go_roundw
          case rel => exact ⟨⟨_, rfl⟩, k + 1, by omega, by go_num, hB⟩
          case measure => simp [intOf]; omega
    · obtain rfl : k = ls.length := by omega
      go_wp2
      go_ret
      exact ⟨⟨_, rfl⟩, hB⟩
end Go.Proofs.YtkldimaoafgolaaDoor
/- The order of rows: plain. -/
namespace Go.Proofs.YtkldimaoafgolaaDoor

structure Good {α : Type} (c : α → α → Int) : Prop where
  refl : ∀ a, c a a = 0
  anti : ∀ a b, c b a = - c a b
  range : ∀ a b, c a b = -1 ∨ c a b = 0 ∨ c a b = 1
  trans : ∀ a b d, c a b ≤ 0 → c b d ≤ 0 → c a d ≤ 0 ∧ (c a d = 0 → c a b = 0 ∧ c b d = 0)

def cmpInt (a b : Int) : Int := if a < b then -1 else if b < a then 1 else 0
theorem cmpInt_good : Good cmpInt := by
  refine ⟨fun a => ?_, fun a b => ?_, fun a b => ?_, fun a b d => ?_⟩ <;> unfold cmpInt
  · simp
  · repeat' split
    all_goals omega
  · repeat' split
    all_goals omega
  · repeat' split
    all_goals omega
theorem Good.pull {α β : Type} {c : β → β → Int} (h : Good c) (f : α → β) : Good (fun a b => c (f a) (f b)) :=
  ⟨fun a => h.refl _, fun a b => h.anti _ _, fun a b => h.range _ _, fun a b d => h.trans _ _ _⟩
def lex {α : Type} (c1 c2 : α → α → Int) (a b : α) : Int := if c1 a b ≠ 0 then c1 a b else c2 a b
theorem lex_good {α : Type} {c1 c2 : α → α → Int} (h1 : Good c1) (h2 : Good c2) : Good (lex c1 c2) := by
  refine ⟨fun a => ?_, fun a b => ?_, fun a b => ?_, fun a b d => ?_⟩ <;> unfold lex
  · rw [h1.refl, h2.refl]; simp
  · have e1 := h1.anti a b
    have e2 := h2.anti a b
    repeat' split
    all_goals omega
  · have e1 := h1.range a b
    have e2 := h2.range a b
    split
    all_goals omega
  · have r1 := h1.range a b
    have r2 := h1.range b d
    have r3 := h1.range a d
    have t1 := h1.trans a b d
    have t2 := h2.trans a b d
    by_cases hx : c1 a b ≤ 0
    · by_cases hy : c1 b d ≤ 0
      · have t1 := t1 hx hy
        by_cases hx2 : c2 a b ≤ 0
        · by_cases hy2 : c2 b d ≤ 0
          · have t2 := t2 hx2 hy2
            repeat' split
            all_goals omega
          · repeat' split
            all_goals omega
        · repeat' split
          all_goals omega
      · repeat' split
        all_goals omega
    · repeat' split
      all_goals omega
def lexList {α : Type} (c : α → α → Int) : List α → List α → Int
  | [], [] => 0
  | [], _ :: _ => -1
  | _ :: _, [] => 1
  | a :: l, b :: m => if c a b ≠ 0 then c a b else lexList c l m
theorem lexList_good {α : Type} {c : α → α → Int} (h : Good c) : Good (lexList c) := by
  have hrefl : ∀ a, lexList c a a = 0 := fun a => by
    induction a with
    | nil => rfl
    | cons x l ih => simp [lexList, h.refl, ih]
  have hanti : ∀ a b, lexList c b a = - lexList c a b := fun a => by
    induction a with
    | nil => intro b; cases b <;> rfl
    | cons x l ih =>
      intro b
      cases b with
      | nil => rfl
      | cons y m =>
        have e1 := h.anti x y
        have e2 := ih m
        simp only [lexList]
        repeat' split
        all_goals omega
  have hrange : ∀ a b, lexList c a b = -1 ∨ lexList c a b = 0 ∨ lexList c a b = 1 := fun a => by
    induction a with
    | nil => intro b; cases b <;> simp [lexList]
    | cons x l ih =>
      intro b
      cases b with
      | nil => simp [lexList]
      | cons y m =>
        have e1 := h.range x y
        have e2 := ih m
        simp only [lexList]
        split
        all_goals omega
  refine ⟨hrefl, hanti, hrange, fun a => ?_⟩
  induction a with
  | nil =>
    intro b d
    cases b <;> cases d <;> simp [lexList]
  | cons x l ih =>
    intro b d
    cases b with
    | nil => simp [lexList]
    | cons y m =>
      cases d with
      | nil =>
        intro h1 h2
        simp [lexList] at h2
      | cons z n =>
        have r1 := h.range x y
        have r2 := h.range y z
        have r3 := h.range x z
        have t1 := h.trans x y z
        have t2 := ih m n
        simp only [lexList]
        by_cases hx : c x y ≤ 0
        · by_cases hy : c y z ≤ 0
          · have t1 := t1 hx hy
            by_cases hx2 : lexList c l m ≤ 0
            · by_cases hy2 : lexList c m n ≤ 0
              · have t2 := t2 hx2 hy2
                repeat' split
                all_goals omega
              · repeat' split
                all_goals omega
            · repeat' split
              all_goals omega
          · repeat' split
            all_goals omega
        · repeat' split
          all_goals omega

def cmpBytes : List UInt8 → List UInt8 → Int := lexList (fun a b => cmpInt a.toNat b.toNat)
theorem cmpBytes_good : Good cmpBytes := lexList_good (cmpInt_good.pull (fun a : UInt8 => (a.toNat : Int)))
theorem bytesLess_cmp : ∀ a b : List UInt8, Op.bytesLess a b = decide (cmpBytes a b < 0)
  | [], [] => rfl
  | [], _ :: _ => rfl
  | _ :: _, [] => rfl
  | a :: x, b :: y => by
    have ih := bytesLess_cmp x y
    have e : (a < b) = (a.toNat < b.toNat) := rfl
    simp only [Op.bytesLess, ih, cmpBytes, lexList, cmpInt]
    by_cases h1 : a.toNat < b.toNat
    · have h1' : a < b := h1
      simp [h1, h1']
    · have h1' : ¬ a < b := h1
      by_cases h2 : b.toNat < a.toNat
      · have h3 : (a == b) = false := by
          rw [beq_eq_false_iff_ne]; rintro rfl; omega
        simp [h3, h1', h1, h2]
      · obtain rfl : a = b := UInt8.toNat_inj.1 (by omega)
        simp [cmpBytes]
theorem bytesEq_cmp (a b : List UInt8) : (a == b) = decide (cmpBytes a b = 0) := by
  induction a generalizing b with
  | nil => cases b <;> rfl
  | cons x l ih =>
    cases b with
    | nil => rfl
    | cons y m =>
      rw [List.cons_beq_cons, ih m]
      simp only [cmpBytes, lexList, cmpInt]
      by_cases h : x = y
      · subst h; simp
      · have h3 : (x == y) = false := by rw [beq_eq_false_iff_ne]; exact h
        have h4 : ¬ x.toNat = y.toNat := fun e => h (UInt8.toNat_inj.1 e)
        rw [h3]
        simp
        repeat' split
        all_goals first | omega | simp
theorem bytesGtr_cmp (a b : List UInt8) : (!(Op.bytesLess a b || a == b)) = decide (0 < cmpBytes a b) := by
  rw [bytesLess_cmp, bytesEq_cmp]
  by_cases h : 0 < cmpBytes a b
  · have h1 : ¬ cmpBytes a b < 0 := by omega
    have h2 : ¬ cmpBytes a b = 0 := by omega
    simp [h, h1, h2]
  · by_cases h1 : cmpBytes a b < 0
    · simp [h, h1]
    · have h2 : cmpBytes a b = 0 := by omega
      simp [h2]

def cls (x : Val) : Int := if x.kind = 1 ∨ x.kind = 2 then x.kind else 0
def key1 (x : Val) : Int := if cls x = 1 then x.n else 0
def key2 (x : Val) : List UInt8 := if cls x = 2 then x.s.toList else []
def cmpVal : Val → Val → Int := lex (fun a b => cmpInt (cls a) (cls b)) (lex (fun a b => cmpInt (key1 a) (key1 b)) (fun a b => cmpBytes (key2 a) (key2 b)))
theorem cmpVal_good : Good cmpVal := lex_good (cmpInt_good.pull cls) (lex_good (cmpInt_good.pull key1) (cmpBytes_good.pull key2))
def cmpRow : List Val → List Val → Int := lexList cmpVal
theorem cmpRow_good : Good cmpRow := lexList_good cmpVal_good
theorem cls_cases (x : Val) : cls x = 0 ∨ cls x = 1 ∨ cls x = 2 := by
  unfold cls
  split
  · omega
  · exact .inl rfl
theorem cmpVal_cls {a b : Val} (h : cls a ≠ cls b) : cmpVal a b = cmpInt (cls a) (cls b) := by
  have : cmpInt (cls a) (cls b) ≠ 0 := by unfold cmpInt; repeat' split
                                          all_goals omega
  unfold cmpVal lex
  rw [if_pos this]
theorem cmpVal_0 {a b : Val} (ha : cls a = 0) (hb : cls b = 0) : cmpVal a b = 0 := by
  simp [cmpVal, lex, key1, key2, ha, hb, cmpInt_good.refl, cmpBytes_good.refl]
theorem cmpVal_1 {a b : Val} (ha : cls a = 1) (hb : cls b = 1) : cmpVal a b = cmpInt a.n b.n := by
  simp [cmpVal, lex, key1, key2, ha, hb, cmpInt_good.refl, cmpBytes_good.refl]
  intro h; exact h.symm
theorem cmpVal_2 {a b : Val} (ha : cls a = 2) (hb : cls b = 2) : cmpVal a b = cmpBytes a.s.toList b.s.toList := by
  simp [cmpVal, lex, key1, key2, ha, hb, cmpInt_good.refl]
theorem cmpRow_step {a b : List Val} {k : Nat} (ha : k < a.length) (hb : k < b.length) :
    cmpRow (a.drop k) (b.drop k) = if cmpVal a[k] b[k] ≠ 0 then cmpVal a[k] b[k] else cmpRow (a.drop (k + 1)) (b.drop (k + 1)) := by
  rw [List.drop_eq_getElem_cons ha, List.drop_eq_getElem_cons hb]
  rfl
theorem cmpRow_end {a b : List Val} {k : Nat} (h : a.length ≤ k ∨ b.length ≤ k) (ha : k ≤ a.length) (hb : k ≤ b.length) :
    cmpRow (a.drop k) (b.drop k) = if a.length < b.length then -1 else if b.length < a.length then 1 else 0 := by
  rcases h with h | h
  · obtain rfl : k = a.length := by omega
    rw [List.drop_length]
    by_cases h2 : a.length < b.length
    · rw [List.drop_eq_getElem_cons h2, if_pos h2]; rfl
    · rw [List.drop_eq_nil_of_le (by omega), if_neg h2, if_neg (by omega)]; rfl
  · obtain rfl : k = b.length := by omega
    rw [List.drop_length]
    by_cases h2 : b.length < a.length
    · rw [List.drop_eq_getElem_cons h2, if_neg (by omega), if_pos h2]; rfl
    · rw [List.drop_eq_nil_of_le (by omega), if_neg (by omega), if_neg h2]; rfl
end Go.Proofs.YtkldimaoafgolaaDoor
/- The order of rows: walks. -/
namespace Go.Proofs.YtkldimaoafgolaaDoor
open Go.RowKit

abbrev Val.v (x : Val) : Value := .agg #[.int .i64 x.kind, .int .i64 x.n, .string x.s]

set_option maxHeartbeats 400000 in
theorem rowKind_any (x : Val) (w : World) :
    Calls Tryd.prog 65 #[x.v] w fun e w' => e = .returned (.int .i64 (cls x)) ∧ Below w.heap.size w w' := by
  have hb : ∀ o, Below w.heap.size w (w.alloc o) := fun o => (Below.refl _ _).alloc (Nat.le_refl _) o
  have HC := Lib.hid (show cls x = if (decide (1 ≤ x.kind ∧ x.kind ≤ 2)) = true then x.kind else 0 by
    unfold cls
    by_cases h : x.kind = 1 ∨ x.kind = 2
    · rw [if_pos h, if_pos (by simp; omega)]
    · rw [if_neg h, if_neg (by simp; omega)])
  obtain ⟨xk, xn, xs⟩ := x
  simp only at HC
  go_enter Tryd.func65, Tryd.ntmps65
  go_wp2_with fail
  refine (rowWithin_any _ _ _ _).mono ?_
  rintro e w' ⟨rfl, rfl⟩
  generalize decide (1 ≤ xk ∧ xk ≤ 2) = r at *
  cases r
  · go_wp2
    go_ret
    exact ⟨by rw [HC.out]; rfl, hb _⟩
  · go_wp2
    go_ret
    exact ⟨by rw [HC.out]; rfl, hb _⟩

set_option maxHeartbeats 400000 in
theorem refClass_any (x : Val) (w : World) :
    Calls Tryd.prog 71 #[x.v] w fun e w' => e = .returned (.int .i64 (cls x)) ∧ Below w.heap.size w w' := by
  have hb : ∀ o, Below w.heap.size w (w.alloc o) := fun o => (Below.refl _ _).alloc (Nat.le_refl _) o
  have HC := Lib.hid (show cls x = if x.kind = 1 ∨ x.kind = 2 then x.kind else 0 from rfl)
  obtain ⟨xk, xn, xs⟩ := x
  simp only at HC
  by_cases h1 : xk = 1
  · subst h1
    go_enter Tryd.func71, Tryd.ntmps71
    go_wp2
    go_ret
    exact ⟨by rw [HC.out]; rfl, hb _⟩
  by_cases h2 : xk = 2
  · subst h2
    go_enter Tryd.func71, Tryd.ntmps71
    go_wp2
    go_ret
    exact ⟨by rw [HC.out]; rfl, hb _⟩
  · have b1 : (xk == 1) = false := by simpa using h1
    have b2 : (xk == 2) = false := by simpa using h2
    have HC := Lib.hid (HC.out.trans (if_neg (by omega)))
    go_enter Tryd.func71, Tryd.ntmps71
    go_wp2
    all_goals try (exfalso; simp only [beq_iff_eq, beq_eq_false_iff_ne, Bool.or_eq_true] at *; omega)
    go_ret
    exact ⟨by rw [HC.out]; rfl, hb _⟩

set_option maxHeartbeats 400000 in
theorem nanStr_any (s : ByteArray) (w : World) :
    Calls Tryd.prog 92 #[.string s] w fun e w' => e = .returned (.bool false) ∧ w = w' := by
  go_enter Tryd.func92, Tryd.ntmps92
  go_wp2
  go_ret
  exact ⟨by simp, rfl⟩

set_option maxHeartbeats 400000 in
theorem cmpStr_any (s t : ByteArray) (w : World) :
    Calls Tryd.prog 70 #[.string s, .string t] w fun e w' => e = .returned (.int .i64 (cmpBytes s.toList t.toList)) ∧ w = w' := by
  have HL := Lib.hid (bytesLess_cmp s.toList t.toList)
  have HG := Lib.hid (bytesGtr_cmp s.toList t.toList)
  have hr := cmpBytes_good.range s.toList t.toList
  generalize cmpBytes s.toList t.toList = c at *
  go_enter Tryd.func70, Tryd.ntmps70
  go_wp2_with (go_at_call 92; refine (nanStr_any _ _).mono ?_; rintro e w' ⟨rfl, rfl⟩)
  · have h : Op.bytesLess s.toList t.toList = true := by assumption
    have hl := HL.out
    rw [h] at hl
    have : c = -1 := by have := of_decide_eq_true hl.symm; omega
    subst this
    go_ret
    exact ⟨rfl, rfl⟩
  · have h1 : Op.bytesLess s.toList t.toList = false := by assumption
    have h2 : (!s.toList == t.toList) = true := by assumption
    have hg := HG.out
    rw [h1, Bool.false_or, h2] at hg
    have : c = 1 := by have := of_decide_eq_true hg.symm; omega
    subst this
    go_ret
    exact ⟨rfl, rfl⟩
  · have h1 : Op.bytesLess s.toList t.toList = false := by assumption
    have h2 : (!s.toList == t.toList) = false := by assumption
    have hl := HL.out
    have hg := HG.out
    rw [h1] at hl
    rw [h1, Bool.false_or, h2] at hg
    have : c = 0 := by have := of_decide_eq_false hl.symm; have := of_decide_eq_false hg.symm; omega
    subst this
    go_ret
    exact ⟨rfl, rfl⟩

theorem compareInt_eq (x y : Int) : Lib.compareInt x y = cmpInt x y := rfl
theorem cmpInt_any (x y : Int) (w : World) :
    Calls Tryd.prog 66 #[.int .i64 x, .int .i64 y] w fun e w' => e = .returned (.int .i64 (cmpInt x y)) ∧ w' = w := Tryd.cmp_Compare_int x y w

set_option maxHeartbeats 400000 in
theorem cmpV1_any (a b : Val) (w : World) :
    Calls Tryd.prog 67 #[a.v, b.v] w fun e w' => e = .returned (.int .i64 0) ∧ Below w.heap.size w w' := by
  obtain ⟨ak, an, as'⟩ := a
  obtain ⟨bk, bn, bs⟩ := b
  have hb : ∀ o o', Below w.heap.size w ((w.alloc o).alloc o') := fun o o' => ((Below.refl _ _).alloc (Nat.le_refl _) o).alloc (by simp) o'
  go_enter Tryd.func67, Tryd.ntmps67
  go_wp2
  go_ret
  exact ⟨rfl, hb _ _⟩
set_option maxHeartbeats 400000 in
theorem cmpV2_any (a b : Val) (w : World) :
    Calls Tryd.prog 68 #[a.v, b.v] w fun e w' => e = .returned (.int .i64 (cmpInt a.n b.n)) ∧ Below w.heap.size w w' := by
  obtain ⟨ak, an, as'⟩ := a
  obtain ⟨bk, bn, bs⟩ := b
  have hb : ∀ o o', Below w.heap.size w ((w.alloc o).alloc o') := fun o o' => ((Below.refl _ _).alloc (Nat.le_refl _) o).alloc (by simp) o'
  show Calls _ _ _ _ fun e w' => e = .returned (.int .i64 (cmpInt an bn)) ∧ _
  go_enter Tryd.func68, Tryd.ntmps68
  go_wp2_with (go_at_call 66; refine (cmpInt_any _ _ _).mono ?_; rintro e w' ⟨rfl, rfl⟩)
  go_ret
  exact ⟨rfl, hb _ _⟩
set_option maxHeartbeats 400000 in
theorem cmpV3_any (a b : Val) (w : World) :
    Calls Tryd.prog 69 #[a.v, b.v] w fun e w' => e = .returned (.int .i64 (cmpBytes a.s.toList b.s.toList)) ∧ Below w.heap.size w w' := by
  obtain ⟨ak, an, as'⟩ := a
  obtain ⟨bk, bn, bs⟩ := b
  have hb : ∀ o o', Below w.heap.size w ((w.alloc o).alloc o') := fun o o' => ((Below.refl _ _).alloc (Nat.le_refl _) o).alloc (by simp) o'
  show Calls _ _ _ _ fun e w' => e = .returned (.int .i64 (cmpBytes as'.toList bs.toList)) ∧ _
  go_enter Tryd.func69, Tryd.ntmps69
  go_wp2_with (go_at_call 70; refine (cmpStr_any _ _ _).mono ?_; rintro e w' ⟨rfl, rfl⟩)
  go_ret
  exact ⟨rfl, hb _ _⟩

theorem idxFn0 (w : World) : Sem.run Tryd.prog (Instr.index 81 (.agg #[.func (.func 67) #[] #[], .func (.func 68) #[] #[], .func (.func 69) #[] #[]]) (.int .i64 0)) w = .ok (.func (.func 67) #[] #[]) w := by kernel_rfl
theorem idxFn1 (w : World) : Sem.run Tryd.prog (Instr.index 81 (.agg #[.func (.func 67) #[] #[], .func (.func 68) #[] #[], .func (.func 69) #[] #[]]) (.int .i64 1)) w = .ok (.func (.func 68) #[] #[]) w := by kernel_rfl
theorem idxFn2 (w : World) : Sem.run Tryd.prog (Instr.index 81 (.agg #[.func (.func 67) #[] #[], .func (.func 68) #[] #[], .func (.func 69) #[] #[]]) (.int .i64 2)) w = .ok (.func (.func 69) #[] #[]) w := by kernel_rfl
/-- Two values in two boxes of the call's own. -/
structure Box2 (w wr : World) (a b : Val) : Prop where
  a0 : wr.cell? ⟨w.heap.size, 0, none⟩ = some (.int .i64 a.kind)
  a1 : wr.cell? ⟨w.heap.size, 1, none⟩ = some (.int .i64 a.n)
  a2 : wr.cell? ⟨w.heap.size, 2, none⟩ = some (.string a.s)
  b0 : wr.cell? ⟨w.heap.size + 1, 0, none⟩ = some (.int .i64 b.kind)
  b1 : wr.cell? ⟨w.heap.size + 1, 1, none⟩ = some (.int .i64 b.n)
  b2 : wr.cell? ⟨w.heap.size + 1, 2, none⟩ = some (.string b.s)
  size : w.heap.size + 2 ≤ wr.heap.size
  below : Below w.heap.size w wr
theorem Box2.start (w : World) (a b : Val) (T : TypeId) : Box2 w ((w.alloc (.cells #[.int .i64 a.kind, .int .i64 a.n, .string a.s] T)).alloc (.cells #[.int .i64 b.kind, .int .i64 b.n, .string b.s] T)) a b := by
  have h1 : ∀ o, ((w.alloc (.cells #[.int .i64 a.kind, .int .i64 a.n, .string a.s] T)).alloc (.cells #[.int .i64 b.kind, .int .i64 b.n, .string b.s] T)).cell? ⟨w.heap.size, o, none⟩ = (#[Value.int .i64 a.kind, .int .i64 a.n, .string a.s] : Array Value)[o]? := fun o => by
    have e := mem_of_block (Lib.alloc_old (w.alloc (.cells #[.int .i64 a.kind, .int .i64 a.n, .string a.s] T)) (.cells #[.int .i64 b.kind, .int .i64 b.n, .string b.s] T) w.heap.size (by simp)) o
    exact e.trans (mem_cells_new w _ T (0, 0) o)
  have h2 : ∀ o, ((w.alloc (.cells #[.int .i64 a.kind, .int .i64 a.n, .string a.s] T)).alloc (.cells #[.int .i64 b.kind, .int .i64 b.n, .string b.s] T)).cell? ⟨w.heap.size + 1, o, none⟩ = (#[Value.int .i64 b.kind, .int .i64 b.n, .string b.s] : Array Value)[o]? := fun o => cell_new o (by simp)
  exact ⟨h1 0, h1 1, h1 2, h2 0, h2 1, h2 2, by simp, ((Below.refl _ _).alloc (Nat.le_refl _) _).alloc (by simp) _⟩
theorem Box2.pure {w wr w1 : World} {a b : Val} (h : Box2 w wr a b) (k : Below wr.heap.size wr w1) : Box2 w w1 a b := by
  have e : ∀ x o v, wr.cell? ⟨x, o, none⟩ = some v → w1.cell? ⟨x, o, none⟩ = some v := fun x o v hx => below_mem k x o v hx
  exact ⟨e _ _ _ h.a0, e _ _ _ h.a1, e _ _ _ h.a2, e _ _ _ h.b0, e _ _ _ h.b1, e _ _ _ h.b2, Nat.le_trans h.size k.size, pure_trans h.below k⟩
theorem Box2.six {w wr : World} {a b : Val} (h : Box2 w wr a b) : wr.cell? ⟨w.heap.size, 0, none⟩ = some (.int .i64 a.kind) ∧ wr.cell? ⟨w.heap.size, 1, none⟩ = some (.int .i64 a.n) ∧ wr.cell? ⟨w.heap.size, 2, none⟩ = some (.string a.s) ∧
    wr.cell? ⟨w.heap.size + 1, 0, none⟩ = some (.int .i64 b.kind) ∧ wr.cell? ⟨w.heap.size + 1, 1, none⟩ = some (.int .i64 b.n) ∧ wr.cell? ⟨w.heap.size + 1, 2, none⟩ = some (.string b.s) := ⟨h.a0, h.a1, h.a2, h.b0, h.b1, h.b2⟩
theorem Box2.drew {w wr : World} {a b : Val} (h : Box2 w wr a b) : Box2 w wr.drew a b := h.pure (Below.refl _ _).drew

set_option maxRecDepth 100000 in
set_option maxHeartbeats 2000000 in
theorem cmpVals_any (a b : Val) (w : World) :
    Calls Tryd.prog 30 #[a.v, b.v] w fun e w' => e = .returned (.int .i64 (cmpVal a b)) ∧ Below w.heap.size w w' := by
  have hb : ∀ o o', Below w.heap.size w ((w.alloc o).alloc o') := fun o o' => ((Below.refl _ _).alloc (Nat.le_refl _) o).alloc (by simp) o'
  have HA := Lib.hid (rowKind_any a)
  have HB := Lib.hid (rowKind_any b)
  have H1 := Lib.hid (cmpV1_any a b)
  have H2 := Lib.hid (cmpV2_any a b)
  have H3 := Lib.hid (cmpV3_any a b)
  have hca := cls_cases a
  have E0 := Lib.hid (fun (ha : cls a = 0) hb => cmpVal_0 (b := b) ha hb)
  have E1 := Lib.hid (fun (ha : cls a = 1) hb => cmpVal_1 (b := b) ha hb)
  have E2 := Lib.hid (fun (ha : cls a = 2) hb => cmpVal_2 (b := b) ha hb)
  have EN := Lib.hid (fun (h : cls a ≠ cls b) => cmpVal_cls h)
  generalize cls a = ca at *
  generalize cls b = cb at *
  generalize cmpVal a b = r at *
  obtain ⟨ak, an, as'⟩ := a
  obtain ⟨bk, bn, bs⟩ := b
  go_enter Tryd.func30, Tryd.ntmps30
  go_wp2_with fail
  refine (HA.out _).mono ?_
  rintro e w1 ⟨rfl, hb1⟩
  have hx := (Box2.start w ⟨ak, an, as'⟩ ⟨bk, bn, bs⟩ _).pure hb1
  obtain ⟨a0, a1, a2, b0, b1, b2, hsz, hbl⟩ := hx
  simp only at a0 a1 a2 b0 b1 b2
  go_wp2_with fail
  refine (HB.out _).mono ?_
  rintro e w2 ⟨rfl, hb2⟩
  obtain ⟨a0, a1, a2, b0, b1, b2, hsz, hbl⟩ := Box2.pure (w := w) (a := ⟨ak, an, as'⟩) (b := ⟨bk, bn, bs⟩) ⟨a0, a1, a2, b0, b1, b2, hsz, hbl⟩ hb2
  simp only at a0 a1 a2 b0 b1 b2
  go_wp2_with fail
  refine (cmpInt_any _ _ _).mono ?_
  rintro e w3 ⟨rfl, rfl⟩
  by_cases hab : ca = cb
  · subst hab
    rw [cmpInt_good.refl]
    rcases hca with rfl | rfl | rfl
    · have hr := E0.out rfl rfl
      have hix := idxFn0
      have hbx := (Box2.mk (w := w) (wr := _) (a := ⟨ak, an, as'⟩) (b := ⟨bk, bn, bs⟩) a0 a1 a2 b0 b1 b2 hsz hbl).drew
      obtain ⟨a0, a1, a2, b0, b1, b2, hsz, hbl⟩ := Box2.drew (w := w) (a := ⟨ak, an, as'⟩) (b := ⟨bk, bn, bs⟩) ⟨a0, a1, a2, b0, b1, b2, hsz, hbl⟩
      simp only at a0 a1 a2 b0 b1 b2
      go_wp2_with fail
      go_region_held3 (fun w' => w'.cell? ⟨w.heap.size, 0, none⟩ = some (.int .i64 ak) ∧ w'.cell? ⟨w.heap.size, 1, none⟩ = some (.int .i64 an) ∧ w'.cell? ⟨w.heap.size, 2, none⟩ = some (.string as') ∧
          w'.cell? ⟨w.heap.size + 1, 0, none⟩ = some (.int .i64 bk) ∧ w'.cell? ⟨w.heap.size + 1, 1, none⟩ = some (.int .i64 bn) ∧ w'.cell? ⟨w.heap.size + 1, 2, none⟩ = some (.string bs))
        (first | go_keep | exact hbx.six | exact hby.six)
        ((first | (go_at_call 67; refine (H1.out _).mono ?_; rintro e w4 ⟨rfl, hb4⟩; have hby := hbx.pure hb4)))
      all_goals
        go_wp2
        go_ret
        exact ⟨by rw [hr]; rfl, hby.below⟩
    · have hr := E1.out rfl rfl
      have hix := idxFn1
      have hbx := (Box2.mk (w := w) (wr := _) (a := ⟨ak, an, as'⟩) (b := ⟨bk, bn, bs⟩) a0 a1 a2 b0 b1 b2 hsz hbl).drew
      obtain ⟨a0, a1, a2, b0, b1, b2, hsz, hbl⟩ := Box2.drew (w := w) (a := ⟨ak, an, as'⟩) (b := ⟨bk, bn, bs⟩) ⟨a0, a1, a2, b0, b1, b2, hsz, hbl⟩
      simp only at a0 a1 a2 b0 b1 b2
      go_wp2_with fail
      go_region_held3 (fun w' => w'.cell? ⟨w.heap.size, 0, none⟩ = some (.int .i64 ak) ∧ w'.cell? ⟨w.heap.size, 1, none⟩ = some (.int .i64 an) ∧ w'.cell? ⟨w.heap.size, 2, none⟩ = some (.string as') ∧
          w'.cell? ⟨w.heap.size + 1, 0, none⟩ = some (.int .i64 bk) ∧ w'.cell? ⟨w.heap.size + 1, 1, none⟩ = some (.int .i64 bn) ∧ w'.cell? ⟨w.heap.size + 1, 2, none⟩ = some (.string bs))
        (first | go_keep | exact hbx.six | exact hby.six)
        ((first | (go_at_call 68; refine (H2.out _).mono ?_; rintro e w4 ⟨rfl, hb4⟩; have hby := hbx.pure hb4)))
      all_goals
        go_wp2
        go_ret
        exact ⟨by rw [hr]; rfl, hby.below⟩
    · have hr := E2.out rfl rfl
      have hix := idxFn2
      have hbx := (Box2.mk (w := w) (wr := _) (a := ⟨ak, an, as'⟩) (b := ⟨bk, bn, bs⟩) a0 a1 a2 b0 b1 b2 hsz hbl).drew
      obtain ⟨a0, a1, a2, b0, b1, b2, hsz, hbl⟩ := Box2.drew (w := w) (a := ⟨ak, an, as'⟩) (b := ⟨bk, bn, bs⟩) ⟨a0, a1, a2, b0, b1, b2, hsz, hbl⟩
      simp only at a0 a1 a2 b0 b1 b2
      go_wp2_with fail
      go_region_held3 (fun w' => w'.cell? ⟨w.heap.size, 0, none⟩ = some (.int .i64 ak) ∧ w'.cell? ⟨w.heap.size, 1, none⟩ = some (.int .i64 an) ∧ w'.cell? ⟨w.heap.size, 2, none⟩ = some (.string as') ∧
          w'.cell? ⟨w.heap.size + 1, 0, none⟩ = some (.int .i64 bk) ∧ w'.cell? ⟨w.heap.size + 1, 1, none⟩ = some (.int .i64 bn) ∧ w'.cell? ⟨w.heap.size + 1, 2, none⟩ = some (.string bs))
        (first | go_keep | exact hbx.six | exact hby.six)
        ((first | (go_at_call 69; refine (H3.out _).mono ?_; rintro e w4 ⟨rfl, hb4⟩; have hby := hbx.pure hb4)))
      all_goals
        go_wp2
        go_ret
        exact ⟨by rw [hr]; rfl, hby.below⟩
  · have hne : (cmpInt ca cb == 0) = false := by
      unfold cmpInt
      repeat' split
      all_goals first | rfl | omega
    rw [← EN.out hab] at hne ⊢
    go_wp2_with fail
    go_ret
    exact ⟨rfl, hbl⟩
end Go.Proofs.YtkldimaoafgolaaDoor
/- The order of rows: more walks. -/
namespace Go.Proofs.YtkldimaoafgolaaDoor
open Go.RowKit

set_option maxRecDepth 100000 in
set_option maxHeartbeats 1000000 in
theorem refCmpVals_any (a b : Val) (w : World) :
    Calls Tryd.prog 31 #[a.v, b.v] w fun e w' => e = .returned (.int .i64 (cmpVal a b)) ∧ Below w.heap.size w w' := by
  obtain ⟨ak, an, as'⟩ := a
  obtain ⟨bk, bn, bs⟩ := b
  have H0 := (Box2.start w ⟨ak, an, as'⟩ ⟨bk, bn, bs⟩ 30).drew
  obtain ⟨a0, a1, a2, b0, b1, b2, hsz, hbl⟩ := id H0
  simp only at a0 a1 a2 b0 b1 b2 H0
  go_enter Tryd.func31, Tryd.ntmps31
  by_cases hab : cls ⟨ak, an, as'⟩ = cls ⟨bk, bn, bs⟩
  · have hq : (cls ⟨ak, an, as'⟩ == cls ⟨bk, bn, bs⟩) = true := by simpa using hab
    go_wp2_with fail
    go_region_held3 (fun w' => w'.cell? ⟨w.heap.size, 0, none⟩ = some (.int .i64 ak) ∧ w'.cell? ⟨w.heap.size, 1, none⟩ = some (.int .i64 an) ∧ w'.cell? ⟨w.heap.size, 2, none⟩ = some (.string as') ∧
        w'.cell? ⟨w.heap.size + 1, 0, none⟩ = some (.int .i64 bk) ∧ w'.cell? ⟨w.heap.size + 1, 1, none⟩ = some (.int .i64 bn) ∧ w'.cell? ⟨w.heap.size + 1, 2, none⟩ = some (.string bs))
      (first | go_keep | exact Box2.six (a := ⟨ak, an, as'⟩) (b := ⟨bk, bn, bs⟩) (by assumption))
      ((go_at_call 71; refine (refClass_any ⟨_, _, _⟩ _).mono ?_; rintro e wa ⟨rfl, hba⟩; have hbx := Box2.pure (w := w) (a := ⟨ak, an, as'⟩) (b := ⟨bk, bn, bs⟩) (by assumption) hba; clear hba))
    all_goals
      clear H0 a0 a1 a2 b0 b1 b2 hsz hbl
      obtain ⟨a0, a1, a2, b0, b1, b2, hsz, hbl⟩ := id hbx
      simp only at a0 a1 a2 b0 b1 b2
      rcases cls_cases ⟨ak, an, as'⟩ with h0 | h0 | h0
      · have HR := Lib.hid (cmpVal_0 (a := ⟨ak, an, as'⟩) (b := ⟨bk, bn, bs⟩) h0 (hab.symm.trans h0))
        clear hab hq
        have q1 : (cls ⟨ak, an, as'⟩ == 1) = false := by rw [h0]; rfl
        have q2 : (cls ⟨ak, an, as'⟩ == 2) = false := by rw [h0]; rfl
        go_wp2_with (go_at_call 71; refine (refClass_any ⟨_, _, _⟩ _).mono ?_; rintro e wa ⟨rfl, hba⟩; have hbx := Box2.pure (w := w) (a := ⟨ak, an, as'⟩) (b := ⟨bk, bn, bs⟩) (by assumption) hba; clear hba; obtain ⟨a0, a1, a2, b0, b1, b2, hsz, hbl⟩ := id hbx; simp only at a0 a1 a2 b0 b1 b2)
        go_ret
        exact ⟨by rw [HR.out]; rfl, Box2.below (w := w) (a := ⟨ak, an, as'⟩) (b := ⟨bk, bn, bs⟩) (by assumption)⟩
      · have HR := Lib.hid (cmpVal_1 (a := ⟨ak, an, as'⟩) (b := ⟨bk, bn, bs⟩) h0 (hab.symm.trans h0))
        clear hab hq
        have q1 : (cls ⟨ak, an, as'⟩ == 1) = true := by rw [h0]; rfl
        have q2 : (cls ⟨ak, an, as'⟩ == 2) = false := by rw [h0]; rfl
        have HI := Lib.hid (show cmpInt an bn = if an < bn then -1 else if bn < an then 1 else 0 from rfl)
        rcases Int.lt_trichotomy an bn with hlt | heq | hgt
        · have HI := Lib.hid (HI.out.trans (if_pos hlt))
          go_wp2_with (go_at_call 71; refine (refClass_any ⟨_, _, _⟩ _).mono ?_; rintro e wa ⟨rfl, hba⟩; have hbx := Box2.pure (w := w) (a := ⟨ak, an, as'⟩) (b := ⟨bk, bn, bs⟩) (by assumption) hba; clear hba; obtain ⟨a0, a1, a2, b0, b1, b2, hsz, hbl⟩ := id hbx; simp only at a0 a1 a2 b0 b1 b2)
          go_ret
          exact ⟨by rw [HR.out]; show _ = Ending.returned (Value.int .i64 (cmpInt an bn)); rw [HI.out]; rfl, Box2.below (w := w) (a := ⟨ak, an, as'⟩) (b := ⟨bk, bn, bs⟩) (by assumption)⟩
        · have HI := Lib.hid ((HI.out.trans (if_neg (by omega))).trans (if_neg (by omega)))
          go_wp2_with (go_at_call 71; refine (refClass_any ⟨_, _, _⟩ _).mono ?_; rintro e wa ⟨rfl, hba⟩; have hbx := Box2.pure (w := w) (a := ⟨ak, an, as'⟩) (b := ⟨bk, bn, bs⟩) (by assumption) hba; clear hba; obtain ⟨a0, a1, a2, b0, b1, b2, hsz, hbl⟩ := id hbx; simp only at a0 a1 a2 b0 b1 b2)
          go_ret
          exact ⟨by rw [HR.out]; show _ = Ending.returned (Value.int .i64 (cmpInt an bn)); rw [HI.out]; rfl, Box2.below (w := w) (a := ⟨ak, an, as'⟩) (b := ⟨bk, bn, bs⟩) (by assumption)⟩
        · have HI := Lib.hid ((HI.out.trans (if_neg (by omega))).trans (if_pos hgt))
          go_wp2_with (go_at_call 71; refine (refClass_any ⟨_, _, _⟩ _).mono ?_; rintro e wa ⟨rfl, hba⟩; have hbx := Box2.pure (w := w) (a := ⟨ak, an, as'⟩) (b := ⟨bk, bn, bs⟩) (by assumption) hba; clear hba; obtain ⟨a0, a1, a2, b0, b1, b2, hsz, hbl⟩ := id hbx; simp only at a0 a1 a2 b0 b1 b2)
          go_ret
          exact ⟨by rw [HR.out]; show _ = Ending.returned (Value.int .i64 (cmpInt an bn)); rw [HI.out]; rfl, Box2.below (w := w) (a := ⟨ak, an, as'⟩) (b := ⟨bk, bn, bs⟩) (by assumption)⟩
      · have HR := Lib.hid (cmpVal_2 (a := ⟨ak, an, as'⟩) (b := ⟨bk, bn, bs⟩) h0 (hab.symm.trans h0))
        clear hab hq
        have q1 : (cls ⟨ak, an, as'⟩ == 1) = false := by rw [h0]; rfl
        have q2 : (cls ⟨ak, an, as'⟩ == 2) = true := by rw [h0]; rfl
        have HR := Lib.hid (show cmpVal ⟨ak, an, as'⟩ ⟨bk, bn, bs⟩ = cmpBytes as'.toList bs.toList from HR.out)
        have hl0 := bytesLess_cmp as'.toList bs.toList
        have hg0 := bytesGtr_cmp as'.toList bs.toList
        rcases cmpBytes_good.range as'.toList bs.toList with hc | hc | hc
        · have HI := Lib.hid hc
          have hl : Op.bytesLess as'.toList bs.toList = true := by rw [hl0, hc]; rfl
          clear hl0 hg0 hc
          go_wp2_with (go_at_call 71; refine (refClass_any ⟨_, _, _⟩ _).mono ?_; rintro e wa ⟨rfl, hba⟩; have hbx := Box2.pure (w := w) (a := ⟨ak, an, as'⟩) (b := ⟨bk, bn, bs⟩) (by assumption) hba; clear hba; obtain ⟨a0, a1, a2, b0, b1, b2, hsz, hbl⟩ := id hbx; simp only at a0 a1 a2 b0 b1 b2)
          go_ret
          exact ⟨by rw [HR.out, HI.out]; rfl, Box2.below (w := w) (a := ⟨ak, an, as'⟩) (b := ⟨bk, bn, bs⟩) (by assumption)⟩
        · have HI := Lib.hid hc
          have hl : Op.bytesLess as'.toList bs.toList = false := by rw [hl0, hc]; rfl
          have hg : (!(Op.bytesLess as'.toList bs.toList || as'.toList == bs.toList)) = false := by rw [hg0, hc]; rfl
          rw [hl, Bool.false_or] at hg
          clear hl0 hg0 hc
          go_wp2_with (go_at_call 71; refine (refClass_any ⟨_, _, _⟩ _).mono ?_; rintro e wa ⟨rfl, hba⟩; have hbx := Box2.pure (w := w) (a := ⟨ak, an, as'⟩) (b := ⟨bk, bn, bs⟩) (by assumption) hba; clear hba; obtain ⟨a0, a1, a2, b0, b1, b2, hsz, hbl⟩ := id hbx; simp only at a0 a1 a2 b0 b1 b2)
          go_ret
          exact ⟨by rw [HR.out, HI.out]; rfl, Box2.below (w := w) (a := ⟨ak, an, as'⟩) (b := ⟨bk, bn, bs⟩) (by assumption)⟩
        · have HI := Lib.hid hc
          have hl : Op.bytesLess as'.toList bs.toList = false := by rw [hl0, hc]; rfl
          have hg : (!(Op.bytesLess as'.toList bs.toList || as'.toList == bs.toList)) = true := by rw [hg0, hc]; rfl
          rw [hl, Bool.false_or] at hg
          clear hl0 hg0 hc
          go_wp2_with (go_at_call 71; refine (refClass_any ⟨_, _, _⟩ _).mono ?_; rintro e wa ⟨rfl, hba⟩; have hbx := Box2.pure (w := w) (a := ⟨ak, an, as'⟩) (b := ⟨bk, bn, bs⟩) (by assumption) hba; clear hba; obtain ⟨a0, a1, a2, b0, b1, b2, hsz, hbl⟩ := id hbx; simp only at a0 a1 a2 b0 b1 b2)
          go_ret
          exact ⟨by rw [HR.out, HI.out]; rfl, Box2.below (w := w) (a := ⟨ak, an, as'⟩) (b := ⟨bk, bn, bs⟩) (by assumption)⟩
  · have hq : (cls ⟨ak, an, as'⟩ == cls ⟨bk, bn, bs⟩) = false := by simpa using hab
    have HR := Lib.hid (cmpVal_cls (a := ⟨ak, an, as'⟩) (b := ⟨bk, bn, bs⟩) hab)
    have HI := Lib.hid (show cmpInt (cls ⟨ak, an, as'⟩) (cls ⟨bk, bn, bs⟩) = if cls ⟨ak, an, as'⟩ < cls ⟨bk, bn, bs⟩ then -1 else if cls ⟨bk, bn, bs⟩ < cls ⟨ak, an, as'⟩ then 1 else 0 from rfl)
    go_wp2_with fail
    go_region_held3 (fun w' => w'.cell? ⟨w.heap.size, 0, none⟩ = some (.int .i64 ak) ∧ w'.cell? ⟨w.heap.size, 1, none⟩ = some (.int .i64 an) ∧ w'.cell? ⟨w.heap.size, 2, none⟩ = some (.string as') ∧
        w'.cell? ⟨w.heap.size + 1, 0, none⟩ = some (.int .i64 bk) ∧ w'.cell? ⟨w.heap.size + 1, 1, none⟩ = some (.int .i64 bn) ∧ w'.cell? ⟨w.heap.size + 1, 2, none⟩ = some (.string bs))
      (first | go_keep | exact Box2.six (a := ⟨ak, an, as'⟩) (b := ⟨bk, bn, bs⟩) (by assumption))
      ((go_at_call 71; refine (refClass_any ⟨_, _, _⟩ _).mono ?_; rintro e wa ⟨rfl, hba⟩; have hbx := Box2.pure (w := w) (a := ⟨ak, an, as'⟩) (b := ⟨bk, bn, bs⟩) (by assumption) hba; clear hba))
    all_goals
      go_wp2_with fail
      clear H0 a0 a1 a2 b0 b1 b2 hsz hbl
      obtain ⟨a0, a1, a2, b0, b1, b2, hsz, hbl⟩ := id (Box2.drew (w := w) (a := ⟨ak, an, as'⟩) (b := ⟨bk, bn, bs⟩) hbx)
      simp only at a0 a1 a2 b0 b1 b2
      have hby := Box2.drew (w := w) (a := ⟨ak, an, as'⟩) (b := ⟨bk, bn, bs⟩) hbx
      clear hbx
      go_region_held3 (fun w' => w'.cell? ⟨w.heap.size, 0, none⟩ = some (.int .i64 ak) ∧ w'.cell? ⟨w.heap.size, 1, none⟩ = some (.int .i64 an) ∧ w'.cell? ⟨w.heap.size, 2, none⟩ = some (.string as') ∧
        w'.cell? ⟨w.heap.size + 1, 0, none⟩ = some (.int .i64 bk) ∧ w'.cell? ⟨w.heap.size + 1, 1, none⟩ = some (.int .i64 bn) ∧ w'.cell? ⟨w.heap.size + 1, 2, none⟩ = some (.string bs))
        (first | go_keep | exact Box2.six (a := ⟨ak, an, as'⟩) (b := ⟨bk, bn, bs⟩) (by assumption))
        ((go_at_call 71; refine (refClass_any ⟨_, _, _⟩ _).mono ?_; rintro e wa ⟨rfl, hba⟩; have hbx := Box2.pure (w := w) (a := ⟨ak, an, as'⟩) (b := ⟨bk, bn, bs⟩) (by assumption) hba; clear hba))
      all_goals
        by_cases hlt : cls ⟨ak, an, as'⟩ < cls ⟨bk, bn, bs⟩
        · have HI := Lib.hid (HI.out.trans (if_pos hlt))
          go_wp2
          go_ret
          exact ⟨by rw [HR.out, HI.out]; rfl, hbx.below⟩
        · have HI := Lib.hid ((HI.out.trans (if_neg hlt)).trans (if_pos (by omega)))
          go_wp2
          go_ret
          exact ⟨by rw [HR.out, HI.out]; rfl, hbx.below⟩
end Go.Proofs.YtkldimaoafgolaaDoor
