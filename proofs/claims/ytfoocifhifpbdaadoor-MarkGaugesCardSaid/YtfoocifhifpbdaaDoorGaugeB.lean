/- Gauges of both packages: the reference's, Close, Closed, Text; a nil gauge. -/
import Derived.Test.YtfoocifhifpbdaaDoorGaugeA
import Derived.Test.YtfoocifhifpbdaaDoorGText
import Derived.Test.YtfoocifhifpbdaaDoorItoa
import Derived.Deep.RegionHeld3
namespace Go.Proofs.YtfoocifhifpbdaaDoor
open Go.RowKit

set_option maxHeartbeats 400000 in
theorem rwithin_any (n lo hi : Int) (w : World) :
    Calls Tryd.prog 28 #[.int .i64 n, .int .i64 lo, .int .i64 hi] w fun e w' => e = .returned (.bool (decide (lo ≤ n ∧ n ≤ hi))) ∧ w = w' := by
  by_cases h1 : lo ≤ n <;> by_cases h2 : n ≤ hi
  all_goals
    go_enter Tryd.func28, Tryd.ntmps28
    go_wp2
    go_ret
    exact ⟨by simp [*], rfl⟩

set_option maxHeartbeats 400000 in
theorem rvalid_any (n : Int) (w : World) :
    Calls Tryd.prog 31 #[.int .i64 n] w fun e w' => e = .returned (.bool (decide (-1000000000000 ≤ n ∧ n ≤ 1000000000000))) ∧ w = w' := by
  by_cases h1 : -1000000000000 ≤ n <;> by_cases h2 : n ≤ 1000000000000
  all_goals
    go_enter Tryd.func31, Tryd.ntmps31
    go_wp2
    go_ret
    exact ⟨by simp [*], rfl⟩

set_option maxHeartbeats 400000 in
theorem rnew_any (b : Int) (w : World) :
    Calls Tryd.prog 16 #[.int .i64 b] w (NewGauge w b) := by
  by_cases h : 0 ≤ b ∧ b ≤ 1000000000
  · have hd : decide (0 ≤ b ∧ b ≤ 1000000000) = true := by simp; omega
    have H := Lib.hid h
    clear h
    go_enter Tryd.func16, Tryd.ntmps16
    go_wp2_with (go_at_call 28; refine (rwithin_any _ _ _ _).mono ?_; rintro e w' ⟨rfl, rfl⟩)
    go_ret2
    unfold NewGauge
    rw [if_pos H.out]
    exact ⟨rfl, GaugeAt.made (heap_alloc_new w _) ⟨H.out.1, H.out.2, by simp, by simp⟩, by simp, (Below.refl _ _).alloc (Nat.le_refl _) _⟩
  · have hd : decide (0 ≤ b ∧ b ≤ 1000000000) = false := by simp; omega
    have H := Lib.hid h
    clear h
    go_enter Tryd.func16, Tryd.ntmps16
    go_wp2_with (go_at_call 28; refine (rwithin_any _ _ _ _).mono ?_; rintro e w' ⟨rfl, rfl⟩)
    go_ret2
    unfold NewGauge
    rw [if_neg H.out]
    exact ⟨rfl, rfl⟩

set_option maxHeartbeats 400000 in
theorem rmark_any (g : Nat) (x : Gauge) (w : World) (hx : GaugeAt w g x) :
    Calls Tryd.prog 10 #[.pointer (some ⟨g, 0, none⟩)] w fun e w' => e = .returned (.int .i64 x.mark) ∧ w = w' := by
  obtain ⟨c0, c1, c2, fr, ok⟩ := hx
  clear fr ok
  go_enter Tryd.func10, Tryd.ntmps10
  go_wp2
  go_ret
  exact ⟨rfl, rfl⟩

set_option maxHeartbeats 400000 in
theorem rsee_any (g : Nat) (x : Gauge) (t : Int) (w : World) (hx : GaugeAt w g x) :
    Calls Tryd.prog 14 #[.pointer (some ⟨g, 0, none⟩), .int .i64 t] w (Seen w g (x.see t)) := by
  obtain ⟨b0, b1, m0, m1⟩ := hx.ok
  have c0 := hx.c0
  have c1 := hx.c1
  have c2 := hx.c2
  have fr := hx.fr 1
  by_cases ht : -1000000000000 ≤ t ∧ t ≤ 1000000000000
  · have hd : decide (-1000000000000 ≤ t ∧ t ≤ 1000000000000) = true := by simp; omega
    obtain ⟨ht0, ht1⟩ := ht
    have HT := Lib.hid (And.intro ht0 ht1)
    cases hc : x.closed
    · have HS := Lib.hid (show x.see t = ({ x with mark := max x.mark (t - x.bound + 1) }, decide (t < x.mark), 0) by unfold Gauge.see; rw [if_neg (by simp; omega), if_neg (by simp [hc])])
      rw [hc] at c2
      clear hc
      go_enter Tryd.func14, Tryd.ntmps14
      go_wp2_with (first | (go_at_call 31; refine (rvalid_any _ _).mono ?_; rintro e w' ⟨rfl, rfl⟩) | go_in)
      go_region
      all_goals go_wp2
      all_goals go_ret2
      all_goals
        refine ⟨by rw [HS.out]; rfl, ?_, ((Keeps.refl _ _).setCell (by simp) _).drew⟩
        rw [HS.out]
        refine GaugeAt.keeps (w := w.setCell ⟨g, 1, none⟩ (.int .i64 (max x.mark (t - x.bound + 1)))) (hx.set (by omega) (by omega)) ?_
        have e : ∀ n : Int, n = max x.mark (t - x.bound + 1) → (w.setCell ⟨g, 1, none⟩ (.int .i64 n)).drew.heap[g]? = (w.setCell ⟨g, 1, none⟩ (.int .i64 (max x.mark (t - x.bound + 1)))).heap[g]? := fun n hn => by rw [hn]; rfl
        exact e _ (by omega)
    · have HS := Lib.hid (show x.see t = (x, false, 10) by unfold Gauge.see; rw [if_neg (by simp; omega), if_pos hc])
      rw [hc] at c2
      clear hc
      go_enter Tryd.func14, Tryd.ntmps14
      go_wp2_with (go_at_call 31; refine (rvalid_any _ _).mono ?_; rintro e w' ⟨rfl, rfl⟩)
      go_ret2
      exact ⟨by rw [HS.out]; rfl, by rw [HS.out]; exact hx, Keeps.refl _ _⟩
  · have hd : decide (-1000000000000 ≤ t ∧ t ≤ 1000000000000) = false := by simp; omega
    have HS := Lib.hid (show x.see t = (x, false, 7) by unfold Gauge.see; rw [if_pos ht])
    clear ht
    go_enter Tryd.func14, Tryd.ntmps14
    go_wp2_with (go_at_call 31; refine (rvalid_any _ _).mono ?_; rintro e w' ⟨rfl, rfl⟩)
    go_ret2
    exact ⟨by rw [HS.out]; rfl, by rw [HS.out]; exact hx, Keeps.refl _ _⟩

def Gauge.shut (x : Gauge) : Gauge := { x with mark := 1000000000001, closed := true }
theorem Gauge.shut_ok {x : Gauge} (h : x.ok) : x.shut.ok := ⟨h.b0, h.b1, by simp [Gauge.shut], by simp [Gauge.shut]⟩
theorem GaugeAt.shut {w : World} {g : Nat} {x : Gauge} (k : GaugeAt w g x) : GaugeAt ((w.setCell ⟨g, 1, none⟩ (.int .i64 1000000000001)).setCell ⟨g, 2, none⟩ (.bool true)) g x.shut :=
  ⟨(cell_other _ (by simp)).trans ((cell_other _ (by simp)).trans k.c0), (cell_other _ (by simp)).trans (World.cell?_setCell_same _ _ _ k.c1), World.cell?_setCell_same _ _ _ ((cell_other _ (by simp)).trans k.c2),
   fun o => (frozen_set _ _ _ _).trans ((frozen_set _ _ _ _).trans (k.fr o)), Gauge.shut_ok k.ok⟩
theorem GaugeAt.shut' {w : World} {g : Nat} {x : Gauge} (k : GaugeAt w g x) : GaugeAt ((w.setCell ⟨g, 2, none⟩ (.bool true)).setCell ⟨g, 1, none⟩ (.int .i64 1000000000001)) g x.shut :=
  ⟨(cell_other _ (by simp)).trans ((cell_other _ (by simp)).trans k.c0), World.cell?_setCell_same _ _ _ ((cell_other _ (by simp)).trans k.c1), (cell_other _ (by simp)).trans (World.cell?_setCell_same _ _ _ k.c2),
   fun o => (frozen_set _ _ _ _).trans ((frozen_set _ _ _ _).trans (k.fr o)), Gauge.shut_ok k.ok⟩
theorem bytes_app (a b : List UInt8) : (⟨a.toArray⟩ : ByteArray) ++ ⟨b.toArray⟩ = ⟨(a ++ b).toArray⟩ := by
  apply ByteArray.ext
  simp
theorem gText_open (b m : Int) : (⟨(Lib.itoa b).toArray⟩ : ByteArray) ++ ⟨#[32]⟩ ++ ⟨(Lib.itoa m).toArray⟩ = ⟨(gText b m false).toArray⟩ := by
  rw [show (⟨#[32]⟩ : ByteArray) = ⟨([32] : List UInt8).toArray⟩ from rfl, bytes_app, bytes_app]
  simp [gText, gTail]
theorem gText_shut (b m : Int) : (⟨(Lib.itoa b).toArray⟩ : ByteArray) ++ ⟨#[32, 99, 108, 111, 115, 101, 100]⟩ = ⟨(gText b m true).toArray⟩ := by
  rw [show (⟨#[32, 99, 108, 111, 115, 101, 100]⟩ : ByteArray) = ⟨(32 :: closedL).toArray⟩ from rfl, bytes_app]
  simp [gText, gTail]
theorem bytes_size (l : List UInt8) : (⟨l.toArray⟩ : ByteArray).size = l.length := by simp [ByteArray.size]
def Gauge.text (x : Gauge) : ByteArray := ⟨(gText x.bound x.mark x.closed).toArray⟩


set_option maxHeartbeats 1000000 in
theorem gclose_any (g : Nat) (x : Gauge) (w : World) (hx : GaugeAt w g x) :
    Calls Tryd.prog 18 #[.pointer (some ⟨g, 0, none⟩)] w fun e w' => e = .returned (.tuple #[]) ∧ GaugeAt w' g x.shut ∧ Keeps (fun k => k = g) w w' := by
  have c1 := hx.c1
  have c2 := hx.c2
  have f1 := hx.fr 1
  have f2 := hx.fr 2
  have HX := Lib.hid hx
  clear hx
  go_enter Tryd.func18, Tryd.ntmps18
  go_wp2
  go_end0
  first
    | exact ⟨rfl, HX.out.shut, ((Keeps.refl _ _).setCell (by simp) _).setCell (by simp) _⟩
    | exact ⟨rfl, HX.out.shut', ((Keeps.refl _ _).setCell (by simp) _).setCell (by simp) _⟩

set_option maxHeartbeats 400000 in
theorem gclosed_any (g : Nat) (x : Gauge) (w : World) (hx : GaugeAt w g x) :
    Calls Tryd.prog 11 #[.pointer (some ⟨g, 0, none⟩)] w fun e w' => e = .returned (.bool x.closed) ∧ w = w' := by
  have c2 := hx.c2
  clear hx
  go_enter Tryd.func11, Tryd.ntmps11
  go_wp2
  go_ret
  exact ⟨rfl, rfl⟩

set_option maxHeartbeats 2000000 in
theorem gtext_any (g : Nat) (x : Gauge) (w : World) (hx : GaugeAt w g x) (ht : Tryd.Tab w) :
    Calls Tryd.prog 8 #[.pointer (some ⟨g, 0, none⟩)] w fun e w' => e = .returned (.string x.text) ∧ Below w.heap.size w w' := by
  have ib : inI64 x.bound := ⟨by have := hx.ok.b0; omega, by have := hx.ok.b1; omega⟩
  have im : inI64 x.mark := ⟨by have := hx.ok.m0; omega, by have := hx.ok.m1; omega⟩
  have HI := Lib.hid (fun wr (h : Below w.heap.size w wr) => itoa_any x.bound ib wr (Tryd.tabStays ht h))
  have HJ := Lib.hid (fun wr (h : Below w.heap.size w wr) => itoa_any x.mark im wr (Tryd.tabStays ht h))
  have hs1 : (⟨(Lib.itoa x.bound).toArray⟩ : ByteArray).size ≤ 21 := by rw [bytes_size]; exact itoa_len ib
  have hs2 : (⟨(Lib.itoa x.mark).toArray⟩ : ByteArray).size ≤ 21 := by rw [bytes_size]; exact itoa_len im
  have HT := Lib.hid (show x.text = ⟨(gText x.bound x.mark x.closed).toArray⟩ from rfl)
  have HO := Lib.hid (gText_open x.bound x.mark)
  have HS := Lib.hid (gText_shut x.bound x.mark)
  have c0 := hx.c0
  have c1 := hx.c1
  have c2 := hx.c2
  generalize (⟨(Lib.itoa x.bound).toArray⟩ : ByteArray) = s1 at *
  generalize (⟨(Lib.itoa x.mark).toArray⟩ : ByteArray) = s2 at *
  have hn1 : ¬ 9223372036854775807 < s1.size + 1 + s2.size := by omega
  have hn2 : ¬ 9223372036854775807 < s1.size + 1 := by omega
  have hn3 : ¬ 9223372036854775807 < s1.size + 7 := by omega
  cases hc : x.closed
  · rw [hc] at c2 HT
    go_enter Tryd.func8, Tryd.ntmps8
    go_wp2_with (first | (go_at_call 11; refine (gclosed_any _ _ _ hx).mono ?_; rintro e w' ⟨rfl, rfl⟩) | fail)
    have hBd : Below w.heap.size w w.drew := (Below.refl _ _).drew
    have d0 : w.drew.cell? ⟨g, 0, none⟩ = some (.int .i64 x.bound) := c0
    have d1 : w.drew.cell? ⟨g, 1, none⟩ = some (.int .i64 x.mark) := c1
    clear c0 c1 c2
    go_region_held3 (fun w' => w'.cell? ⟨g, 0, none⟩ = some (.int .i64 x.bound) ∧ w'.cell? ⟨g, 1, none⟩ = some (.int .i64 x.mark))
      (first | go_keep | exact ⟨below_mem (by assumption) _ _ _ d0, below_mem (by assumption) _ _ _ d1⟩)
      ((first
        | (go_at_call_of 29 (Value.int .i64 x.bound); refine (HI.out _ (by first | exact hBd | exact pure_trans hBd (by assumption))).mono ?_; rintro e w2 ⟨rfl, hbc⟩; have hbx : Below w.drew.heap.size w.drew w2 := by first | exact hbc | exact pure_trans (by assumption) hbc)
        | (go_at_call_of 29 (Value.int .i64 x.mark); refine (HJ.out _ (by first | exact hBd | exact pure_trans hBd (by assumption))).mono ?_; rintro e w3 ⟨rfl, hbd⟩; have hby : Below w.drew.heap.size w.drew w3 := by first | exact hbd | exact pure_trans (by assumption) hbd)))
    all_goals
      have hB1 := pure_trans hBd (by assumption)
      go_wp2
      go_ret
      exact ⟨by rw [HT.out, ← HO.out]; rfl, hB1⟩
  · rw [hc] at c2 HT
    go_enter Tryd.func8, Tryd.ntmps8
    go_wp2_with (first | (go_at_call 11; refine (gclosed_any _ _ _ hx).mono ?_; rintro e w' ⟨rfl, rfl⟩) | (go_at_call 29; refine (HI.out _ (Below.refl _ _)).mono ?_; rintro e w1 ⟨rfl, hB⟩))
    go_ret
    exact ⟨by rw [HT.out, ← HS.out]; rfl, hB⟩

/-! A nil gauge. -/
set_option maxHeartbeats 400000 in
theorem gclose_nil (w : World) : Calls Tryd.prog 18 #[.pointer none] w fun e w' => e = .returned (.tuple #[]) ∧ w = w' := by
  go_enter Tryd.func18, Tryd.ntmps18
  go_wp2
  go_end0
  exact ⟨rfl, rfl⟩
set_option maxHeartbeats 400000 in
theorem gclosed_nil (w : World) : Calls Tryd.prog 11 #[.pointer none] w fun e w' => e = .returned (.bool false) ∧ w = w' := by
  go_enter Tryd.func11, Tryd.ntmps11
  go_wp2
  go_ret
  exact ⟨rfl, rfl⟩
set_option maxHeartbeats 400000 in
theorem gtext_nil (w : World) : Calls Tryd.prog 8 #[.pointer none] w fun e w' => e = .returned (.string ⟨#[]⟩) ∧ w = w' := by
  go_enter Tryd.func8, Tryd.ntmps8
  go_wp2
  go_ret
  exact ⟨rfl, rfl⟩
set_option maxHeartbeats 400000 in
theorem gmark_nil (w : World) : Calls Tryd.prog 9 #[.pointer none] w fun e w' => e = .returned (.int .i64 (-1000000000000)) ∧ w = w' := by
  go_enter Tryd.func9, Tryd.ntmps9
  go_wp2
  go_ret
  exact ⟨rfl, rfl⟩
set_option maxHeartbeats 400000 in
theorem gsee_nil (t : Int) (w : World) : Calls Tryd.prog 13 #[.pointer none, .int .i64 t] w fun e w' => e = .returned (.tuple #[.bool false, .int .i64 1]) ∧ w = w' := by
  go_enter Tryd.func13, Tryd.ntmps13
  go_wp2
  go_ret2
  exact ⟨rfl, rfl⟩

set_option maxHeartbeats 1000000 in
theorem rclose_any (g : Nat) (x : Gauge) (w : World) (hx : GaugeAt w g x) :
    Calls Tryd.prog 19 #[.pointer (some ⟨g, 0, none⟩)] w fun e w' => e = .returned (.tuple #[]) ∧ GaugeAt w' g x.shut ∧ Keeps (fun k => k = g) w w' := by
  have c1 := hx.c1
  have c2 := hx.c2
  have f1 := hx.fr 1
  have f2 := hx.fr 2
  have HX := Lib.hid hx
  clear hx
  go_enter Tryd.func19, Tryd.ntmps19
  go_wp2
  go_end0
  first
    | exact ⟨rfl, HX.out.shut, ((Keeps.refl _ _).setCell (by simp) _).setCell (by simp) _⟩
    | exact ⟨rfl, HX.out.shut', ((Keeps.refl _ _).setCell (by simp) _).setCell (by simp) _⟩

set_option maxHeartbeats 400000 in
theorem rclosed_any (g : Nat) (x : Gauge) (w : World) (hx : GaugeAt w g x) :
    Calls Tryd.prog 12 #[.pointer (some ⟨g, 0, none⟩)] w fun e w' => e = .returned (.bool x.closed) ∧ w = w' := by
  have c2 := hx.c2
  clear hx
  go_enter Tryd.func12, Tryd.ntmps12
  go_wp2
  go_ret
  exact ⟨rfl, rfl⟩

set_option maxHeartbeats 2000000 in
theorem rtext_any (g : Nat) (x : Gauge) (w : World) (hx : GaugeAt w g x) (ht : Tryd.Tab w) :
    Calls Tryd.prog 20 #[.pointer (some ⟨g, 0, none⟩)] w fun e w' => e = .returned (.string x.text) ∧ Below w.heap.size w w' := by
  have ib : inI64 x.bound := ⟨by have := hx.ok.b0; omega, by have := hx.ok.b1; omega⟩
  have im : inI64 x.mark := ⟨by have := hx.ok.m0; omega, by have := hx.ok.m1; omega⟩
  have HI := Lib.hid (fun wr (h : Below w.heap.size w wr) => itoa_any x.bound ib wr (Tryd.tabStays ht h))
  have HJ := Lib.hid (fun wr (h : Below w.heap.size w wr) => itoa_any x.mark im wr (Tryd.tabStays ht h))
  have hs1 : (⟨(Lib.itoa x.bound).toArray⟩ : ByteArray).size ≤ 21 := by rw [bytes_size]; exact itoa_len ib
  have hs2 : (⟨(Lib.itoa x.mark).toArray⟩ : ByteArray).size ≤ 21 := by rw [bytes_size]; exact itoa_len im
  have HT := Lib.hid (show x.text = ⟨(gText x.bound x.mark x.closed).toArray⟩ from rfl)
  have HO := Lib.hid (gText_open x.bound x.mark)
  have HS := Lib.hid (gText_shut x.bound x.mark)
  have c0 := hx.c0
  have c1 := hx.c1
  have c2 := hx.c2
  generalize (⟨(Lib.itoa x.bound).toArray⟩ : ByteArray) = s1 at *
  generalize (⟨(Lib.itoa x.mark).toArray⟩ : ByteArray) = s2 at *
  have hn1 : ¬ 9223372036854775807 < s1.size + 1 + s2.size := by omega
  have hn2 : ¬ 9223372036854775807 < s1.size + 1 := by omega
  have hn3 : ¬ 9223372036854775807 < s1.size + 7 := by omega
  cases hc : x.closed
  · rw [hc] at c2 HT
    go_enter Tryd.func20, Tryd.ntmps20
    go_wp2_with (first | fail | fail)
    have hBd : Below w.heap.size w w.drew := (Below.refl _ _).drew
    have d0 : w.drew.cell? ⟨g, 0, none⟩ = some (.int .i64 x.bound) := c0
    have d1 : w.drew.cell? ⟨g, 1, none⟩ = some (.int .i64 x.mark) := c1
    clear c0 c1 c2
    go_region_held3 (fun w' => w'.cell? ⟨g, 0, none⟩ = some (.int .i64 x.bound) ∧ w'.cell? ⟨g, 1, none⟩ = some (.int .i64 x.mark))
      (first | go_keep | exact ⟨below_mem (by assumption) _ _ _ d0, below_mem (by assumption) _ _ _ d1⟩)
      ((first
        | (go_at_call_of 29 (Value.int .i64 x.bound); refine (HI.out _ (by first | exact hBd | exact pure_trans hBd (by assumption))).mono ?_; rintro e w2 ⟨rfl, hbc⟩; have hbx : Below w.drew.heap.size w.drew w2 := by first | exact hbc | exact pure_trans (by assumption) hbc)
        | (go_at_call_of 29 (Value.int .i64 x.mark); refine (HJ.out _ (by first | exact hBd | exact pure_trans hBd (by assumption))).mono ?_; rintro e w3 ⟨rfl, hbd⟩; have hby : Below w.drew.heap.size w.drew w3 := by first | exact hbd | exact pure_trans (by assumption) hbd)))
    all_goals
      have hB1 := pure_trans hBd (by assumption)
      go_wp2
      go_ret
      exact ⟨by rw [HT.out, ← HO.out]; rfl, hB1⟩
  · rw [hc] at c2 HT
    go_enter Tryd.func20, Tryd.ntmps20
    go_wp2_with (first | fail | (go_at_call 29; refine (HI.out _ (Below.refl _ _)).mono ?_; rintro e w1 ⟨rfl, hB⟩))
    go_ret
    exact ⟨by rw [HT.out, ← HS.out]; rfl, hB⟩

/-! A nil gauge. -/
set_option maxHeartbeats 400000 in
theorem rclose_nil (w : World) : Calls Tryd.prog 19 #[.pointer none] w fun e w' => e = .returned (.tuple #[]) ∧ w = w' := by
  go_enter Tryd.func19, Tryd.ntmps19
  go_wp2
  go_end0
  exact ⟨rfl, rfl⟩
set_option maxHeartbeats 400000 in
theorem rclosed_nil (w : World) : Calls Tryd.prog 12 #[.pointer none] w fun e w' => e = .returned (.bool false) ∧ w = w' := by
  go_enter Tryd.func12, Tryd.ntmps12
  go_wp2
  go_ret
  exact ⟨rfl, rfl⟩
set_option maxHeartbeats 400000 in
theorem rtext_nil (w : World) : Calls Tryd.prog 20 #[.pointer none] w fun e w' => e = .returned (.string ⟨#[]⟩) ∧ w = w' := by
  go_enter Tryd.func20, Tryd.ntmps20
  go_wp2
  go_ret
  exact ⟨rfl, rfl⟩
set_option maxHeartbeats 400000 in
theorem rmark_nil (w : World) : Calls Tryd.prog 10 #[.pointer none] w fun e w' => e = .returned (.int .i64 (-1000000000000)) ∧ w = w' := by
  go_enter Tryd.func10, Tryd.ntmps10
  go_wp2
  go_ret
  exact ⟨rfl, rfl⟩
set_option maxHeartbeats 400000 in
theorem rsee_nil (t : Int) (w : World) : Calls Tryd.prog 14 #[.pointer none, .int .i64 t] w fun e w' => e = .returned (.tuple #[.bool false, .int .i64 1]) ∧ w = w' := by
  go_enter Tryd.func14, Tryd.ntmps14
  go_wp2
  go_ret2
  exact ⟨rfl, rfl⟩
end Go.Proofs.YtfoocifhifpbdaaDoor
