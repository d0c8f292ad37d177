/- Gauges of both packages that may be nil: one contract for each method. -/
import Derived.Test.YtfoocifhifpbdaaDoorGParse
import Derived.Test.YtfoocifhifpbdaaDoorGParseR
import Derived.Test.YtfoocifhifpbdaaDoorGaugeB
import Derived.Test.YtfoocifhifpbdaaDoorMarkReadsLaw
namespace Go.Proofs.YtfoocifhifpbdaaDoor
open Go.ChangeShapes Go.WideShapes Go.ChangeAt Go.RowKit
set_option maxRecDepth 100000

def markO : Option Gauge → Int | none => -1000000000000 | some y => y.mark
def closedO : Option Gauge → Bool | none => false | some y => y.closed
def seeO (x : Option Gauge) (t : Int) : Option Gauge × Bool × Int := match x with | none => (none, false, 1) | some y => (some (y.see t).1, (y.see t).2.1, (y.see t).2.2)
def shutO (x : Option Gauge) : Option Gauge := x.map Gauge.shut
def textO : Option Gauge → ByteArray | none => ⟨#[]⟩ | some y => y.text
def CanonO : Option Gauge → Prop | none => True | some y => Canon y.bound y.mark y.closed
theorem see_up (y : Gauge) (t : Int) : y.mark ≤ (y.see t).1.mark := by
  unfold Gauge.see
  split
  · exact Int.le_refl _
  · split
    · exact Int.le_refl _
    · simp only; omega
theorem see_late (y : Gauge) (t : Int) (h : (y.see t).2.2 = 0) : (y.see t).2.1 = decide (t < y.mark) := by
  unfold Gauge.see at h ⊢
  split at h
  · simp at h
  · rename_i h1
    rw [if_neg h1]
    split at h
    · simp at h
    · rename_i h2
      rw [if_neg h2]
theorem see_canon {y : Gauge} (h : Canon y.bound y.mark y.closed) (t : Int) : Canon (y.see t).1.bound (y.see t).1.mark (y.see t).1.closed := by
  unfold Gauge.see
  split
  · exact h
  · split
    · exact h
    · rename_i h1 h2
      obtain ⟨b0, b1, cl, op⟩ := h
      have hc : y.closed = false := by simpa using h2
      have := op hc
      exact ⟨b0, b1, fun h => by simp [hc] at h, fun _ => by simp only; omega⟩
theorem seeO_up (x : Option Gauge) (t : Int) : markO x ≤ markO (seeO x t).1 := by
  cases x with
  | none => exact Int.le_refl _
  | some y => exact see_up y t
theorem seeO_late (x : Option Gauge) (t : Int) (h : (seeO x t).2.2 = 0) : (seeO x t).2.1 = decide (t < markO x) := by
  cases x with
  | none => simp [seeO] at h
  | some y => exact see_late y t h
theorem seeO_canon {x : Option Gauge} (h : CanonO x) (t : Int) : CanonO (seeO x t).1 := by
  cases x with
  | none => trivial
  | some y => exact see_canon h t
theorem shutO_up {x : Option Gauge} (h : CanonO x) : markO x ≤ markO (shutO x) := by
  cases x with
  | none => exact Int.le_refl _
  | some y =>
    have := (canon_ok h).m1
    exact this
theorem shutO_canon {x : Option Gauge} (h : CanonO x) : CanonO (shutO x) := by
  cases x with
  | none => trivial
  | some y => exact ⟨h.b0, h.b1, fun _ => rfl, fun h => by cases h⟩

/-- A pointer to a gauge, or nil; the block behind B. -/
def PAt (w : World) (B : Nat) (p : Option Addr) (x : Option Gauge) : Prop :=
  match x with
  | none => p = none
  | some y => ∃ g, B ≤ g ∧ p = some ⟨g, 0, none⟩ ∧ GaugeAt w g y
def blkOf (p : Option Addr) (k : Nat) : Prop := ∃ a, p = some a ∧ a.block = k
theorem PAt.lt {w : World} {B : Nat} {p : Option Addr} {x : Option Gauge} (h : PAt w B p x) {k : Nat} (hk : blkOf p k) : B ≤ k ∧ k < w.heap.size := by
  obtain ⟨a, ha, hb⟩ := hk
  cases x with
  | none => rw [show p = none from h] at ha; cases ha
  | some y =>
    obtain ⟨g, hB, hp, hg⟩ := h
    rw [hp] at ha
    cases ha
    subst hb
    exact ⟨hB, hg.lt⟩
theorem PAt.keeps {w w' : World} {B : Nat} {p : Option Addr} {x : Option Gauge} (h : PAt w B p x) {F : Nat → Prop} (hk : Keeps F w w') (hF : ∀ k, blkOf p k → ¬ F k) : PAt w' B p x := by
  cases x with
  | none => exact h
  | some y =>
    obtain ⟨g, hB, hp, hg⟩ := h
    exact ⟨g, hB, hp, hg.other hk (hF g ⟨_, hp, rfl⟩)⟩
theorem PAt.below {w w' : World} {B : Nat} {p : Option Addr} {x : Option Gauge} (h : PAt w B p x) (hb : Below w.heap.size w w') : PAt w' B p x := by
  cases x with
  | none => exact h
  | some y =>
    obtain ⟨g, hB, hp, hg⟩ := h
    exact ⟨g, hB, hp, hg.keeps (hb.block g hg.lt)⟩
theorem blk_some {g k : Nat} : blkOf (some ⟨g, 0, none⟩) k ↔ k = g := ⟨fun ⟨a, ha, hb⟩ => by cases ha; exact hb.symm, fun h => ⟨_, rfl, h.symm⟩⟩

theorem gO_mark {w : World} {B : Nat} {p : Option Addr} {x : Option Gauge} (h : PAt w B p x) : Calls Tryd.prog 9 #[.pointer p] w fun e w' => e = .returned (.int .i64 (markO x)) ∧ w = w' := by
  cases x with
  | none => obtain rfl : p = none := h; exact gmark_nil w
  | some y => obtain ⟨g, _, rfl, hg⟩ := h; exact gmark_any g y w hg
theorem gO_closed {w : World} {B : Nat} {p : Option Addr} {x : Option Gauge} (h : PAt w B p x) : Calls Tryd.prog 11 #[.pointer p] w fun e w' => e = .returned (.bool (closedO x)) ∧ w = w' := by
  cases x with
  | none => obtain rfl : p = none := h; exact gclosed_nil w
  | some y => obtain ⟨g, _, rfl, hg⟩ := h; exact gclosed_any g y w hg
theorem gO_text {w : World} {B : Nat} {p : Option Addr} {x : Option Gauge} (h : PAt w B p x) (ht : Tryd.Tab w) : Calls Tryd.prog 8 #[.pointer p] w fun e w' => e = .returned (.string (textO x)) ∧ Below w.heap.size w w' := by
  cases x with
  | none => obtain rfl : p = none := h; exact (gtext_nil w).mono fun e w' ⟨he, hw⟩ => ⟨he, hw ▸ Below.refl _ _⟩
  | some y => obtain ⟨g, _, rfl, hg⟩ := h; exact gtext_any g y w hg ht
theorem gO_see {w : World} {B : Nat} {p : Option Addr} {x : Option Gauge} (h : PAt w B p x) (t : Int) : Calls Tryd.prog 13 #[.pointer p, .int .i64 t] w fun e w' => e = .returned (.tuple #[.bool (seeO x t).2.1, .int .i64 (seeO x t).2.2]) ∧ PAt w' B p (seeO x t).1 ∧ Keeps (blkOf p) w w' := by
  cases x with
  | none => obtain rfl : p = none := h; exact (gsee_nil t w).mono fun e w' ⟨he, hw⟩ => ⟨he, rfl, hw ▸ Keeps.refl _ _⟩
  | some y =>
    obtain ⟨g, hB, rfl, hg⟩ := h
    exact (gsee_any g y t w hg).mono fun e w' ⟨he, hw, hk⟩ => ⟨he, ⟨g, hB, rfl, hw⟩, hk.wide (fun k _ hk => blk_some.2 hk)⟩
theorem gO_close {w : World} {B : Nat} {p : Option Addr} {x : Option Gauge} (h : PAt w B p x) : Calls Tryd.prog 18 #[.pointer p] w fun e w' => e = .returned (.tuple #[]) ∧ PAt w' B p (shutO x) ∧ Keeps (blkOf p) w w' := by
  cases x with
  | none => obtain rfl : p = none := h; exact (gclose_nil w).mono fun e w' ⟨he, hw⟩ => ⟨he, rfl, hw ▸ Keeps.refl _ _⟩
  | some y =>
    obtain ⟨g, hB, rfl, hg⟩ := h
    exact (gclose_any g y w hg).mono fun e w' ⟨he, hw, hk⟩ => ⟨he, ⟨g, hB, rfl, hw⟩, hk.wide (fun k _ hk => blk_some.2 hk)⟩


theorem rO_mark {w : World} {B : Nat} {p : Option Addr} {x : Option Gauge} (h : PAt w B p x) : Calls Tryd.prog 10 #[.pointer p] w fun e w' => e = .returned (.int .i64 (markO x)) ∧ w = w' := by
  cases x with
  | none => obtain rfl : p = none := h; exact rmark_nil w
  | some y => obtain ⟨g, _, rfl, hg⟩ := h; exact rmark_any g y w hg
theorem rO_closed {w : World} {B : Nat} {p : Option Addr} {x : Option Gauge} (h : PAt w B p x) : Calls Tryd.prog 12 #[.pointer p] w fun e w' => e = .returned (.bool (closedO x)) ∧ w = w' := by
  cases x with
  | none => obtain rfl : p = none := h; exact rclosed_nil w
  | some y => obtain ⟨g, _, rfl, hg⟩ := h; exact rclosed_any g y w hg
theorem rO_text {w : World} {B : Nat} {p : Option Addr} {x : Option Gauge} (h : PAt w B p x) (ht : Tryd.Tab w) : Calls Tryd.prog 20 #[.pointer p] w fun e w' => e = .returned (.string (textO x)) ∧ Below w.heap.size w w' := by
  cases x with
  | none => obtain rfl : p = none := h; exact (rtext_nil w).mono fun e w' ⟨he, hw⟩ => ⟨he, hw ▸ Below.refl _ _⟩
  | some y => obtain ⟨g, _, rfl, hg⟩ := h; exact rtext_any g y w hg ht
theorem rO_see {w : World} {B : Nat} {p : Option Addr} {x : Option Gauge} (h : PAt w B p x) (t : Int) : Calls Tryd.prog 14 #[.pointer p, .int .i64 t] w fun e w' => e = .returned (.tuple #[.bool (seeO x t).2.1, .int .i64 (seeO x t).2.2]) ∧ PAt w' B p (seeO x t).1 ∧ Keeps (blkOf p) w w' := by
  cases x with
  | none => obtain rfl : p = none := h; exact (rsee_nil t w).mono fun e w' ⟨he, hw⟩ => ⟨he, rfl, hw ▸ Keeps.refl _ _⟩
  | some y =>
    obtain ⟨g, hB, rfl, hg⟩ := h
    exact (rsee_any g y t w hg).mono fun e w' ⟨he, hw, hk⟩ => ⟨he, ⟨g, hB, rfl, hw⟩, hk.wide (fun k _ hk => blk_some.2 hk)⟩
theorem rO_close {w : World} {B : Nat} {p : Option Addr} {x : Option Gauge} (h : PAt w B p x) : Calls Tryd.prog 19 #[.pointer p] w fun e w' => e = .returned (.tuple #[]) ∧ PAt w' B p (shutO x) ∧ Keeps (blkOf p) w w' := by
  cases x with
  | none => obtain rfl : p = none := h; exact (rclose_nil w).mono fun e w' ⟨he, hw⟩ => ⟨he, rfl, hw ▸ Keeps.refl _ _⟩
  | some y =>
    obtain ⟨g, hB, rfl, hg⟩ := h
    exact (rclose_any g y w hg).mono fun e w' ⟨he, hw, hk⟩ => ⟨he, ⟨g, hB, rfl, hw⟩, hk.wide (fun k _ hk => blk_some.2 hk)⟩


theorem late_any (t m : Int) (w : World) : Calls Tryd.prog 17 #[.int .i64 t, .int .i64 m] w fun e w' => e = .returned (.bool (decide (t < m))) ∧ w = w' := by
  go_enter Tryd.func17, Tryd.ntmps17
  go_wp2
  go_ret
  exact ⟨rfl, rfl⟩
end Go.Proofs.YtfoocifhifpbdaaDoor
