/- package heap: checked, Get; what look-ups in the maps say. -/
import Derived.Test.YtbmpoecmjmmngaaHeapA
import Derived.Test.YtbmpoecmjmmngaaHName
namespace Go.Proofs.Ytbmpoecmjmmngaa
open Go.RowKit Go.Maps

def big (t : ByteArray) : Bool := decide (65536 < t.size)
/-- checked's answer. -/
def chk (N : Nat) (g : Int) (nm : ByteArray) (ts : List ByteArray) : Int := if isName nm = true ∧ ts.any big = false then (if 0 ≤ g ∧ g < N then 0 else 7) else 1
theorem chk_ok {N : Nat} {g : Int} {nm : ByteArray} {ts : List ByteArray} (h : chk N g nm ts = 0) : isName nm = true ∧ ts.any big = false ∧ 0 ≤ g ∧ g < N := by
  unfold chk at h
  split at h
  · next h1 =>
    split at h
    · next h2 => exact ⟨h1.1, h1.2, h2⟩
    · cases h
  · cases h
theorem chk_cases (N : Nat) (g : Int) (nm : ByteArray) (ts : List ByteArray) : chk N g nm ts = 0 ∨ chk N g nm ts = 1 ∨ chk N g nm ts = 7 := by
  unfold chk
  split
  · split
    · exact .inl rfl
    · exact .inr (.inr rfl)
  · exact .inr (.inl rfl)
set_option maxHeartbeats 400000 in
theorem checked1_any (t : ByteArray) (w : World) (ht : t.size ≤ maxLen) :
    Calls Try.prog 55 #[.string t] w fun e w' => e = .returned (.bool (big t)) ∧ Below w.heap.size w w' := by
  unfold maxLen at ht
  by_cases h : (65536 : Int) < t.size
  all_goals
    have h' : decide (65536 < t.size) = decide ((65536 : Int) < t.size) := by congr 1; apply propext; omega
    have HB := Lib.hid h'
    clear h'
    go_enter Try.func55, Try.ntmps55
    go_wp2
    go_ret
    exact ⟨by unfold big; rw [HB.out]; simp [h], Below.refl _ _⟩
set_option maxHeartbeats 1000000 in
theorem checked_nil (g : Int) (nm : ByteArray) (v : Value) (w : World) :
    Calls Try.prog 31 #[.pointer none, .int .i64 g, .string nm, v] w fun e w' => e = .returned (.int .i64 1) ∧ Below w.heap.size w w' := by
  go_enter Try.func31, Try.ntmps31
  go_wp2
  go_ret
  exact ⟨rfl, Below.refl _ _⟩
set_option maxRecDepth 100000 in
set_option maxHeartbeats 2000000 in
theorem checked_any {base p : Nat} {r : HS} (g : Int) (nm : ByteArray) (ts : List ByteArray) (v : Value) (w : World) (hI : HeapInv w base p r) (hg : inI64 g) (hn : nm.size ≤ maxLen) (hv : tStrs.rv (mem w) [v] ts) :
    Calls Try.prog 31 #[.pointer (some ⟨p, 0, none⟩), .int .i64 g, .string nm, v] w fun e w' => e = .returned (.int .i64 (chk r.cur.length g nm ts)) ∧ Below w.heap.size w w' := by
  have HCF := Lib.hid (fun wr (h : Below w.heap.size w wr) => containsFuncStr 55 #[] big ts v wr (tStrs.mono _ _ _ _ (below_mem h) hv)
    (fun _ _ => rfl) (fun x hx wr _ => checked1_any x wr hx))
  have HCV := Lib.hid (fun wr (h : Below w.heap.size w wr) => (show wr.cell? ⟨p, 0, none⟩ = some r.cv from by have := mem_cells (h.block p (hI.cells_kind p (.inl rfl)) |>.trans hI.hb) 0; exact this))
  obtain ⟨b, off, cap, arr, hcv, hlc, hmx, -⟩ := hI.cu
  obtain ⟨a, k, rfl, _⟩ := slice_form hv
  have hcap : cap ≤ 9223372036854775807 := by unfold maxLen at hmx; exact hmx
  rw [hcv] at HCV
  clear hI hv hcv hmx
  generalize r.cur.length = N at *
  go_enter Try.func31, Try.ntmps31
  go_wp2_with fail
  refine (rowName_any nm _ hn).mono ?_
  rintro e w1 ⟨rfl, rfl⟩
  cases hnm : isName nm with
  | false =>
    have HE := Lib.hid (show chk N g nm ts = 1 from by unfold chk; rw [hnm]; simp)
    clear hnm
    go_wp2
    go_ret
    exact ⟨by rw [HE.out] <;> rfl, Below.refl _ _⟩
  | true =>
  go_wp2_with fail
  refine (HCF.out _ (Below.refl _ _)).mono ?_
  rintro e w1 ⟨rfl, hB⟩
  cases hts : ts.any big with
  | true =>
    have HE := Lib.hid (show chk N g nm ts = 1 from by unfold chk; rw [hts]; simp)
    clear hnm hts
    go_wp2
    go_ret
    exact ⟨by rw [HE.out] <;> rfl, hB⟩
  | false =>
  have HE := Lib.hid (show chk N g nm ts = if 0 ≤ g ∧ g < N then 0 else 7 from by unfold chk; rw [hnm, hts]; simp)
  have hcell := HCV.out _ hB
  clear hnm hts HCF HCV
  by_cases h0 : g < 0
  · have HF := Lib.hid (show ¬ (0 ≤ g ∧ g < N) by omega)
    go_wp2
    go_ret
    exact ⟨by rw [HE.out, if_neg HF.out] <;> rfl, hB⟩
  · by_cases h1 : (N : Int) ≤ g
    · have HF := Lib.hid (show ¬ (0 ≤ g ∧ g < N) by omega)
      go_wp2
      go_ret
      exact ⟨by rw [HE.out, if_neg HF.out] <;> rfl, hB⟩
    · have HF := Lib.hid (show (0 ≤ g ∧ g < N) by omega)
      go_wp2
      go_ret
      exact ⟨by rw [HE.out, if_pos HF.out] <;> rfl, hB⟩
end Go.Proofs.Ytbmpoecmjmmngaa
