/- Contracts: the reference's NewMeet, Held of both, nil meets. -/
import Derived.Test.YtfoocifhifpbdaaMarkS
namespace Go.Proofs.Ytfoocifhifpbdaa
open Go.RowKit

def tIn : Ty In := ⟨3, fun _ cs x => cs = x.cells, fun _ _ _ h => by rw [h]; rfl, fun _ _ _ _ _ h => h⟩
theorem Try.infoRIn : (Try.prog.info? 94).map (fun i => (i.zero, i.size, i.bytes)) = some (some (.agg #[.int .i64 0, .bool false, .bool false]), tIn.sz, 16) := by kernel_rfl

theorem insAt_owns {w : World} {B : Nat} {e : TypeId} {v : Value} {xs : List In} (h : Owns tIn w B e v xs) (hpos : 0 < xs.length) : ∃ hh cap, v = .slice (some ⟨hh, 0, none⟩) xs.length cap ∧ B ≤ hh ∧ InsAt w hh xs := by
  obtain ⟨css, h1, ⟨h2, h3⟩, h4, h5⟩ := h
  rcases h3 with ⟨_, h6⟩ | ⟨g, cap, cur, rfl, hg, hh, hn, hm, hc, ht⟩
  · omega
  · refine ⟨g, cap, rfl, hg, insAt_of hh (fun k hk j u hu => ?_)⟩
    have h5k : css[k]'(by omega) = xs[k].cells := h5 k (by omega) hk
    have hf := flatten_get css h4 k (by omega) j u (by rw [h5k]; exact hu)
    rw [← ht, List.getElem?_take] at hf
    split at hf
    · simp only [Array.getElem?_toList] at hf
      exact hf
    · cases hf

set_option maxHeartbeats 1000000 in
theorem rNewMeet_bad (n : Int) (w : World) (h : ¬ (1 ≤ n ∧ n ≤ 8)) :
    Calls Try.prog 22 #[.int .i64 n] w fun e w' => e = .returned (.tuple #[.pointer none, .int .i64 7]) ∧ w = w' := by
  go_enter Try.func22, Try.ntmps22
  go_wp2_with (go_at_call 47; refine (rwithin_any _ _ _ _).mono ?_; rintro e w' ⟨rfl, rfl⟩)
  go_ret2
  exact ⟨rfl, rfl⟩

def RN (w : World) (k : Nat) (wr : World) : Prop :=
  ∃ v, wr.cell? ⟨w.heap.size, 0, none⟩ = some v ∧ wr.cell? ⟨w.heap.size, 1, none⟩ = some (.int .i64 (-1000000000000)) ∧ (∀ o, wr.frozen? ⟨w.heap.size, o, none⟩ = false) ∧
    Owns tIn wr (w.heap.size + 1) 94 v (List.replicate k ⟨-1000000000000, false, false⟩) ∧ Below w.heap.size w wr ∧ w.heap.size + 1 ≤ wr.heap.size

set_option maxHeartbeats 2000000 in
theorem rNewMeet_ok (n : Nat) (w : World) (h1 : 1 ≤ n) (h8 : n ≤ 8) :
    Calls Try.prog 22 #[.int .i64 n] w (NewMeet w n) := by
  have hd : decide (1 ≤ (n : Int) ∧ (n : Int) ≤ 8) = true := by simp; omega
  have hR0 : RN w 0 (w.alloc (.cells #[.slice none 0 0, .int .i64 (-1000000000000)] 92 (0, 0))) := by
    have hn := heap_alloc_new w (.cells #[.slice none 0 0, .int .i64 (-1000000000000)] 92 (0, 0))
    exact ⟨_, mem_cells hn 0, mem_cells hn 1, frozen_cells hn, Owns.nil _ _ _ _, (Below.refl _ _).alloc (Nat.le_refl _) _, by simp⟩
  go_enter Try.func22, Try.ntmps22
  go_wp2_with (go_at_call 47; refine (rwithin_any _ _ _ _).mono ?_; rintro e w' ⟨rfl, rfl⟩)
  go_loopw [5] (fun i wr => ∃ k : Nat, k ≤ n ∧ i = .int .i64 k ∧ RN w k wr) (fun i _ => n - (intOf i).toNat)
  case atStart => exact ⟨0, by omega, rfl, hR0⟩
  case round =>
    clear hR0
    obtain ⟨k, hk, rfl, v, c0, c1, hf, hown, hB, hsz⟩ := hrel
    by_cases hlt : k < n
    · have hrep := List.replicate_succ' (n := k) (a := (⟨-1000000000000, false, false⟩ : In))
      have HREP := Lib.hid hrep
      have hll : (List.replicate k (⟨-1000000000000, false, false⟩ : In)).length = k := by simp
      have HLL := Lib.hid hll
      clear hrep hll hd
      generalize List.replicate k (⟨-1000000000000, false, false⟩ : In) = l at hown HREP HLL
      go_wp2_with (at_builtin; refine wpList_append_one rfl _ _ 90 rfl tIn Try.underlying90 Try.infoRIn rfl (by decide) (w.heap.size + 1) _ l rfl (hown.alloc _) _ _ ⟨-1000000000000, false, false⟩ rfl [.int .i64 (-1000000000000), .bool false, .bool false] ?c1 ?c2 ?c3 ?c4 ?c5 ?c6 ?_)
      case c1 =>
        intro j u hj
        match j, hj with
        | 0, hj => simp at hj; subst hj; simp [mem]
        | 1, hj => simp at hj; subst hj; simp [mem]
        | 2, hj => simp at hj; subst hj; simp [mem]
      case c2 => rfl
      case c3 => intro u hu; simp at hu; rcases hu with rfl | rfl | rfl <;> rfl
      case c4 => rw [HLL.out]; unfold maxLen; omega
      case c5 => rw [HLL.out]; omega
      case c6 => simp; omega
      · intro v' w1 hown' hgrow _
        have hblk : w1.heap[w.heap.size]? = wr.heap[w.heap.size]? := (hgrow.block _ (by simp; omega) (fun e => by have := (hown.lt _ e.symm).1; omega)).trans (Below.heap_alloc _ _ _ (by omega))
        have hB1 : Below w.heap.size w w1 := (hB.alloc hB.size _).grown hgrow (by simp; omega) (fun k hk => by have := (hown.lt k hk).1; omega)
        have c0' : w1.cell? ⟨w.heap.size, 0, none⟩ = some v := (mem_of_block hblk _).trans c0
        have c1' : w1.cell? ⟨w.heap.size, 1, none⟩ = some (.int .i64 (-1000000000000)) := (mem_of_block hblk _).trans c1
        have hf' : ∀ o, w1.frozen? ⟨w.heap.size, o, none⟩ = false := fun o => (World.frozen?_of_block (w := wr) (a := ⟨w.heap.size, o, none⟩) hblk).trans (hf o)
        have hf0 := hf' 0
        have hsz1 : w.heap.size + 1 ≤ w1.heap.size := by have := hgrow.size; simp at this; omega
        have hR1 : RN w (k + 1) (w1.setCell ⟨w.heap.size, 0, none⟩ v') := by
          refine ⟨v', World.cell?_setCell_same _ _ _ c0', (cell_other _ (by simp)).trans c1', fun o => (frozen_set _ _ _ _).trans (hf' o), ?_, hB1.setCell (Nat.le_refl _) _, by simpa [World.setCell] using hsz1⟩
          rw [HREP.out]
          exact hown'.keepsFlat (fun _ _ _ _ h => h) (F := fun k => k = w.heap.size) ((Keeps.refl _ _).setCell (by simp) _) (fun k hk e => by have := (hown'.lt k hk).1; omega)
        obtain ⟨a', cap', rfl, _⟩ := hown'.len
        clear hgrow hB1 hblk c1' hf' hown hown' c0 c1 hf hB
        go_wp2
        go_roundw
        case rel => exact ⟨k + 1, by omega, by go_num, by simpa using hR1⟩
        case measure => simp [intOf]; omega
    · obtain rfl : k = n := by omega
      go_wp2
      go_ret2
      obtain ⟨hh, cap, rfl, hge, hI⟩ := insAt_owns hown (by simp; omega)
      refine ⟨w.heap.size, hh, rfl, Nat.le_refl _, by omega, ⟨⟨cap, by simpa [newMeet] using c0⟩, c1, hf, by omega, by simp [newMeet]; omega, by simp [newMeet]; omega, by simpa [newMeet] using hI, ?_, by simp [newMeet, okMark]⟩, hB⟩
      intro x hx
      simp [newMeet] at hx
      obtain ⟨_, rfl⟩ := hx
      simp [okMark]

theorem mIdle2_any (g h : Nat) (m : Meet) (w : World) (i : Int) (hi64 : inI64 i) (hm : MeetAt w g h m) :
    Calls Try.prog 26 #[.pointer (some ⟨g, 0, none⟩), .int .i64 i] w fun e w' => e = .returned (.bool (idleAt m i)) ∧ w = w' := mIsIdle_any g h m w i hi64 hm

/-! Held -/
def heldIn (n drift : Int) (x : In) : Bool := !x.idle && decide (drift < x.mark - n)
def heldFrom (n drift : Int) : Nat → List In → List Int
  | _, [] => []
  | k, x :: xs => if heldIn n drift x then (k : Int) :: heldFrom n drift (k + 1) xs else heldFrom n drift (k + 1) xs
def Meet.held (m : Meet) (drift : Int) : List Int × Int := if 0 ≤ drift ∧ drift ≤ 1000000000 then (heldFrom (leastOf m.ins).1 drift 0 m.ins, 0) else ([], 7)
theorem heldFrom_snoc (n d : Int) : ∀ (xs : List In) (k j : Nat) (h : j < xs.length), heldFrom n d k (xs.take (j + 1)) = heldFrom n d k (xs.take j) ++ (if heldIn n d xs[j] then [((k + j : Nat) : Int)] else [])
  | x :: xs, k, 0, _ => by simp only [List.take_succ_cons, List.take_zero, heldFrom, List.getElem_cons_zero, Nat.add_zero]; split <;> rfl
  | x :: xs, k, j + 1, h => by
    simp only [List.take_succ_cons, heldFrom, List.getElem_cons_succ]
    have := heldFrom_snoc n d xs (k + 1) j (by simpa using h)
    rw [this, show k + 1 + j = k + (j + 1) by omega]
    split <;> simp
theorem heldFrom_le (n d : Int) : ∀ (xs : List In) (k : Nat), (heldFrom n d k xs).length ≤ xs.length
  | [], _ => by simp [heldFrom]
  | x :: xs, k => by
    have := heldFrom_le n d xs (k + 1)
    simp only [heldFrom]
    split <;> simp <;> omega
end Go.Proofs.Ytfoocifhifpbdaa
