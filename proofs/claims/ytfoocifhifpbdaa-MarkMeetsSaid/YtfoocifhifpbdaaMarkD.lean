/- Contracts of package mark: NewMeet, with slices.Repeat at its type. -/
import Derived.Test.YtfoocifhifpbdaaMarkC
import Derived.StillTailTactics
namespace Go.Proofs.Ytfoocifhifpbdaa
open Go.RowKit

set_option maxHeartbeats 1000000 in
theorem mul1_any (y : Nat) (h1 : 1 ≤ y) (h8 : y ≤ 8) (w : World) :
    Calls Try.prog 67 #[.int .u64 1, .int .u64 y] w fun e w' => e = .returned (.tuple #[.int .u64 0, .int .u64 y]) ∧ w = w' := by
  have hy : y = 1 ∨ y = 2 ∨ y = 3 ∨ y = 4 ∨ y = 5 ∨ y = 6 ∨ y = 7 ∨ y = 8 := by omega
  rcases hy with rfl | rfl | rfl | rfl | rfl | rfl | rfl | rfl
  all_goals
    clear h1 h8
    go_enter Try.func67, Try.ntmps67
    go_wp2
    go_ret2
    exact ⟨by kernel_rfl, rfl⟩

theorem Try.infoIn : (Try.prog.info? 81).map (fun i => (i.zero, i.size, i.bytes)) = some (some (.agg #[.int .i64 0, .bool false, .bool false]), 3, 16) := by kernel_rfl

theorem rep_flat (cs : List Value) (a b : Nat) : (List.replicate a cs).flatten ++ (List.replicate b cs).flatten = (List.replicate (a + b) cs).flatten := by
  rw [← List.flatten_append, List.replicate_append_replicate]
theorem rep_len (cs : List Value) (a : Nat) : (List.replicate a cs).flatten.length = a * cs.length := by simp

def RepRel (g N : Nat) (x : In) (w : World) (k : Nat) (wr : World) : Prop :=
  ∃ cur : Array Value, wr.heap[g]? = some (.cells cur 81 (0, 0)) ∧ cur.size = N * 3 ∧ cur.toList.take (k * 3) = (List.replicate k x.cells).flatten ∧ Below w.heap.size w wr

set_option maxHeartbeats 1000000 in
set_option maxRecDepth 100000 in
theorem repeatIn_any (nb : Nat) (x : In) (N : Nat) (w : World) (h1 : 1 ≤ N) (h8 : N ≤ 8) (hx : w.heap[nb]? = some (.cells #[.int .i64 x.mark, .bool x.idle, .bool x.closed] 81 (0, 0))) :
    Calls Try.prog 43 #[.slice (some ⟨nb, 0, none⟩) 1 1, .int .i64 N] w fun e w' =>
      ∃ g cur, e = .returned (.slice (some ⟨g, 0, none⟩) N N) ∧ w.heap.size ≤ g ∧ w'.heap[g]? = some (.cells cur 81 (0, 0)) ∧ cur.toList = (List.replicate N x.cells).flatten ∧ Below w.heap.size w w' := by
  obtain ⟨i0, hi, hz0, hz1, hz2⟩ := info_parts Try.infoIn
  have hmk : ∀ u : World, (Instr.makeSlice 78 (.int .i64 (N : Int)) (.int .i64 (N : Int))).run Try.prog u =
      .ok (.slice (some ⟨u.heap.size, 0, none⟩) N N) (u.alloc (.cells (madeCells #[.int .i64 0, .bool false, .bool false] (N * 3)) 81)) := fun u => by
    have h := run_make (P := Try.prog) u 78 81 i0 _ Try.underlying78 hi hz0 .i64 .i64 (N : Int) (N : Int) (by omega) (Int.le_refl _) (by rw [hz2]; omega) (by omega)
    simpa [hz1, Value.cells] using h
  have hnb := lt_of_block hx
  have hsz3 : (Try.prog.info? 81).map (·.size) = some 3 := by kernel_rfl
  go_enter Try.func43, Try.ntmps43
  go_wp2_with (first | (go_at_call 67; refine (mul1_any _ h1 h8 _).mono ?_; rintro e w' ⟨rfl, rfl⟩) | (with_reducible refine wpList_copy_cells (o := ⟨some 33, _, _, _, _, _⟩) rfl _ _ 78 78 rfl 81 3 Try.underlying78 ?hs w.heap.size 0 N N ⟨nb, 0, none⟩ 1 1 1 ?hd ?hsv (madeCells #[.int .i64 0, .bool false, .bool false] (N * 3)) 81 ?hg x.cells ?hn ?hl ?hsrc ?hfit ?h1 ?_))
  case hs => kernel_rfl
  case hd => rfl
  case hsv => rfl
  case hg => exact heap_alloc_new w _
  case hn => simp [Nat.min]; omega
  case hl => rfl
  case hsrc =>
    intro j v hj
    rw [Addr.add_lit, World.cell?_alloc_past _ _ _ hnb, Nat.zero_add]
    simp only [World.cell?, hx]
    simpa [In.cells, ← Array.getElem?_toList] using hj
  case hfit => simp [In.cells, madeCells, size_zeroCells]; omega
  case h1 => intro v hv; simp [In.cells] at hv; rcases hv with rfl | rfl | rfl <;> rfl
  · have hW := setRow_facts (new := (x.cells ++ List.drop x.cells.length (madeCells #[.int .i64 0, .bool false, .bool false] (N * 3)).toList).toArray) ((Below.refl w.heap.size w).alloc (Nat.le_refl _) (.cells (madeCells #[.int .i64 0, .bool false, .bool false] (N * 3)) 81)) (Nat.le_refl _) (heap_alloc_new w _)
    have hms : (madeCells #[.int .i64 0, .bool false, .bool false] (N * 3)).size = N * 3 := by simp [madeCells]
    generalize (w.alloc (.cells (madeCells #[.int .i64 0, .bool false, .bool false] (N * 3)) 81)).setRow w.heap.size (x.cells ++ List.drop x.cells.length (madeCells #[.int .i64 0, .bool false, .bool false] (N * 3)).toList).toArray = W1 at hW ⊢
    have hR : RepRel w.heap.size N x w 1 W1 := by
      refine ⟨_, hW.1, ?_, ?_, hW.2⟩
      · simp [In.cells, hms]; omega
      · simp [In.cells]
    clear hW hms hx hnb hmk hi hz0 hz1 hz2
    go_loopw [8] (fun v wr => ∃ k : Nat, 1 ≤ k ∧ k ≤ N ∧ v = .int .i64 k ∧ RepRel w.heap.size N x w k wr) (fun v _ => N - (intOf v).toNat)
    case atStart => exact ⟨1, by omega, by omega, rfl, hR⟩
    case round =>
      clear hR
      obtain ⟨k, hk1, hk, rfl, hR⟩ := hrel
      by_cases hlt : k < N
      · obtain ⟨cur, q1, q2, q3, q4⟩ := hR
        obtain ⟨c, hcm, hck, hcN, hc1⟩ : ∃ c, c = Nat.min k (N - k) ∧ c ≤ k ∧ k + c ≤ N ∧ 1 ≤ c := ⟨Nat.min k (N - k), rfl, by simp only [Nat.min_def]; split <;> omega, by simp only [Nat.min_def]; split <;> omega, by simp only [Nat.min_def]; split <;> omega⟩
        have hFl : (List.replicate c x.cells).flatten.length = c * 3 := by simp [In.cells]
        have hq3 : ∀ j v, ((List.replicate c x.cells).flatten)[j]? = some v → wr.drew.cell? ((⟨w.heap.size, 0, none⟩ : Addr).add j) = some v := fun j v hj => by
          have hlt' : j < c * 3 := by rw [← hFl]; exact (List.getElem?_eq_some_iff.1 hj).1
          rw [Addr.add_lit, Nat.zero_add]
          show World.cell? wr ⟨w.heap.size, j, none⟩ = _
          rw [cell_of_row wr w.heap.size j cur _ _ q1]
          have e1 : cur.toList[j]? = (List.replicate k x.cells).flatten[j]? := by rw [← q3, List.getElem?_take, if_pos (by omega)]
          have e2 : (List.replicate k x.cells).flatten[j]? = (List.replicate c x.cells).flatten[j]? := by
            have : k = c + (k - c) := by omega
            rw [this, ← rep_flat, List.getElem?_append_left (by rw [hFl]; exact hlt')]
          rw [← Array.getElem?_toList, e1, e2, hj]
        have hq1c : ∀ v ∈ (List.replicate c x.cells).flatten, v.oneCell' = true := by
          intro v hv
          obtain ⟨l, hl, hv⟩ := List.mem_flatten.1 hv
          obtain ⟨_, rfl⟩ := List.mem_replicate.1 hl
          simp [In.cells] at hv
          rcases hv with rfl | rfl | rfl <;> rfl
        have HQ0 := Lib.hid (show cur.toList.take (k * 3) ++ (List.replicate c x.cells).flatten = (List.replicate (k + c) x.cells).flatten by rw [q3, rep_flat])
        have HQ1c := Lib.hid hq1c
        have HQ1 := Lib.hid q1
        have HQ2 := Lib.hid q2
        have HQ3 := Lib.hid hq3
        have HFl := Lib.hid hFl
        have HC := Lib.hid hcm
        have HS := Lib.hid (show IntKind.i64.wrap ((k : Int) + (c : Int)) = (k : Int) + c from IntWalk.i64_in _ (by omega))
        generalize (List.replicate c x.cells).flatten = F at HQ0 HQ1c HQ3 HFl
        clear q1 hq3 q3 hq1c hFl hcm q2
        go_wp2
        go_region_law (refine step_copy_cells rfl (.tmp 41) (.tmp 44) 78 78 rfl 81 3 Try.underlying78 hsz3 w.heap.size (k * 3) (N - k) (N - k) ⟨w.heap.size, 0, none⟩ k N c (by simp [Act.eval, Act.put]; omega) (by simp [Act.eval, Act.put]) cur 81 HQ1.out F HC.out HFl.out HQ3.out (by rw [HFl.out, HQ2.out]; omega) HQ1c.out ?_)
        go_wp2
        go_roundw
        case rel =>
          refine ⟨k + c, by omega, by omega, by rw [HS.out]; go_num, ?_⟩
          have hs := setRow_facts (new := (cur.toList.take (k * 3) ++ (F ++ cur.toList.drop (k * 3 + F.length))).toArray) q4.drew (Nat.le_refl _) HQ1.out
          have hFl := HFl.out
          have q2 := HQ2.out
          refine ⟨_, hs.1, ?_, ?_, hs.2⟩
          · simp only [List.size_toArray, List.length_append, List.length_take, List.length_drop, Array.length_toList, q2, hFl]; omega
          · show List.take _ (_ ++ (_ ++ _)) = _
            rw [← HQ0.out, ← List.append_assoc, List.take_append_of_le_length (by simp [hFl, q2]; omega), List.take_of_length_le (by simp [hFl]; omega)]
        case measure => simp only [intOf, HS.out]; simp; omega
      · obtain rfl : k = N := by omega
        go_wp2
        go_ret
        obtain ⟨cur, q1, q2, q3, q4⟩ := hR
        exact ⟨_, cur, rfl, Nat.le_refl _, q1, by rw [← q3, List.take_of_length_le (by simp; omega)], q4⟩

theorem insAt_of {w : World} {g : Nat} {cur : Array Value} {t : TypeId} {xs : List In} (h : w.heap[g]? = some (.cells cur t (0, 0))) (hc : ∀ k, (hk : k < xs.length) → ∀ j v, (xs[k]).cells[j]? = some v → cur[k * 3 + j]? = some v) : InsAt w g xs := by
  refine ⟨fun k hk => ⟨?_, ?_, ?_⟩, fun o => ?_⟩
  · simp only [World.cell?, h]; exact hc k hk 0 _ rfl
  · simp only [World.cell?, h]; exact hc k hk 1 _ rfl
  · simp only [World.cell?, h]; exact hc k hk 2 _ rfl
  · simp [World.frozen?, h]

def newMeet (n : Nat) : Meet := ⟨List.replicate n ⟨-1000000000000, false, false⟩, -1000000000000⟩

/-- What a new meet is: a new pointer to a new meet. -/
def NewMeet (w : World) (n : Nat) (e : Ending) (w' : World) : Prop :=
  ∃ g h, e = .returned (.tuple #[.pointer (some ⟨g, 0, none⟩), .int .i64 0]) ∧ w.heap.size ≤ g ∧ w.heap.size ≤ h ∧ MeetAt w' g h (newMeet n) ∧ Below w.heap.size w w'

set_option maxHeartbeats 1000000 in
theorem newMeet_bad (n : Int) (w : World) (h : ¬ (1 ≤ n ∧ n ≤ 8)) :
    Calls Try.prog 17 #[.int .i64 n] w fun e w' => e = .returned (.tuple #[.pointer none, .int .i64 7]) ∧ w = w' := by
  go_enter Try.func17, Try.ntmps17
  go_wp2_with (go_at_call 42; refine (mwithin_any _ _ _ _).mono ?_; rintro e w' ⟨rfl, rfl⟩)
  go_ret2
  exact ⟨rfl, rfl⟩

set_option maxHeartbeats 1000000 in
theorem newMeet_ok (n : Nat) (w : World) (h1 : 1 ≤ n) (h8 : n ≤ 8) :
    Calls Try.prog 17 #[.int .i64 n] w (NewMeet w n) := by
  have hd : decide (1 ≤ (n : Int) ∧ (n : Int) ≤ 8) = true := by simp; omega
  go_enter Try.func17, Try.ntmps17
  go_wp2_with (go_at_call 42; refine (mwithin_any _ _ _ _).mono ?_; rintro e w' ⟨rfl, rfl⟩)
  refine (repeatIn_any w.heap.size ⟨-1000000000000, false, false⟩ n _ h1 h8 (heap_alloc_new w _)).mono ?_
  rintro e w1 ⟨g, cur, rfl, hg, hcur, htake, hB⟩
  have Hcur := Lib.hid hcur
  have Htake := Lib.hid htake
  clear hcur htake
  go_wp2
  go_ret2
  have hlt := lt_of_block Hcur.out
  have hB1 : Below w.heap.size w w1 := ((Below.refl _ _).alloc (Nat.le_refl _) _).trans (hB.mono (by simp))
  have hnew := heap_alloc_new w1 (.cells #[.slice (some ⟨g, 0, none⟩) n n, .int .i64 (-1000000000000)] 83 (0, 0))
  have hsz : w.heap.size + 1 ≤ g := by simpa using hg
  refine ⟨w1.heap.size, g, rfl, hB1.size, by omega, ?_, hB1.alloc hB1.size _⟩
  have hl : (newMeet n).ins.length = n := by simp [newMeet]
  refine ⟨⟨n, ?_⟩, ?_, fun o => ?_, by omega, by rw [hl]; exact h1, by rw [hl]; exact h8, ?_, ?_, by simp [newMeet, okMark]⟩
  · rw [hl]; simp only [World.cell?, hnew]; rfl
  · simp only [World.cell?, hnew]; rfl
  · exact frozen_cells hnew o
  · refine InsAt.keeps (w := w1) (insAt_of Hcur.out (fun k hk j v hj => ?_)) (Below.heap_alloc _ _ _ hlt)
    have hk' : k < n := by simpa [newMeet] using hk
    rw [← Array.getElem?_toList, Htake.out]
    refine flatten_get (s := 3) _ (fun c hc => ?_) k (by simpa using hk') j v ?_
    · obtain ⟨_, rfl⟩ := List.mem_replicate.1 hc; rfl
    · simpa [newMeet] using hj
  · intro x hx
    simp [newMeet] at hx
    obtain ⟨_, rfl⟩ := hx
    simp [okMark]

set_option maxHeartbeats 1000000 in
theorem mIsIdle_any (g h : Nat) (m : Meet) (w : World) (i : Int) (hi64 : inI64 i) (hm : MeetAt w g h m) :
    Calls Try.prog 26 #[.pointer (some ⟨g, 0, none⟩), .int .i64 i] w fun e w' =>
      e = .returned (.bool (decide (0 ≤ i ∧ i ≤ (m.ins.length : Int) - 1) && (m.ins.getD i.toNat default).idle)) ∧ w = w' := by
  obtain ⟨cap, hs⟩ := hm.s
  have hmost := hm.most
  have hpos := hm.pos
  have hlo : -9223372036854775808 ≤ i := hi64.1
  have hhi : i ≤ 9223372036854775807 := hi64.2
  by_cases hr : 0 ≤ i ∧ i ≤ (m.ins.length : Int) - 1
  · obtain ⟨j, rfl⟩ := Int.eq_ofNat_of_zero_le hr.1
    have hj : j < m.ins.length := by omega
    have hc := (hm.i.cells j hj).c1
    have he : (m.ins.getD j default) = m.ins[j] := by simp [List.getD, hj]
    have HE := Lib.hid (show (decide (0 ≤ (j : Int) ∧ (j : Int) ≤ (m.ins.length : Int) - 1) && (m.ins.getD (j : Int).toNat default).idle) = m.ins[j].idle by simp only [Int.toNat_natCast, he]; simp; omega)
    generalize m.ins[j].idle = q at hc HE
    clear he hm hi64 hlo
    go_enter Try.func26, Try.ntmps26
    go_wp2_with (go_at_call 42; refine (mwithin_any _ _ _ _).mono ?_; rintro e w' ⟨rfl, rfl⟩)
    go_ret
    exact ⟨by rw [HE.out]; rfl, rfl⟩
  · have HE := Lib.hid (show (decide (0 ≤ i ∧ i ≤ (m.ins.length : Int) - 1) && (m.ins.getD i.toNat default).idle) = false by simp [hr])
    clear hm hi64
    go_enter Try.func26, Try.ntmps26
    go_wp2_with (go_at_call 42; refine (mwithin_any _ _ _ _).mono ?_; rintro e w' ⟨rfl, rfl⟩)
    go_ret
    exact ⟨by rw [HE.out]; rfl, rfl⟩
end Go.Proofs.Ytfoocifhifpbdaa
