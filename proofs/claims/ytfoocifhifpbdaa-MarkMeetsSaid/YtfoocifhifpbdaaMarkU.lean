/- Contracts: Held of both. -/
import Derived.Test.YtfoocifhifpbdaaMarkT
namespace Go.Proofs.Ytfoocifhifpbdaa
open Go.RowKit

theorem leastOf_none : ∀ (xs : List In), (leastOf xs).2 = false → (leastOf xs).1 = 0 ∧ ∀ x ∈ xs, x.idle = true := by
  have keyt : ∀ (xs : List In) (a : Int), (xs.foldl leastStep (a, true)).2 = true := by
    intro xs
    induction xs with
    | nil => intro a; rfl
    | cons x xs ih =>
      intro a
      rw [List.foldl_cons]
      unfold leastStep
      split
      · exact ih _
      · exact ih _
  intro xs
  unfold leastOf
  induction xs with
  | nil => intro _; exact ⟨rfl, by simp⟩
  | cons x xs ih =>
    intro h
    rw [List.foldl_cons] at h ⊢
    by_cases hi : x.idle = true
    · have e : leastStep (0, false) x = (0, false) := by simp [leastStep, hi]
      rw [e] at h ⊢
      obtain ⟨h1, h2⟩ := ih h
      exact ⟨h1, fun y hy => by rcases List.mem_cons.1 hy with rfl | hy; exact hi; exact h2 y hy⟩
    · have e : leastStep (0, false) x = (x.mark, true) := by simp [leastStep, hi]
      rw [e] at h
      rw [keyt] at h
      cases h

set_option maxHeartbeats 2000000 in
theorem mHeld_any (g h : Nat) (m : Meet) (w : World) (d : Int) (hm : MeetAt w g h m) :
    Calls Try.prog 54 #[.pointer (some ⟨g, 0, none⟩), .int .i64 d] w (NewInts2 w (m.held d)) := by
  by_cases hd : 0 ≤ d ∧ d ≤ 1000000000
  · have hdd : decide (0 ≤ d ∧ d ≤ 1000000000) = true := by simp; omega
    have HT := Lib.hid (show m.held d = (heldFrom (leastOf m.ins).1 d 0 m.ins, 0) by unfold Meet.held; rw [if_pos hd])
    obtain ⟨hd0, hd1⟩ := hd
    have HB := Lib.hid (mbusy_any g h m w hm)
    have hmost := hm.most
    have hlok := leastOf_ok m.ins hm.ok
    obtain ⟨cap, hs⟩ := hm.s
    have hno := leastOf_none m.ins
    generalize leastOf m.ins = q at HB HT hlok hno
    obtain ⟨lst, fd⟩ := q
    simp only at HB HT hlok hno
    have hl0 : -1000000000000 ≤ lst := by cases fd with | true => exact (hlok rfl).1 | false => have := (hno rfl).1; omega
    have hl1 : lst ≤ 1000000000001 := by cases fd with | true => exact (hlok rfl).2 | false => have := (hno rfl).1; omega
    go_enter Try.func54, Try.ntmps54
    go_wp2_with (first | (go_at_call 42; refine (mwithin_any _ _ _ _).mono ?_; rintro e w' ⟨rfl, rfl⟩))
    refine HB.out.mono ?_
    rintro e wb ⟨rfl, hBb⟩
    have hsb := (mem_of_block (hBb.block g hm.ltg) 0).trans hs
    simp only [mem] at hsb
    clear HB
    go_wp2
    go_loopw [8, 28] (fun v i wr => ∃ k : Nat, k ≤ m.ins.length ∧ i = .int .i64 k ∧ Owns tInt wr w.heap.size 3 v (heldFrom lst d 0 (m.ins.take k)) ∧ Below w.heap.size w wr) (fun _ i _ => m.ins.length - (intOf i).toNat)
    case atStart => exact ⟨0, by omega, rfl, Owns.nil _ _ _ _, hBb⟩
    case round =>
      obtain ⟨k, hk, rfl, hown, hB⟩ := hrel
      by_cases hlt : k < m.ins.length
      · have hI := (hm.i.cells k hlt).keeps (hB.block h (hm.i.cells k hlt).lt)
        obtain ⟨c0, c1, c2⟩ := hI
        have hsz := hB.size
        obtain ⟨hok0, hok1⟩ := hm.ok _ (List.getElem_mem hlt)
        have hT := heldFrom_snoc lst d m.ins 0 k hlt
        rw [Nat.zero_add] at hT
        have hle := heldFrom_le lst d (m.ins.take k) 0
        have hle2 : (m.ins.take k).length ≤ k := List.length_take_le _ _
        have hidl : fd = false → m.ins[k].idle = true := fun e => (hno e).2 _ (List.getElem_mem hlt)
        have hno' := hno
        clear hm hs hno
        generalize heldFrom lst d 0 (m.ins.take k) = l at hown hT hle
        generalize m.ins[k] = x at c0 c1 c2 hok0 hok1 hT hidl
        obtain ⟨mk, idl, clo⟩ := x
        simp only at c0 c1 c2 hok0 hok1 hT hidl
        have hle8 : l.length ≤ 8 := by omega
        clear hle hle2
        by_cases hh : idl = false ∧ d < mk - lst
        · obtain ⟨rfl, hgt⟩ := hh
          have HT2 := Lib.hid (show heldFrom lst d 0 (m.ins.take (k + 1)) = l ++ [(k : Int)] by rw [hT]; simp [heldIn, hgt])
          have hfd : fd = true := by cases fd with | true => rfl | false => exact absurd (hidl rfl) (by simp)
          subst hfd
          clear hT hidl hno'
          go_wp2_with (first | (at_builtin; refine wpList_append_int rfl _ _ 22 rfl Try.underlying22 Try.infoInt w.heap.size _ l rfl (((hown.alloc _).alloc _).alloc _) _ _ (k : Int) rfl ?c1 ?c2 ?c3 ?c4 ?_) | go_in)
          try (case c1 => exact cell_new 0 (by simp))
          case c2 => exact by unfold inI64; omega
          case c3 => omega
          case c4 => first | omega | (simp; omega)
          · intro v' w1 hown' hgrow _
            have hB1 : Below w.heap.size w w1 := (((hB.alloc hsz _).alloc (by simp; omega) _).alloc (by simp; omega) _).grown hgrow (by simp; omega) (fun k hk => (hown.lt k hk).1)
            clear hgrow hB hown c0 c1 c2
            go_wp2
            go_roundw
            case rel => exact ⟨k + 1, by omega, by go_num, by rw [HT2.out]; exact hown', hB1⟩
            case measure => simp [intOf]; omega
        · have HT2 := Lib.hid (show heldFrom lst d 0 (m.ins.take (k + 1)) = l by
            rw [hT]
            have : heldIn lst d ⟨mk, idl, clo⟩ = false := by
              unfold heldIn
              cases idl with
              | true => rfl
              | false => simp only [true_and] at hh; simp; omega
            simp [this])
          have hgt : idl = false → mk - lst ≤ d := fun e => by simp only [e, true_and] at hh; omega
          clear hT hh
          cases idl
          · have hgt' := hgt rfl
            have hfd : fd = true := by cases fd with | true => rfl | false => exact absurd (hidl rfl) (by simp)
            subst hfd
            clear hgt hidl hno'
            go_wp2_with go_in
            all_goals
              go_roundw
              case rel => exact ⟨k + 1, by omega, by go_num, by rw [HT2.out]; exact (hown.alloc _).alloc _, (hB.alloc hsz _).alloc (by simp; omega) _⟩
              case measure => simp [intOf]; omega
          · clear hgt hidl hno'
            cases fd
            all_goals
              go_wp2_with go_in
              go_roundw
              case rel => exact ⟨k + 1, by omega, by go_num, by rw [HT2.out]; exact (hown.alloc _).alloc _, (hB.alloc hsz _).alloc (by simp; omega) _⟩
              case measure => simp [intOf]; omega
      · obtain rfl : k = m.ins.length := by omega
        go_wp2
        go_ret2
        rw [List.take_of_length_le (Nat.le_refl _)] at hown
        exact ⟨_, by rw [HT.out]; rfl, by rw [HT.out]; exact owns_ints hown, hB⟩
  · have hdd : decide (0 ≤ d ∧ d ≤ 1000000000) = false := by simp; omega
    have HT := Lib.hid (show m.held d = ([], 7) by unfold Meet.held; rw [if_neg hd])
    clear hd
    go_enter Try.func54, Try.ntmps54
    go_wp2_with (first | (go_at_call 42; refine (mwithin_any _ _ _ _).mono ?_; rintro e w' ⟨rfl, rfl⟩))
    go_ret2
    exact ⟨_, by rw [HT.out]; rfl, by rw [HT.out]; exact slice_nil _ _, Below.refl _ _⟩

set_option maxHeartbeats 2000000 in
theorem rHeld_any (g h : Nat) (m : Meet) (w : World) (d : Int) (hm : MeetAt w g h m) :
    Calls Try.prog 55 #[.pointer (some ⟨g, 0, none⟩), .int .i64 d] w (NewInts2 w (m.held d)) := by
  by_cases hd : 0 ≤ d ∧ d ≤ 1000000000
  · have hdd : decide (0 ≤ d ∧ d ≤ 1000000000) = true := by simp; omega
    have HT := Lib.hid (show m.held d = (heldFrom (leastOf m.ins).1 d 0 m.ins, 0) by unfold Meet.held; rw [if_pos hd])
    obtain ⟨hd0, hd1⟩ := hd
    have HB := Lib.hid (rleast_any g h m w hm)
    have hmost := hm.most
    have hlok := leastOf_ok m.ins hm.ok
    obtain ⟨cap, hs⟩ := hm.s
    have hno := leastOf_none m.ins
    generalize leastOf m.ins = q at HB HT hlok hno
    obtain ⟨lst, fd⟩ := q
    simp only at HB HT hlok hno
    have hl0 : -1000000000000 ≤ lst := by cases fd with | true => exact (hlok rfl).1 | false => have := (hno rfl).1; omega
    have hl1 : lst ≤ 1000000000001 := by cases fd with | true => exact (hlok rfl).2 | false => have := (hno rfl).1; omega
    go_enter Try.func55, Try.ntmps55
    go_wp2_with (first | (go_at_call 47; refine (rwithin_any _ _ _ _).mono ?_; rintro e w' ⟨rfl, rfl⟩))
    refine HB.out.mono ?_
    rintro e wb ⟨rfl, rfl⟩
    clear HB
    go_wp2
    go_loopw [6, 9] (fun v i wr => ∃ k : Nat, k ≤ m.ins.length ∧ i = .int .i64 k ∧ Owns tInt wr w.heap.size 3 v (heldFrom lst d 0 (m.ins.take k)) ∧ Below w.heap.size w wr) (fun _ i _ => m.ins.length - (intOf i).toNat)
    case atStart => exact ⟨0, by omega, rfl, Owns.nil _ _ _ _, Below.refl _ _⟩
    case round =>
      obtain ⟨k, hk, rfl, hown, hB⟩ := hrel
      have hs' := (mem_of_block (hB.block g hm.ltg) 0).trans hs
      simp only [mem] at hs'
      by_cases hlt : k < m.ins.length
      · have hI := (hm.i.cells k hlt).keeps (hB.block h (hm.i.cells k hlt).lt)
        obtain ⟨c0, c1, c2⟩ := hI
        have hsz := hB.size
        obtain ⟨hok0, hok1⟩ := hm.ok _ (List.getElem_mem hlt)
        have hT := heldFrom_snoc lst d m.ins 0 k hlt
        rw [Nat.zero_add] at hT
        have hle := heldFrom_le lst d (m.ins.take k) 0
        have hle2 : (m.ins.take k).length ≤ k := List.length_take_le _ _
        have hidl : fd = false → m.ins[k].idle = true := fun e => (hno e).2 _ (List.getElem_mem hlt)
        have hno' := hno
        clear hm hs hno
        generalize heldFrom lst d 0 (m.ins.take k) = l at hown hT hle
        generalize m.ins[k] = x at c0 c1 c2 hok0 hok1 hT hidl
        obtain ⟨mk, idl, clo⟩ := x
        simp only at c0 c1 c2 hok0 hok1 hT hidl
        have hle8 : l.length ≤ 8 := by omega
        clear hle hle2
        by_cases hh : idl = false ∧ d < mk - lst
        · obtain ⟨rfl, hgt⟩ := hh
          have HT2 := Lib.hid (show heldFrom lst d 0 (m.ins.take (k + 1)) = l ++ [(k : Int)] by rw [hT]; simp [heldIn, hgt])
          have hfd : fd = true := by cases fd with | true => rfl | false => exact absurd (hidl rfl) (by simp)
          subst hfd
          clear hT hidl hno'
          go_wp2_with (first | (at_builtin; refine wpList_append_int rfl _ _ 22 rfl Try.underlying22 Try.infoInt w.heap.size _ l rfl (hown.alloc _) _ _ (k : Int) rfl ?c1 ?c2 ?c3 ?c4 ?_) | go_in)
          try (case c1 => exact cell_new 0 (by simp))
          case c2 => exact by unfold inI64; omega
          case c3 => omega
          case c4 => first | omega | (simp; omega)
          · intro v' w1 hown' hgrow _
            have hB1 : Below w.heap.size w w1 := (hB.alloc hsz _).grown hgrow (by simp; omega) (fun k hk => (hown.lt k hk).1)
            clear hgrow hB hown c0 c1 c2
            go_wp2
            go_roundw
            case rel => exact ⟨k + 1, by omega, by go_num, by rw [HT2.out]; exact hown', hB1⟩
            case measure => simp [intOf]; omega
        · have HT2 := Lib.hid (show heldFrom lst d 0 (m.ins.take (k + 1)) = l by
            rw [hT]
            have : heldIn lst d ⟨mk, idl, clo⟩ = false := by
              unfold heldIn
              cases idl with
              | true => rfl
              | false => simp only [true_and] at hh; simp; omega
            simp [this])
          have hgt : idl = false → mk - lst ≤ d := fun e => by simp only [e, true_and] at hh; omega
          clear hT hh
          cases idl
          · have hgt' := hgt rfl
            have hfd : fd = true := by cases fd with | true => rfl | false => exact absurd (hidl rfl) (by simp)
            subst hfd
            clear hgt hidl hno'
            go_wp2_with go_in
            all_goals
              go_roundw
              case rel => exact ⟨k + 1, by omega, by go_num, by rw [HT2.out]; exact hown, hB⟩
              case measure => simp [intOf]; omega
          · clear hgt hidl hno'
            cases fd
            all_goals
              go_wp2_with go_in
              go_roundw
              case rel => exact ⟨k + 1, by omega, by go_num, by rw [HT2.out]; exact hown, hB⟩
              case measure => simp [intOf]; omega
      · obtain rfl : k = m.ins.length := by omega
        go_wp2
        go_ret2
        rw [List.take_of_length_le (Nat.le_refl _)] at hown
        exact ⟨_, by rw [HT.out]; rfl, by rw [HT.out]; exact owns_ints hown, hB⟩
  · have hdd : decide (0 ≤ d ∧ d ≤ 1000000000) = false := by simp; omega
    have HT := Lib.hid (show m.held d = ([], 7) by unfold Meet.held; rw [if_neg hd])
    clear hd
    go_enter Try.func55, Try.ntmps55
    go_wp2_with (first | (go_at_call 47; refine (rwithin_any _ _ _ _).mono ?_; rintro e w' ⟨rfl, rfl⟩))
    go_ret2
    exact ⟨_, by rw [HT.out]; rfl, by rw [HT.out]; exact slice_nil _ _, Below.refl _ _⟩
end Go.Proofs.Ytfoocifhifpbdaa
