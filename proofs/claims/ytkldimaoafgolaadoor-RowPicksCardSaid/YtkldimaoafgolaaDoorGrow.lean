/- slices.Grow of a nil slice, slices.Concat of two rows, row.Concat. -/
import Derived.Test.YtkldimaoafgolaaDoorConc
import Derived.Lib.AppendZerosOnto
namespace Go.Proofs.YtkldimaoafgolaaDoor
open Go.RowKit

set_option maxRecDepth 100000 in
set_option maxHeartbeats 1000000 in
theorem grow_any (n : Nat) (w : World) (h8 : n ≤ 8) :
    Calls Tryd.prog 90 #[.slice none 0 0, .int .i64 n] w fun e w' => ∃ x, e = .returned x ∧ Owns tVal w' w.heap.size 30 x [] ∧ Below w.heap.size w w' := by
  rcases Nat.eq_zero_or_pos n with rfl | hpos
  · go_enter Tryd.func90, Tryd.ntmps90
    go_wp2
    go_ret
    exact ⟨_, rfl, Owns.nil _ _ _ _, Below.refl _ _⟩
  · have hby : Tryd.t30.bytes = 32 := by kernel_rfl
    have hnx := nextslicecap_zero hpos
    have hge := grownCap_ge w n 0 30
    have hlm := grownCap_le_maxLen w n 0 30 (by unfold maxLen; omega)
    unfold grownCap at hge hlm
    have HGE := Lib.hid hge
    have HLM := Lib.hid hlm
    clear hge hlm
    go_enter Tryd.func90, Tryd.ntmps90
    go_wp2_with fail
    all_goals try (exfalso; rw [hby] at *; omega)
    all_goals try (exfalso; rw [hnx, hby] at *; omega)
    go_ret
    refine ⟨_, rfl, ⟨[], rfl, ⟨by simp, .inr ⟨w.heap.size, _, _, rfl, Nat.le_refl _, heap_alloc_new w _, Nat.zero_le _, HLM.out, ?_, by simp⟩⟩, fun c h => absurd h (by simp), fun k h => absurd h (by simp)⟩, ((Below.refl _ _).alloc (Nat.le_refl _) _).drew⟩
    rw [Array.size_append, size_zeroCells, size_zeroCells]
    have := HGE.out
    show n * 3 + (_ - n) * 3 = _ * 3
    omega
theorem flat_take {α : Type} {ls : List (List α)} {k : Nat} (h : k < ls.length) : (ls.take (k + 1)).flatten = (ls.take k).flatten ++ ls[k] := by
  rw [List.take_add_one, List.getElem?_eq_getElem h, List.flatten_append]
  simp
theorem flat_take_le {α : Type} (ls : List (List α)) (k : Nat) : (ls.take k).flatten.length ≤ ls.flatten.length := by
  have h : ls.flatten = (ls.take k).flatten ++ (ls.drop k).flatten := by rw [← List.flatten_append, List.take_append_drop]
  rw [h, List.length_append]
  omega
def sumLen {α : Type} (ls : List (List α)) (k : Nat) : Nat := (ls.take k).flatten.length
theorem sumLen_succ {α : Type} {ls : List (List α)} {k : Nat} (h : k < ls.length) : sumLen ls (k + 1) = sumLen ls k + ls[k].length := by
  unfold sumLen
  rw [flat_take h, List.length_append]
theorem sumLen_le {α : Type} (ls : List (List α)) (k : Nat) : sumLen ls k ≤ ls.flatten.length := flat_take_le ls k
theorem Owns.lower {α : Type} {t : Ty α} {w : World} {B B' : Nat} {e : TypeId} {v : Value} {xs : List α} (h : Owns t w B e v xs) (hB : B' ≤ B) : Owns t w B' e v xs := by
  obtain ⟨css, h1, ⟨h2, h3⟩, h4, h5⟩ := h
  refine ⟨css, h1, ⟨h2, ?_⟩, h4, h5⟩
  rcases h3 with h3 | ⟨g, cap, cur, e1, hg, r⟩
  · exact .inl h3
  · exact .inr ⟨g, cap, cur, e1, Nat.le_trans hB hg, r⟩
theorem rows_cell {m : Mem} {ls : List (List Val)} {a : Option Addr} {n cap : Nat} (h : tRows.rv m [.slice a n cap] ls) {k : Nat} (hk : k < ls.length) :
    ∃ b o a2 cap2, a = some ⟨b, o, none⟩ ∧ m b (o + k) = some (.slice a2 ls[k].length cap2) ∧ tRow.rv m [.slice a2 ls[k].length cap2] ls[k] ∧ cap2 ≤ maxLen := by
  obtain ⟨b, o, rfl, hat⟩ := slice_at h hk
  obtain ⟨a2, cap2, hc, hr, hm2⟩ := rows_at hat
  have e : k * tRow.sz = k := Nat.mul_one k
  rw [e] at hc
  exact ⟨b, o, a2, cap2, rfl, hc, hr, hm2⟩

set_option maxRecDepth 100000 in
set_option maxHeartbeats 1000000 in
theorem concat_any (ls : List (List Val)) (v : Value) (w : World) (hv : tRows.rv (mem w) [v] ls) (h8 : ls.flatten.length ≤ 8) :
    Calls Tryd.prog 63 #[v] w fun e w' => ∃ x, e = .returned x ∧ tRow.rv (mem w') [x] ls.flatten ∧ Below w.heap.size w w' := by
  obtain ⟨a, cap, rfl, hl, hm, hv⟩ := slice_form hv
  have hcap : cap ≤ 9223372036854775807 := by unfold maxLen at hm; exact hm
  clear hm
  go_enter Tryd.func63, Tryd.ntmps63
  go_wp2
  go_loopw [3, 11] (fun nv i wr => ∃ k : Nat, k ≤ ls.length ∧ i = .int .i64 k ∧ nv = .int .i64 (sumLen ls k : Nat) ∧ Below w.heap.size w wr) (fun _ i _ => ls.length - (intOf i).toNat)
  case atStart => exact ⟨0, by omega, rfl, rfl, Below.refl _ _⟩
  case round =>
    obtain ⟨k, hk, rfl, rfl, hB⟩ := hrel
    have hle := sumLen_le ls k
    by_cases hlt : k < ls.length
    · obtain ⟨b, o, a2, cap2, rfl, hc, hr, hm2⟩ := rows_cell (tRows.mono _ _ _ _ (below_mem hB) hv) hlt
      have hc : wr.cell? ⟨b, o + k, none⟩ = some (.slice a2 ls[k].length cap2) := hc
      have hm2 : cap2 ≤ 9223372036854775807 := by unfold maxLen at hm2; exact hm2
      have hl2 := (slice_len hr).2.1
      have hle2 := sumLen_le ls (k + 1)
      have hft := sumLen_succ hlt
      clear hr hv
      generalize sumLen ls k = n1 at *
      generalize ls.flatten.length = n0 at *
      generalize ls[k].length = n3 at *
      have hs8 : n1 + n3 ≤ 8 := by omega
      have HFT := Lib.hid hft
      clear hft hle2
      go_wp2
      go_roundw
      case rel => exact ⟨k + 1, by omega, by go_num, by rw [HFT.out]; go_num, hB⟩
      case measure => simp [intOf]; omega
    · obtain rfl : k = ls.length := by omega
      have h9 : sumLen ls ls.length ≤ 8 := Nat.le_trans hle h8
      generalize sumLen ls ls.length = n1 at *
      go_wp2_with fail
      refine (grow_any n1 _ h9).mono ?_
      rintro e w2 ⟨x, rfl, hown, hb2⟩
      have hB2 := pure_trans hB hb2
      have hsz := hB.size
      have hown := Owns.lower hown hsz
      have HV := Lib.hid hv
      obtain ⟨ax, capx, rfl, _⟩ := hown.len
      clear hb2 hB hv
      go_wp2
      go_loopw [6, 27] (fun ov i wr => ∃ k : Nat, k ≤ ls.length ∧ i = .int .i64 k ∧ Owns tVal wr w.heap.size 30 ov (ls.take k).flatten ∧ Below w.heap.size w wr) (fun _ i _ => ls.length - (intOf i).toNat)
      case atStart => exact ⟨0, by omega, rfl, hown, hB2⟩
      case round =>
        clear hown hB2
        obtain ⟨k, hk, rfl, hown, hB⟩ := hrel
        have hle := flat_take_le ls k
        by_cases hlt : k < ls.length
        · obtain ⟨b, o, a2, cap2, rfl, hc, hr, hm2⟩ := rows_cell (tRows.mono _ _ _ _ (below_mem hB) HV.out) hlt
          have hc : wr.cell? ⟨b, o + k, none⟩ = some (.slice a2 ls[k].length cap2) := hc
          have hle2 := flat_take_le ls (k + 1)
          have HFT := Lib.hid (flat_take hlt)
          rw [HFT.out, List.length_append] at hle2
          have HR := Lib.hid hr
          clear hr HV
          generalize (ls.take k).flatten = l at hown HFT hle hle2
          generalize ls[k] = y at *
          go_wp2_with (at_builtin; refine wpList_append_flat rfl _ _ 25 rfl tVal_flat tVal_one Tryd.underlying25 Tryd.infoVal rfl (by decide) w.heap.size _ l y rfl hown _ _ _ rfl rfl HR.out ?c1 ?c2 ?c3 ?_)
          case c1 => unfold maxLen; omega
          case c2 => omega
          case c3 => exact hB.size
          intro v' w4 hown' hgrow
          have hB4 : Below w.heap.size w w4 := hB.grown hgrow hB.size (fun k hk => (hown.lt k hk).1)
          clear hown hgrow HR hB hc
          go_wp2
          go_roundw
          case rel => exact ⟨k + 1, by omega, by go_num, by rw [HFT.out]; exact hown', hB4⟩
          case measure => simp [intOf]; omega
        · obtain rfl : k = ls.length := by omega
          rw [List.take_length] at hown
          obtain ⟨a', cap', rfl, _⟩ := hown.len
          go_wp2
          go_ret
          exact ⟨_, rfl, hown.rv', hB⟩
end Go.Proofs.YtkldimaoafgolaaDoor
