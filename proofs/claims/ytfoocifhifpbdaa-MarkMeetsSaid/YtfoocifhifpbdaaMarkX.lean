/- The law's function do, whole; the law MarkMeets. -/
import Derived.Test.YtfoocifhifpbdaaMarkW
namespace Go.Proofs.Ytfoocifhifpbdaa
open Go.RowKit

theorem fresh_any {α : Type} {t : Ty α} {w w1 : World} {B : Nat} {v : Value} {x : α} (h : t.rv ((mem w).on (B ≤ ·)) [v] x) (hb : Below w.heap.size w w1) : t.rv (mem w1) [v] x :=
  t.mono _ _ _ _ (Mem.le_trans (Mem.on_le _ _) (below_mem hb)) h

set_option maxHeartbeats 4000000 in
theorem doHeld (p q : Option (Nat × Nat)) (m : Meet) (w : World) (kd inp nn : Int) (hi : inI64 inp) (hs : sameKind p q) (hd : ∀ k, fpOf p k → ¬ fpOf q k) (hp : MS w p m) (hq : MS w q m) (hk : kd ≠ 0 ∧ kd ≠ 1 ∧ kd ≠ 2 ∧ kd ≠ 3) :
    Calls Try.prog 23 #[pv p, pv q, .agg #[.int .i64 kd, .int .i64 inp, .int .i64 nn]] w (Did w p q m) := by
  have HR := Lib.hid (uHeld_same hs m nn)
  have hk0 : (kd == 0) = false := by simp; omega
  have hk1 : (kd == 1) = false := by simp; omega
  have hk2 : (kd == 2) = false := by simp; omega
  have hk3 : (kd == 3) = false := by simp; omega
  obtain ⟨hp, hq, hK, hb⟩ := Pre.mk' (kd := kd) (inp := inp) (nn := nn) hp hq 46
  clear hs hd hk
  go_enter Try.func23, Try.ntmps23
  go_wp2_with fail
  refine (umHeld p m _ nn hp).mono ?_
  rintro e w1 ⟨v, rfl, hv, hB1⟩
  have hp1 := hp.pure hB1
  have hq1 := hq.pure hB1
  have hK1 := hK.pure hB1
  have hb1 := hb.frame (F := fun _ => False) ⟨hB1.os, hB1.tape, hB1.output, hB1.size, fun k hk _ => hB1.block k hk⟩ (by simp)
  have hc2 := hb1.c2
  clear hp hq hK hb hB1
  go_wp2_with fail
  refine (urHeld q m _ nn hq1).mono ?_
  rintro e w2 ⟨u, rfl, hu, hB2⟩
  have hp2 := hp1.pure hB2
  have hq2 := hq1.pure hB2
  have hK2 := hK1.pure hB2
  have hv2 := fresh_any hv hB2
  have hu2 := (tSlice tInt).mono _ _ _ _ (Mem.on_le _ _) hu
  rw [HR.out]
  rw [HR.out] at hv2
  have heq : ((uHeld q m nn).2 == (uHeld q m nn).2) = true := by simp
  clear hp1 hq1 hK1 hb1 hc2 hv hu hB2
  go_wp2_with (go_at_call 11; refine (sameInts_any _ _ _ _ _ hv2 hu2).mono ?_; rintro e w3 ⟨rfl, hB3⟩)
  go_ret
  refine ⟨by simp, m, hp2.pure hB3, hq2.pure hB3, Int.le_refl _, hK2.pure hB3⟩

theorem do_any (p q : Option (Nat × Nat)) (m : Meet) (w : World) (kd inp nn : Int) (hi : inI64 inp) (hs : sameKind p q) (hd : ∀ k, fpOf p k → ¬ fpOf q k) (hp : MS w p m) (hq : MS w q m) :
    Calls Try.prog 23 #[pv p, pv q, .agg #[.int .i64 kd, .int .i64 inp, .int .i64 nn]] w (Did w p q m) := by
  by_cases h0 : kd = 0
  · exact doSet p q m w kd inp nn hi hs hd hp hq h0
  by_cases h1 : kd = 1
  · exact doIdle p q m w kd inp nn hi hs hd hp hq h1
  by_cases h2 : kd = 2
  · exact doBusy p q m w kd inp nn hi hs hd hp hq h2
  by_cases h3 : kd = 3
  · exact doClose p q m w kd inp nn hi hs hd hp hq h3
  exact doHeld p q m w kd inp nn hi hs hd hp hq ⟨h0, h1, h2, h3⟩

/-- What both NewMeet do: the same. -/
theorem mnew_u (n : Int) (w : World) : Calls Try.prog 17 #[.int .i64 n] w fun e w' => ∃ p m c, e = .returned (.tuple #[pv p, .int .i64 c]) ∧ MS w' p m ∧ (∀ k, fpOf p k → w.heap.size ≤ k) ∧ Below w.heap.size w w' ∧
    Hid (c = (if 1 ≤ n ∧ n ≤ 8 then 0 else 7) ∧ p.isSome = decide (1 ≤ n ∧ n ≤ 8) ∧ m = (if 1 ≤ n ∧ n ≤ 8 then newMeet n.toNat else ⟨[], -1000000000000⟩)) := by
  by_cases h : 1 ≤ n ∧ n ≤ 8
  · obtain ⟨N, rfl⟩ := Int.eq_ofNat_of_zero_le (show 0 ≤ n by omega)
    refine (newMeet_ok N w (by omega) (by omega)).mono fun e w' ⟨g, hh, h1, h2, h3, h4, h5⟩ => ?_
    exact ⟨some (g, hh), newMeet N, 0, h1, h4, fun k hk => by rcases hk with rfl | rfl <;> assumption, h5, Lib.hid ⟨by rw [if_pos h], by simp [h], by rw [if_pos h]; simp⟩⟩
  · refine (newMeet_bad n w h).mono fun e w' ⟨h1, h2⟩ => ?_
    subst h2
    exact ⟨none, ⟨[], -1000000000000⟩, 7, h1, rfl, fun k hk => hk.elim, Below.refl _ _, Lib.hid ⟨by rw [if_neg h], by simp [h], by rw [if_neg h]⟩⟩
theorem rnew_u (n : Int) (w : World) : Calls Try.prog 22 #[.int .i64 n] w fun e w' => ∃ p m c, e = .returned (.tuple #[pv p, .int .i64 c]) ∧ MS w' p m ∧ (∀ k, fpOf p k → w.heap.size ≤ k) ∧ Below w.heap.size w w' ∧
    Hid (c = (if 1 ≤ n ∧ n ≤ 8 then 0 else 7) ∧ p.isSome = decide (1 ≤ n ∧ n ≤ 8) ∧ m = (if 1 ≤ n ∧ n ≤ 8 then newMeet n.toNat else ⟨[], -1000000000000⟩)) := by
  by_cases h : 1 ≤ n ∧ n ≤ 8
  · obtain ⟨N, rfl⟩ := Int.eq_ofNat_of_zero_le (show 0 ≤ n by omega)
    refine (rNewMeet_ok N w (by omega) (by omega)).mono fun e w' ⟨g, hh, h1, h2, h3, h4, h5⟩ => ?_
    exact ⟨some (g, hh), newMeet N, 0, h1, h4, fun k hk => by rcases hk with rfl | rfl <;> assumption, h5, Lib.hid ⟨by rw [if_pos h], by simp [h], by rw [if_pos h]; simp⟩⟩
  · refine (rNewMeet_bad n w h).mono fun e w' ⟨h1, h2⟩ => ?_
    subst h2
    exact ⟨none, ⟨[], -1000000000000⟩, 7, h1, rfl, fun k hk => hk.elim, Below.refl _ _, Lib.hid ⟨by rw [if_neg h], by simp [h], by rw [if_neg h]⟩⟩

def Rel (w : World) (p q : Option (Nat × Nat)) (wr : World) : Prop := ∃ m, MS wr p m ∧ MS wr q m ∧ Below w.heap.size w wr

set_option maxHeartbeats 4000000 in
theorem markMeets_any (n : Int) (ts : List Turn) (v : Value) (w : World) (_hn64 : inI64 n) (hv : (tSlice tTurn).rv (mem w) [v] ts) :
    Calls Try.prog 6 #[.int .i64 n, v] w fun e w' => e = .returned (.bool true) ∧ Below w.heap.size w w' := by
  obtain ⟨a, cap, rfl, hl, hm, hv⟩ := slice_form hv
  have hcap : cap ≤ 9223372036854775807 := by unfold maxLen at hm; exact hm
  clear hm
  by_cases h300 : 300 < ts.length
  · go_enter Try.func6, Try.ntmps6
    go_wp2_with (go_at_call 8; refine (awake_any _).mono ?_; rintro e w' ⟨rfl, hB⟩)
    go_ret
    exact ⟨rfl, hB⟩
  go_enter Try.func6, Try.ntmps6
  go_wp2_with fail
  refine (mnew_u n w).mono ?_
  rintro e w1 ⟨p, m, c, rfl, hp, hfp, hB1, HC⟩
  go_wp2_with fail
  refine (rnew_u n w1).mono ?_
  rintro e w2 ⟨q, m', c', rfl, hq, hfq, hB2, HC'⟩
  have hB : Below w.heap.size w w2 := pure_trans hB1 hB2
  have hp0 := hp
  have hp := hp.pure hB2
  have hcc : c' = c := by rw [HC.out.1, HC'.out.1]
  have hmm : m' = m := by rw [HC.out.2.2, HC'.out.2.2]
  have hs : sameKind p q := by unfold sameKind; rw [HC.out.2.1, HC'.out.2.1]
  have hd : ∀ k, fpOf p k → ¬ fpOf q k := fun k h1 h2 => by
    have h3 := hfq k h2
    have h4 : k < w1.heap.size := hp0.fp_lt k h1
    omega
  subst hcc; subst hmm
  have hR : Rel w p q w2 := ⟨_, hp, hq, hB⟩
  have hcn : (c' != c') = false := by simp
  have hfp' : ∀ k, fpOf p k ∨ fpOf q k → w.heap.size ≤ k := fun k h => by
    rcases h with h | h
    · exact hfp k h
    · have := hfq k h; have := hB1.size; omega
  have HS := Lib.hid hs
  have HD := Lib.hid hd
  have HF := Lib.hid hfp'
  clear HC HC' hp0 hp hq hs hd hfp hfq hB hB1 hB2 hfp'
  go_wp2
  go_loopw [9] (fun i wr => ∃ k : Nat, k ≤ ts.length ∧ i = .int .i64 k ∧ Rel w p q wr) (fun i _ => ts.length - (intOf i).toNat)
  case atStart => exact ⟨0, by omega, rfl, hR⟩
  case round =>
    clear hR
    obtain ⟨k, hk, rfl, m, hp, hq, hB⟩ := hrel
    by_cases hlt : k < ts.length
    · obtain ⟨b1, o1, rfl, hat⟩ := slice_at (t := tTurn) hv hlt
      obtain ⟨c0, c1, c2, i0, i1, i2⟩ := turn_at hat
      have hb1 : wr.heap[b1]? = w.heap[b1]? := hB.block b1 (mem_lt c0)
      have d0 : wr.cell? ⟨b1, o1 + k * 3, none⟩ = some (.int .i64 ts[k].kind) := (mem_of_block hb1 _).trans c0
      have d1 : wr.cell? ⟨b1, o1 + k * 3 + 1, none⟩ = some (.int .i64 ts[k].input) := (mem_of_block hb1 _).trans c1
      have d2 : wr.cell? ⟨b1, o1 + k * 3 + 2, none⟩ = some (.int .i64 ts[k].n) := (mem_of_block hb1 _).trans c2
      have hb1lt : b1 < w.heap.size := mem_lt c0
      clear hat hv hb1
      generalize ts[k] = t at d0 d1 d2 i0 i1 i2
      clear c0 c1 c2
      obtain ⟨kd, inp, nn⟩ := t
      simp only at d0 d1 d2 i0 i1 i2
      go_wp2_with (go_at_call 21; refine (umMark p m _ hp).mono ?_; rintro e w' ⟨rfl, rfl⟩)
      refine (do_any p q m _ kd inp nn i1 HS.out HD.out hp hq).mono ?_
      rintro e w3 ⟨rfl, m3, hp3, hq3, hle, hK⟩
      have hB3 : Below w.heap.size w w3 := hK.belowStep hB HF.out hB.size
      have hblt : b1 < wr.heap.size := by have := hB.size; omega
      have d1' : w3.cell? ⟨b1, o1 + k * 3 + 1, none⟩ = some (.int .i64 inp) := (mem_of_block (hK.block b1 hblt (fun h => by have := HF.out b1 h; omega)) _).trans d1
      clear d0 d1 d2 hp hq hB hK hblt
      have hne : (m3.mark != m3.mark) = false := by simp
      have hle' : ¬ m3.mark < m.mark := by omega
      go_wp2_with (first | (go_at_call 21; refine (umMark p m3 _ hp3).mono ?_; rintro e w' ⟨rfl, rfl⟩) | (go_at_call 24; refine (urMark q m3 _ hq3).mono ?_; rintro e w' ⟨rfl, rfl⟩))
      refine (umInputs p m3 _ hp3).mono ?_
      rintro e w4 ⟨x4, rfl, hx4, hB4⟩
      have hp4 := hp3.pure hB4
      have hq4 := hq3.pure hB4
      have hB5 := pure_trans hB3 hB4
      have d4 : w4.cell? ⟨b1, o1 + k * 3 + 1, none⟩ = some (.int .i64 inp) := (mem_of_block (hB4.block b1 (mem_lt d1')) _).trans d1'
      clear hp3 hq3 hB3 d1'
      go_wp2_with fail
      refine (urInputs q m3 _ hq4).mono ?_
      rintro e w5 ⟨x5, rfl, hx5, hB6⟩
      have hp5 := hp4.pure hB6
      have hq5 := hq4.pure hB6
      have hB7 := pure_trans hB5 hB6
      have d5 : w5.cell? ⟨b1, o1 + k * 3 + 1, none⟩ = some (.int .i64 inp) := (mem_of_block (hB6.block b1 (mem_lt d4)) _).trans d4
      have hx4' := fresh_any hx4 hB6
      have hx5' := (tSlice tInt).mono _ _ _ _ (Mem.on_le _ _) hx5
      clear hp4 hq4 hB4 hB5 hB6 d4 hx4 hx5
      go_wp2_with fail
      refine (sameInts_any _ _ _ _ _ hx4' hx5').mono ?_
      rintro e w6 ⟨rfl, hB8⟩
      have hp6 := hp5.pure hB8
      have hq6 := hq5.pure hB8
      have hB9 := pure_trans hB7 hB8
      have d6 : w6.cell? ⟨b1, o1 + k * 3 + 1, none⟩ = some (.int .i64 inp) := (mem_of_block (hB8.block b1 (mem_lt d5)) _).trans d5
      have hdd : decide (m3.ins.map (·.mark) = m3.ins.map (·.mark)) = true := by simp
      rw [hdd]
      clear hp5 hq5 hB7 hB8 d5 hx4' hx5' hdd
      have HQ := Lib.hid (uIdle_same HS.out m3 inp)
      have hq6' := hq6.frame (Keeps.refl (fun _ => False) _).drew (fun _ _ h => h)
      have hp6' := hp6.frame (Keeps.refl (fun _ => False) _).drew (fun _ _ h => h)
      go_wp2_with fail
      go_region_held3 (fun w' => w'.cell? ⟨b1, o1 + k * 3 + 1, none⟩ = some (.int .i64 inp))
        (first | go_keep | exact d6)
        ((first
          | (go_at_call 26; refine (umIsIdle p m3 _ inp i1 (by assumption)).mono ?_; rintro e wp ⟨rfl, rfl⟩)
          | (go_at_call 27; refine (urIsIdle q m3 _ inp i1 (by assumption)).mono ?_; rintro e wq ⟨rfl, rfl⟩)))
      all_goals
        rw [HQ.out]
        clear HQ
        generalize uIdle q m3 inp = bb
        cases bb
        all_goals
          go_wp2
          go_roundw
          case rel => exact ⟨k + 1, by omega, by go_num, m3, hp6', hq6', hB9.drew⟩
          case measure => simp [intOf]; omega
    · go_wp2_with (go_at_call 8; refine (awake_any _).mono ?_; rintro e w' ⟨rfl, hB2⟩)
      go_ret
      exact ⟨rfl, pure_trans hB hB2⟩
end Go.Proofs.Ytfoocifhifpbdaa
