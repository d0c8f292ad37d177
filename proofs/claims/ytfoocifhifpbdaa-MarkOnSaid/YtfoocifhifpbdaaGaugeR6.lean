/- The reference's gauges (for a seat without Close); its Marks. -/
import Derived.Test.YtfoocifhifpbdaaGaugeA
namespace Go.Proofs.Ytfoocifhifpbdaa
open Go.RowKit

set_option maxHeartbeats 400000 in
theorem rwithin_any (n lo hi : Int) (w : World) :
    Calls Try.prog 47 #[.int .i64 n, .int .i64 lo, .int .i64 hi] w fun e w' => e = .returned (.bool (decide (lo ≤ n ∧ n ≤ hi))) ∧ w = w' := by
  by_cases h1 : lo ≤ n <;> by_cases h2 : n ≤ hi
  all_goals
    go_enter Try.func47, Try.ntmps47
    go_wp2
    go_ret
    exact ⟨by simp [*], rfl⟩

set_option maxHeartbeats 400000 in
theorem rvalid_any (n : Int) (w : World) :
    Calls Try.prog 57 #[.int .i64 n] w fun e w' => e = .returned (.bool (decide (-1000000000000 ≤ n ∧ n ≤ 1000000000000))) ∧ w = w' := by
  by_cases h1 : -1000000000000 ≤ n <;> by_cases h2 : n ≤ 1000000000000
  all_goals
    go_enter Try.func57, Try.ntmps57
    go_wp2
    go_ret
    exact ⟨by simp [*], rfl⟩

set_option maxHeartbeats 400000 in
theorem rnew_any (b : Int) (w : World) :
    Calls Try.prog 32 #[.int .i64 b] w (NewGauge w b) := by
  by_cases h : 0 ≤ b ∧ b ≤ 1000000000
  · have hd : decide (0 ≤ b ∧ b ≤ 1000000000) = true := by simp; omega
    have H := Lib.hid h
    clear h
    go_enter Try.func32, Try.ntmps32
    go_wp2_with (go_at_call 47; refine (rwithin_any _ _ _ _).mono ?_; rintro e w' ⟨rfl, rfl⟩)
    go_ret2
    unfold NewGauge
    rw [if_pos H.out]
    exact ⟨rfl, GaugeAt.made (heap_alloc_new w _) ⟨H.out.1, H.out.2, by simp, by simp⟩, by simp, (Below.refl _ _).alloc (Nat.le_refl _) _⟩
  · have hd : decide (0 ≤ b ∧ b ≤ 1000000000) = false := by simp; omega
    have H := Lib.hid h
    clear h
    go_enter Try.func32, Try.ntmps32
    go_wp2_with (go_at_call 47; refine (rwithin_any _ _ _ _).mono ?_; rintro e w' ⟨rfl, rfl⟩)
    go_ret2
    unfold NewGauge
    rw [if_neg H.out]
    exact ⟨rfl, rfl⟩

set_option maxHeartbeats 400000 in
theorem rsee_any (g : Nat) (x : Gauge) (t : Int) (w : World) (hx : GaugeAt w g x) :
    Calls Try.prog 33 #[.pointer (some ⟨g, 0, none⟩), .int .i64 t] w (Seen w g (x.see t)) := by
  obtain ⟨b0, b1, m0, m1⟩ := hx.ok
  have c0 := hx.c0
  have c1 := hx.c1
  have c2 := hx.c2
  have fr := hx.fr 1
  by_cases ht : -1000000000000 ≤ t ∧ t ≤ 1000000000000
  · have hd : decide (-1000000000000 ≤ t ∧ t ≤ 1000000000000) = true := by simp; omega
    obtain ⟨ht0, ht1⟩ := ht
    have HT := Lib.hid (And.intro ht0 ht1)
    cases hc : x.closed
    · have HS := Lib.hid (show x.see t = ({ x with mark := max x.mark (t - x.bound + 1) }, decide (t < x.mark), 0) by unfold Gauge.see; rw [if_neg (by simp; omega), if_neg (by simp [hc])])
      rw [hc] at c2
      clear hc
      go_enter Try.func33, Try.ntmps33
      go_wp2_with (first | (go_at_call 57; refine (rvalid_any _ _).mono ?_; rintro e w' ⟨rfl, rfl⟩) | go_in)
      go_region
      all_goals go_wp2
      all_goals go_ret2
      all_goals
        refine ⟨by rw [HS.out]; rfl, ?_, ((Keeps.refl _ _).setCell (by simp) _).drew⟩
        rw [HS.out]
        refine GaugeAt.keeps (w := w.setCell ⟨g, 1, none⟩ (.int .i64 (max x.mark (t - x.bound + 1)))) (hx.set (by omega) (by omega)) ?_
        have e : ∀ n : Int, n = max x.mark (t - x.bound + 1) → (w.setCell ⟨g, 1, none⟩ (.int .i64 n)).drew.heap[g]? = (w.setCell ⟨g, 1, none⟩ (.int .i64 (max x.mark (t - x.bound + 1)))).heap[g]? := fun n hn => by rw [hn]; rfl
        exact e _ (by omega)
    · have HS := Lib.hid (show x.see t = (x, false, 10) by unfold Gauge.see; rw [if_neg (by simp; omega), if_pos hc])
      rw [hc] at c2
      clear hc
      go_enter Try.func33, Try.ntmps33
      go_wp2_with (go_at_call 57; refine (rvalid_any _ _).mono ?_; rintro e w' ⟨rfl, rfl⟩)
      go_ret2
      exact ⟨by rw [HS.out]; rfl, by rw [HS.out]; exact hx, Keeps.refl _ _⟩
  · have hd : decide (-1000000000000 ≤ t ∧ t ≤ 1000000000000) = false := by simp; omega
    have HS := Lib.hid (show x.see t = (x, false, 7) by unfold Gauge.see; rw [if_pos ht])
    clear ht
    go_enter Try.func33, Try.ntmps33
    go_wp2_with (go_at_call 57; refine (rvalid_any _ _).mono ?_; rintro e w' ⟨rfl, rfl⟩)
    go_ret2
    exact ⟨by rw [HS.out]; rfl, by rw [HS.out]; exact hx, Keeps.refl _ _⟩

set_option maxHeartbeats 1000000 in
theorem rmarks_any (b : Int) (ts : List Int) (v : Value) (w : World) (hv : (tSlice tInt).rv (mem w) [v] ts) :
    Calls Try.prog 10 #[.int .i64 b, v] w (NewInts2 w (marksOf b ts)) := by
  obtain ⟨a, cap, rfl, hl, hm, hv⟩ := slice_form hv
  have hcap : cap ≤ 9223372036854775807 := by unfold maxLen at hm; exact hm
  by_cases h400 : 400 < ts.length
  · have HR := Lib.hid (show marksOf b ts = ([], 1) by unfold marksOf; rw [if_pos h400])
    go_enter Try.func10, Try.ntmps10
    go_wp2_with fail
    go_ret2
    exact ⟨_, by rw [HR.out]; rfl, by rw [HR.out]; exact slice_nil _ _, Below.refl _ _⟩
  · by_cases hb : 0 ≤ b ∧ b ≤ 1000000000
    · have HR := Lib.hid (show marksOf b ts = cont [] (marksFrom ⟨b, -1000000000000, false⟩ ts) by unfold marksOf; rw [if_neg h400, if_pos hb])
      have HB := Lib.hid hb
      clear hb
      go_enter Try.func10, Try.ntmps10
      go_wp2_with fail
      refine (rnew_any b w).mono ?_
      intro e w1 hn
      obtain ⟨rfl, hg, hsz, hB⟩ := NewGauge_yes hn HB.out
      clear hn HB
      go_wp2_with fail
      go_loopw [8, 9] (fun o i wr => ∃ k : Nat, k ≤ ts.length ∧ i = .int .i64 k ∧ ∃ x out, GaugeAt wr w.heap.size x ∧ Owns tInt wr (w.heap.size + 1) 3 o out ∧ out.length = k ∧ Below w.heap.size w wr ∧ w.heap.size + 1 ≤ wr.heap.size ∧ Hid (marksOf b ts = cont out (marksFrom x (ts.drop k)))) (fun _ i _ => ts.length - (intOf i).toNat)
      case atStart => exact ⟨0, by omega, rfl, _, [], hg, Owns.nil _ _ _ _, rfl, hB, by omega, HR.out⟩
      case round =>
        clear hg hB hsz HR
        obtain ⟨k, hk, rfl, x, out, hg, hown, hol, hB, hsz, HR⟩ := hrel
        by_cases hlt : k < ts.length
        · obtain ⟨bb, o, rfl, hat⟩ := slice_at (t := tInt) hv hlt
          obtain ⟨hc, hin⟩ := int_at hat
          have hc' : wr.cell? ⟨bb, o + k, none⟩ = some (.int .i64 ts[k]) := by
            have := (mem_of_block (hB.block bb (mem_lt hc)) _).trans hc
            simpa [tInt, mem] using this
          have HR' := HR.out
          rw [List.drop_eq_getElem_cons hlt] at HR'
          have hsee := rsee_any w.heap.size x ts[k] wr hg
          clear hc hat hv
          generalize ts[k] = t at hc' HR' hsee hin
          have HO := Lib.hid hol
          clear hol HR
          by_cases he : (x.see t).2.2 = 0
          · rw [cont_step _ _ _ _ he] at HR'
            generalize x.see t = r at HR' hsee he
            obtain ⟨x', late, er⟩ := r
            simp only at he hsee HR'
            subst he
            have HS := Lib.hid hsee
            have HR := Lib.hid HR'
            clear HR' hsee
            go_wp2_with fail
            refine HS.out.mono ?_
            rintro e w2 ⟨rfl, hg2, hK2⟩
            have hown2 := hown.keepsFlat tInt_flat hK2 (fun k hk e => by have := (hown.lt k hk).1; omega)
            have hB2 : Below w.heap.size w w2 := hK2.belowStep hB (fun k e => by omega) hB.size
            have hsz2 := Nat.le_trans hsz hK2.size
            have hin2 : inI64 x'.mark := by have : x'.ok := hg2.ok; unfold inI64; exact ⟨by have := this.m0; omega, by have := this.m1; omega⟩
            clear HS hK2 hown hB hsz hc' hg
            have cm := hg2.c1
            simp only
            go_wp2_with (first | (at_builtin; refine wpList_append_int rfl _ _ 22 rfl Try.underlying22 Try.infoInt (w.heap.size + 1) _ out rfl (hown2.alloc _) _ _ x'.mark rfl ?c1 ?c2 ?c3 ?c4 ?_))
            case c3 => rw [HO.out]; omega
            case c4 => omega
            · intro v' w3 hown3 hgrow _
              have hB3 : Below w.heap.size w w3 := (hB2.alloc hB2.size _).grown hgrow (by simp; omega) (fun k hk => by have := (hown2.lt k hk).1; omega)
              have hg3 : GaugeAt w3 w.heap.size x' := hg2.keeps ((hgrow.block _ (by simp; omega) (fun e => by have := (hown2.lt _ e.symm).1; omega)).trans (Below.heap_alloc _ _ _ (by omega)))
              have hsz3 : w.heap.size + 1 ≤ w3.heap.size := by have := hgrow.size; simp at this; omega
              clear hgrow hB2 hown2 hg2 hsz2
              go_wp2
              go_roundw
              case rel => exact ⟨k + 1, by omega, by go_num, x', _, hg3, hown3, by simp [HO.out], hB3, hsz3, HR.out⟩
              case measure => simp [intOf]; omega
          · rw [cont_err _ _ _ _ he] at HR'
            generalize x.see t = r at HR' hsee he
            obtain ⟨x', late, er⟩ := r
            simp only at he hsee HR'
            have HS := Lib.hid hsee
            have HR := Lib.hid HR'
            clear HR' hsee
            go_wp2_with fail
            refine HS.out.mono ?_
            rintro e w2 ⟨rfl, hg2, hK2⟩
            have hB2 : Below w.heap.size w w2 := hK2.belowStep hB (fun k e => by omega) hB.size
            clear HS hK2 hown hB hsz hc' hg hg2
            simp only
            go_wp2
            go_ret2
            exact ⟨_, by rw [HR.out]; rfl, by rw [HR.out]; exact slice_nil _ _, hB2⟩
        · obtain rfl : k = ts.length := by omega
          go_wp2
          go_ret2
          rw [List.drop_length] at HR
          exact ⟨_, by rw [HR.out]; rfl, by rw [HR.out]; simp only [cont, marksFrom]; simpa using (tSlice tInt).mono _ _ _ _ (Mem.on_mono _ (fun b hb => by omega)) (owns_ints hown), hB⟩
    · have HR := Lib.hid (show marksOf b ts = ([], 7) by unfold marksOf; rw [if_neg h400, if_neg hb])
      have HB := Lib.hid hb
      clear hb
      go_enter Try.func10, Try.ntmps10
      go_wp2_with fail
      refine (rnew_any b w).mono ?_
      intro e w1 hn
      obtain ⟨rfl, rfl⟩ := NewGauge_no hn HB.out
      clear hn HB
      go_wp2
      go_ret2
      exact ⟨_, by rw [HR.out]; rfl, by rw [HR.out]; exact slice_nil _ _, Below.refl _ _⟩
end Go.Proofs.Ytfoocifhifpbdaa
