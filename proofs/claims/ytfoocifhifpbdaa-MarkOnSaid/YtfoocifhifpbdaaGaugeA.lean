/- Gauges of package mark, and chapter 6's example (for a seat that has no meet). -/
import Derived.Test.YtfoocifhifpbdaaRows
import Derived.Test.YtfoocifhifpbdaaLib
namespace Go.Proofs.Ytfoocifhifpbdaa
open Go.RowKit

set_option maxHeartbeats 400000 in
theorem mwithin_any (n lo hi : Int) (w : World) :
    Calls Try.prog 42 #[.int .i64 n, .int .i64 lo, .int .i64 hi] w fun e w' => e = .returned (.bool (decide (lo ≤ n ∧ n ≤ hi))) ∧ w = w' := by
  by_cases h1 : lo ≤ n <;> by_cases h2 : n ≤ hi
  all_goals
    go_enter Try.func42, Try.ntmps42
    go_wp2
    go_ret
    exact ⟨by simp [*], rfl⟩

theorem below_drewN {B : Nat} {w wr : World} (h : Below B w wr) (n : Nat) : Below B w (wr.drewN n) := ⟨h.os, h.tape, h.output, h.size, h.block⟩
theorem frozen_set (w : World) (a b : Addr) (v : Value) : (w.setCell a v).frozen? b = w.frozen? b := World.frozen?_setCell _ _ _ _
theorem cell_other {w : World} {a b : Addr} (v : Value) (h : a ≠ b) : (w.setCell a v).cell? b = w.cell? b := World.cell?_setCell_other _ _ _ _ (by first | exact h | exact fun e => h e.symm)
theorem Try.infoInt : (Try.prog.info? 3).map (fun i => (i.zero, i.size, i.bytes)) = some (some (.int .i64 0), 1, 8) := by kernel_rfl
theorem owns_ints {w' : World} {B : Nat} {e : TypeId} {v : Value} {xs : List Int} (h : Owns tInt w' B e v xs) : (tSlice tInt).rv ((mem w').on (B ≤ ·)) [v] xs :=
  h.rv (fun _ hb => hb) (fun _ _ _ hk => hk)



structure Gauge where
  bound : Int
  mark : Int
  closed : Bool
def Gauge.see (x : Gauge) (t : Int) : Gauge × Bool × Int :=
  if ¬ (-1000000000000 ≤ t ∧ t ≤ 1000000000000) then (x, false, 7) else if x.closed then (x, false, 10) else ({ x with mark := max x.mark (t - x.bound + 1) }, decide (t < x.mark), 0)
structure Gauge.ok (x : Gauge) : Prop where
  b0 : 0 ≤ x.bound
  b1 : x.bound ≤ 1000000000
  m0 : -1000000000000 ≤ x.mark
  m1 : x.mark ≤ 1000000000001
structure GaugeAt (w : World) (g : Nat) (x : Gauge) : Prop where
  c0 : w.cell? ⟨g, 0, none⟩ = some (.int .i64 x.bound)
  c1 : w.cell? ⟨g, 1, none⟩ = some (.int .i64 x.mark)
  c2 : w.cell? ⟨g, 2, none⟩ = some (.bool x.closed)
  fr : ∀ o, w.frozen? ⟨g, o, none⟩ = false
  ok : x.ok
theorem GaugeAt.lt {w : World} {g : Nat} {x : Gauge} (k : GaugeAt w g x) : g < w.heap.size := mem_lt k.c0
theorem GaugeAt.keeps {w w' : World} {g : Nat} {x : Gauge} (k : GaugeAt w g x) (hb : w'.heap[g]? = w.heap[g]?) : GaugeAt w' g x :=
  ⟨(mem_of_block hb _).trans k.c0, (mem_of_block hb _).trans k.c1, (mem_of_block hb _).trans k.c2, fun o => (World.frozen?_of_block (w := w) (a := ⟨g, o, none⟩) hb).trans (k.fr o), k.ok⟩
theorem GaugeAt.set {w : World} {g : Nat} {x : Gauge} (k : GaugeAt w g x) {n : Int} (h0 : -1000000000000 ≤ n) (h1 : n ≤ 1000000000001) : GaugeAt (w.setCell ⟨g, 1, none⟩ (.int .i64 n)) g { x with mark := n } :=
  ⟨(cell_other _ (by simp)).trans k.c0, World.cell?_setCell_same _ _ _ k.c1, (cell_other _ (by simp)).trans k.c2, fun o => (frozen_set _ _ _ _).trans (k.fr o), ⟨k.ok.b0, k.ok.b1, h0, h1⟩⟩
theorem GaugeAt.made {w : World} {g : Nat} {x : Gauge} {t : TypeId} (h : w.heap[g]? = some (.cells #[.int .i64 x.bound, .int .i64 x.mark, .bool x.closed] t (0, 0))) (ok : x.ok) : GaugeAt w g x :=
  ⟨mem_cells h 0, mem_cells h 1, mem_cells h 2, frozen_cells h, ok⟩
theorem Gauge.see_ok {x : Gauge} (h : x.ok) (t : Int) : (x.see t).1.ok := by
  unfold Gauge.see
  split
  · exact h
  · split
    · exact h
    · rename_i h1 _
      obtain ⟨a, b, c, d⟩ := h
      exact ⟨a, b, by simp only; omega, by simp only; omega⟩

def Seen (w : World) (g : Nat) (r : Gauge × Bool × Int) (e : Ending) (w' : World) : Prop :=
  e = .returned (.tuple #[.bool r.2.1, .int .i64 r.2.2]) ∧ GaugeAt w' g r.1 ∧ Keeps (fun k => k = g) w w'

/-- What NewGauge does. -/
def NewGauge (w : World) (b : Int) (e : Ending) (w' : World) : Prop :=
  if 0 ≤ b ∧ b ≤ 1000000000 then e = .returned (.tuple #[.pointer (some ⟨w.heap.size, 0, none⟩), .int .i64 0]) ∧ GaugeAt w' w.heap.size ⟨b, -1000000000000, false⟩ ∧ w'.heap.size = w.heap.size + 1 ∧ Below w.heap.size w w'
  else e = .returned (.tuple #[.pointer none, .int .i64 7]) ∧ w = w'

theorem NewGauge_yes {w w' : World} {b : Int} {e : Ending} (hn : NewGauge w b e w') (h : 0 ≤ b ∧ b ≤ 1000000000) : e = .returned (.tuple #[.pointer (some ⟨w.heap.size, 0, none⟩), .int .i64 0]) ∧ GaugeAt w' w.heap.size ⟨b, -1000000000000, false⟩ ∧ w'.heap.size = w.heap.size + 1 ∧ Below w.heap.size w w' := by
  unfold NewGauge at hn; rw [if_pos h] at hn; exact hn
theorem NewGauge_no {w w' : World} {b : Int} {e : Ending} (hn : NewGauge w b e w') (h : ¬ (0 ≤ b ∧ b ≤ 1000000000)) : e = .returned (.tuple #[.pointer none, .int .i64 7]) ∧ w = w' := by
  unfold NewGauge at hn; rw [if_neg h] at hn; exact hn

def marksFrom (x : Gauge) : List Int → List Int × Int
  | [] => ([], 0)
  | t :: ts => if (x.see t).2.2 ≠ 0 then ([], (x.see t).2.2) else
    if (marksFrom (x.see t).1 ts).2 ≠ 0 then ([], (marksFrom (x.see t).1 ts).2) else ((x.see t).1.mark :: (marksFrom (x.see t).1 ts).1, 0)
def cont (out : List Int) (r : List Int × Int) : List Int × Int := if r.2 ≠ 0 then ([], r.2) else (out ++ r.1, 0)
theorem cont_nil (r : List Int × Int) : cont [] r = (if r.2 ≠ 0 then ([], r.2) else (r.1, 0)) := by simp [cont]
theorem cont_step (out : List Int) (x : Gauge) (t : Int) (ts : List Int) (h : (x.see t).2.2 = 0) : cont out (marksFrom x (t :: ts)) = cont (out ++ [(x.see t).1.mark]) (marksFrom (x.see t).1 ts) := by
  by_cases h1 : (marksFrom (x.see t).1 ts).2 = 0 <;> simp [marksFrom, cont, h, h1]
theorem cont_err (out : List Int) (x : Gauge) (t : Int) (ts : List Int) (h : (x.see t).2.2 ≠ 0) : cont out (marksFrom x (t :: ts)) = ([], (x.see t).2.2) := by
  simp [marksFrom, cont, h]
def marksOf (b : Int) (ts : List Int) : List Int × Int :=
  if 400 < ts.length then ([], 1) else if 0 ≤ b ∧ b ≤ 1000000000 then cont [] (marksFrom ⟨b, -1000000000000, false⟩ ts) else ([], 7)

/-- A result that is a new slice of numbers, and an error. -/
def NewInts2 (w : World) (r : List Int × Int) (e : Ending) (w' : World) : Prop :=
  ∃ v, e = .returned (.tuple #[v, .int .i64 r.2]) ∧ (tSlice tInt).rv ((mem w').on (w.heap.size ≤ ·)) [v] r.1 ∧ Below w.heap.size w w'

set_option maxHeartbeats 400000 in
theorem cvalid_any (n : Int) (w : World) :
    Calls Try.prog 36 #[.int .i64 n] w fun e w' => e = .returned (.bool (decide (-1000000000000 ≤ n ∧ n ≤ 1000000000000))) ∧ w = w' := by
  by_cases h1 : -1000000000000 ≤ n <;> by_cases h2 : n ≤ 1000000000000
  all_goals
    go_enter Try.func36, Try.ntmps36
    go_wp2
    go_ret
    exact ⟨by simp [*], rfl⟩

set_option maxHeartbeats 400000 in
theorem gnew_any (b : Int) (w : World) :
    Calls Try.prog 29 #[.int .i64 b] w (NewGauge w b) := by
  by_cases h : 0 ≤ b ∧ b ≤ 1000000000
  · have hd : decide (0 ≤ b ∧ b ≤ 1000000000) = true := by simp; omega
    have H := Lib.hid h
    clear h
    go_enter Try.func29, Try.ntmps29
    go_wp2_with (go_at_call 42; refine (mwithin_any _ _ _ _).mono ?_; rintro e w' ⟨rfl, rfl⟩)
    go_ret2
    unfold NewGauge
    rw [if_pos H.out]
    exact ⟨rfl, GaugeAt.made (heap_alloc_new w _) ⟨H.out.1, H.out.2, by simp, by simp⟩, by simp, (Below.refl _ _).alloc (Nat.le_refl _) _⟩
  · have hd : decide (0 ≤ b ∧ b ≤ 1000000000) = false := by simp; omega
    have H := Lib.hid h
    clear h
    go_enter Try.func29, Try.ntmps29
    go_wp2_with (go_at_call 42; refine (mwithin_any _ _ _ _).mono ?_; rintro e w' ⟨rfl, rfl⟩)
    go_ret2
    unfold NewGauge
    rw [if_neg H.out]
    exact ⟨rfl, rfl⟩

set_option maxHeartbeats 400000 in
theorem gmark_any (g : Nat) (x : Gauge) (w : World) (hx : GaugeAt w g x) :
    Calls Try.prog 31 #[.pointer (some ⟨g, 0, none⟩)] w fun e w' => e = .returned (.int .i64 x.mark) ∧ w = w' := by
  obtain ⟨c0, c1, c2, fr, ok⟩ := hx
  clear fr ok
  go_enter Try.func31, Try.ntmps31
  go_wp2
  go_ret
  exact ⟨rfl, rfl⟩

set_option maxHeartbeats 400000 in
theorem gsee_any (g : Nat) (x : Gauge) (t : Int) (w : World) (hx : GaugeAt w g x) :
    Calls Try.prog 30 #[.pointer (some ⟨g, 0, none⟩), .int .i64 t] w (Seen w g (x.see t)) := by
  obtain ⟨b0, b1, m0, m1⟩ := hx.ok
  have c0 := hx.c0
  have c1 := hx.c1
  have c2 := hx.c2
  have fr := hx.fr 1
  by_cases ht : -1000000000000 ≤ t ∧ t ≤ 1000000000000
  · have hd : decide (-1000000000000 ≤ t ∧ t ≤ 1000000000000) = true := by simp; omega
    obtain ⟨ht0, ht1⟩ := ht
    have HT := Lib.hid (And.intro ht0 ht1)
    cases hc : x.closed
    · have HS := Lib.hid (show x.see t = ({ x with mark := max x.mark (t - x.bound + 1) }, decide (t < x.mark), 0) by unfold Gauge.see; rw [if_neg (by simp; omega), if_neg (by simp [hc])])
      rw [hc] at c2
      clear hc
      go_enter Try.func30, Try.ntmps30
      go_wp2_with (first | (go_at_call 36; refine (cvalid_any _ _).mono ?_; rintro e w' ⟨rfl, rfl⟩) | go_in)
      go_region
      all_goals go_wp2
      all_goals go_ret2
      all_goals
        refine ⟨by rw [HS.out]; rfl, ?_, ((Keeps.refl _ _).setCell (by simp) _).drew⟩
        rw [HS.out]
        refine GaugeAt.keeps (w := w.setCell ⟨g, 1, none⟩ (.int .i64 (max x.mark (t - x.bound + 1)))) (hx.set (by omega) (by omega)) ?_
        have e : ∀ n : Int, n = max x.mark (t - x.bound + 1) → (w.setCell ⟨g, 1, none⟩ (.int .i64 n)).drew.heap[g]? = (w.setCell ⟨g, 1, none⟩ (.int .i64 (max x.mark (t - x.bound + 1)))).heap[g]? := fun n hn => by rw [hn]; rfl
        exact e _ (by omega)
    · have HS := Lib.hid (show x.see t = (x, false, 10) by unfold Gauge.see; rw [if_neg (by simp; omega), if_pos hc])
      rw [hc] at c2
      clear hc
      go_enter Try.func30, Try.ntmps30
      go_wp2_with (go_at_call 36; refine (cvalid_any _ _).mono ?_; rintro e w' ⟨rfl, rfl⟩)
      go_ret2
      exact ⟨by rw [HS.out]; rfl, by rw [HS.out]; exact hx, Keeps.refl _ _⟩
  · have hd : decide (-1000000000000 ≤ t ∧ t ≤ 1000000000000) = false := by simp; omega
    have HS := Lib.hid (show x.see t = (x, false, 7) by unfold Gauge.see; rw [if_pos ht])
    clear ht
    go_enter Try.func30, Try.ntmps30
    go_wp2_with (go_at_call 36; refine (cvalid_any _ _).mono ?_; rintro e w' ⟨rfl, rfl⟩)
    go_ret2
    exact ⟨by rw [HS.out]; rfl, by rw [HS.out]; exact hx, Keeps.refl _ _⟩

set_option maxHeartbeats 1000000 in
theorem gmarks_any (b : Int) (ts : List Int) (v : Value) (w : World) (hv : (tSlice tInt).rv (mem w) [v] ts) :
    Calls Try.prog 9 #[.int .i64 b, v] w (NewInts2 w (marksOf b ts)) := by
  obtain ⟨a, cap, rfl, hl, hm, hv⟩ := slice_form hv
  have hcap : cap ≤ 9223372036854775807 := by unfold maxLen at hm; exact hm
  by_cases h400 : 400 < ts.length
  · have HR := Lib.hid (show marksOf b ts = ([], 1) by unfold marksOf; rw [if_pos h400])
    go_enter Try.func9, Try.ntmps9
    go_wp2_with fail
    go_ret2
    exact ⟨_, by rw [HR.out]; rfl, by rw [HR.out]; exact slice_nil _ _, Below.refl _ _⟩
  · by_cases hb : 0 ≤ b ∧ b ≤ 1000000000
    · have HR := Lib.hid (show marksOf b ts = cont [] (marksFrom ⟨b, -1000000000000, false⟩ ts) by unfold marksOf; rw [if_neg h400, if_pos hb])
      have HB := Lib.hid hb
      clear hb
      go_enter Try.func9, Try.ntmps9
      go_wp2_with fail
      refine (gnew_any b w).mono ?_
      intro e w1 hn
      obtain ⟨rfl, hg, hsz, hB⟩ := NewGauge_yes hn HB.out
      clear hn HB
      go_wp2_with fail
      go_loopw [8, 26] (fun o i wr => ∃ k : Nat, k ≤ ts.length ∧ i = .int .i64 k ∧ ∃ x out, GaugeAt wr w.heap.size x ∧ Owns tInt wr (w.heap.size + 1) 3 o out ∧ out.length = k ∧ Below w.heap.size w wr ∧ w.heap.size + 1 ≤ wr.heap.size ∧ Hid (marksOf b ts = cont out (marksFrom x (ts.drop k)))) (fun _ i _ => ts.length - (intOf i).toNat)
      case atStart => exact ⟨0, by omega, rfl, _, [], hg, Owns.nil _ _ _ _, rfl, hB, by omega, HR.out⟩
      case round =>
        clear hg hB hsz HR
        obtain ⟨k, hk, rfl, x, out, hg, hown, hol, hB, hsz, HR⟩ := hrel
        by_cases hlt : k < ts.length
        · obtain ⟨bb, o, rfl, hat⟩ := slice_at (t := tInt) hv hlt
          obtain ⟨hc, hin⟩ := int_at hat
          have hc' : wr.cell? ⟨bb, o + k, none⟩ = some (.int .i64 ts[k]) := by
            have := (mem_of_block (hB.block bb (mem_lt hc)) _).trans hc
            simpa [tInt, mem] using this
          have HR' := HR.out
          rw [List.drop_eq_getElem_cons hlt] at HR'
          have hsee := gsee_any w.heap.size x ts[k] wr hg
          clear hc hat hv
          generalize ts[k] = t at hc' HR' hsee hin
          have HO := Lib.hid hol
          clear hol HR
          by_cases he : (x.see t).2.2 = 0
          · rw [cont_step _ _ _ _ he] at HR'
            generalize x.see t = r at HR' hsee he
            obtain ⟨x', late, er⟩ := r
            simp only at he hsee HR'
            subst he
            have HS := Lib.hid hsee
            have HR := Lib.hid HR'
            clear HR' hsee
            go_wp2_with fail
            refine HS.out.mono ?_
            rintro e w2 ⟨rfl, hg2, hK2⟩
            have hown2 := hown.keepsFlat tInt_flat hK2 (fun k hk e => by have := (hown.lt k hk).1; omega)
            have hB2 : Below w.heap.size w w2 := hK2.belowStep hB (fun k e => by omega) hB.size
            have hsz2 := Nat.le_trans hsz hK2.size
            have hin2 : inI64 x'.mark := by have : x'.ok := hg2.ok; unfold inI64; exact ⟨by have := this.m0; omega, by have := this.m1; omega⟩
            clear HS hK2 hown hB hsz hc' hg
            simp only
            go_wp2_with (first | (go_at_call 31; refine (gmark_any _ _ _ hg2).mono ?_; rintro e w' ⟨rfl, rfl⟩) | (at_builtin; refine wpList_append_int rfl _ _ 22 rfl Try.underlying22 Try.infoInt (w.heap.size + 1) _ out rfl (hown2.alloc _) _ _ x'.mark rfl ?c1 ?c2 ?c3 ?c4 ?_))
            case c1 => exact cell_new 0 (by simp)
            case c2 => exact hin2
            case c3 => rw [HO.out]; omega
            case c4 => simp; omega
            · intro v' w3 hown3 hgrow _
              have hB3 : Below w.heap.size w w3 := (hB2.alloc hB2.size _).grown hgrow (by simp; omega) (fun k hk => by have := (hown2.lt k hk).1; omega)
              have hg3 : GaugeAt w3 w.heap.size x' := hg2.keeps ((hgrow.block _ (by simp; omega) (fun e => by have := (hown2.lt _ e.symm).1; omega)).trans (Below.heap_alloc _ _ _ (by omega)))
              have hsz3 : w.heap.size + 1 ≤ w3.heap.size := by have := hgrow.size; simp at this; omega
              clear hgrow hB2 hown2 hg2 hsz2
              go_wp2
              go_roundw
              case rel => exact ⟨k + 1, by omega, by go_num, x', _, hg3, hown3, by simp [HO.out], hB3, hsz3, HR.out⟩
              case measure => simp [intOf]; omega
          · rw [cont_err _ _ _ _ he] at HR'
            generalize x.see t = r at HR' hsee he
            obtain ⟨x', late, er⟩ := r
            simp only at he hsee HR'
            have HS := Lib.hid hsee
            have HR := Lib.hid HR'
            clear HR' hsee
            go_wp2_with fail
            refine HS.out.mono ?_
            rintro e w2 ⟨rfl, hg2, hK2⟩
            have hB2 : Below w.heap.size w w2 := hK2.belowStep hB (fun k e => by omega) hB.size
            clear HS hK2 hown hB hsz hc' hg hg2
            simp only
            go_wp2
            go_ret2
            exact ⟨_, by rw [HR.out]; rfl, by rw [HR.out]; exact slice_nil _ _, hB2⟩
        · obtain rfl : k = ts.length := by omega
          go_wp2
          go_ret2
          rw [List.drop_length] at HR
          exact ⟨_, by rw [HR.out]; rfl, by rw [HR.out]; simp only [cont, marksFrom]; simpa using (tSlice tInt).mono _ _ _ _ (Mem.on_mono _ (fun b hb => by omega)) (owns_ints hown), hB⟩
    · have HR := Lib.hid (show marksOf b ts = ([], 7) by unfold marksOf; rw [if_neg h400, if_neg hb])
      have HB := Lib.hid hb
      clear hb
      go_enter Try.func9, Try.ntmps9
      go_wp2_with fail
      refine (gnew_any b w).mono ?_
      intro e w1 hn
      obtain ⟨rfl, rfl⟩ := NewGauge_no hn HB.out
      clear hn HB
      go_wp2
      go_ret2
      exact ⟨_, by rw [HR.out]; rfl, by rw [HR.out]; exact slice_nil _ _, Below.refl _ _⟩


set_option maxHeartbeats 1000000 in
theorem sameInts_any (xs ys : List Int) (u v : Value) (w : World) (hu : (tSlice tInt).rv (mem w) [u] xs) (hv : (tSlice tInt).rv (mem w) [v] ys) :
    Calls Try.prog 11 #[u, v] w fun e w' => e = .returned (.bool (decide (xs = ys))) ∧ Below w.heap.size w w' := by
  obtain ⟨a, cap, rfl, hl, hm, hu⟩ := slice_form hu
  obtain ⟨b, cap', rfl, hl', hm', hv⟩ := slice_form hv
  have hcap : cap ≤ 9223372036854775807 := by unfold maxLen at hm; exact hm
  have hcap' : cap' ≤ 9223372036854775807 := by unfold maxLen at hm'; exact hm'
  clear hm hm'
  by_cases hn : xs.length = ys.length
  · have hne : ((xs.length : Int) != (ys.length : Int)) = false := by simp [hn]
    have HN := Lib.hid hn
    have hle : ys.length ≤ xs.length := by omega
    have hle' : xs.length ≤ ys.length := by omega
    clear hn
    go_enter Try.func11, Try.ntmps11
    go_wp2
    go_loopw [5] (fun i wr => ∃ k : Nat, k ≤ xs.length ∧ i = .int .i64 k ∧ Hid (xs.take k = ys.take k) ∧ Below w.heap.size w wr) (fun i _ => xs.length - (intOf i).toNat)
    case atStart => exact ⟨0, by omega, rfl, Lib.hid rfl, Below.refl _ _⟩
    case round =>
      obtain ⟨k, hk, rfl, HT, hB⟩ := hrel
      by_cases hlt : k < xs.length
      · obtain ⟨b1, o1, rfl, hat⟩ := slice_at (t := tInt) hu hlt
        obtain ⟨b2, o2, rfl, hat2⟩ := slice_at (t := tInt) hv (show k < ys.length by omega)
        obtain ⟨hc, hin⟩ := int_at hat
        obtain ⟨hc2, hin2⟩ := int_at hat2
        have hc' : wr.cell? ⟨b1, o1 + k, none⟩ = some (.int .i64 xs[k]) := by
          have := (mem_of_block (hB.block b1 (mem_lt hc)) _).trans hc
          simpa [tInt, mem] using this
        have hc2' : wr.cell? ⟨b2, o2 + k, none⟩ = some (.int .i64 (ys[k]'(by omega))) := by
          have := (mem_of_block (hB.block b2 (mem_lt hc2)) _).trans hc2
          simpa [tInt, mem] using this
        have hlty : k < ys.length := by omega
        have HTx := Lib.hid (List.take_succ_eq_append_getElem hlt)
        have HTy := Lib.hid (List.take_succ_eq_append_getElem hlty)
        have HX := Lib.hid (show xs[k]? = some xs[k] from List.getElem?_eq_getElem hlt)
        have HY := Lib.hid (show ys[k]? = some ys[k] from List.getElem?_eq_getElem hlty)
        clear hc hc2 hat hat2 hu hv hin hin2
        generalize xs[k] = p at hc' HTx HX
        generalize ys[k]'hlty = q at hc2' HTy HY
        by_cases hpq : p = q
        · have hb : (p != q) = false := by simp [hpq]
          have HP := Lib.hid hpq
          clear hpq
          go_wp2
          go_quiet (fail)
          go_wp2
          go_roundw
          case rel => exact ⟨k + 1, by omega, by go_num, Lib.hid (by rw [HTx.out, HTy.out, HT.out, HP.out]), below_drewN hB _⟩
          case measure => simp [intOf]; omega
        · have hb : (p != q) = true := by simp [hpq]
          have HD := Lib.hid (show decide (xs = ys) = false by
            simp only [decide_eq_false_iff_not]
            intro e
            have h1 := HX.out; have h2 := HY.out
            rw [e, h2] at h1
            exact hpq (Option.some.inj h1).symm)
          clear hpq
          go_wp2
          go_quiet (fail)
          go_wp2
          go_ret
          exact ⟨by rw [HD.out]; rfl, below_drewN hB _⟩
      · obtain rfl : k = xs.length := by omega
        have HD := Lib.hid (show decide (xs = ys) = true by
          have := HT.out
          rw [List.take_length, List.take_of_length_le (by omega)] at this
          simpa using this)
        go_wp2
        go_ret
        exact ⟨by rw [HD.out]; rfl, hB⟩
  · have hne : ((xs.length : Int) != (ys.length : Int)) = true := by simp; omega
    have HD := Lib.hid (show decide (xs = ys) = false by simp only [decide_eq_false_iff_not]; intro e; exact hn (by rw [e]))
    clear hn
    go_enter Try.func11, Try.ntmps11
    go_wp2
    go_ret
    exact ⟨by rw [HD.out]; rfl, Below.refl _ _⟩

theorem four_rv (w : World) (a b c d : Int) (T : TypeId) (ha : inI64 a) (hb : inI64 b) (hc : inI64 c) (hd : inI64 d) :
    (tSlice tInt).rv (mem (w.alloc (.cells #[.int .i64 a, .int .i64 b, .int .i64 c, .int .i64 d] T (0, 0)))) [.slice (some ⟨w.heap.size, 0, none⟩) 4 4] [a, b, c, d] := by
  have hh := heap_alloc_new w (.cells #[.int .i64 a, .int .i64 b, .int .i64 c, .int .i64 d] T (0, 0))
  refine ⟨some ⟨w.heap.size, 0, none⟩, 4, rfl, Nat.le_refl _, by unfold maxLen; omega, fun _ => ⟨_, 0, rfl, fun k hk => ?_⟩⟩
  have hk4 : k = 0 ∨ k = 1 ∨ k = 2 ∨ k = 3 := by simp at hk; omega
  rcases hk4 with rfl | rfl | rfl | rfl
  · exact ⟨[.int .i64 a], fun j v hj => by match j, hj with | 0, hj => simp at hj; subst hj; exact mem_cells hh 0, rfl, ha⟩
  · exact ⟨[.int .i64 b], fun j v hj => by match j, hj with | 0, hj => simp at hj; subst hj; exact mem_cells hh 1, rfl, hb⟩
  · exact ⟨[.int .i64 c], fun j v hj => by match j, hj with | 0, hj => simp at hj; subst hj; exact mem_cells hh 2, rfl, hc⟩
  · exact ⟨[.int .i64 d], fun j v hj => by match j, hj with | 0, hj => simp at hj; subst hj; exact mem_cells hh 3, rfl, hd⟩

set_option maxHeartbeats 1000000 in
theorem awake_any (w : World) :
    Calls Try.prog 8 #[] w fun e w' => e = .returned (.bool true) ∧ Below w.heap.size w w' := by
  have hM := gmarks_any 5 [10, 7, 12, 7] (.slice (some ⟨w.heap.size, 0, none⟩) 4 4) _ (four_rv w 10 7 12 7 3 (by simp [inI64]) (by simp [inI64]) (by simp [inI64]) (by simp [inI64]))
  rw [show marksOf 5 [10, 7, 12, 7] = ([6, 6, 8, 8], 0) by decide] at hM
  have HM := Lib.hid hM
  clear hM
  go_enter Try.func8, Try.ntmps8
  go_wp2_with fail
  refine HM.out.mono ?_
  rintro e w1 ⟨v, rfl, hv, hB⟩
  clear HM
  have hB1 : Below w.heap.size w w1 := ((Below.refl _ _).alloc (Nat.le_refl _) _).trans (hB.mono (by simp))
  have hS := sameInts_any [6, 6, 8, 8] [6, 6, 8, 8] v (.slice (some ⟨w1.heap.size, 0, none⟩) 4 4) (w1.alloc (.cells #[.int .i64 6, .int .i64 6, .int .i64 8, .int .i64 8] 3 (0, 0)))
    ((tSlice tInt).mono _ _ _ _ (Mem.le_trans (Mem.on_le _ _) (below_mem ((Below.refl _ _).alloc (Nat.le_refl _) _))) hv) (four_rv w1 6 6 8 8 3 (by simp [inI64]) (by simp [inI64]) (by simp [inI64]) (by simp [inI64]))
  have HS := Lib.hid hS
  clear hS hv hB
  go_wp2_with fail
  refine HS.out.mono ?_
  rintro e w2 ⟨rfl, hB2⟩
  have hB3 : Below w.heap.size w w2 := (hB1.alloc hB1.size _).trans (hB2.mono (by have := hB1.size; simp; omega))
  go_wp2
  go_ret
  exact ⟨by simp, hB3⟩
end Go.Proofs.Ytfoocifhifpbdaa
