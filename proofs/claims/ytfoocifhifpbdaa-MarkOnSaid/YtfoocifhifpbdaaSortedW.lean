/- Sorted of package mark, walked. -/
import Derived.Test.YtfoocifhifpbdaaAbove
namespace Go.Proofs.Ytfoocifhifpbdaa
open Go.RowKit Go.Shelf
attribute [local go_sem] Oper.semAt_some

def onOf (ps : List (Ev × Bool)) : List Ev := (ps.filter fun p => !p.2).map (·.1)
def lateOf (ps : List (Ev × Bool)) : List Ev := (ps.filter fun p => p.2).map (·.1)
def sortedOf (b : Int) (xs : List Ev) : List Ev × List Ev × Int :=
  if xs.length ≤ 400 ∧ xs.all validEv = true then (if 0 ≤ b ∧ b ≤ 1000000000 then (onOf (readFrom ⟨b, -1000000000000, false⟩ xs), lateOf (readFrom ⟨b, -1000000000000, false⟩ xs), 0) else ([], [], 7)) else ([], [], 1)
def TwoEvs (w : World) (r : List Ev × List Ev × Int) (e : Ending) (w' : World) : Prop :=
  ∃ u v, e = .returned (.tuple #[u, v, .int .i64 r.2.2]) ∧ tEvs.rv (mem w') [u] r.1 ∧ tEvs.rv (mem w') [v] r.2.1 ∧ Below w.heap.size w w'
theorem sortedOf_bad {b : Int} {xs : List Ev} (h : ¬ (xs.length ≤ 400 ∧ xs.all validEv = true)) : sortedOf b xs = ([], [], 1) := if_neg h
theorem sortedOf_off {b : Int} {xs : List Ev} (h : xs.length ≤ 400 ∧ xs.all validEv = true) (h2 : ¬ (0 ≤ b ∧ b ≤ 1000000000)) : sortedOf b xs = ([], [], 7) := by
  unfold sortedOf; rw [if_pos h, if_neg h2]
theorem sortedOf_on {b : Int} {xs : List Ev} (h : xs.length ≤ 400 ∧ xs.all validEv = true) (h2 : 0 ≤ b ∧ b ≤ 1000000000) :
    sortedOf b xs = (onOf (readFrom ⟨b, -1000000000000, false⟩ xs), lateOf (readFrom ⟨b, -1000000000000, false⟩ xs), 0) := by
  unfold sortedOf; rw [if_pos h, if_pos h2]
theorem twoEvs_none {w w' : World} {r : List Ev × List Ev × Int} {n : Int} {u v : Value} (h : r = ([], [], n)) (hu : u = .slice none 0 0) (hv : v = .slice none 0 0) (hb : Below w.heap.size w w') : TwoEvs w r (.returned (.tuple #[u, v, .int .i64 n])) w' := by
  subst h; subst hu; subst hv
  exact ⟨_, _, rfl, slice_nil _ _, slice_nil _ _, hb⟩

theorem infoEv (S : Nat → Prop) : (Try.prog.info? 39).map (fun i => (i.zero, i.size, i.bytes)) = some (some (.agg #[.int .i64 0, .slice none 0 0]), (tOn S tEv).sz, 32) := by
  show _ = some (some (Value.agg #[.int .i64 0, .slice none 0 0]), 2, 32)
  kernel_rfl
theorem two_end {w W : World} {n D : Nat} {on late : List Ev} {u v : Value} (c4 : W.cell? ⟨w.heap.size, 0, none⟩ = some u) (c5 : W.cell? ⟨w.heap.size + 1, 0, none⟩ = some v)
    (o4 : Owns (tOn (offOf n v) tEv) W n 39 u on) (o5 : Owns (tOn (offOf n u) tEv) W n 39 v late) (hb : Below w.heap.size w W) (hD : W.heap[D]? = some (.deferred (some [])))
    (hn : w.heap.size + 2 ≤ n) (hDn : n ≤ D) {tm : Array Value} (h4 : tm.getD 4 undef = .pointer (some ⟨w.heap.size, 0, none⟩)) (h5 : tm.getD 5 undef = .pointer (some ⟨w.heap.size + 1, 0, none⟩)) (h6 : tm.getD 6 undef = .int .i64 0)
    {r : List Ev × List Ev × Int} (hr : r = (on, late, 0)) :
    bodyPostM Fence.wide 0 Try.prog Try.f14 (TwoEvs w r) .ret { tmps := tm, defers := [{ target := .collected D, args := #[] }] } (((W.setCell ⟨w.heap.size, 0, none⟩ u).setCell ⟨w.heap.size + 1, 0, none⟩ v).drew) := by
  subst hr
  have hk : Keeps (fun k => k = w.heap.size ∨ k = w.heap.size + 1 ∨ k = D) W (((W.setCell ⟨w.heap.size, 0, none⟩ u).setCell ⟨w.heap.size + 1, 0, none⟩ v).drew) :=
    (((Keeps.refl _ W).setCell (p := ⟨w.heap.size, 0, none⟩) (fun _ => .inl rfl) u).setCell (p := ⟨w.heap.size + 1, 0, none⟩) (fun _ => .inr (.inl rfl)) v).drew
  have d4 : (((W.setCell ⟨w.heap.size, 0, none⟩ u).setCell ⟨w.heap.size + 1, 0, none⟩ v).drew).cell? ⟨w.heap.size, 0, none⟩ = some u := (cell_other (w := W.setCell ⟨w.heap.size, 0, none⟩ u) (a := ⟨w.heap.size + 1, 0, none⟩) (b := ⟨w.heap.size, 0, none⟩) v (by simp)).trans (World.cell?_setCell_same _ _ _ c4)
  have d5 : (((W.setCell ⟨w.heap.size, 0, none⟩ u).setCell ⟨w.heap.size + 1, 0, none⟩ v).drew).cell? ⟨w.heap.size + 1, 0, none⟩ = some v := World.cell?_setCell_same (W.setCell ⟨w.heap.size, 0, none⟩ u) ⟨w.heap.size + 1, 0, none⟩ v ((cell_other (w := W) (a := ⟨w.heap.size, 0, none⟩) (b := ⟨w.heap.size + 1, 0, none⟩) u (by simp)).trans c5)
  have hD' : (((W.setCell ⟨w.heap.size, 0, none⟩ u).setCell ⟨w.heap.size + 1, 0, none⟩ v).drew).heap[D]? = some (.deferred (some [])) := by
    show ((W.setCell ⟨w.heap.size, 0, none⟩ u).setCell ⟨w.heap.size + 1, 0, none⟩ v).heap[D]? = _
    rw [Below.heap_setCell _ _ _ _ (by show D ≠ w.heap.size + 1; omega), Below.heap_setCell _ _ _ _ (by show D ≠ w.heap.size; omega)]
    exact hD
  generalize ((W.setCell ⟨w.heap.size, 0, none⟩ u).setCell ⟨w.heap.size + 1, 0, none⟩ v).drew = W' at hk d4 d5 hD'
  refine ⟨by simp, .inl ⟨_, _, rfl, run_takeDeferred hD', ?_⟩⟩
  generalize hF : W'.putObj D (.deferred none) = WF
  have hkF : Keeps (fun k => k = w.heap.size ∨ k = w.heap.size + 1 ∨ k = D) W WF := by rw [← hF]; exact hk.trans (Keeps.put (.inr (.inr rfl)))
  have g4 : WF.cell? ⟨w.heap.size, 0, none⟩ = some u := by rw [← hF]; exact (mem_of_block (World.putObj_heap_other (by omega)) _).trans d4
  have g5 : WF.cell? ⟨w.heap.size + 1, 0, none⟩ = some v := by rw [← hF]; exact (mem_of_block (World.putObj_heap_other (by omega)) _).trans d5
  have hC : ∀ k o, n ≤ k → W.heap[k]? = some o → o.isCells = true → ¬ (k = w.heap.size ∨ k = w.heap.size + 1 ∨ k = D) := fun k o h1 h2 h3 h => by
    rcases h with h | h | h
    · omega
    · omega
    · subst h; rw [hD] at h2; cases h2; cases h3
  exact ⟨_, results_two tm WF _ _ _ _ 0 h4 h5 h6 g4 g5, u, v, rfl, slice_on (o4.keepsOn hkF (fun _ h => h.1) hC (Nat.le_refl _)).rv', slice_on (o5.keepsOn hkF (fun _ h => h.1) hC (Nat.le_refl _)).rv',
    Keeps.belowStep hb hkF (fun k h => by omega) hb.size⟩

set_option maxRecDepth 100000 in
set_option maxHeartbeats 4000000 in
theorem sorted_any (b : Int) (xs : List Ev) (v : Value) (w : World) (hv : tEvs.rv (mem w) [v] xs) :
    Calls Try.prog 14 #[.int .i64 b, v] w (TwoEvs w (sortedOf b xs)) := by
  have hb2 : ∀ o o', Below w.heap.size w ((w.alloc o).alloc o') := fun o o' => ((Below.refl _ _).alloc (Nat.le_refl _) o).alloc (by simp) o'
  obtain ⟨a, cap, rfl, hl, hm, hv⟩ := slice_form hv
  have hcap : cap ≤ 9223372036854775807 := by unfold maxLen at hm; exact hm
  have HBad := Lib.hid (fun (wq : World) (h : Below w.heap.size w wq) => badEvs_any xs _ wq (tEvs.mono _ _ _ _ (below_mem h) hv))
  have c4 : ∀ o o', ((w.alloc o).alloc o').heap[w.heap.size]? = some o := fun o o' => (Below.heap_alloc _ _ _ (by simp)).trans (World.alloc_heap_new w o)
  have c5 : ∀ o o', ((w.alloc o).alloc o').heap[w.heap.size + 1]? = some o' := fun o o' => by have := World.alloc_heap_new (w.alloc o) o'; rwa [World.size_alloc] at this
  have HC4 := Lib.hid c4
  have HC5 := Lib.hid c5
  have HB2 := Lib.hid hb2
  have HV := Lib.hid hv
  clear hm hv c4 c5 hb2
  refine (callsIn_wide (n := 0)).1 (callsIn_of_wp_marks Try.func14 rfl trivial ?_ rfl)
  simp only [Try.ntmps14, List.size_toArray, List.length_cons, List.length_nil, Nat.reduceAdd, Nat.reduceSub, Array.replicate_succ, Array.replicate_zero, List.push_toArray, List.append_toArray, List.nil_append, List.cons_append]
  have HN := Lib.hid (fun (n : Int) (W : World) (tm : Array Value) (h4 : tm.getD 4 undef = .pointer (some ⟨w.heap.size, 0, none⟩)) (h5 : tm.getD 5 undef = .pointer (some ⟨w.heap.size + 1, 0, none⟩)) (h6 : tm.getD 6 undef = .int .i64 n)
    (hr : sortedOf b xs = ([], [], n)) (c4 : W.cell? ⟨w.heap.size, 0, none⟩ = some (.slice none 0 0)) (c5 : W.cell? ⟨w.heap.size + 1, 0, none⟩ = some (.slice none 0 0)) (hb : Below w.heap.size w W) =>
      (⟨_, results_two tm ((W.setCell ⟨w.heap.size, 0, none⟩ (.slice none 0 0)).setCell ⟨w.heap.size + 1, 0, none⟩ (.slice none 0 0)) _ _ _ _ n h4 h5 h6 ((cell_other _ (by simp)).trans (World.cell?_setCell_same _ _ _ c4)) (World.cell?_setCell_same _ _ _ ((cell_other _ (by simp)).trans c5)),
        twoEvs_none hr rfl rfl ((hb.setCell (p := ⟨w.heap.size, 0, none⟩) (Nat.le_refl _) _).setCell (p := ⟨w.heap.size + 1, 0, none⟩) (Nat.le_succ _) _)⟩ :
        ∃ v, Sem.run Try.prog (results Try.f14 tm) ((W.setCell ⟨w.heap.size, 0, none⟩ (.slice none 0 0)).setCell ⟨w.heap.size + 1, 0, none⟩ (.slice none 0 0)) = .ok v _ ∧ TwoEvs w (sortedOf b xs) (.returned v) ((W.setCell ⟨w.heap.size, 0, none⟩ (.slice none 0 0)).setCell ⟨w.heap.size + 1, 0, none⟩ (.slice none 0 0))))
  have q4 := HC4.out (.cells #[.slice none 0 0] 23) (.cells #[.slice none 0 0] 23)
  have q5 := HC5.out (.cells #[.slice none 0 0] 23) (.cells #[.slice none 0 0] 23)
  have hB := HB2.out (.cells #[.slice none 0 0] 23) (.cells #[.slice none 0 0] 23)
  by_cases h400 : xs.length ≤ 400
  · gi_wp2
    refine ⟨trivial, rfl, ((callsIn_wide (n := 0)).2 (HBad.out _ (HB2.out _ _))).mono ?_⟩
    generalize ((w.alloc (.cells #[.slice none 0 0] 23)).alloc (.cells #[.slice none 0 0] 23)) = W2 at q4 q5 hB
    rintro e w1 ⟨rfl, hb1⟩
    have p4 := (hb1.block _ (Array.getElem?_eq_some_iff.1 q4).1).trans q4
    have p5 := (hb1.block _ (Array.getElem?_eq_some_iff.1 q5).1).trans q5
    have c4 : w1.cell? ⟨w.heap.size, 0, none⟩ = some (.slice none 0 0) := mem_cells p4 0
    have c5 : w1.cell? ⟨w.heap.size + 1, 0, none⟩ = some (.slice none 0 0) := mem_cells p5 0
    have f4 : w1.frozen? ⟨w.heap.size, 0, none⟩ = false := frozen_cells p4 0
    have f5 : w1.frozen? ⟨w.heap.size + 1, 0, none⟩ = false := frozen_cells p5 0
    have hB1 := Lib.hid (hB.trans (hb1.mono hB.size))
    clear hB hb1 q4 q5 HBad HC4 HC5 HB2
    cases hall : xs.all validEv
    · have HR := Lib.hid (sortedOf_bad (b := b) (xs := xs) (fun h => by rw [hall] at h; exact absurd h.2 (by simp)))
      clear hall p4 p5
      gi_wp2
      exact HN.out 1 _ _ rfl rfl rfl HR.out c4 c5 hB1.out
    · have HOK := Lib.hid (⟨h400, hall⟩ : xs.length ≤ 400 ∧ xs.all validEv = true)
      clear hall
      gi_wp2
      refine ⟨trivial, rfl, ((callsIn_wide (n := 0)).2 (gnew_any b w1)).mono ?_⟩
      intro e w2 hn
      by_cases hb : 0 ≤ b ∧ b ≤ 1000000000
      · obtain ⟨rfl, hg, hsz, hb2⟩ := NewGauge_yes hn hb
        have HR := Lib.hid (sortedOf_on HOK.out hb)
        have r4 := (hb2.block _ (Array.getElem?_eq_some_iff.1 p4).1).trans p4
        have r5 := (hb2.block _ (Array.getElem?_eq_some_iff.1 p5).1).trans p5
        have hB2 := Lib.hid (hB1.out.trans (hb2.mono hB1.out.size))
        have h2s : w.heap.size + 2 ≤ w1.heap.size := by have := (Array.getElem?_eq_some_iff.1 p5).1; omega
        generalize hgg : w1.heap.size = g at hg hsz h2s
        clear hn p4 p5 c4 c5 f4 f5 hb2 hB1
        gi_wp2
        refine ⟨trivial, rfl, ((callsIn_wide (n := 0)).2 (read_any _ _ _ _ _)).mono ?_⟩
        rintro e w3 ⟨rfl, hw3⟩
        have hk3 : Keeps (fun _ => False) w2 w3 := by rw [hw3]; exact ((Keeps.refl _ w2).alloc _).alloc _
        have hs3 : w3.heap.size = w2.heap.size + 2 := by rw [hw3]; simp
        have hbg : w3.heap[w2.heap.size]? = some (.cells #[.pointer (some ⟨g, 0, none⟩)] 58) := by rw [hw3]; exact (Below.heap_alloc _ _ _ (by simp)).trans (World.alloc_heap_new w2 _)
        have hbl : w3.heap[w2.heap.size + 1]? = some (.cells #[.slice a xs.length cap] 23) := by
          rw [hw3]; have := World.alloc_heap_new (w2.alloc (.cells #[.pointer (some ⟨g, 0, none⟩)] 58)) (.cells #[.slice a xs.length cap] 23); rwa [World.size_alloc] at this
        have hb3 : Below w2.heap.size w2 w3 := hk3.below (Nat.le_refl _) (fun _ h => h.elim)
        have hB3 : Below w.heap.size w w3 := hB2.out.trans (hb3.mono hB2.out.size)
        have s4 := (hb3.block _ (Array.getElem?_eq_some_iff.1 r4).1).trans r4
        have s5 := (hb3.block _ (Array.getElem?_eq_some_iff.1 r5).1).trans r5
        have hg3 : GaugeAt w3 g ⟨b, -1000000000000, false⟩ := hg.keeps (hb3.block g hg.lt)
        have hgl := hg3.lt
        clear hw3 hk3 r4 r5 hB2 hb3 hg
        gi_wp2
        rw [hsz] at hbg hbl hs3
        clear hsz
        have hlen : ∀ (y : Gauge) (l : List Ev), (readFrom y l).length = l.length := by
          intro y l
          induction l generalizing y with
          | nil => rfl
          | cons e l ih => simp [readFrom, ih]
        have hread := read1_gives xs ⟨b, -1000000000000, false⟩ g (g + 1 + 1) (g + 1) (.slice a xs.length cap) w3 (fun k => k = w.heap.size ∨ k = w.heap.size + 1 ∨ w3.heap.size ≤ k) (fun k => k < w.heap.size)
          (mem_cells hbl 0) (mem_cells hbg 0) (tEvs.mono _ _ _ _ (Mem.le_trans (mem_on_lt w) (keeps_mem (below_keeps hB3) (fun k h => by omega))) HV.out) hg3
          (fun x hx => by
            have := List.all_eq_true.1 HOK.out.2 x hx
            simp only [validEv, validRow, Bool.and_eq_true, decide_eq_true_eq] at this
            exact this.2.1)
          (fun k hk => ⟨by omega, by omega, by omega⟩) ⟨by omega, by omega⟩ ⟨by omega, by omega⟩ (by omega)
        have HLen := Lib.hid (hlen ⟨b, -1000000000000, false⟩ xs)
        clear hlen
        generalize readFrom ⟨b, -1000000000000, false⟩ xs = ps at hread HR HLen
        refine (wpIn_wide (n := 0)).2 (wp_rangeG (gf := 63) (lb := #[.pointer (some ⟨g + 1 + 1, 0, none⟩), .pointer (some ⟨g + 1, 0, none⟩)]) rfl (fun _ _ => rfl) hread (Below.refl _ _)
          (fun k hk => by omega) (fun k hk => .inr (.inr hk)) (fun x vs n W hE => by obtain ⟨s, rfl, _⟩ := hE; rfl)
          (fun pre W => Kept2 w w3.heap.size (onOf pre) (lateOf pre) W) ?closed ?start ?round ?done)
        case closed =>
          intro pre A B hI hk
          refine hI.keeps hk (by omega) (fun k h => ?_) (fun k o h1 h2 h3 h => ?_)
          · rcases h with h | h
            · omega
            · have := h.1; omega
          · rcases h with h | ⟨_, o', ho, hc⟩
            · omega
            · rw [h2] at ho; cases ho; rw [h3] at hc; cases hc
        case start =>
          exact ⟨⟨_, _, mem_cells s4 0, mem_cells s5 0, Owns.nil _ _ _ _, Owns.nil _ _ _ _, fun k h => by cases h⟩, frozen_cells s4 0, frozen_cells s5 0, hB3⟩
        case round =>
          rintro l pre ⟨ev, late⟩ post W0 W1 vs hx hI hG hE hsz0
          obtain ⟨s, rfl, hrow, hti⟩ := hE
          obtain ⟨asl, caps, rfl, _, hms, hrow⟩ := slice_form hrow
          obtain ⟨⟨u, v, c4, c5, o4, o5, hd⟩, f4, f5, hB⟩ := hI
          have hlu := o4.lt
          have hlv := o5.lt
          have hKW := Lib.hid hG
          have HRow := Lib.hid hrow
          obtain ⟨et, er⟩ := ev
          simp only at hti HRow
          have hpl : pre.length ≤ 400 := by
            have h2 : ps.length = pre.length + (post.length + 1) := by rw [hx]; simp
            have := HLen.out
            omega
          have HL1 : (onOf pre).length ≤ 400 := by unfold onOf; rw [List.length_map]; exact Nat.le_trans (List.length_filter_le _ _) hpl
          have HL2 : (lateOf pre).length ≤ 400 := by unfold lateOf; rw [List.length_map]; exact Nat.le_trans (List.length_filter_le _ _) hpl
          have hn3 := Lib.hid (show w.heap.size + 2 ≤ w3.heap.size by omega)
          have hgl' := Lib.hid hgl
          have hg2 := Lib.hid h2s
          clear hrow hms hread HLen s4 s5 hg3 hbg hbl hB3 hx hG hs3 hgl h2s
          gi_wp2
          refine ⟨(Keeps.refl _ _).alloc _, fun W3 hk => ?_⟩
          have hC1 : ∀ k o, w3.heap.size ≤ k → W0.heap[k]? = some o → o.isCells = true → ¬ (k = g) := fun k o h1 _ _ h => by have := hgl'.out; omega
          have hC3 : ∀ k o, w3.heap.size ≤ k → (W1.alloc (.cells #[.int .i64 et, .slice asl er.length caps] 39)).heap[k]? = some o → o.isCells = true → ¬ (w3.heap.size ≤ k ∧ NotCells (W1.alloc (.cells #[.int .i64 et, .slice asl er.length caps] 39)) k) := fun k o h1 h2 h3 h => by
            obtain ⟨_, o', ho, hc⟩ := h
            rw [h2] at ho; cases ho; rw [h3] at hc; cases hc
          have o43 := ((o4.keepsOn hKW.out (fun _ h => h.1) hC1 (Nat.le_refl _)).alloc (.cells #[.int .i64 et, .slice asl er.length caps] 39)).keepsOn hk (fun _ h => h.1) hC3 (Nat.le_refl _)
          have o53 := ((o5.keepsOn hKW.out (fun _ h => h.1) hC1 (Nat.le_refl _)).alloc (.cells #[.int .i64 et, .slice asl er.length caps] 39)).keepsOn hk (fun _ h => h.1) hC3 (Nat.le_refl _)
          have hWA : Keeps (fun k => k = g) W0 (W1.alloc (.cells #[.int .i64 et, .slice asl er.length caps] 39)) := hKW.out.alloc _
          have hb0 := hB.size
          generalize hWd : W1.alloc (.cells #[.int .i64 et, .slice asl er.length caps] 39) = WA at hk hC3 hWA
          have hbA : WA.heap[W1.heap.size]? = some (.cells #[.int .i64 et, .slice asl er.length caps] 39) := by rw [← hWd]; exact World.alloc_heap_new W1 _
          have hcell : ∀ (k : Nat) (o : Obj), WA.heap[k]? = some o → o.isCells = true → W3.heap[k]? = some o := fun k o h2 h3 => (hk.block k (Array.getElem?_eq_some_iff.1 h2).1 (fun h => by
            obtain ⟨_, o', ho, hc⟩ := h
            rw [h2] at ho; cases ho; rw [h3] at hc; cases hc)).trans h2
          have hb3 := hcell _ _ hbA rfl
          have d0 : W3.cell? ⟨W1.heap.size, 0, none⟩ = some (.int .i64 et) := mem_cells hb3 0
          have d1 : W3.cell? ⟨W1.heap.size, 1, none⟩ = some (.slice asl er.length caps) := mem_cells hb3 1
          have e4 : W3.heap[w.heap.size]? = W0.heap[w.heap.size]? := by
            obtain ⟨o, ho, hc⟩ := cells_of_cell c4
            have hA := (hWA.block w.heap.size (mem_lt c4) (by have := hg2.out; omega)).trans ho
            rw [hcell _ _ hA hc]; exact ho.symm
          have e5 : W3.heap[w.heap.size + 1]? = W0.heap[w.heap.size + 1]? := by
            obtain ⟨o, ho, hc⟩ := cells_of_cell c5
            have hA := (hWA.block (w.heap.size + 1) (mem_lt c5) (by have := hg2.out; omega)).trans ho
            rw [hcell _ _ hA hc]; exact ho.symm
          have c43 : W3.cell? ⟨w.heap.size, 0, none⟩ = some u := (mem_of_block e4 _).trans c4
          have c53 : W3.cell? ⟨w.heap.size + 1, 0, none⟩ = some v := (mem_of_block e5 _).trans c5
          have f43 : W3.frozen? ⟨w.heap.size, 0, none⟩ = false := (World.frozen?_of_block (w := W0) (a := ⟨w.heap.size, 0, none⟩) e4).trans f4
          have f53 : W3.frozen? ⟨w.heap.size + 1, 0, none⟩ = false := (World.frozen?_of_block (w := W0) (a := ⟨w.heap.size + 1, 0, none⟩) e5).trans f5
          have hkA : Keeps (fun _ => False) W1 WA := by rw [← hWd]; exact (Keeps.refl _ _).alloc _
          have HRow3 := Lib.hid (tRow.mono _ _ _ _ (fun b o x e => by
            obtain ⟨hs, e⟩ := Mem.of_on e
            have e' : mem WA b o = some x := (mem_of_block (hkA.block b (mem_lt e) (fun h => h)) _).trans e
            obtain ⟨o', ho, hc⟩ := cells_of_cell (show WA.cell? ⟨b, o, none⟩ = some x from e')
            exact Mem.on_some ((mem_of_block ((hcell _ _ ho hc).trans ho.symm) _).trans e') hs) HRow.out : tRow.rv ((mem W3).on (W0.heap.size ≤ ·)) [.slice asl er.length caps] er)
          have hsz3 : W0.heap.size ≤ W3.heap.size := Nat.le_trans hWA.size hk.size
          have hB3 : Below w.heap.size w W3 := Keeps.belowStep (Keeps.belowStep hB hWA (fun k h => by have := hg2.out; omega) hb0) hk (fun k h => by have := h.1; have := hn3.out; omega) (Nat.le_trans hb0 hWA.size)
          clear hWd hbA hk hC3 hC1 hWA hkA hcell hb3 e4 e5 c4 c5 f4 f5 o4 o5 hKW HRow
          cases late
          · gi_wp2_with (gi_at_builtin; refine wpListIn_append_one rfl _ _ 23 rfl (tOn (offOf w3.heap.size v) tEv) Try.underlying23 (infoEv _) rfl (by show 0 < 2; omega) w3.heap.size u (onOf pre) rfl (o43.alloc _) _ _ ⟨et, er⟩ rfl [.int .i64 et, .slice asl er.length caps] ?a0 ?b0 ?c0 ?d0 ?e0 ?f0 ?_)
            case a0 =>
              intro j x hj
              rw [Nat.zero_add]
              match j, hj with
              | 0, hj => simp at hj; subst hj; exact cell_new 0 rfl
              | 1, hj => simp at hj; subst hj; exact cell_new 1 rfl
            case b0 =>
              refine ⟨_, rfl, hti, tRow.mono _ _ _ _ (fun b o x e => ?_) HRow3.out⟩
              obtain ⟨hs, e⟩ := Mem.of_on e
              refine Mem.on_some (Mem.on_some (below_mem ((Below.refl _ _).alloc (Nat.le_refl _) _) _ _ _ e) (fun h => ?_)) ⟨Nat.le_trans hsz0 hs, fun h => ?_⟩
              · have := (hlu b h.symm).2; omega
              · have := (hlv b h.symm).2; omega
            case c0 => intro x hx; simp at hx; rcases hx with rfl | rfl <;> rfl
            case d0 => unfold maxLen; omega
            case e0 => omega
            case f0 => simp; omega
            intro v' W5 own5 hgrow hblk
            obtain ⟨a5, cap5, rfl, _⟩ := own5.len
            have hcl := own_cells (o43.alloc (.cells #[.int .i64 et, .slice asl er.length caps] 39))
            have hn3' := hn3.out
            have hne4 : ∀ k, k < w3.heap.size → some k ≠ u.ownBlock := fun k hk h => by have := (hlu k h.symm).1; omega
            have g4 := hgrow.block w.heap.size (by simp; omega) (hne4 _ (by omega))
            have g5 := hgrow.block (w.heap.size + 1) (by simp; omega) (hne4 _ (by omega))
            have i4 : W5.heap[w.heap.size]? = W3.heap[w.heap.size]? := g4.trans (Below.heap_alloc _ _ _ (by omega))
            have i5 : W5.heap[w.heap.size + 1]? = W3.heap[w.heap.size + 1]? := g5.trans (Below.heap_alloc _ _ _ (by omega))
            have k4 : W5.cell? ⟨w.heap.size, 0, none⟩ = some u := (mem_of_block i4 _).trans c43
            have k5 : W5.cell? ⟨w.heap.size + 1, 0, none⟩ = some v := (mem_of_block i5 _).trans c53
            have l4 : W5.frozen? ⟨w.heap.size, 0, none⟩ = false := (World.frozen?_of_block (w := W3) (a := ⟨w.heap.size, 0, none⟩) i4).trans f43
            have l5 : W5.frozen? ⟨w.heap.size + 1, 0, none⟩ = false := (World.frozen?_of_block (w := W3) (a := ⟨w.heap.size + 1, 0, none⟩) i5).trans f53
            have OWN := Lib.hid own5
            have OTH := Lib.hid o53
            have HG := Lib.hid hgrow
            have HBL := Lib.hid hblk
            clear own5 hgrow hblk g4 g5 i4 i5 d0 d1 o43 o53
            gi_wp2
            have OW := OWN.out
            have HB := HBL.out
            simp only [List.length_append, List.length_cons, List.length_nil, Nat.zero_add] at OW HB
            generalize (Value.slice a5 ((onOf pre).length + 1) cap5) = v' at OW HB
            have KH : Keeps (fun k => k = w.heap.size ∨ k = w.heap.size + 1 ∨ w3.heap.size ≤ k) W3 (W5.setCell ⟨w.heap.size, 0, none⟩ v') :=
              (((Keeps.refl _ W3).alloc _).trans ((grown_keeps HG.out).wide (fun k _ hk => .inr (.inr (hlu k hk.symm).1)))).setCell (p := ⟨w.heap.size, 0, none⟩) (fun _ => .inl rfl) _
            have hset : Keeps (fun k => k = w.heap.size) W5 (W5.setCell ⟨w.heap.size, 0, none⟩ v') := (Keeps.refl (fun k => k = w.heap.size) W5).setCell (p := ⟨w.heap.size, 0, none⟩) (fun _ => rfl) _
            refine ⟨((KeepsOthers.alloc W3 _).trans (KeepsOthers.of_grownBy HG.out hcl)).trans (KeepsOthers.setCell _ _ _), KH, ?_⟩
            show Kept2 w w3.heap.size (onOf (pre ++ [(⟨et, er⟩, false)])) (lateOf (pre ++ [(⟨et, er⟩, false)])) _
            rw [show onOf (pre ++ [((⟨et, er⟩ : Ev), false)]) = onOf pre ++ [⟨et, er⟩] by simp [onOf], show lateOf (pre ++ [((⟨et, er⟩ : Ev), false)]) = lateOf pre by simp [lateOf]]
            exact ⟨⟨v', v, World.cell?_setCell_same _ _ _ k4, (cell_other _ (by simp)).trans k5, OW.keepsOn hset (fun _ h => h.1) (fun k o h1 _ _ h => by omega) (Nat.le_refl _), ((OTH.out.alloc _).reOn (S' := offOf w3.heap.size v') HG.out (fun b h => h.2) (fun b hb h => ⟨h.1, fun e => by
                  rcases HB with h5 | h5
                  · rw [h5] at e; exact h.2 e
                  · have := h5 b e.symm; simp at hb; omega⟩) (fun k h e => hd k e.symm h)).keepsOn hset (fun _ h => h.1) (fun k o h1 _ _ h => by omega) (Nat.le_refl _), fun k h1 h2 => by
                rcases HB with h5 | h5
                · rw [h5] at h1; exact hd k h1 h2
                · have := h5 k h1; have := (hlv k h2).2; omega⟩, (frozen_set _ _ _ _).trans l4, (frozen_set _ _ _ _).trans l5, Keeps.belowStep hB3 KH (fun k h => by omega) hB3.size⟩
          · gi_wp2_with (gi_at_builtin; refine wpListIn_append_one rfl _ _ 23 rfl (tOn (offOf w3.heap.size u) tEv) Try.underlying23 (infoEv _) rfl (by show 0 < 2; omega) w3.heap.size v (lateOf pre) rfl (o53.alloc _) _ _ ⟨et, er⟩ rfl [.int .i64 et, .slice asl er.length caps] ?a1 ?b1 ?c1 ?d1 ?e1 ?f1 ?_)
            case a1 =>
              intro j x hj
              rw [Nat.zero_add]
              match j, hj with
              | 0, hj => simp at hj; subst hj; exact cell_new 0 rfl
              | 1, hj => simp at hj; subst hj; exact cell_new 1 rfl
            case b1 =>
              refine ⟨_, rfl, hti, tRow.mono _ _ _ _ (fun b o x e => ?_) HRow3.out⟩
              obtain ⟨hs, e⟩ := Mem.of_on e
              refine Mem.on_some (Mem.on_some (below_mem ((Below.refl _ _).alloc (Nat.le_refl _) _) _ _ _ e) (fun h => ?_)) ⟨Nat.le_trans hsz0 hs, fun h => ?_⟩
              · have := (hlv b h.symm).2; omega
              · have := (hlu b h.symm).2; omega
            case c1 => intro x hx; simp at hx; rcases hx with rfl | rfl <;> rfl
            case d1 => unfold maxLen; omega
            case e1 => omega
            case f1 => simp; omega
            intro v' W5 own5 hgrow hblk
            obtain ⟨a5, cap5, rfl, _⟩ := own5.len
            have hcl := own_cells (o53.alloc (.cells #[.int .i64 et, .slice asl er.length caps] 39))
            have hn3' := hn3.out
            have hne4 : ∀ k, k < w3.heap.size → some k ≠ v.ownBlock := fun k hk h => by have := (hlv k h.symm).1; omega
            have g4 := hgrow.block w.heap.size (by simp; omega) (hne4 _ (by omega))
            have g5 := hgrow.block (w.heap.size + 1) (by simp; omega) (hne4 _ (by omega))
            have i4 : W5.heap[w.heap.size]? = W3.heap[w.heap.size]? := g4.trans (Below.heap_alloc _ _ _ (by omega))
            have i5 : W5.heap[w.heap.size + 1]? = W3.heap[w.heap.size + 1]? := g5.trans (Below.heap_alloc _ _ _ (by omega))
            have k4 : W5.cell? ⟨w.heap.size, 0, none⟩ = some u := (mem_of_block i4 _).trans c43
            have k5 : W5.cell? ⟨w.heap.size + 1, 0, none⟩ = some v := (mem_of_block i5 _).trans c53
            have l4 : W5.frozen? ⟨w.heap.size, 0, none⟩ = false := (World.frozen?_of_block (w := W3) (a := ⟨w.heap.size, 0, none⟩) i4).trans f43
            have l5 : W5.frozen? ⟨w.heap.size + 1, 0, none⟩ = false := (World.frozen?_of_block (w := W3) (a := ⟨w.heap.size + 1, 0, none⟩) i5).trans f53
            have OWN := Lib.hid own5
            have OTH := Lib.hid o43
            have HG := Lib.hid hgrow
            have HBL := Lib.hid hblk
            clear own5 hgrow hblk g4 g5 i4 i5 d0 d1 o43 o53
            gi_wp2
            have OW := OWN.out
            have HB := HBL.out
            simp only [List.length_append, List.length_cons, List.length_nil, Nat.zero_add] at OW HB
            generalize (Value.slice a5 ((lateOf pre).length + 1) cap5) = v' at OW HB
            have KH : Keeps (fun k => k = w.heap.size ∨ k = w.heap.size + 1 ∨ w3.heap.size ≤ k) W3 (W5.setCell ⟨w.heap.size + 1, 0, none⟩ v') :=
              (((Keeps.refl _ W3).alloc _).trans ((grown_keeps HG.out).wide (fun k _ hk => .inr (.inr (hlv k hk.symm).1)))).setCell (p := ⟨w.heap.size + 1, 0, none⟩) (fun _ => .inr (.inl rfl)) _
            have hset : Keeps (fun k => k = w.heap.size + 1) W5 (W5.setCell ⟨w.heap.size + 1, 0, none⟩ v') := (Keeps.refl (fun k => k = w.heap.size + 1) W5).setCell (p := ⟨w.heap.size + 1, 0, none⟩) (fun _ => rfl) _
            refine ⟨((KeepsOthers.alloc W3 _).trans (KeepsOthers.of_grownBy HG.out hcl)).trans (KeepsOthers.setCell _ _ _), KH, ?_⟩
            show Kept2 w w3.heap.size (onOf (pre ++ [(⟨et, er⟩, true)])) (lateOf (pre ++ [(⟨et, er⟩, true)])) _
            rw [show onOf (pre ++ [((⟨et, er⟩ : Ev), true)]) = onOf pre by simp [onOf], show lateOf (pre ++ [((⟨et, er⟩ : Ev), true)]) = lateOf pre ++ [⟨et, er⟩] by simp [lateOf]]
            exact ⟨⟨u, v', (cell_other _ (by simp)).trans k4, World.cell?_setCell_same _ _ _ k5, ((OTH.out.alloc _).reOn (S' := offOf w3.heap.size v') HG.out (fun b h => h.2) (fun b hb h => ⟨h.1, fun e => by
                  rcases HB with h5 | h5
                  · rw [h5] at e; exact h.2 e
                  · have := h5 b e.symm; simp at hb; omega⟩) (fun k h e => hd k h e.symm)).keepsOn hset (fun _ h => h.1) (fun k o h1 _ _ h => by omega) (Nat.le_refl _), OW.keepsOn hset (fun _ h => h.1) (fun k o h1 _ _ h => by omega) (Nat.le_refl _), fun k h1 h2 => by
                rcases HB with h5 | h5
                · rw [h5] at h2; exact hd k h1 h2
                · have := h5 k h2; have := (hlu k h1).2; omega⟩, (frozen_set _ _ _ _).trans l4, (frozen_set _ _ _ _).trans l5, Keeps.belowStep hB3 KH (fun k h => by omega) hB3.size⟩
        case done =>
          intro D W hDl hI hD
          obtain ⟨⟨u, v, c4, c5, o4, o5, _⟩, f4, f5, hB⟩ := hI
          obtain ⟨au, cu, rfl, _⟩ := o4.len
          obtain ⟨av, cv, rfl, _⟩ := o5.len
          have O4 := Lib.hid o4
          have O5 := Lib.hid o5
          have HB := Lib.hid hB
          have HD := Lib.hid hD
          clear o4 o5 hB hD hread HLen s4 s5 hg3 hbg hbl hB3
          gi_wp2
          gi_region
          all_goals
            gi_wp2
            exact two_end c4 c5 O4.out O5.out HB.out HD.out (by omega) hDl rfl rfl rfl HR.out
      · obtain ⟨rfl, rfl⟩ := NewGauge_no hn hb
        have HR := Lib.hid (sortedOf_off HOK.out hb)
        clear hn hb p4 p5
        gi_wp2
        exact HN.out 7 _ _ rfl rfl rfl HR.out c4 c5 hB1.out
  · have HR := Lib.hid (sortedOf_bad (b := b) (xs := xs) (fun h => h400 h.1))
    gi_wp2
    refine ⟨trivial, ?_⟩
    generalize ((w.alloc (.cells #[.slice none 0 0] 23)).alloc (.cells #[.slice none 0 0] 23)) = W2 at q4 q5 hB
    have c4 : W2.cell? ⟨w.heap.size, 0, none⟩ = some (.slice none 0 0) := mem_cells q4 0
    have c5 : W2.cell? ⟨w.heap.size + 1, 0, none⟩ = some (.slice none 0 0) := mem_cells q5 0
    have f4 : W2.frozen? ⟨w.heap.size, 0, none⟩ = false := frozen_cells q4 0
    have f5 : W2.frozen? ⟨w.heap.size + 1, 0, none⟩ = false := frozen_cells q5 0
    go_at_K
    gi_wp2
    exact HN.out 1 W2 _ rfl rfl rfl HR.out c4 c5 hB
end Go.Proofs.Ytfoocifhifpbdaa
