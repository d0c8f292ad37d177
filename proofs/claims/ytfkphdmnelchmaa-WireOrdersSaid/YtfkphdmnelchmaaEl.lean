/- Elements of wires: readings, validity, copies, equality of equal ones. -/
import Derived.Test.YtfkphdmnelchmaaOrdR
import Derived.Test.YtfkphdmnelchmaaCloneR
import Derived.Test.YtfkphdmnelchmaaDeep
import Derived.Test.YtfkphdmnelchmaaArg
namespace Go.Proofs.Ytfkphdmnelchmaa
open Go.RowKit

structure El where
  kind : Int
  n : Int
  time : Int
  row : List Val
  cn : Int
  deriving Inhabited
def tEl : Ty El := ⟨5, fun m cs x => ∃ s, cs = [.int .i64 x.kind, .int .i64 x.n, .int .i64 x.time, s, .int .i64 x.cn] ∧ (inI64 x.kind ∧ inI64 x.n ∧ inI64 x.time ∧ inI64 x.cn) ∧ tRow.rv m [s] x.row,
  fun _ _ _ h => by obtain ⟨s, rfl, _⟩ := h; rfl, fun m m' cs x hm h => by obtain ⟨s, e, i, r⟩ := h; exact ⟨s, e, i, tRow.mono _ _ _ _ hm r⟩⟩
def tEls : Ty (List El) := tSlice tEl
theorem tEl_one {M : Mem} : ∀ m cs x, (tIn M tEl).rv m cs x → ∀ u ∈ cs, u.oneCell' = true := fun m cs x h u hu => by
  obtain ⟨s, rfl, _, hr⟩ := h
  obtain ⟨a, cap, rfl, _⟩ := slice_form hr
  simp at hu; rcases hu with rfl | rfl | rfl | rfl | rfl <;> rfl
theorem el_at {m : Mem} {b o : Nat} {x : El} (h : tEl.at m b o x) : ∃ a cap, m b o = some (.int .i64 x.kind) ∧ m b (o + 1) = some (.int .i64 x.n) ∧ m b (o + 2) = some (.int .i64 x.time) ∧ m b (o + 3) = some (.slice a x.row.length cap) ∧ m b (o + 4) = some (.int .i64 x.cn) ∧
    (inI64 x.kind ∧ inI64 x.n ∧ inI64 x.time ∧ inI64 x.cn) ∧ tRow.rv m [.slice a x.row.length cap] x.row ∧ cap ≤ maxLen := by
  obtain ⟨cs, hc, s, rfl, hi, hr⟩ := h
  obtain ⟨a, cap, rfl, _, h4, h5⟩ := slice_form hr
  exact ⟨a, cap, hc 0 _ rfl, hc 1 _ rfl, hc 2 _ rfl, hc 3 _ rfl, hc 4 _ rfl, hi, h5, h4⟩
/-- The cells of an element. -/
@[reducible] def elV (x : El) (s : Value) : Value := .agg #[.int .i64 x.kind, .int .i64 x.n, .int .i64 x.time, s, .int .i64 x.cn]

def validCh (t : Int) (r : List Val) (cn : Int) : Bool := decide (-1000000000000 ≤ t ∧ t ≤ 1000000000000) && validRow r && decide (cn ≠ 0 ∧ -1000000 ≤ cn ∧ cn ≤ 1000000)
def validEl (x : El) : Bool :=
  if x.kind = 1 then decide (x.n = 0) && validCh x.time x.row x.cn
  else if x.kind = 2 then decide (x.time = 0 ∧ x.row.length = 0 ∧ x.cn = 0) && decide (-1000000000000 ≤ x.n ∧ x.n ≤ 1000000000001)
  else if x.kind = 3 then decide (x.time = 0 ∧ x.row.length = 0 ∧ x.cn = 0) && decide (1 ≤ x.n ∧ x.n ≤ 1000000) else false
theorem validEl_row {x : El} (h : validEl x = true) : x.row.length ≤ 8 := by
  unfold validEl at h
  split at h
  · simp only [validCh, validRow, Bool.and_eq_true, decide_eq_true_eq] at h; exact h.2.1.2.1
  · split at h
    · simp only [Bool.and_eq_true, decide_eq_true_eq] at h; omega
    · split at h
      · simp only [Bool.and_eq_true, decide_eq_true_eq] at h; omega
      · cases h

set_option maxHeartbeats 400000 in
theorem bagWithin_any (n lo hi : Int) (w : World) :
    Calls Try.prog 77 #[.int .i64 n, .int .i64 lo, .int .i64 hi] w fun e w' => e = .returned (.bool (decide (lo ≤ n ∧ n ≤ hi))) ∧ w = w' := by
  by_cases h1 : lo ≤ n <;> by_cases h2 : n ≤ hi
  all_goals
    go_enter Try.func77, Try.ntmps77
    go_wp2
    go_ret
    exact ⟨by simp [*], rfl⟩
set_option maxHeartbeats 400000 in
theorem ref3Within_any (n lo hi : Int) (w : World) :
    Calls Try.prog 82 #[.int .i64 n, .int .i64 lo, .int .i64 hi] w fun e w' => e = .returned (.bool (decide (lo ≤ n ∧ n ≤ hi))) ∧ w = w' := by
  by_cases h1 : lo ≤ n <;> by_cases h2 : n ≤ hi
  all_goals
    go_enter Try.func82, Try.ntmps82
    go_wp2
    go_ret
    exact ⟨by simp [*], rfl⟩
set_option maxHeartbeats 400000 in
theorem ref1Within_any (n lo hi : Int) (w : World) :
    Calls Try.prog 100 #[.int .i64 n, .int .i64 lo, .int .i64 hi] w fun e w' => e = .returned (.bool (decide (lo ≤ n ∧ n ≤ hi))) ∧ w = w' := by
  by_cases h1 : lo ≤ n <;> by_cases h2 : n ≤ hi
  all_goals
    go_enter Try.func100, Try.ntmps100
    go_wp2
    go_ret
    exact ⟨by simp [*], rfl⟩
set_option maxHeartbeats 400000 in
theorem ref1Valid_any (n : Int) (w : World) :
    Calls Try.prog 80 #[.int .i64 n] w fun e w' => e = .returned (.bool (decide (-1000000000000 ≤ n ∧ n ≤ 1000000000000))) ∧ w = w' := by
  have H := Lib.hid (ref1Within_any n (-1000000000000) 1000000000000)
  generalize decide (-1000000000000 ≤ n ∧ n ≤ 1000000000000) = q at H
  go_enter Try.func80, Try.ntmps80
  go_wp2_with (go_at_call 100; refine (H.out _).mono ?_; rintro e w' ⟨rfl, rfl⟩)
  go_ret
  exact ⟨rfl, rfl⟩
set_option maxHeartbeats 400000 in
theorem bagNumber_any (n : Int) (w : World) :
    Calls Try.prog 79 #[.int .i64 n] w fun e w' => e = .returned (.bool (decide (n ≠ 0 ∧ -1000000 ≤ n ∧ n ≤ 1000000))) ∧ w = w' := by
  have H := Lib.hid (bagWithin_any n (-1000000) 1000000)
  by_cases h : n = 0
  · subst h
    go_enter Try.func79, Try.ntmps79
    go_wp2
    go_ret
    exact ⟨rfl, rfl⟩
  · have h1 : (n == 0) = false := by simpa using h
    have h2 : (n != 0) = true := by simpa using h
    have HE := Lib.hid (show decide (n ≠ 0 ∧ -1000000 ≤ n ∧ n ≤ 1000000) = decide (-1000000 ≤ n ∧ n ≤ 1000000) by simp [h])
    clear h
    generalize decide (-1000000 ≤ n ∧ n ≤ 1000000) = q at H HE
    go_enter Try.func79, Try.ntmps79
    go_wp2_with (go_at_call 77; refine (H.out _).mono ?_; rintro e w' ⟨rfl, rfl⟩)
    go_ret
    exact ⟨by rw [HE.out]; rfl, rfl⟩

set_option maxRecDepth 100000 in
set_option maxHeartbeats 1000000 in
theorem bagChange_any (t : Int) (r : List Val) (cn : Int) (s : Value) (w : World) (hv : tRow.rv (mem w) [s] r) :
    Calls Try.prog 60 #[.agg #[.int .i64 t, s, .int .i64 cn]] w fun e w' => e = .returned (.bool (validCh t r cn)) ∧ Below w.heap.size w w' := by
  have hb0 : ∀ o, Below w.heap.size w (w.alloc o) := fun o => (Below.refl _ _).alloc (Nat.le_refl _) o
  obtain ⟨a, cap, rfl, _, _, hv'⟩ := slice_form hv
  have HV := Lib.hid (fun o => rowValid_any r _ (w.alloc o) (tRow.mono _ _ _ _ (below_mem (hb0 o)) hv'))
  have HT := Lib.hid (bagWithin_any t (-1000000000000) 1000000000000)
  have HN := Lib.hid (bagNumber_any cn)
  have HE := Lib.hid (show validCh t r cn = (decide (-1000000000000 ≤ t ∧ t ≤ 1000000000000) && validRow r && decide (cn ≠ 0 ∧ -1000000 ≤ cn ∧ cn ≤ 1000000)) from rfl)
  have HB0 := Lib.hid hb0
  clear hv hv' hb0
  generalize validRow r = rr at HV HE
  generalize decide (-1000000000000 ≤ t ∧ t ≤ 1000000000000) = q at HT HE
  generalize decide (cn ≠ 0 ∧ -1000000 ≤ cn ∧ cn ≤ 1000000) = z at HN HE
  cases q
  · go_enter Try.func60, Try.ntmps60
    go_wp2_with (go_at_call 77; refine (HT.out _).mono ?_; rintro e w' ⟨rfl, rfl⟩)
    go_ret
    exact ⟨by rw [HE.out]; rfl, HB0.out _⟩
  · cases rr
    · go_enter Try.func60, Try.ntmps60
      go_wp2_with (first | (go_at_call 77; refine (HT.out _).mono ?_; rintro e w' ⟨rfl, rfl⟩) | (go_at_call 78; refine (HV.out _).mono ?_; rintro e w' ⟨rfl, hb⟩))
      go_ret
      exact ⟨by rw [HE.out]; rfl, (HB0.out _).trans (hb.mono (by simp))⟩
    · go_enter Try.func60, Try.ntmps60
      go_wp2_with fail
      refine (HT.out _).mono ?_
      rintro e w' ⟨rfl, rfl⟩
      go_wp2_with fail
      refine (HV.out _).mono ?_
      rintro e w1 ⟨rfl, hb⟩
      obtain ⟨hc, hf⟩ : (∀ o, w1.cell? ⟨w.heap.size, o, none⟩ = (w.alloc (.cells #[.int .i64 t, .slice a r.length cap, .int .i64 cn] 40)).cell? ⟨w.heap.size, o, none⟩) ∧ True := ⟨fun o => mem_of_block (hb.block _ (by simp)) o, trivial⟩
      have c2 : w1.cell? ⟨w.heap.size, 2, none⟩ = some (.int .i64 cn) := (hc 2).trans (cell_new 2 rfl)
      clear hc
      go_wp2_with (go_at_call 79; refine (HN.out _).mono ?_; rintro e w' ⟨rfl, rfl⟩)
      go_ret
      exact ⟨by rw [HE.out]; rfl, (HB0.out _).trans (hb.mono (by simp))⟩

set_option maxRecDepth 100000 in
set_option maxHeartbeats 1000000 in
theorem refChange_any (t : Int) (r : List Val) (cn : Int) (s : Value) (w : World) (hv : tRow.rv (mem w) [s] r) :
    Calls Try.prog 61 #[.agg #[.int .i64 t, s, .int .i64 cn]] w fun e w' => e = .returned (.bool (validCh t r cn)) ∧ Below w.heap.size w w' := by
  have hb0 : ∀ o, Below w.heap.size w (w.alloc o) := fun o => (Below.refl _ _).alloc (Nat.le_refl _) o
  obtain ⟨a, cap, rfl, _, _, hv'⟩ := slice_form hv
  have HV := Lib.hid (fun o => refValid_any r _ (w.alloc o) (tRow.mono _ _ _ _ (below_mem (hb0 o)) hv'))
  have HT := Lib.hid (ref1Valid_any t)
  have HN := Lib.hid (ref3Within_any cn (-1000000) 1000000)
  have HE := Lib.hid (show validCh t r cn = (decide (-1000000000000 ≤ t ∧ t ≤ 1000000000000) && validRow r && (decide (cn ≠ 0) && decide (-1000000 ≤ cn ∧ cn ≤ 1000000))) from by simp [validCh])
  have HB0 := Lib.hid hb0
  clear hv hv' hb0
  generalize validRow r = rr at HV HE
  generalize decide (-1000000000000 ≤ t ∧ t ≤ 1000000000000) = q at HT HE
  generalize decide (-1000000 ≤ cn ∧ cn ≤ 1000000) = z at HN HE
  cases q
  · go_enter Try.func61, Try.ntmps61
    go_wp2_with (go_at_call 80; refine (HT.out _).mono ?_; rintro e w' ⟨rfl, rfl⟩)
    go_ret
    exact ⟨by rw [HE.out]; rfl, HB0.out _⟩
  · cases rr
    · go_enter Try.func61, Try.ntmps61
      go_wp2_with (first | (go_at_call 80; refine (HT.out _).mono ?_; rintro e w' ⟨rfl, rfl⟩) | (go_at_call 81; refine (HV.out _).mono ?_; rintro e w' ⟨rfl, hb⟩))
      go_ret
      exact ⟨by rw [HE.out]; rfl, (HB0.out _).trans (hb.mono (by simp))⟩
    · by_cases h0 : cn = 0
      · subst h0
        go_enter Try.func61, Try.ntmps61
        go_wp2_with fail
        refine (HT.out _).mono ?_
        rintro e w' ⟨rfl, rfl⟩
        go_wp2_with fail
        refine (HV.out _).mono ?_
        rintro e w1 ⟨rfl, hb⟩
        have c2 : w1.cell? ⟨w.heap.size, 2, none⟩ = some (.int .i64 0) := (mem_of_block (hb.block w.heap.size (by simp)) 2).trans (cell_new 2 rfl)
        go_wp2
        go_ret
        exact ⟨by rw [HE.out]; rfl, (HB0.out _).trans (hb.mono (by simp))⟩
      · have h1 : (cn == 0) = false := by simpa using h0
        have h2 : (cn != 0) = true := by simpa using h0
        have HD := Lib.hid (show decide (cn ≠ 0) = true by simpa using h0)
        clear h0
        go_enter Try.func61, Try.ntmps61
        go_wp2_with fail
        refine (HT.out _).mono ?_
        rintro e w' ⟨rfl, rfl⟩
        go_wp2_with fail
        refine (HV.out _).mono ?_
        rintro e w1 ⟨rfl, hb⟩
        have c2 : w1.cell? ⟨w.heap.size, 2, none⟩ = some (.int .i64 cn) := (mem_of_block (hb.block w.heap.size (by simp)) 2).trans (cell_new 2 rfl)
        go_wp2_with (go_at_call 82; refine (HN.out _).mono ?_; rintro e w' ⟨rfl, rfl⟩)
        go_ret
        exact ⟨by rw [HE.out, HD.out]; rfl, (HB0.out _).trans (hb.mono (by simp))⟩

/-- The four ways of 'there is no change'. -/
theorem none_cases (t l c : Int) : (t == 0) = false ∨ t = 0 ∧ (l == 0) = false ∨ t = 0 ∧ l = 0 ∧ (c == 0) = false ∨ t = 0 ∧ l = 0 ∧ c = 0 := by
  by_cases h : t = 0 <;> by_cases h2 : l = 0 <;> by_cases h3 : c = 0 <;> simp [*]

theorem two_alloc {w w1 : World} {o o' : Obj} (hb : Below ((w.alloc o).alloc o').heap.size ((w.alloc o).alloc o') w1) : w1.heap[w.heap.size]? = some o ∧ w1.heap[w.heap.size + 1]? = some o' := by
  have h := heap_alloc_new (w.alloc o) o'
  rw [World.size_alloc] at h
  exact ⟨(hb.block _ (by simp; omega)).trans ((Below.heap_alloc _ _ _ (by simp)).trans (heap_alloc_new w o)), (hb.block _ (by simp)).trans h⟩
theorem set_block {w : World} {g o : Nat} {v : Value} {cur : Array Value} {t : TypeId} {f : Nat × Nat} (h : w.heap[g]? = some (.cells cur t f)) : (w.setCell ⟨g, o, none⟩ v).heap[g]? = some (.cells (cur.setIfInBounds o v) t f) := by
  simp [World.setCell, Array.getElem?_modify, h]
theorem set_block_other {w : World} {g g' o : Nat} {v : Value} (hne : g' ≠ g) : (w.setCell ⟨g, o, none⟩ v).heap[g']? = w.heap[g']? := Below.heap_setCell _ _ _ _ hne

/-- own returns an element that shares nothing. -/
def OwnEl (w : World) (x : El) (e : Ending) (w' : World) : Prop := ∃ a c, e = .returned (elV x (.slice a x.row.length c)) ∧ tRow.rv ((mem w').on (w.heap.size ≤ ·)) [.slice a x.row.length c] x.row ∧ Below w.heap.size w w'
set_option maxRecDepth 100000 in
set_option maxHeartbeats 2000000 in
theorem own_el (x : El) (s : Value) (w : World) (hv : tRow.rv (mem w) [s] x.row) (h8 : x.row.length ≤ 1000000) :
    Calls Try.prog 46 #[elV x s] w (OwnEl w x) := by
  obtain ⟨a, cap, rfl, _, _, hv⟩ := slice_form hv
  have hb2 : ∀ o o', Below w.heap.size w ((w.alloc o).alloc o') := fun o o' => ((Below.refl _ _).alloc (Nat.le_refl _) o).alloc (by simp) o'
  have HO := Lib.hid (fun (wq : World) (h : Below w.heap.size w wq) => cloneRow_any x.row _ wq (tRow.mono _ _ _ _ (below_mem h) hv) h8)
  have HB2 := Lib.hid hb2
  clear hv hb2
  go_enter Try.func46, Try.ntmps46
  go_wp2_with fail
  refine (HO.out _ (HB2.out _ _)).mono ?_
  rintro e w1 ⟨u, rfl, hown, hb⟩
  obtain ⟨a4, cap4, rfl, hm4⟩ := hown.len
  obtain ⟨q0, q1⟩ := two_alloc hb
  have HBB := Lib.hid ((HB2.out _ _).trans (hb.mono (by simp; omega)))
  have HSZ := Lib.hid (show w.heap.size + 2 ≤ w1.heap.size by have := hb.size; simp at this; omega)
  have HOW := Lib.hid (hown.rv (S := (w.heap.size + 2 ≤ ·)) (fun b hb => by simp at hb; omega) (fun _ _ _ h => tVal_flat _ _ _ _ h))
  clear hb hown
  have c0 : w1.cell? ⟨w.heap.size, 0, none⟩ = some (.int .i64 x.kind) := mem_cells q0 0
  have c1 : w1.cell? ⟨w.heap.size, 1, none⟩ = some (.int .i64 x.n) := mem_cells q0 1
  have c2 : w1.cell? ⟨w.heap.size, 2, none⟩ = some (.int .i64 x.time) := mem_cells q0 2
  have c3 : w1.cell? ⟨w.heap.size, 3, none⟩ = some (.slice a x.row.length cap) := mem_cells q0 3
  have c4 : w1.cell? ⟨w.heap.size, 4, none⟩ = some (.int .i64 x.cn) := mem_cells q0 4
  have f3 : w1.frozen? ⟨w.heap.size, 3, none⟩ = false := frozen_cells q0 3
  have d0 : w1.cell? ⟨w.heap.size + 1, 0, none⟩ = some (.int .i64 0) := mem_cells q1 0
  have d1 : w1.cell? ⟨w.heap.size + 1, 1, none⟩ = some (.int .i64 0) := mem_cells q1 1
  have d2 : w1.cell? ⟨w.heap.size + 1, 2, none⟩ = some (.int .i64 0) := mem_cells q1 2
  have d3 : w1.cell? ⟨w.heap.size + 1, 3, none⟩ = some (.slice none 0 0) := mem_cells q1 3
  have d4 : w1.cell? ⟨w.heap.size + 1, 4, none⟩ = some (.int .i64 0) := mem_cells q1 4
  have d : ∀ o, w1.frozen? ⟨w.heap.size + 1, o, none⟩ = false := frozen_cells q1
  have HQ1 := Lib.hid q1
  clear q0 q1
  go_wp2
  have r1 := set_block (o := 4) (v := .int .i64 x.cn) (set_block (o := 3) (v := .slice a4 x.row.length cap4) (set_block (o := 2) (v := .int .i64 x.time) (set_block (o := 1) (v := .int .i64 x.n) (set_block (o := 0) (v := .int .i64 x.kind) ((set_block_other (g := w.heap.size) (o := 3) (v := .slice a4 x.row.length cap4) (by omega)).trans HQ1.out)))))
  have hk : Keeps (fun k => k = w.heap.size ∨ k = w.heap.size + 1) w1 ((((((w1.setCell ⟨w.heap.size, 3, none⟩ (.slice a4 x.row.length cap4)).setCell ⟨w.heap.size + 1, 0, none⟩ (.int .i64 x.kind)).setCell ⟨w.heap.size + 1, 1, none⟩ (.int .i64 x.n)).setCell ⟨w.heap.size + 1, 2, none⟩ (.int .i64 x.time)).setCell ⟨w.heap.size + 1, 3, none⟩ (.slice a4 x.row.length cap4)).setCell ⟨w.heap.size + 1, 4, none⟩ (.int .i64 x.cn)) :=
    ((((((Keeps.refl (fun k => k = w.heap.size ∨ k = w.heap.size + 1) w1).setCell (p := ⟨_, _, none⟩) (fun _ => .inl rfl) _).setCell (p := ⟨_, _, none⟩) (fun _ => .inr rfl) _).setCell (p := ⟨_, _, none⟩) (fun _ => .inr rfl) _).setCell (p := ⟨_, _, none⟩) (fun _ => .inr rfl) _).setCell (p := ⟨_, _, none⟩) (fun _ => .inr rfl) _).setCell (p := ⟨_, _, none⟩) (fun _ => .inr rfl) _
  generalize ((((((w1.setCell ⟨w.heap.size, 3, none⟩ (.slice a4 x.row.length cap4)).setCell ⟨w.heap.size + 1, 0, none⟩ (.int .i64 x.kind)).setCell ⟨w.heap.size + 1, 1, none⟩ (.int .i64 x.n)).setCell ⟨w.heap.size + 1, 2, none⟩ (.int .i64 x.time)).setCell ⟨w.heap.size + 1, 3, none⟩ (.slice a4 x.row.length cap4)).setCell ⟨w.heap.size + 1, 4, none⟩ (.int .i64 x.cn)) = w2 at r1 hk ⊢
  have e0 : w2.cell? ⟨w.heap.size + 1, 0, none⟩ = some (.int .i64 x.kind) := mem_cells r1 0
  have e1 : w2.cell? ⟨w.heap.size + 1, 1, none⟩ = some (.int .i64 x.n) := mem_cells r1 1
  have e2 : w2.cell? ⟨w.heap.size + 1, 2, none⟩ = some (.int .i64 x.time) := mem_cells r1 2
  have e3 : w2.cell? ⟨w.heap.size + 1, 3, none⟩ = some (.slice a4 x.row.length cap4) := mem_cells r1 3
  have e4 : w2.cell? ⟨w.heap.size + 1, 4, none⟩ = some (.int .i64 x.cn) := mem_cells r1 4
  refine bodyPost_ret (v := elV x (.slice a4 x.row.length cap4)) (by simp [results, Try.results46, go_sem, e0, e1, e2, e3, e4]) rfl ⟨a4, cap4, rfl, ?_, ?_⟩
  · exact tRow.mono _ _ _ _ (Mem.le_trans (keeps_mem hk (S := fun b => w.heap.size + 2 ≤ b) (fun b hb => by omega)) (Mem.on_mono _ (fun b hb => by omega))) HOW.out
  · exact Keeps.belowStep HBB.out hk (fun k hk => by omega) (by have := HSZ.out; omega)

set_option maxRecDepth 100000 in
set_option maxHeartbeats 2000000 in
theorem same_el (x : El) (s u : Value) (w : World) (hv : tRow.rv (mem w) [s] x.row) (hu : tRow.rv (mem w) [u] x.row) :
    Calls Try.prog 47 #[elV x s, elV x u] w fun e w' => e = .returned (.bool true) ∧ Below w.heap.size w w' := by
  obtain ⟨a, cap, rfl, _, _, hv⟩ := slice_form hv
  obtain ⟨b, cap', rfl, _, _, hu⟩ := slice_form hu
  have hb2 : ∀ o o', Below w.heap.size w ((w.alloc o).alloc o') := fun o o' => ((Below.refl _ _).alloc (Nat.le_refl _) o).alloc (by simp) o'
  have hc0 : cmpRow x.row x.row = 0 := cmpRow_good.refl _
  have HC := Lib.hid (fun (wq : World) (h : Below w.heap.size w wq) => hc0 ▸ refCmp_any x.row x.row _ _ wq (tRow.mono _ _ _ _ (below_mem h) hv) (tRow.mono _ _ _ _ (below_mem h) hu))
  have HB2 := Lib.hid hb2
  clear hv hu hb2 hc0
  go_enter Try.func47, Try.ntmps47
  go_wp2_with fail
  refine (HC.out _ (HB2.out _ _)).mono ?_
  rintro e w1 ⟨rfl, hb⟩
  obtain ⟨q0, q1⟩ := two_alloc hb
  have c3 : w1.cell? ⟨w.heap.size, 3, none⟩ = some (.slice a x.row.length cap) := mem_cells q0 3
  have d3 : w1.cell? ⟨w.heap.size + 1, 3, none⟩ = some (.slice b x.row.length cap') := mem_cells q1 3
  have HBB := Lib.hid ((HB2.out _ _).trans (hb.mono (by simp; omega)))
  clear hb q0 q1
  go_wp2
  go_ret
  exact ⟨rfl, HBB.out⟩
end Go.Proofs.Ytfkphdmnelchmaa
