/- Wires: Peek and Receive. -/
import Derived.Test.YtfkphdmnelchmaaWireC
namespace Go.Proofs.Ytfkphdmnelchmaa
open Go.RowKit Go.Maps

def store5 (w : World) (p : Nat) (v0 v1 v2 v3 v4 : Value) : World := ((((w.setCell ⟨p, 0, none⟩ v0).setCell ⟨p, 1, none⟩ v1).setCell ⟨p, 2, none⟩ v2).setCell ⟨p, 3, none⟩ v3).setCell ⟨p, 4, none⟩ v4
theorem store5_block {w : World} {p : Nat} {a0 a1 a2 a3 a4 : Value} {T : TypeId} (h : w.heap[p]? = some (.cells #[a0, a1, a2, a3, a4] T (0, 0))) (v0 v1 v2 v3 v4 : Value) :
    (store5 w p v0 v1 v2 v3 v4).heap[p]? = some (.cells #[v0, v1, v2, v3, v4] T (0, 0)) := set_block (o := 4) (set_block (o := 3) (set_block (o := 2) (set_block (o := 1) (set_block (o := 0) h))))
theorem store5_keeps (w : World) (p : Nat) (v0 v1 v2 v3 v4 : Value) : Keeps (fun k => k = p) w (store5 w p v0 v1 v2 v3 v4) :=
  (((((Keeps.refl (fun k => k = p) w).setCell (p := ⟨p, 0, none⟩) (fun _ => rfl) _).setCell (p := ⟨p, 1, none⟩) (fun _ => rfl) _).setCell (p := ⟨p, 2, none⟩) (fun _ => rfl) _).setCell (p := ⟨p, 3, none⟩) (fun _ => rfl) _).setCell (p := ⟨p, 4, none⟩) (fun _ => rfl) _

def noEl : El := ⟨0, 0, 0, [], 0⟩
/-- Peek's answer: the first element, or none. -/
def PeekOut (W : World) (r : Raw) (e : Ending) (W' : World) : Prop :=
  Below W.heap.size W W' ∧ ((r.buffer = [] ∧ e = .returned (.tuple #[elV noEl (.slice none 0 0), .int .i64 8])) ∨ ∃ i is a c, r.buffer = i :: is ∧ e = .returned (.tuple #[elV i.el (.slice a i.el.row.length c), .int .i64 0]) ∧ tRow.rv ((mem W').on (W.heap.size ≤ ·)) [.slice a i.el.row.length c] i.el.row)

theorem WireInv.head {W : World} {base b : Nat} {L : WL} {r : Raw} {i : Item} {is : List Item} (hI : WireInv W base b L r) (hbu : r.buffer = i :: is) : ∃ g off cq a c, L.bv = .slice (some ⟨g, off, none⟩) (is.length + 1) cq ∧ is.length + 1 ≤ cq ∧ cq ≤ maxLen ∧
    W.cell? ⟨g, off, none⟩ = some (.int .i64 i.el.kind) ∧ W.cell? ⟨g, off + 1, none⟩ = some (.int .i64 i.el.n) ∧ W.cell? ⟨g, off + 2, none⟩ = some (.int .i64 i.el.time) ∧ W.cell? ⟨g, off + 3, none⟩ = some (.slice a i.el.row.length c) ∧ W.cell? ⟨g, off + 4, none⟩ = some (.int .i64 i.el.cn) ∧
    W.cell? ⟨g, off + 5, none⟩ = some (ofV i.of) ∧ tRow.rv (mem W) [.slice a i.el.row.length c] i.el.row ∧ i.el.ok := by
  obtain ⟨g, off, cap, cs, h1, h2, h3, ⟨s, rfl, hb, hr⟩, h5⟩ := hI.bf.at (k := 0) (by rw [hbu]; simp)
  have h0 : r.buffer[0]'(by rw [hbu]; simp) = i := by simp [hbu]
  rw [h0] at hr hb h5
  obtain ⟨a, c, rfl, _, _, hr⟩ := slice_form hr
  rw [Nat.zero_mul, Nat.add_zero] at h5
  rw [hbu] at h1 h2
  exact ⟨g, off, cap, a, c, h1, h2, h3, h5 0 _ rfl, h5 1 _ rfl, h5 2 _ rfl, h5 3 _ rfl, h5 4 _ rfl, h5 5 _ rfl, tRow.mono _ _ _ _ (Mem.on_le _ _) hr, ⟨hb.1, hb.2.1, hb.2.2.1, hb.2.2.2⟩⟩

set_option maxRecDepth 100000 in
set_option maxHeartbeats 2000000 in
theorem peek_any (base b : Nat) (L : WL) (r : Raw) (W : World) (hI : WireInv W base b L r) (h8 : ∀ i ∈ r.buffer, i.el.row.length ≤ 1000000) :
    Calls Try.prog 36 #[.pointer (some ⟨b, 0, none⟩)] W (PeekOut W r) := by
  obtain ⟨qv, bv, wm, em, nw, ne, fr⟩ := L
  have hb1 : ∀ o, Below W.heap.size W (W.alloc o) := fun o => (Below.refl _ _).alloc (Nat.le_refl _) o
  have HB1 := Lib.hid hb1
  cases hbu : r.buffer with
  | nil =>
    obtain ⟨aq, cq, hqv, hq1, hq2⟩ := hI.bf.form
    simp only [hbu, List.length_nil] at hqv
    subst hqv
    have c7 : ∀ o, (W.alloc o).cell? ⟨b, 7, none⟩ = some (.slice aq 0 cq) := fun o => (hI.pure (hb1 o)).cell 7
    have HBU := Lib.hid hbu
    clear hI hb1 hbu h8 hq1
    go_enter Try.func36, Try.ntmps36
    go_wp2
    exact bodyPost_ret (v := .tuple #[elV noEl (.slice none 0 0), .int .i64 8]) (by simp [results, Try.results36, go_sem, noEl]) rfl ⟨HB1.out _, .inl ⟨HBU.out, rfl⟩⟩
  | cons i is =>
    obtain ⟨g, off, cq, a, c, hqv, hq1, hq2, c0, c1, c2, c3, c4, _, hr, hok⟩ := hI.head hbu
    simp only at hqv
    subst hqv
    have hg : g < W.heap.size := mem_lt c0
    have h8i := h8 i (by rw [hbu]; simp)
    have c7 : ∀ o, (W.alloc o).cell? ⟨b, 7, none⟩ = some (.slice (some ⟨g, off, none⟩) (is.length + 1) cq) := fun o => (hI.pure (hb1 o)).cell 7
    have d0 : ∀ o, (W.alloc o).cell? ⟨g, off, none⟩ = some (.int .i64 i.el.kind) := fun o => below_mem (hb1 o) _ _ _ c0
    have d1 : ∀ o, (W.alloc o).cell? ⟨g, off + 1, none⟩ = some (.int .i64 i.el.n) := fun o => below_mem (hb1 o) _ _ _ c1
    have d2 : ∀ o, (W.alloc o).cell? ⟨g, off + 2, none⟩ = some (.int .i64 i.el.time) := fun o => below_mem (hb1 o) _ _ _ c2
    have d3 : ∀ o, (W.alloc o).cell? ⟨g, off + 3, none⟩ = some (.slice a i.el.row.length c) := fun o => below_mem (hb1 o) _ _ _ c3
    have d4 : ∀ o, (W.alloc o).cell? ⟨g, off + 4, none⟩ = some (.int .i64 i.el.cn) := fun o => below_mem (hb1 o) _ _ _ c4
    have hpos : (0 : Int) < ((is.length + 1 : Nat) : Int) := by omega
    have HBU := Lib.hid hbu
    have HO := Lib.hid (fun o => own_el i.el _ (W.alloc o) (tRow.mono _ _ _ _ (below_mem (hb1 o)) hr) h8i)
    clear hI hb1 hbu h8 h8i c0 c1 c2 c3 c4 hr hok
    go_enter Try.func36, Try.ntmps36
    go_wp2_with fail
    refine (HO.out _).mono ?_
    rintro e w1 ⟨a4, c4, rfl, hu, hb⟩
    have q := (hb.block W.heap.size (by simp)).trans (heap_alloc_new W _)
    have e0 : w1.cell? ⟨W.heap.size, 0, none⟩ = some (.int .i64 0) := mem_cells q 0
    have e1 : w1.cell? ⟨W.heap.size, 1, none⟩ = some (.int .i64 0) := mem_cells q 1
    have e2 : w1.cell? ⟨W.heap.size, 2, none⟩ = some (.int .i64 0) := mem_cells q 2
    have e3 : w1.cell? ⟨W.heap.size, 3, none⟩ = some (.slice none 0 0) := mem_cells q 3
    have e4 : w1.cell? ⟨W.heap.size, 4, none⟩ = some (.int .i64 0) := mem_cells q 4
    have f : ∀ o, w1.frozen? ⟨W.heap.size, o, none⟩ = false := frozen_cells q
    have HQ := Lib.hid q
    have HU := Lib.hid hu
    have HB := Lib.hid ((HB1.out _).trans (hb.mono (by simp)))
    have HSZ := Lib.hid (show W.heap.size + 1 ≤ w1.heap.size by have := hb.size; simpa using this)
    clear q hu hb d0 d1 d2 d3 d4 c7
    go_wp2
    have r1 := store5_block HQ.out (.int .i64 i.el.kind) (.int .i64 i.el.n) (.int .i64 i.el.time) (.slice a4 i.el.row.length c4) (.int .i64 i.el.cn)
    have hk := store5_keeps w1 W.heap.size (.int .i64 i.el.kind) (.int .i64 i.el.n) (.int .i64 i.el.time) (.slice a4 i.el.row.length c4) (.int .i64 i.el.cn)
    show bodyPost _ _ _ _ _ (store5 w1 W.heap.size (.int .i64 i.el.kind) (.int .i64 i.el.n) (.int .i64 i.el.time) (.slice a4 i.el.row.length c4) (.int .i64 i.el.cn))
    generalize store5 w1 W.heap.size (.int .i64 i.el.kind) (.int .i64 i.el.n) (.int .i64 i.el.time) (.slice a4 i.el.row.length c4) (.int .i64 i.el.cn) = w2 at r1 hk ⊢
    have g0 : w2.cell? ⟨W.heap.size, 0, none⟩ = some (.int .i64 i.el.kind) := mem_cells r1 0
    have g1 : w2.cell? ⟨W.heap.size, 1, none⟩ = some (.int .i64 i.el.n) := mem_cells r1 1
    have g2 : w2.cell? ⟨W.heap.size, 2, none⟩ = some (.int .i64 i.el.time) := mem_cells r1 2
    have g3 : w2.cell? ⟨W.heap.size, 3, none⟩ = some (.slice a4 i.el.row.length c4) := mem_cells r1 3
    have g4 : w2.cell? ⟨W.heap.size, 4, none⟩ = some (.int .i64 i.el.cn) := mem_cells r1 4
    refine bodyPost_ret (v := .tuple #[elV i.el (.slice a4 i.el.row.length c4), .int .i64 0]) (by simp [results, Try.results36, go_sem, g0, g1, g2, g3, g4]) rfl ⟨?_, .inr ⟨i, is, a4, c4, HBU.out, rfl, ?_⟩⟩
    · exact Keeps.belowStep HB.out hk (fun k hk => by omega) HB.out.size
    · exact tRow.mono _ _ _ _ (Mem.le_trans (keeps_mem hk (S := fun b => W.heap.size + 1 ≤ b) (fun b hb => by omega)) (Mem.on_mono _ (fun b hb => by omega))) (by simpa using HU.out)
end Go.Proofs.Ytfkphdmnelchmaa
