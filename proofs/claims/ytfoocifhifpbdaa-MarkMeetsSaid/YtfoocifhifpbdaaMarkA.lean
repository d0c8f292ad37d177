/- Contracts of the small functions of package mark and its reference: the meet. -/
import Derived.Test.YtfoocifhifpbdaaRows
import Derived.Test.YtfoocifhifpbdaaLib
namespace Go.Proofs.Ytfoocifhifpbdaa
open Go.RowKit

structure In where
  mark : Int
  idle : Bool
  closed : Bool
deriving Inhabited

def In.cells (x : In) : List Value := [.int .i64 x.mark, .bool x.idle, .bool x.closed]
def okMark (n : Int) : Prop := -1000000000000 ≤ n ∧ n ≤ 1000000000001

def leastStep (acc : Int × Bool) (x : In) : Int × Bool := if (!x.idle) && ((!acc.2) || decide (x.mark < acc.1)) then (x.mark, true) else acc
def leastOf (xs : List In) : Int × Bool := xs.foldl leastStep (0, false)
theorem leastOf_snoc (xs : List In) (k : Nat) (h : k < xs.length) : leastOf (xs.take (k + 1)) = leastStep (leastOf (xs.take k)) xs[k] := by
  unfold leastOf
  rw [List.take_succ_eq_append_getElem h, List.foldl_append]; rfl

structure InAt (w : World) (h o : Nat) (x : In) : Prop where
  c0 : w.cell? ⟨h, o, none⟩ = some (.int .i64 x.mark)
  c1 : w.cell? ⟨h, o + 1, none⟩ = some (.bool x.idle)
  c2 : w.cell? ⟨h, o + 2, none⟩ = some (.bool x.closed)
theorem InAt.keeps {w w' : World} {h o : Nat} {x : In} (k : InAt w h o x) (hb : w'.heap[h]? = w.heap[h]?) : InAt w' h o x :=
  ⟨(mem_of_block hb _).trans k.c0, (mem_of_block hb _).trans k.c1, (mem_of_block hb _).trans k.c2⟩
theorem InAt.lt {w : World} {h o : Nat} {x : In} (k : InAt w h o x) : h < w.heap.size := mem_lt k.c0

set_option maxHeartbeats 400000 in
theorem mwithin_any (n lo hi : Int) (w : World) :
    Calls Try.prog 42 #[.int .i64 n, .int .i64 lo, .int .i64 hi] w fun e w' => e = .returned (.bool (decide (lo ≤ n ∧ n ≤ hi))) ∧ w = w' := by
  by_cases h1 : lo ≤ n <;> by_cases h2 : n ≤ hi
  all_goals
    go_enter Try.func42, Try.ntmps42
    go_wp2
    go_ret
    exact ⟨by simp [*], rfl⟩

set_option maxHeartbeats 400000 in
theorem busy1_any (x : In) (w : World) :
    Calls Try.prog 69 #[.agg #[.int .i64 x.mark, .bool x.idle, .bool x.closed]] w fun e w' => e = .returned (.tuple #[.int .i64 x.mark, .bool (!x.idle)]) ∧ Below w.heap.size w w' := by
  go_enter Try.func69, Try.ntmps69
  go_wp2
  go_quiet (fail)
  go_wp2
  go_ret2
  exact ⟨rfl, below_drewN ((Below.refl _ _).alloc (Nat.le_refl _) _) _⟩

set_option maxHeartbeats 800000 in
theorem mleast_any (h off cap : Nat) (xs : List In) (w : World) (hl : xs.length ≤ 1000000) (hc : ∀ k, (hk : k < xs.length) → InAt w h (off + k * 3) xs[k]) :
    Calls Try.prog 68 #[.slice (some ⟨h, off, none⟩) xs.length cap, .func (.func 69) #[] #[]] w fun e w' => e = .returned (.tuple #[.int .i64 (leastOf xs).1, .bool (leastOf xs).2]) ∧ Below w.heap.size w w' := by
  go_enter Try.func68, Try.ntmps68
  go_wp2
  go_loopw [6, 7, 14] (fun b f i wr => ∃ k : Nat, k ≤ xs.length ∧ i = .int .i64 k ∧ b = .int .i64 (leastOf (xs.take k)).1 ∧ f = .bool (leastOf (xs.take k)).2 ∧ Below w.heap.size w wr) (fun _ _ i _ => xs.length - (intOf i).toNat)
  case atStart => exact ⟨0, by omega, rfl, rfl, rfl, Below.refl _ _⟩
  case round =>
    obtain ⟨k, hk, rfl, rfl, rfl, hB⟩ := hrel
    by_cases hlt : k < xs.length
    · obtain ⟨c0, c1, c2⟩ := (hc k hlt).keeps (hB.block h (hc k hlt).lt)
      have HS := Lib.hid (leastOf_snoc xs k hlt)
      have hB' := hB
      clear hc
      generalize leastOf (xs.take k) = q at HS ⊢
      generalize xs[k] = x at HS c0 c1 c2 ⊢
      obtain ⟨b0, f0⟩ := q
      obtain ⟨m, i, c⟩ := x
      simp only at c0 c1 c2 ⊢
      go_wp2_with fail
      refine (busy1_any ⟨m, i, c⟩ _).mono ?_
      rintro e w1 ⟨rfl, hb1⟩
      have hB1 : Below w.heap.size w w1 := (hB.alloc hB.size _).trans (hb1.mono (by have := hB.size; simp; omega))
      clear hb1 hB hB' c0 c1 c2
      cases i <;> cases f0 <;> by_cases hlt : m < b0
      all_goals
        go_wp2
        go_roundw
        case rel => exact ⟨k + 1, by omega, by go_num, by rw [HS.out]; first | (simp [leastStep, *]; done) | (simp only [leastStep]; rw [if_neg (by simp; omega)]), by rw [HS.out]; first | (simp [leastStep, *]; done) | (simp only [leastStep]; rw [if_neg (by simp; omega)]), hB1⟩
        case measure => simp [intOf]; omega
    · obtain rfl : k = xs.length := by omega
      go_wp2
      go_ret2
      exact ⟨by simp, hB⟩

/-- The inputs of a meet in a block. -/
structure InsAt (w : World) (h : Nat) (xs : List In) : Prop where
  cells : ∀ k, (hk : k < xs.length) → InAt w h (k * 3) xs[k]
  free : ∀ o, w.frozen? ⟨h, o, none⟩ = false
structure Meet where
  ins : List In
  mark : Int
structure MeetAt (w : World) (g h : Nat) (m : Meet) : Prop where
  s : ∃ cap, w.cell? ⟨g, 0, none⟩ = some (.slice (some ⟨h, 0, none⟩) m.ins.length cap)
  k : w.cell? ⟨g, 1, none⟩ = some (.int .i64 m.mark)
  fg : ∀ o, w.frozen? ⟨g, o, none⟩ = false
  ne : g ≠ h
  pos : 1 ≤ m.ins.length
  most : m.ins.length ≤ 8
  i : InsAt w h m.ins
  ok : ∀ x ∈ m.ins, okMark x.mark
  okm : okMark m.mark

theorem InsAt.keeps {w w' : World} {h : Nat} {xs : List In} (k : InsAt w h xs) (hb : w'.heap[h]? = w.heap[h]?) : InsAt w' h xs :=
  ⟨fun j hj => (k.cells j hj).keeps hb, fun o => (World.frozen?_of_block (w := w) (a := ⟨h, o, none⟩) hb).trans (k.free o)⟩
theorem MeetAt.ltg {w : World} {g h : Nat} {m : Meet} (k : MeetAt w g h m) : g < w.heap.size := mem_lt k.k
theorem MeetAt.lth {w : World} {g h : Nat} {m : Meet} (k : MeetAt w g h m) : h < w.heap.size := (k.i.cells 0 k.pos).lt
theorem MeetAt.keeps {w w' : World} {g h : Nat} {m : Meet} (k : MeetAt w g h m) (hg : w'.heap[g]? = w.heap[g]?) (hh : w'.heap[h]? = w.heap[h]?) : MeetAt w' g h m :=
  ⟨let ⟨cap, e⟩ := k.s; ⟨cap, (mem_of_block hg _).trans e⟩, (mem_of_block hg _).trans k.k, fun o => (World.frozen?_of_block (w := w) (a := ⟨g, o, none⟩) hg).trans (k.fg o), k.ne, k.pos, k.most, k.i.keeps hh, k.ok, k.okm⟩
theorem MeetAt.pure {w w' : World} {g h : Nat} {m : Meet} (k : MeetAt w g h m) (hb : Below w.heap.size w w') : MeetAt w' g h m := k.keeps (hb.block _ k.ltg) (hb.block _ k.lth)

theorem frozen_set (w : World) (a b : Addr) (v : Value) : (w.setCell a v).frozen? b = w.frozen? b := World.frozen?_setCell _ _ _ _
theorem cell_other {w : World} {a b : Addr} (v : Value) (h : a ≠ b) : (w.setCell a v).cell? b = w.cell? b := World.cell?_setCell_other _ _ _ _ (by first | exact h | exact fun e => h e.symm)

set_option maxHeartbeats 400000 in
theorem sleep_bad (h o : Nat) (x : In) (w : World) (hx : InAt w h o x) (hc : x.closed = true) :
    Calls Try.prog 71 #[.pointer (some ⟨h, o, none⟩)] w fun e w' => e = .returned (.int .i64 10) ∧ w = w' := by
  obtain ⟨c0, c1, c2⟩ := hx
  rw [hc] at c2
  go_enter Try.func71, Try.ntmps71
  go_wp2
  go_ret
  exact ⟨rfl, rfl⟩
set_option maxHeartbeats 400000 in
theorem sleep_ok (h o : Nat) (x : In) (w : World) (hx : InAt w h o x) (hc : x.closed = false) (hf : w.frozen? ⟨h, o + 1, none⟩ = false) :
    Calls Try.prog 71 #[.pointer (some ⟨h, o, none⟩)] w fun e w' => e = .returned (.int .i64 0) ∧ w' = w.setCell ⟨h, o + 1, none⟩ (.bool true) := by
  obtain ⟨c0, c1, c2⟩ := hx
  rw [hc] at c2
  go_enter Try.func71, Try.ntmps71
  go_wp2
  go_ret
  exact ⟨rfl, rfl⟩
set_option maxHeartbeats 400000 in
theorem wake_bad (h o : Nat) (x : In) (w : World) (hx : InAt w h o x) (hc : x.closed = true) :
    Calls Try.prog 73 #[.pointer (some ⟨h, o, none⟩)] w fun e w' => e = .returned (.int .i64 10) ∧ w = w' := by
  obtain ⟨c0, c1, c2⟩ := hx
  rw [hc] at c2
  go_enter Try.func73, Try.ntmps73
  go_wp2
  go_ret
  exact ⟨rfl, rfl⟩
set_option maxHeartbeats 400000 in
theorem wake_ok (h o : Nat) (x : In) (w : World) (hx : InAt w h o x) (hc : x.closed = false) (hf : w.frozen? ⟨h, o + 1, none⟩ = false) :
    Calls Try.prog 73 #[.pointer (some ⟨h, o, none⟩)] w fun e w' => e = .returned (.int .i64 0) ∧ w' = w.setCell ⟨h, o + 1, none⟩ (.bool false) := by
  obtain ⟨c0, c1, c2⟩ := hx
  rw [hc] at c2
  go_enter Try.func73, Try.ntmps73
  go_wp2
  go_ret
  exact ⟨rfl, rfl⟩
set_option maxHeartbeats 400000 in
theorem close_bad (h o : Nat) (x : In) (w : World) (hx : InAt w h o x) (hc : x.closed = true) :
    Calls Try.prog 45 #[.pointer (some ⟨h, o, none⟩)] w fun e w' => e = .returned (.int .i64 10) ∧ w = w' := by
  obtain ⟨c0, c1, c2⟩ := hx
  rw [hc] at c2
  go_enter Try.func45, Try.ntmps45
  go_wp2
  go_ret
  exact ⟨rfl, rfl⟩
set_option maxHeartbeats 400000 in
theorem close_ok (h o : Nat) (x : In) (w : World) (hx : InAt w h o x) (hc : x.closed = false) (hf : ∀ o, w.frozen? ⟨h, o, none⟩ = false) :
    Calls Try.prog 45 #[.pointer (some ⟨h, o, none⟩)] w fun e w' => e = .returned (.int .i64 0) ∧ w' = ((w.setCell ⟨h, o, none⟩ (.int .i64 1000000000001)).setCell ⟨h, o + 1, none⟩ (.bool false)).setCell ⟨h, o + 2, none⟩ (.bool true) := by
  obtain ⟨c0, c1, c2⟩ := hx
  rw [hc] at c2
  have f0 := hf o
  have f1 := hf (o + 1)
  have f2 := hf (o + 2)
  clear hf
  go_enter Try.func45, Try.ntmps45
  go_wp2
  go_ret
  exact ⟨rfl, rfl⟩

set_option maxHeartbeats 400000 in
theorem mbusy_any (g h : Nat) (m : Meet) (w : World) (hm : MeetAt w g h m) :
    Calls Try.prog 46 #[.pointer (some ⟨g, 0, none⟩)] w fun e w' => e = .returned (.tuple #[.int .i64 (leastOf m.ins).1, .bool (leastOf m.ins).2]) ∧ Below w.heap.size w w' := by
  obtain ⟨cap, hs⟩ := hm.s
  go_enter Try.func46, Try.ntmps46
  go_wp2_with fail
  refine (mleast_any h 0 cap m.ins w (by have := hm.most; omega) (fun k hk => by rw [Nat.zero_add]; exact hm.i.cells k hk)).mono ?_
  rintro e w1 ⟨rfl, hb⟩
  go_wp2
  go_ret2
  exact ⟨rfl, hb⟩

set_option maxHeartbeats 400000 in
theorem mmark_any (g h : Nat) (m : Meet) (w : World) (hm : MeetAt w g h m) :
    Calls Try.prog 21 #[.pointer (some ⟨g, 0, none⟩)] w fun e w' => e = .returned (.int .i64 m.mark) ∧ w = w' := by
  have hk := hm.k
  go_enter Try.func21, Try.ntmps21
  go_wp2
  go_ret
  exact ⟨rfl, rfl⟩
end Go.Proofs.Ytfoocifhifpbdaa
