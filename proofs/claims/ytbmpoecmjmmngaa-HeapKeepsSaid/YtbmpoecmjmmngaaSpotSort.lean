/- The order of spots, walked: cmp.Or, the closure of sorted, slices.SortFunc at spots. -/
import Derived.Test.YtbmpoecmjmmngaaShelf
import Derived.Test.YtbmpoecmjmmngaaSpotKey
import Derived.Test.YtbmpoecmjmmngaaCmpW
import Derived.Deep.RegionHeld3
namespace Go.Proofs.Ytbmpoecmjmmngaa
open Go.RowKit Go.Sort

def orI (a b : Int) : Int := if a ≠ 0 then a else b
set_option maxHeartbeats 1000000 in
theorem cmpOr_any (a b : Int) (blk c : Nat) (w : World) (h0 : w.cell? ⟨blk, 0, none⟩ = some (.int .i64 a)) (h1 : w.cell? ⟨blk, 1, none⟩ = some (.int .i64 b)) :
    Calls Try.prog 76 #[.slice (some ⟨blk, 0, none⟩) 2 c] w fun e w' => e = .returned (.int .i64 (orI a b)) ∧ w = w' := by
  by_cases ha : a = 0
  · subst ha
    by_cases hb : b = 0
    · subst hb
      rw [show orI 0 0 = 0 from rfl]
      go_enter Try.func76, Try.ntmps76
      go_wp2
      go_loop [8] (fun i => ∃ k : Nat, k ≤ 2 ∧ i = .int .i64 k) (fun i => 2 - (intOf i).toNat)
      case atStart => exact ⟨0, by omega, rfl⟩
      case round =>
        obtain ⟨k, hk, rfl⟩ := hrel
        match k, hk with
        | 0, _ =>
          go_wp2
          go_round
          case rel => exact ⟨1, by omega, by go_num⟩
          case measure => simp [intOf]
        | 1, _ =>
          go_wp2
          go_round
          case rel => exact ⟨2, by omega, by go_num⟩
          case measure => simp [intOf]
        | 2, _ =>
          go_wp2
          go_ret
          exact ⟨rfl, rfl⟩
    · have hb' : (b != 0) = true := by simp [hb]
      rw [show orI 0 b = b from rfl]
      have HB := Lib.hid hb
      clear hb
      go_enter Try.func76, Try.ntmps76
      go_wp2
      go_loop [8] (fun i => ∃ k : Nat, k ≤ 1 ∧ i = .int .i64 k) (fun i => 2 - (intOf i).toNat)
      case atStart => exact ⟨0, by omega, rfl⟩
      case round =>
        obtain ⟨k, hk, rfl⟩ := hrel
        match k, hk with
        | 0, _ =>
          go_wp2
          go_round
          case rel => exact ⟨1, by omega, by go_num⟩
          case measure => simp [intOf]
        | 1, _ =>
          go_wp2
          go_ret
          exact ⟨rfl, rfl⟩
  · have ha' : (a != 0) = true := by simp [ha]
    rw [show orI a b = a from if_pos ha]
    clear ha
    go_enter Try.func76, Try.ntmps76
    go_wp2
    go_loop [8] (fun i => i = .int .i64 0) (fun i => 2 - (intOf i).toNat)
    case atStart => rfl
    case round =>
      subst hrel
      go_wp2
      go_ret
      exact ⟨rfl, rfl⟩
def cmpS (s t : ByteArray) : Int := cmpBytes s.toList t.toList
theorem cmpS_any (s t : ByteArray) (w : World) :
    Calls Try.prog 77 #[.string s, .string t] w fun e w' => e = .returned (.int .i64 (cmpS s t)) ∧ w = w' := cmpStr_any s t w
theorem drew_grow (w : World) (os : Array Obj) : (grow w os).drew = grow w.drew os := rfl
theorem grow_drewN1 (w : World) (os : Array Obj) : ∃ q os', grow w.drew os = grow (w.drewN q) os' := ⟨1, os, rfl⟩
set_option maxRecDepth 100000 in
set_option maxHeartbeats 4000000 in
theorem spotCmp_any (x y : Spot) (W : World) :
    Calls Try.prog 75 #[spotV x, spotV y] W fun e w' => e = .returned (.int .i64 (spotC x y)) ∧ ∃ q os, w' = grow (W.drewN q) os := by
  obtain ⟨x1, x2⟩ := x
  obtain ⟨y1, y2⟩ := y
  have HE := Lib.hid (show spotC (x1, x2) (y1, y2) = orI (cmpS x1 y1) (cmpS x2 y2) from rfl)
  have HG := Lib.hid (fun (o1 o2 o3 : Obj) => (show ∃ q os, (((W.alloc o1).alloc o2).drew.alloc o3) = grow (W.drewN q) os from ⟨1, #[o1] ++ #[o2] ++ #[o3], by rw [alloc_eq_grow, alloc_eq_grow, alloc_eq_grow, drew_grow, drew_grow, grow_grow, grow_grow]; rfl⟩))
  have HN := Lib.hid (fun (o1 o2 : Obj) (cs : Array Value) (T : TypeId) (f : Nat × Nat) (o : Nat) => (show (((W.alloc o1).alloc o2).drew.alloc (.cells cs T f)).cell? ⟨W.heap.size + 1 + 1, o, none⟩ = cs[o]? from by
    have := mem_cells_new ((W.alloc o1).alloc o2).drew cs T f o
    rw [show ((W.alloc o1).alloc o2).drew.heap.size = W.heap.size + 1 + 1 from by show ((W.alloc o1).alloc o2).heap.size = _; simp] at this
    exact this))
  go_enter Try.func75, Try.ntmps75
  go_wp2_with fail
  go_region_held3 (fun w' => w'.cell? ⟨W.heap.size, 0, none⟩ = some (.string x1) ∧ w'.cell? ⟨W.heap.size, 1, none⟩ = some (.string x2) ∧ w'.cell? ⟨W.heap.size + 1, 0, none⟩ = some (.string y1) ∧ w'.cell? ⟨W.heap.size + 1, 1, none⟩ = some (.string y2))
    (go_keep)
    ((first
      | (go_at_call 77; refine (cmpS_any _ _ _).mono ?_; rintro e w2 ⟨rfl, rfl⟩)
      | (go_at_call 76; refine (cmpOr_any (cmpS x1 y1) (cmpS x2 y2) _ _ _ (HN.out _ _ _ _ _ 0) (HN.out _ _ _ _ _ 1)).mono ?_; rintro e w2 ⟨rfl, rfl⟩)))
  all_goals
    go_wp2
    go_ret
    exact ⟨by rw [HE.out] <;> rfl, HG.out _ _ _⟩
end Go.Proofs.Ytbmpoecmjmmngaa
