/- package heap: New. -/
import Derived.Test.YtbmpoecmjmmngaaHeapC
namespace Go.Proofs.Ytbmpoecmjmmngaa
open Go.RowKit Go.Maps

theorem infoPtr : (Try.prog.info? 76).map (fun i => (i.zero, i.size, i.bytes)) = some (some (.pointer none), tPtr.sz, 8) := by kernel_rfl
/-- What stands there while groups are made. -/
structure NewAt (w wr : World) (cv : Value) (cur : List Nat) : Prop where
  hb : wr.heap[w.heap.size + 1]? = some (.cells #[cv, .int .i64 0, .map (some w.heap.size), .int .i64 0] 80 (0, 0))
  sm : SMap wr w.heap.size 0 (fun _ => none)
  ow : Owns tPtr wr (w.heap.size + 2) 76 cv cur
  gb : ∀ a ∈ cur, w.heap.size + 3 ≤ a ∧ wr.heap[a]? = some (.cells #[.map (some (a - 1)), .bool false] 75 (0, 0)) ∧ GMap wr (a - 1) 0 (fun _ => none)
  nd : cur.Nodup
  bl : Below w.heap.size w wr
theorem ow_kind {α : Type} {t : Ty α} {w : World} {B : Nat} {e : TypeId} {v : Value} {xs : List α} (h : Owns t w B e v xs) : ∀ (j : Nat), v.ownBlock = some j → ∃ c, w.heap[j]? = some (.cells c e (0, 0)) := by
  intro j hj
  obtain ⟨css, h1, ⟨h2, h3⟩, h4, h5⟩ := h
  rcases h3 with ⟨rfl, _⟩ | ⟨g, cap, cur, rfl, hg, hh, r⟩
  · cases hj
  · cases hj; exact ⟨_, hh⟩
theorem NewAt.add {w wr : World} {cv : Value} {cur : List Nat} (h : NewAt w wr cv cur) (o3 : Obj) {v' : Value} {W6 : World} (hown : Owns tPtr W6 (w.heap.size + 2) 76 v' (cur ++ [wr.heap.size + 1]))
    (hg : (((wr.alloc (.map #[] 0)).alloc (.cells #[.map (some wr.heap.size), .bool false] 75)).alloc o3).grownBy W6 cv.ownBlock) :
    W6.heap[w.heap.size + 1]? = some (.cells #[cv, .int .i64 0, .map (some w.heap.size), .int .i64 0] 80 (0, 0)) ∧ NewAt w (W6.setCell ⟨w.heap.size + 1, 0, none⟩ v') v' (cur ++ [wr.heap.size + 1]) := by
  have hsz : w.heap.size + 1 < wr.heap.size := (Array.getElem?_eq_some_iff.1 h.hb).1
  have hcvb : ∀ k, cv.ownBlock = some k → w.heap.size + 2 ≤ k ∧ k < wr.heap.size := h.ow.lt
  have hX : ∀ k, k < wr.heap.size → (((wr.alloc (.map #[] 0)).alloc (.cells #[.map (some wr.heap.size), .bool false] 75)).alloc o3).heap[k]? = wr.heap[k]? := fun k hk =>
    (Below.heap_alloc _ _ _ (by simp <;> omega)).trans ((Below.heap_alloc _ _ _ (by simp <;> omega)).trans (Below.heap_alloc _ _ _ hk))
  have h6 : ∀ k, k < wr.heap.size → cv.ownBlock ≠ some k → W6.heap[k]? = wr.heap[k]? := fun k hk hne => (hg.block k (by simp <;> omega) (fun e => hne e.symm)).trans (hX k hk)
  have hM : W6.heap[wr.heap.size]? = some (.map #[] 0) := (hg.block _ (by simp <;> omega) (fun e => by have := (hcvb _ e.symm).2; omega)).trans ((Below.heap_alloc _ _ _ (by simp <;> omega)).trans ((Below.heap_alloc _ _ _ (by simp)).trans (heap_alloc_new wr _)))
  have hA : W6.heap[wr.heap.size + 1]? = some (.cells #[.map (some wr.heap.size), .bool false] 75 (0, 0)) := (hg.block _ (by simp <;> omega) (fun e => by have := (hcvb _ e.symm).2; omega)).trans ((Below.heap_alloc _ _ _ (by simp)).trans (by
    have := heap_alloc_new (wr.alloc (.map #[] 0)) (.cells #[.map (some wr.heap.size), .bool false] 75)
    rwa [World.size_alloc] at this))
  have hP : W6.heap[w.heap.size + 1]? = _ := (h6 _ hsz (fun e => by have := (hcvb _ e).1; omega)).trans h.hb
  have hset : ∀ k, k ≠ w.heap.size + 1 → (W6.setCell ⟨w.heap.size + 1, 0, none⟩ v').heap[k]? = W6.heap[k]? := fun k hk => set_block_other hk
  refine ⟨hP, set_block hP, h.sm.at ((hset _ (by omega)).trans (h6 _ (by omega) (fun e => by have := (hcvb _ e).1; omega))), hown.keepsFlat tPtr_flat ((Keeps.refl (fun k => k = w.heap.size + 1) _).setCell (p := ⟨w.heap.size + 1, 0, none⟩) (fun _ => rfl) _) (fun k e h2 => by have := (hown.lt k e).1; omega), fun a ha => ?_, ?_, ?_⟩
  · rcases List.mem_append.1 ha with ha | ha
    · obtain ⟨g1, g2, g3⟩ := h.gb a ha
      have hal : a < wr.heap.size := (Array.getElem?_eq_some_iff.1 g2).1
      have hnc : cv.ownBlock ≠ some a := fun e => by
        obtain ⟨c, hc⟩ := ow_kind h.ow _ e
        rw [hc] at g2
        exact absurd (by injection g2 with g2; injection g2) (show ¬ ((76 : TypeId) = 75) by decide)
      have hnm : cv.ownBlock ≠ some (a - 1) := fun e => by
        obtain ⟨es, c, hm⟩ := g3.obj
        obtain ⟨c, hc⟩ := ow_kind h.ow _ e
        rw [hc] at hm; cases hm
      exact ⟨g1, (hset _ (by omega)).trans ((h6 a hal hnc).trans g2), g3.at ((hset _ (by omega)).trans (h6 _ (by omega) hnm))⟩
    · simp at ha
      subst ha
      refine ⟨by omega, ?_, ?_⟩
      · rw [show wr.heap.size + 1 - 1 = wr.heap.size by omega]
        exact (hset _ (by omega)).trans hA
      · rw [show wr.heap.size + 1 - 1 = wr.heap.size by omega]
        exact GMap.at (W := wr.alloc (.map #[] 0)) (MapOf.made wr) ((hset _ (by omega)).trans (hM.trans (heap_alloc_new wr _).symm))
  · refine List.nodup_append.2 ⟨h.nd, by simp, fun a ha b hb => ?_⟩
    simp at hb
    subst hb
    have := (Array.getElem?_eq_some_iff.1 (h.gb a ha).2.1).1
    omega
  · have hb3 : Below w.heap.size w (((wr.alloc (.map #[] 0)).alloc (.cells #[.map (some wr.heap.size), .bool false] 75)).alloc o3) := ((h.bl.alloc h.bl.size _).alloc (by simp <;> omega) _).alloc (by simp <;> omega) _
    have hb6 := hb3.grown hg (by simp <;> omega) (fun k e => by have := (hcvb k e).1; omega)
    exact Keeps.belowStep hb6 ((Keeps.refl (fun k => k = w.heap.size + 1) _).setCell (p := ⟨w.heap.size + 1, 0, none⟩) (fun _ => rfl) _) (fun k h => by omega) hb6.size
def HS.new (w : World) (cv : Value) (cur : List Nat) : HS := ⟨cv, cur, 0, 0, w.heap.size, 0, fun _ => none, fun a => ⟨a - 1, false, fun _ => none⟩⟩
theorem NewAt.inv {w wr : World} {cv : Value} {cur : List Nat} (h : NewAt w wr cv cur) (h0 : cur ≠ []) : HeapInv wr w.heap.size (w.heap.size + 1) (HS.new w cv cur) := by
  have hu : ∀ a, used (HS.new w cv cur) a → a ∈ cur := fun a ha => by
    rcases ha with ha | ⟨k, x, e, _⟩
    · exact ha
    · cases e
  have hpr : PRow wr cv cur := by
    obtain ⟨css, h1, ⟨h2, h3⟩, h4, h5⟩ := h.ow
    rcases h3 with ⟨_, h3⟩ | ⟨g, cap, arr, e, hg, hh, h6, h7, h8, h9⟩
    · exact absurd (List.eq_nil_of_length_eq_zero h3) h0
    · refine ⟨g, 0, cap, arr, e, h6, h7, hh, by have h8' : arr.size = cap * 1 := h8; omega, fun i hi => ?_⟩
      have hc : css[i]'(by omega) = [ptrTo cur[i]] := h5 i (by omega) hi
      have := take_cell (off := 0) (j := 0) (v := ptrTo cur[i]) (by rw [List.drop_zero]; exact h9) h1 h4 (k := i) (by omega) (by rw [hc]; rfl)
      rw [show 0 + (i * tPtr.sz + 0) = 0 + i by show 0 + (i * 1 + 0) = _; omega] at this
      simpa using this
  refine ⟨h.hb, hpr, h.sm, fun k x e => (by cases e), fun a ha => (h.gb a (hu a ha)).2, fun a b ha hb e => ?_, fun a ha e => ?_, fun k x a e => (by cases e), h.nd, ?_, h.bl.size⟩
  · have h1 := (h.gb a (hu a ha)).1
    have h2 := (h.gb b (hu b hb)).1
    have e : a - 1 = b - 1 := e
    omega
  · have h1 := (h.gb a (hu a ha)).1
    have e : a - 1 = w.heap.size := e
    omega
  · rintro k (rfl | rfl | e | ⟨a, ha, rfl | rfl⟩)
    · omega
    · exact Nat.le_refl _
    · have := (h.ow.lt k e).1; omega
    · have := (h.gb _ (hu _ ha)).1; omega
    · have h1 := (h.gb a (hu a ha)).1
      show w.heap.size ≤ a - 1
      omega
theorem view_new (w : World) (cv : Value) (cur : List Nat) : (HS.new w cv cur).view = ⟨List.replicate cur.length (fun _ => none), 0, 0, fun _ => none⟩ := by
  unfold HS.view HS.new
  simp [List.map_const']
set_option maxHeartbeats 1000000 in
theorem new_bad (n : Int) (w : World) (hn : n < 1 ∨ 128 < n) :
    Calls Try.prog 12 #[.int .i64 n] w fun e w' => e = .returned (.tuple #[.pointer none, .int .i64 7]) ∧ Below w.heap.size w w' := by
  by_cases h : n < 1
  · go_enter Try.func12, Try.ntmps12
    go_wp2
    go_ret2
    exact ⟨rfl, Below.refl _ _⟩
  · have h2 : 128 < n := by omega
    go_enter Try.func12, Try.ntmps12
    go_wp2
    go_ret2
    exact ⟨rfl, Below.refl _ _⟩
set_option maxRecDepth 100000 in
set_option maxHeartbeats 4000000 in
theorem new_any (n : Nat) (w : World) (h1 : 1 ≤ n) (h128 : n ≤ 128) :
    Calls Try.prog 12 #[.int .i64 n] w fun e w' => e = .returned (.tuple #[.pointer (some ⟨w.heap.size + 1, 0, none⟩), .int .i64 0]) ∧ ∃ r, HeapInv w' w.heap.size (w.heap.size + 1) r ∧ r.view = ⟨List.replicate n (fun _ => none), 0, 0, fun _ => none⟩ ∧ r.nn = 0 ∧ Below w.heap.size w w' := by
  have h1i : ¬ (n : Int) < 1 := by omega
  have h2i : ¬ (128 : Int) < n := by omega
  have HN0 := Lib.hid (show NewAt w ((w.alloc (.map #[] 0)).alloc (.cells #[.slice none 0 0, .int .i64 0, .map (some w.heap.size), .int .i64 0] 80)) (.slice none 0 0) [] from by
    refine ⟨?_, ?_, Owns.nil _ _ _ _, fun a h => absurd h (by simp), List.nodup_nil, ((Below.refl _ _).alloc (Nat.le_refl _) _).alloc (by simp) _⟩
    · have := heap_alloc_new (w.alloc (.map #[] 0)) (.cells #[.slice none 0 0, .int .i64 0, .map (some w.heap.size), .int .i64 0] 80)
      rwa [World.size_alloc] at this
    · exact (MapOf.made w).alloc _)
  have hmm := @run_makeMap Try.prog
  go_enter Try.func12, Try.ntmps12
  go_wp2
  go_loopw [15] (fun iv wr => ∃ (k : Nat) (cur : List Nat) (cv : Value), k ≤ n ∧ iv = .int .i64 k ∧ cur.length = k ∧ Hid (NewAt w wr cv cur)) (fun iv _ => n - (intOf iv).toNat)
  case atStart => exact ⟨0, [], _, Nat.zero_le _, rfl, rfl, HN0⟩
  case round =>
    clear HN0
    obtain ⟨k, cur, cv, hk, rfl, hlen, HN⟩ := hrel
    by_cases hlt : k < n
    · have hlti : (k : Int) < n := by omega
      obtain ⟨au, cu, rfl, _⟩ := HN.out.ow.len
      rw [hlen] at HN
      have c0 : wr.cell? ⟨w.heap.size + 1, 0, none⟩ = some (.slice au k cu) := mem_cells HN.out.hb 0
      have hsz : w.heap.size + 1 < wr.heap.size := mem_lt c0
      have HO := Lib.hid HN.out.ow
      go_wp2_with (at_builtin; refine wpList_append_one rfl _ _ 77 rfl tPtr Try.underlying77 infoPtr rfl (by decide) (w.heap.size + 2) _ cur rfl (((HO.out.alloc _).alloc _).alloc _) _ _ (wr.heap.size + 1) rfl [ptrTo (wr.heap.size + 1)] ?c1 rfl ?c2 ?c3 ?c4 ?c5 ?_)
      case c1 => exact fun j u hj => by
                  match j, hj with
                  | 0, hj =>
                    simp at hj; subst hj
                    have := mem_cells_new ((wr.alloc (.map #[] 0)).alloc (.cells #[.map (some wr.heap.size), .bool false] 75)) #[ptrTo (wr.heap.size + 1)] 76 (0, 0) 0
                    rw [World.size_alloc, World.size_alloc] at this
                    exact this
      case c2 => intro x hx; simp at hx; subst hx; rfl
      case c3 => unfold maxLen; omega
      case c4 => omega
      case c5 => simp; omega
      intro v' W6 own6 hgrow hblk
      obtain ⟨hP, HN6⟩ := NewAt.add HN.out _ own6 hgrow
      have HN6 := Lib.hid HN6
      have k6 : W6.cell? ⟨w.heap.size + 1, 0, none⟩ = some (.slice au k cu) := mem_cells hP 0
      have l6 : W6.frozen? ⟨w.heap.size + 1, 0, none⟩ = false := frozen_cells hP 0
      obtain ⟨a6, cap6, rfl, _⟩ := own6.len
      have hl6 : (cur ++ [wr.heap.size + 1]).length = k + 1 := by rw [List.length_append, hlen]; rfl
      rw [hl6] at HN6
      clear own6 hgrow hblk hP HN HO c0
      go_wp2
      go_roundw
      case rel => exact ⟨k + 1, _, _, by omega, by go_num, hl6, HN6⟩
      case measure => simp [intOf]; omega
    · obtain rfl : k = n := by omega
      have HF := Lib.hid (HN.out.inv (by intro e; rw [e] at hlen; simp at hlen; omega))
      have HVW := Lib.hid (view_new w cv cur)
      rw [hlen] at HVW
      have HB := Lib.hid HN.out.bl
      clear HN
      go_wp2
      go_ret2
      exact ⟨rfl, _, HF.out, HVW.out, rfl, HB.out⟩
end Go.Proofs.Ytbmpoecmjmmngaa
