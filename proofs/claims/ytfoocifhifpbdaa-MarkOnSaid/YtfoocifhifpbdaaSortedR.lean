/- The reference's Sorted: OwnEvent. -/
import Derived.Test.YtfoocifhifpbdaaSortedW
import Derived.Deep.RegionHeld3
namespace Go.Proofs.Ytfoocifhifpbdaa
open Go.RowKit

set_option maxRecDepth 100000 in
set_option maxHeartbeats 4000000 in
theorem ownEvent_any (x : Ev) (s : Value) (w : World) (hv : tRow.rv (mem w) [s] x.row) (h8 : x.row.length ≤ 8) :
    Calls Try.prog 40 #[.agg #[.int .i64 x.time, s]] w fun e w' => ∃ u, e = .returned (.agg #[.int .i64 x.time, u]) ∧ tRow.rv ((mem w').on (w.heap.size ≤ ·)) [u] x.row ∧ Below w.heap.size w w' := by
  obtain ⟨a, cap, rfl, _, _, hv⟩ := slice_form hv
  have HO := Lib.hid (fun (wq : World) (h : Below w.heap.size w wq) => own_any x.row _ wq (tRow.mono _ _ _ _ (below_mem h) hv) (by omega))
  have hb2 : ∀ o o', Below w.heap.size w ((w.alloc o).alloc o').drew := fun o o' => (((Below.refl _ _).alloc (Nat.le_refl _) o).alloc (by simp) o').drew
  have c4 : ∀ o o', ((w.alloc o).alloc o').drew.heap[w.heap.size]? = some o := fun o o' => (Below.heap_alloc _ _ _ (by simp)).trans (World.alloc_heap_new w o)
  have c5 : ∀ o o', ((w.alloc o).alloc o').drew.heap[w.heap.size + 1]? = some o' := fun o o' => by have := World.alloc_heap_new (w.alloc o) o'; rwa [World.size_alloc] at this
  have q4 := c4 (.cells #[.int .i64 x.time, .slice a x.row.length cap] 39) (.cells #[.int .i64 0, .slice none 0 0] 39)
  have q5 := c5 (.cells #[.int .i64 x.time, .slice a x.row.length cap] 39) (.cells #[.int .i64 0, .slice none 0 0] 39)
  have HB := Lib.hid (hb2 (.cells #[.int .i64 x.time, .slice a x.row.length cap] 39) (.cells #[.int .i64 0, .slice none 0 0] 39))
  clear hv c4 c5 hb2
  go_enter Try.func40, Try.ntmps40
  go_wp2_with fail
  have d0 := Lib.hid (mem_cells q4 0)
  have d1 := Lib.hid (mem_cells q4 1)
  have s5 := Lib.hid (Array.getElem?_eq_some_iff.1 q5).1
  clear q4
  go_region_held3 (fun w' => w'.cell? ⟨w.heap.size, 0, none⟩ = some (.int .i64 x.time) ∧ w'.cell? ⟨w.heap.size, 1, none⟩ = some (.slice a x.row.length cap))
    (first | go_keep | exact ⟨below_mem (by assumption) _ _ _ d0.out, below_mem (by assumption) _ _ _ d1.out⟩)
    ((first
      | (go_at_call 66; refine (HO.out _ HB.out).mono ?_; rintro e w2 ⟨u, rfl, hown, hbc⟩; obtain ⟨a4, cap4, rfl, hm4⟩ := hown.len; have q6 := (hbc.block _ s5.out).trans q5; have e0 : w2.cell? ⟨w.heap.size + 1, 0, none⟩ = some (.int .i64 0) := mem_cells q6 0; have e1 : w2.cell? ⟨w.heap.size + 1, 1, none⟩ = some (.slice none 0 0) := mem_cells q6 1; have f0 : w2.frozen? ⟨w.heap.size + 1, 0, none⟩ = false := frozen_cells q6 0; have f1 : w2.frozen? ⟨w.heap.size + 1, 1, none⟩ = false := frozen_cells q6 1; have HOW := Lib.hid hown; have HBC := Lib.hid hbc; clear hown q6)))
  all_goals
    have r0 : ((w2.setCell ⟨w.heap.size + 1, 0, none⟩ (.int .i64 x.time)).setCell ⟨w.heap.size + 1, 1, none⟩ (.slice a4 x.row.length cap4)).cell? ⟨w.heap.size + 1, 0, none⟩ = some (.int .i64 x.time) := (cell_other _ (by simp)).trans (World.cell?_setCell_same _ _ _ e0)
    have r1 : ((w2.setCell ⟨w.heap.size + 1, 0, none⟩ (.int .i64 x.time)).setCell ⟨w.heap.size + 1, 1, none⟩ (.slice a4 x.row.length cap4)).cell? ⟨w.heap.size + 1, 1, none⟩ = some (.slice a4 x.row.length cap4) := World.cell?_setCell_same _ _ _ ((cell_other _ (by simp)).trans e1)
    go_wp2
    have hk : Keeps (fun k => k = w.heap.size + 1) w2 ((w2.setCell ⟨w.heap.size + 1, 0, none⟩ (.int .i64 x.time)).setCell ⟨w.heap.size + 1, 1, none⟩ (.slice a4 x.row.length cap4)) := ((Keeps.refl (fun k => k = w.heap.size + 1) w2).setCell (p := ⟨w.heap.size + 1, 0, none⟩) (fun _ => rfl) _).setCell (p := ⟨w.heap.size + 1, 1, none⟩) (fun _ => rfl) _
    refine bodyPost_ret (v := .agg #[.int .i64 x.time, .slice a4 x.row.length cap4]) (by simp [results, Try.results40, go_sem, r0, r1]) rfl ⟨_, rfl, ?_, ?_⟩
    · refine tRow.mono _ _ _ _ (Mem.le_trans (keeps_mem hk (S := fun b => w.heap.size + 2 ≤ b) (fun b hb => by omega)) (Mem.on_mono _ (fun b hb => by omega))) (HOW.out.rv (S := (w.heap.size + 2 ≤ ·)) (fun b hb => by simp at hb; omega) (fun _ _ _ h => tVal_flat _ _ _ _ h))
    · exact Keeps.belowStep (HB.out.trans (HBC.out.mono (by simp; omega))) hk (fun k hk => by omega) (by have := HBC.out.size; simp at this; omega)

/-- Two lists of the call's own. -/
structure TwoOwn (W : World) (n : Nat) (u v : Value) (on late : List Ev) : Prop where
  o4 : Owns (tOn (offOf n v) tEv) W n 39 u on
  o5 : Owns (tOn (offOf n u) tEv) W n 39 v late
  dj : ∀ k, u.ownBlock = some k → v.ownBlock ≠ some k
theorem TwoOwn.keeps {A B : World} {n : Nat} {u v : Value} {on late : List Ev} {F : Nat → Prop} (h : TwoOwn A n u v on late) (hk : Keeps F A B) (hF : ∀ k, n ≤ k → k < A.heap.size → ¬ F k) : TwoOwn B n u v on late :=
  ⟨h.o4.keepsOn hk (fun _ h => h.1) (fun k o h1 h2 _ => hF k h1 (Array.getElem?_eq_some_iff.1 h2).1) (Nat.le_refl _), h.o5.keepsOn hk (fun _ h => h.1) (fun k o h1 h2 _ => hF k h1 (Array.getElem?_eq_some_iff.1 h2).1) (Nat.le_refl _), h.dj⟩
theorem TwoOwn.nil (W : World) (n : Nat) : TwoOwn W n (.slice none 0 0) (.slice none 0 0) [] [] := ⟨Owns.nil _ _ _ _, Owns.nil _ _ _ _, fun k h => by cases h⟩
theorem TwoOwn.growLate {A C : World} {n : Nat} {u v v' : Value} {on late late' : List Ev} (h : TwoOwn A n u v on late) (own : Owns (tOn (offOf n u) tEv) C n 39 v' late') (hg : A.grownBy C v.ownBlock)
    (hb : v'.ownBlock = v.ownBlock ∨ ∀ k, v'.ownBlock = some k → A.heap.size ≤ k) : TwoOwn C n u v' on late' :=
  ⟨h.o4.reOn hg (fun b h => h.2) (fun b hlt g => ⟨g.1, fun e => by
      rcases hb with h5 | h5
      · rw [h5] at e; exact g.2 e
      · have := h5 b e.symm; omega⟩) (fun k hk e => h.dj k hk e.symm), own, fun k h1 h2 => by
    rcases hb with h5 | h5
    · rw [h5] at h2; exact h.dj k h1 h2
    · have := h5 k h2; have := (h.o4.lt k h1).2; omega⟩
theorem TwoOwn.growOn {A C : World} {n : Nat} {u v u' : Value} {on late on' : List Ev} (h : TwoOwn A n u v on late) (own : Owns (tOn (offOf n v) tEv) C n 39 u' on') (hg : A.grownBy C u.ownBlock)
    (hb : u'.ownBlock = u.ownBlock ∨ ∀ k, u'.ownBlock = some k → A.heap.size ≤ k) : TwoOwn C n u' v on' late :=
  ⟨own, h.o5.reOn hg (fun b h => h.2) (fun b hlt g => ⟨g.1, fun e => by
      rcases hb with h5 | h5
      · rw [h5] at e; exact g.2 e
      · have := h5 b e.symm; omega⟩) (fun k hk e => h.dj k e.symm hk), fun k h1 h2 => by
    rcases hb with h5 | h5
    · rw [h5] at h1; exact h.dj k h1 h2
    · have := h5 k h1; have := (h.o5.lt k h2).2; omega⟩
theorem TwoOwn.one {W : World} {n m : Nat} {u v s : Value} {on late : List Ev} {x : Ev} {o : Obj} (h : TwoOwn W n u v on late) (hr : tRow.rv ((mem W).on (m ≤ ·)) [s] x.row) (hi : inI64 x.time) (hn : n ≤ m) (hu : ∀ k, u.ownBlock = some k → k < m) (hv : ∀ k, v.ownBlock = some k → k < m) :
    (tOn (offOf n u) tEv).rv ((mem (W.alloc o)).on (fun b => some b ≠ v.ownBlock)) [.int .i64 x.time, s] x ∧ (tOn (offOf n v) tEv).rv ((mem (W.alloc o)).on (fun b => some b ≠ u.ownBlock)) [.int .i64 x.time, s] x := by
  constructor
  · refine ⟨_, rfl, hi, tRow.mono _ _ _ _ (fun b o x e => ?_) hr⟩
    obtain ⟨hs, e⟩ := Mem.of_on e
    refine Mem.on_some (Mem.on_some (below_mem ((Below.refl _ _).alloc (Nat.le_refl _) _) _ _ _ e) (fun h => ?_)) ⟨Nat.le_trans hn hs, fun h => ?_⟩
    · have := hv b h.symm; omega
    · have := hu b h.symm; omega
  · refine ⟨_, rfl, hi, tRow.mono _ _ _ _ (fun b o x e => ?_) hr⟩
    obtain ⟨hs, e⟩ := Mem.of_on e
    refine Mem.on_some (Mem.on_some (below_mem ((Below.refl _ _).alloc (Nat.le_refl _) _) _ _ _ e) (fun h => ?_)) ⟨Nat.le_trans hn hs, fun h => ?_⟩
    · have := hu b h.symm; omega
    · have := hv b h.symm; omega
theorem TwoOwn.alloc {W : World} {n : Nat} {u v : Value} {on late : List Ev} (h : TwoOwn W n u v on late) (o : Obj) : TwoOwn (W.alloc o) n u v on late :=
  ⟨h.o4.alloc o, h.o5.alloc o, h.dj⟩
theorem onOf_snoc (pre : List (Ev × Bool)) (x : Ev) (b : Bool) : onOf (pre ++ [(x, b)]) = if b then onOf pre else onOf pre ++ [x] := by cases b <;> simp [onOf]
theorem lateOf_snoc (pre : List (Ev × Bool)) (x : Ev) (b : Bool) : lateOf (pre ++ [(x, b)]) = if b then lateOf pre ++ [x] else lateOf pre := by cases b <;> simp [lateOf]
theorem onOf_len (pre : List (Ev × Bool)) : (onOf pre).length ≤ pre.length := by simp [onOf, List.length_filter_le]
theorem lateOf_len (pre : List (Ev × Bool)) : (lateOf pre).length ≤ pre.length := by simp [lateOf, List.length_filter_le]
theorem two_mem {w : World} {x y : Value} {t : TypeId} : At (mem (w.alloc (.cells #[x, y] t))) w.heap.size 0 [x, y] := fun j u hj => by
  rw [Nat.zero_add]
  match j, hj with
  | 0, hj => simp at hj; subst hj; exact cell_new 0 rfl
  | 1, hj => simp at hj; subst hj; exact cell_new 1 rfl

set_option maxRecDepth 100000 in
set_option maxHeartbeats 4000000 in
theorem refSorted_any (b : Int) (xs : List Ev) (v : Value) (w : World) (hv : tEvs.rv (mem w) [v] xs) :
    Calls Try.prog 15 #[.int .i64 b, v] w (TwoEvs w (sortedOf b xs)) := by
  obtain ⟨a, cap, rfl, hl, hm, hv⟩ := slice_form hv
  have hcap : cap ≤ 9223372036854775807 := by unfold maxLen at hm; exact hm
  have HV := Lib.hid hv
  have HBad0 := refValidEvents_any xs _ w hv
  clear hm hv
  cases hall : (decide (xs.length ≤ 400) && xs.all validEv)
  · rw [hall] at HBad0
    have HBad := Lib.hid HBad0
    have HR := Lib.hid (sortedOf_bad (b := b) (xs := xs) (fun h => by simp [h.1, h.2] at hall))
    clear HBad0 hall
    go_enter Try.func15, Try.ntmps15
    go_wp2_with fail
    refine HBad.out.mono ?_
    rintro e w1 ⟨rfl, hB⟩
    go_wp2
    go_ret3
    exact twoEvs_none HR.out rfl rfl hB
  · rw [hall] at HBad0
    have HBad := Lib.hid HBad0
    have hok : xs.length ≤ 400 ∧ xs.all validEv = true := by simpa using hall
    have h400 := hok.1
    have HOK := Lib.hid hok
    clear HBad0 hall hok
    by_cases hb : 0 ≤ b ∧ b ≤ 1000000000
    · have HR := Lib.hid (sortedOf_on HOK.out hb)
      have HB := Lib.hid hb
      clear hb
      go_enter Try.func15, Try.ntmps15
      go_wp2_with fail
      refine HBad.out.mono ?_
      rintro e w1 ⟨rfl, hB1⟩
      go_wp2_with fail
      refine (rnew_any b w1).mono ?_
      intro e w2 hn
      obtain ⟨rfl, hg, hsz, hB⟩ := NewGauge_yes hn HB.out
      clear hn HB HBad
      have hB2 := pure_trans hB1 hB
      have hg0 : w.heap.size ≤ w1.heap.size := hB1.size
      clear hB1 hB
      go_wp2_with fail
      go_loopw [4, 5, 8] (fun u v i wr => ∃ k : Nat, k ≤ xs.length ∧ i = .int .i64 k ∧ ∃ x pre, Hid (readFrom ⟨b, -1000000000000, false⟩ xs = pre ++ readFrom x (xs.drop k)) ∧ Hid (pre.length = k) ∧ GaugeAt wr w1.heap.size x ∧ TwoOwn wr (w1.heap.size + 1) u v (onOf pre) (lateOf pre) ∧ Below w.heap.size w wr ∧ w1.heap.size + 1 ≤ wr.heap.size) (fun _ _ i _ => xs.length - (intOf i).toNat)
      case atStart => exact ⟨0, by omega, rfl, _, [], Lib.hid rfl, Lib.hid rfl, hg, TwoOwn.nil _ _, hB2, by omega⟩
      case round =>
        clear hg hB2 hsz
        obtain ⟨k, hk, rfl, x, pre, HP, HL, hg, htwo, hB, hsz⟩ := hrel
        by_cases hlt : k < xs.length
        · obtain ⟨bb, o, rfl, hat⟩ := slice_at HV.out hlt
          obtain ⟨a2, cap2, c0w, c1w, i0, hr, hm2⟩ := ev_at hat
          have hbb : bb < w.heap.size := mem_lt c0w
          have h8 : xs[k].row.length ≤ 8 := by
            have := List.all_eq_true.1 HOK.out.2 xs[k] (List.getElem_mem hlt)
            simp only [validEv, validRow, Bool.and_eq_true, decide_eq_true_eq] at this
            exact this.2.1
          have HP' := HP.out
          rw [List.drop_eq_getElem_cons hlt] at HP'
          have hsee := rsee_any w1.heap.size x xs[k].time wr hg
          clear hat
          generalize xs[k] = ev at *
          obtain ⟨et, er⟩ := ev
          simp only [readFrom] at HP' h8 c0w c1w i0 hr hsee
          have c0 : wr.cell? ⟨bb, o + k * 2, none⟩ = some (.int .i64 et) := below_mem (hB.mono (Nat.le_refl _)) _ _ _ c0w
          have c1 : wr.cell? ⟨bb, o + k * 2 + 1, none⟩ = some (.slice a2 er.length cap2) := below_mem hB _ _ _ c1w
          generalize x.see et = r at hsee HP'
          obtain ⟨x', late, err⟩ := r
          simp only at hsee HP'
          have HS := Lib.hid hsee
          have HP2 := Lib.hid HP'
          have HRow := Lib.hid hr
          have HT := Lib.hid htwo
          have HBr := Lib.hid hB
          have HL2 := Lib.hid (show (onOf pre).length ≤ 400 ∧ (lateOf pre).length ≤ 400 from ⟨by have := onOf_len pre; have := HL.out; omega, by have := lateOf_len pre; have := HL.out; omega⟩)
          clear hsee HP' hr htwo hB HP c0w c1w hg
          go_wp2_with fail
          refine HS.out.mono ?_
          rintro e w3 ⟨rfl, hg3, hK⟩
          have d0 : w3.cell? ⟨bb, o + k * 2, none⟩ = some (.int .i64 et) := (mem_of_block (hK.block bb (mem_lt c0) (by omega)) _).trans c0
          have d1 : w3.cell? ⟨bb, o + k * 2 + 1, none⟩ = some (.slice a2 er.length cap2) := (mem_of_block (hK.block bb (mem_lt c0) (by omega)) _).trans c1
          have HB3 := Lib.hid (hK.belowStep HBr.out (fun k e => by omega) HBr.out.size)
          have HT3 := Lib.hid (HT.out.keeps hK (fun k h1 _ e => by omega))
          have hsz3 := Nat.le_trans hsz hK.size
          have HG3 := Lib.hid hg3
          have HO := Lib.hid (ownEvent_any ⟨et, er⟩ _ w3 (tRow.mono _ _ _ _ (below_mem HB3.out) HRow.out) h8)
          clear HS HT HBr hK c0 c1 hg3 hsz
          cases late
          · go_wp2_with fail
            refine HO.out.mono ?_
            rintro e w4 ⟨u', rfl, hu, hB4⟩
            obtain ⟨a4, cap4, rfl, _, _, hu⟩ := slice_form hu
            have HB4 := Lib.hid (pure_trans HB3.out hB4)
            have HT4 := HT3.out.keeps (below_keeps hB4) (fun k h1 h2 e => by omega)
            have HG4 := HG3.out.keeps (hB4.block _ (by omega))
            have hsz4 := Nat.le_trans hsz3 hB4.size
            have hone := HT4.one (x := ⟨et, er⟩) (o := .cells #[.int .i64 et, .slice a4 er.length cap4] 39) (m := w3.heap.size) hu i0 hsz3 (fun k h => (HT3.out.o4.lt k h).2) (fun k h => (HT3.out.o5.lt k h).2)
            have HON := Lib.hid hone
            have HTT := Lib.hid HT4
            have HGG := Lib.hid HG4
            have HLL := Lib.hid (onOf_len pre)
            clear hu hB4 HO HT3 HG3 HT4 HG4 hone
            go_wp2_with (at_builtin; refine wpList_append_one rfl _ _ 23 rfl (tOn (offOf (w1.heap.size + 1) _) tEv) Try.underlying23 (infoEv _) rfl (by show 0 < 2; omega) (w1.heap.size + 1) _ (onOf pre) rfl (HTT.out.o4.alloc _) _ _ ⟨et, er⟩ rfl [.int .i64 et, .slice a4 er.length cap4] ?a0 ?b0 ?c0 ?d0 ?e0 ?f0 ?_)
            case a0 => exact two_mem
            case b0 => exact HON.out.2
            case c0 => intro x hx; simp at hx; rcases hx with rfl | rfl <;> rfl
            case d0 => have := HL2.out; unfold maxLen; omega
            case e0 => have := HL2.out; omega
            case f0 => simp; omega
            intro v' w5 own5 hgrow hblk
            have htwo5 := (HTT.out.alloc _).growOn own5 hgrow (by simpa using hblk)
            have hg5 : GaugeAt w5 w1.heap.size x' := HGG.out.keeps ((hgrow.block _ (by simp; omega) (fun e => by have := (HTT.out.o4.lt _ e.symm).1; omega)).trans (Below.heap_alloc _ _ _ (by omega)))
            have hB5 : Below w.heap.size w w5 := (HB4.out.alloc HB4.out.size _).grown hgrow (by have := HB4.out.size; simp; omega) (fun k hk => by have := (HTT.out.o4.lt k hk).1; omega)
            have hsz5 : w1.heap.size + 1 ≤ w5.heap.size := by have := hgrow.size; simp at this; omega
            have HT5 := Lib.hid htwo5
            clear hgrow hblk own5 htwo5
            go_wp2
            go_roundw
            case rel => exact ⟨k + 1, by omega, by go_num, x', pre ++ [(⟨et, er⟩, false)], Lib.hid (by rw [HP2.out]; simp), Lib.hid (by simp [HL.out]), hg5, by rw [onOf_snoc, lateOf_snoc]; exact HT5.out, hB5, hsz5⟩
            case measure => simp [intOf]; omega
          · go_wp2_with fail
            refine HO.out.mono ?_
            rintro e w4 ⟨u', rfl, hu, hB4⟩
            obtain ⟨a4, cap4, rfl, _, _, hu⟩ := slice_form hu
            have HB4 := Lib.hid (pure_trans HB3.out hB4)
            have HT4 := HT3.out.keeps (below_keeps hB4) (fun k h1 h2 e => by omega)
            have HG4 := HG3.out.keeps (hB4.block _ (by omega))
            have hsz4 := Nat.le_trans hsz3 hB4.size
            have hone := HT4.one (x := ⟨et, er⟩) (o := .cells #[.int .i64 et, .slice a4 er.length cap4] 39) (m := w3.heap.size) hu i0 hsz3 (fun k h => (HT3.out.o4.lt k h).2) (fun k h => (HT3.out.o5.lt k h).2)
            have HON := Lib.hid hone
            have HTT := Lib.hid HT4
            have HGG := Lib.hid HG4
            have HLL := Lib.hid (onOf_len pre)
            clear hu hB4 HO HT3 HG3 HT4 HG4 hone
            go_wp2_with (at_builtin; refine wpList_append_one rfl _ _ 23 rfl (tOn (offOf (w1.heap.size + 1) _) tEv) Try.underlying23 (infoEv _) rfl (by show 0 < 2; omega) (w1.heap.size + 1) _ (lateOf pre) rfl (HTT.out.o5.alloc _) _ _ ⟨et, er⟩ rfl [.int .i64 et, .slice a4 er.length cap4] ?a1 ?b1 ?c1 ?d1 ?e1 ?f1 ?_)
            case a1 => exact two_mem
            case b1 => exact HON.out.1
            case c1 => intro x hx; simp at hx; rcases hx with rfl | rfl <;> rfl
            case d1 => have := HL2.out; unfold maxLen; omega
            case e1 => have := HL2.out; omega
            case f1 => simp; omega
            intro v' w5 own5 hgrow hblk
            have htwo5 := (HTT.out.alloc _).growLate own5 hgrow (by simpa using hblk)
            have hg5 : GaugeAt w5 w1.heap.size x' := HGG.out.keeps ((hgrow.block _ (by simp; omega) (fun e => by have := (HTT.out.o5.lt _ e.symm).1; omega)).trans (Below.heap_alloc _ _ _ (by omega)))
            have hB5 : Below w.heap.size w w5 := (HB4.out.alloc HB4.out.size _).grown hgrow (by have := HB4.out.size; simp; omega) (fun k hk => by have := (HTT.out.o5.lt k hk).1; omega)
            have hsz5 : w1.heap.size + 1 ≤ w5.heap.size := by have := hgrow.size; simp at this; omega
            have HT5 := Lib.hid htwo5
            clear hgrow hblk own5 htwo5
            go_wp2
            go_roundw
            case rel => exact ⟨k + 1, by omega, by go_num, x', pre ++ [(⟨et, er⟩, true)], Lib.hid (by rw [HP2.out]; simp), Lib.hid (by simp [HL.out]), hg5, by rw [onOf_snoc, lateOf_snoc]; exact HT5.out, hB5, hsz5⟩
            case measure => simp [intOf]; omega
        · obtain rfl : k = xs.length := by omega
          obtain ⟨au, cu, rfl, _⟩ := htwo.o4.len
          obtain ⟨av, cv, rfl, _⟩ := htwo.o5.len
          have HT := Lib.hid htwo
          clear htwo
          go_wp2
          go_ret3
          have e : readFrom ⟨b, -1000000000000, false⟩ xs = pre := by rw [HP.out, List.drop_length]; simp [readFrom]
          rw [HR.out, e]
          exact ⟨_, _, rfl, slice_on HT.out.o4.rv', slice_on HT.out.o5.rv', hB⟩
    · have HR := Lib.hid (sortedOf_off HOK.out hb)
      have HB := Lib.hid hb
      clear hb
      go_enter Try.func15, Try.ntmps15
      go_wp2_with fail
      refine HBad.out.mono ?_
      rintro e w1 ⟨rfl, hB1⟩
      go_wp2_with fail
      refine (rnew_any b w1).mono ?_
      intro e w2 hn
      obtain ⟨rfl, rfl⟩ := NewGauge_no hn HB.out
      clear hn HB
      go_wp2
      go_ret3
      exact twoEvs_none HR.out rfl rfl hB1
end Go.Proofs.Ytfoocifhifpbdaa
