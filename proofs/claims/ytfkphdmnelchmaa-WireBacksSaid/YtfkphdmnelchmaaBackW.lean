/- wire.Backpressure. -/
import Derived.Test.YtfkphdmnelchmaaBackR
import Derived.Test.YtfkphdmnelchmaaBackSort
import Derived.Test.YtfkphdmnelchmaaPMap
import Derived.Deep.LoopGhost
import Derived.Deep.Cut
namespace Go.Proofs.Ytfkphdmnelchmaa
open Go.RowKit Go.Maps

def setOf (S : List Int) : Int → Option Bool := fun x => if x ∈ S then some true else none
theorem setOf_put (S : List Int) (x : Int) : putAt (setOf S) x true = setOf (S ++ [x]) := funext fun y => by
  by_cases h : y = x
  · subst h; rw [putAt_same]; simp [setOf]
  · rw [putAt_other _ _ h]; simp [setOf, h]
def BSet (W : World) (b n : Nat) (S : List Int) : Prop := MapOf Try.prog 3 intKey vBool W b n (setOf S)
theorem zeroBool (w : World) : (zeroValue 4).run Try.prog w = .ok (.bool false) w := by kernel_rfl
theorem BSet.look {W : World} {b n : Nat} {S : List Int} (h : BSet W b n S) {k : Int} (hk : inI64 k) : (Instr.lookup 76 (.map (some b)) (.int .i64 k) false).run Try.prog W = .ok (.bool (decide (k ∈ S))) W := by
  obtain ⟨v, h1, h2, h3⟩ := MapOf.look h keyK Try.underlying76 (zeroBool W) (keyOf_i64 hk)
  rw [h1]
  by_cases hf : k ∈ S
  · rw [show v = .bool true from h3 true (by simp [setOf, hf])]; simp [hf]
  · rw [h2 (by simp [setOf, hf])]; simp [hf]
theorem BSet.put {W : World} {b n : Nat} {S : List Int} (h : BSet W b n S) (hn : n < maxLen) {k : Int} (hk : inI64 k) :
    ∃ W', (Instr.mapUpdate 76 (.map (some b)) (.int .i64 k) (.bool true)).run Try.prog W = .ok () W' ∧ BSet W' b (n + 1) (S ++ [k]) ∧ W.grownBy W' (some b) := by
  obtain ⟨D, hown, hs⟩ := h
  obtain ⟨W', hrun, ho, hgr⟩ := hown.update keyK Try.underlying76 hn (keyOf_i64 hk) (R := rawE) (val := .bool true) (d := .held (.bool true)) (ps := []) rfl
  have hle := grown_mem hown hgr
  have h2 := hs.put hle hown.isMap intKey_inj (keyK.key (keyOf_i64 hk)) (show vBool.rel (mem W') (.bool true) true from rfl)
  rw [setOf_put] at h2
  exact ⟨W', hrun, ⟨_, ho, h2⟩, hgr⟩
theorem tInt2_one : ∀ m cs x, tInt2.rv m cs x → ∀ u ∈ cs, u.oneCell' = true := fun m cs x h u hu => by
  rw [h.1] at hu; simp at hu; rcases hu with rfl | rfl <;> rfl
theorem infoPair : (Try.prog.info? 75).map (fun i => (i.zero, i.size, i.bytes)) = some (some (.agg #[.int .i64 0, .int .i64 0]), tInt2.sz, 16) := by kernel_rfl

theorem BSet.keeps {W W' : World} {b n : Nat} {S : List Int} (h : BSet W b n S) {F : Nat → Prop} (hk : Keeps F W W') (hF : ¬ F b) : BSet W' b n S := by
  obtain ⟨D, ⟨es, clock, hb, r⟩, g⟩ := h
  exact ⟨D, ⟨es, clock, by rw [hk.block b (Array.getElem?_eq_some_iff.1 hb).1 hF]; exact hb, r⟩, g.1, fun x a e => let ⟨g1, v, g2, g3⟩ := g.2.1 x a e; ⟨g1, v, g2, g3⟩, g.2.2⟩
/-- What the walking keeps. -/
structure BackSt (w wr : World) (mb : Nat) (u : Value) (p : Int) (L : List Int) : Prop where
  own : Owns tInt wr w.heap.size 3 u L
  map : BSet wr mb (L.length + 1) (p :: L)
  ge : w.heap.size ≤ mb
  ne : u.ownBlock ≠ some mb
  bel : Below w.heap.size w wr
theorem BackSt.lt {w wr : World} {mb : Nat} {u : Value} {p : Int} {L : List Int} (h : BackSt w wr mb u p L) : mb < wr.heap.size := let ⟨_, h, _⟩ := h.map; h.lt
theorem BackSt.pure {w wr wx : World} {mb : Nat} {u : Value} {p : Int} {L : List Int} (h : BackSt w wr mb u p L) (hb : Below wr.heap.size wr wx) : BackSt w wx mb u p L :=
  ⟨h.own.keeps hb, h.map.keeps (below_keeps hb) (by have := h.lt; omega), h.ge, h.ne, h.bel.trans (hb.mono h.bel.size)⟩
theorem BackSt.add {w wr w1 w2 : World} {mb : Nat} {u u' : Value} {p x : Int} {L : List Int} {o : Obj} (h : BackSt w wr mb u p L) (hm : BSet w1 mb (L.length + 1 + 1) ((p :: L) ++ [x])) (hg : wr.grownBy w1 (some mb))
    (ho : Owns tInt w2 w.heap.size 3 u' (L ++ [x])) (hg2 : (w1.alloc o).grownBy w2 u.ownBlock) (hblk : u'.ownBlock = u.ownBlock ∨ ∀ k, u'.ownBlock = some k → (w1.alloc o).heap.size ≤ k) : BackSt w w2 mb u' p (L ++ [x]) := by
  have hs1 : wr.heap.size ≤ w1.heap.size := (grown_keeps hg).size
  have hlt := h.lt
  have hb1 : Below w.heap.size w w1 := h.bel.grown hg h.bel.size (fun k hk => by cases hk; exact h.ge)
  have hb2 : Below w.heap.size w (w1.alloc o) := hb1.alloc hb1.size _
  refine ⟨ho, ?_, h.ge, ?_, hb2.grown hg2 hb2.size (fun k hk => (h.own.lt k hk).1)⟩
  · have h1 : BSet (w1.alloc o) mb (L.length + 1 + 1) ((p :: L) ++ [x]) := hm.keeps ((Keeps.refl (fun _ => False) w1).alloc o) (fun h => h)
    have h2 := h1.keeps (grown_keeps hg2) (fun e => h.ne e.symm)
    rw [List.length_append]
    exact h2
  · rcases hblk with e | e
    · rw [e]; exact h.ne
    · intro e2
      have := e mb e2
      simp at this; omega
theorem BackSt.afterPut {w wr w1 : World} {mb : Nat} {u : Value} {p : Int} {L : List Int} (h : BackSt w wr mb u p L) (hg : wr.grownBy w1 (some mb)) : Owns tInt w1 w.heap.size 3 u L :=
  h.own.keepsFlat tInt_flat (grown_keeps hg) (fun k hk e => h.ne (by rw [hk, e]))
theorem bad_cons {p : Int} {es : List (Int × Int)} (h : edgesOk ((p, p) :: es) = false) : (inCount p && edgesOk es) = false := by
  simpa [edgesOk] using h

set_option maxRecDepth 100000 in
set_option maxHeartbeats 4000000 in
theorem back_any (es : List (Int × Int)) (ws : List Bool) (p : Int) (u v : Value) (w : World) (hu : (tSlice tInt2).rv (mem w) [u] es) (hv : (tSlice tBool).rv (mem w) [v] ws) (hp : inI64 p) (he : es.length ≤ 60) (hws : ws.length ≤ 60) :
    Calls Try.prog 11 #[u, v, .int .i64 p] w (BackOut es ws p w) := by
  obtain ⟨a1, c1, rfl, hl1, hm1, hu⟩ := slice_form hu
  obtain ⟨a2, c2, rfl, hl2, hm2, hv⟩ := slice_form hv
  have hc1 : c1 ≤ 9223372036854775807 := by unfold maxLen at hm1; exact hm1
  have hc2 : c2 ≤ 9223372036854775807 := by unfold maxLen at hm2; exact hm2
  have hb0 : ∀ o, Below w.heap.size w (w.alloc o) := fun o => (Below.refl _ _).alloc (Nat.le_refl _) o
  have HU := Lib.hid hu
  have HV := Lib.hid hv
  have HU1 := Lib.hid (fun o => ((tSlice tInt2).mono _ _ _ _ (below_mem (hb0 o)) hu : (tSlice tInt2).rv (mem (w.alloc o)) _ es))
  clear hm1 hm2 hu hv
  by_cases hn : es.length = ws.length
  rotate_left
  · have hne : ((es.length : Int) != (ws.length : Int)) = true := by simp; omega
    have hne' : ((es.length : Int) == (ws.length : Int)) = false := by simp; omega
    have HN := Lib.hid hn
    clear hn hb0
    go_enter Try.func11, Try.ntmps11
    go_wp2
    go_step3
    go_wp2
    try rw [Exit.noGoto_ret]
    go_ret2
    exact BackOut.size HN.out (Below.refl _ _)
  have hne : ((es.length : Int) != (ws.length : Int)) = false := by simp [hn]
  have hne' : ((es.length : Int) == (ws.length : Int)) = true := by simp [hn]
  have HN := Lib.hid hn
  have hlw : ws.length ≤ es.length := by omega
  have hlw' : es.length ≤ ws.length := by omega
  clear hn
  have hown : ∀ T, T = 75 → Owns tInt2 (w.alloc (.cells #[.int .i64 p, .int .i64 p] T)) w.heap.size 75 (.slice (some ⟨w.heap.size, 0, none⟩) 1 1) [(p, p)] := fun T hT => by
    subst hT
    exact ⟨[[.int .i64 p, .int .i64 p]], rfl, World.ownsRow_lit w #[.int .i64 p, .int .i64 p] 1 (Nat.le_refl _) (by decide) (by simp [tInt2]), fun c h => by simp at h; subst h; rfl, fun k h h' => by
      obtain rfl : k = 0 := by simp at h; omega
      exact ⟨rfl, hp, hp⟩⟩
  go_enter Try.func11, Try.ntmps11
  go_wp2
  go_step3
  go_wp2_with (at_builtin; refine wpList_append_flat rfl _ _ 22 rfl tInt2_flat tInt2_one Try.underlying22 infoPair rfl (by decide) w.heap.size _ [(p, p)] es rfl (hown _ rfl) _ _ _ rfl rfl (HU1.out _) ?c1 ?c2 ?c3 ?_)
  case c1 => simp; unfold maxLen; omega
  case c2 => simp; omega
  case c3 => simp
  intro v' w2 hown' hgrow
  have hB := (hb0 (.cells #[.int .i64 p, .int .i64 p] 75)).grown hgrow (by simp) (fun k hk => by simp [Value.ownBlock] at hk; omega)
  clear hown hgrow HU1 hb0 hne hne'
  obtain ⟨a9, c9, rfl, hl9, hm9, hX⟩ := slice_form hown'.rv'
  have hc9 : c9 ≤ 9223372036854775807 := by unfold maxLen at hm9; exact hm9
  have HX := Lib.hid hX
  have HB := Lib.hid hB
  clear hm9 hX hown' hB
  rw [List.length_cons] at hl9 ⊢
  go_wp2
  go_loopw [28] (fun i wr => ∃ k : Nat, k ≤ es.length + 1 ∧ i = .int .i64 k ∧ Hid (edgesOk (((p, p) :: es).take k) = true) ∧ Below w2.heap.size w2 wr) (fun i _ => es.length + 1 - (intOf i).toNat)
  case atStart => exact ⟨0, by omega, rfl, Lib.hid rfl, Below.refl _ _⟩
  case round =>
    obtain ⟨k, hk, rfl, HO, hBr⟩ := hrel
    by_cases hlt : k < es.length + 1
    · have hlt' : k < ((p, p) :: es).length := by simp; omega
      obtain ⟨b1, o1, rfl, hat⟩ := slice_at HX.out hlt'
      obtain ⟨e0, e1, i0, i1⟩ := int2_at (Ty.at_mono _ (below_mem hBr) hat)
      have e0 : wr.cell? ⟨b1, o1 + k * 2, none⟩ = some (.int .i64 ((p, p) :: es)[k].1) := e0
      have e1 : wr.cell? ⟨b1, o1 + k * 2 + 1, none⟩ = some (.int .i64 ((p, p) :: es)[k].2) := e1
      have HBad := Lib.hid (fun h => edgesOk_bad hlt' h)
      have HOk := Lib.hid (fun h => edgesOk_succ hlt' h HO.out)
      clear hat
      generalize ((p, p) :: es)[k].1 = x at *
      generalize ((p, p) :: es)[k].2 = y at *
      have hBn : Below w2.heap.size w2 (wr.alloc (.cells #[.int .i64 x, .int .i64 y] 75)) := hBr.alloc hBr.size _
      have HBn := Lib.hid hBn
      have hix : ∀ wq, (Instr.index 75 (.agg #[.int .i64 x, .int .i64 y]) (.int .i64 0)).run Try.prog wq = .ok (.int .i64 x) wq := fun wq => by kernel_rfl
      have hiy : ∀ wq, (Instr.index 75 (.agg #[.int .i64 x, .int .i64 y]) (.int .i64 1)).run Try.prog wq = .ok (.int .i64 y) wq := fun wq => by kernel_rfl
      have hbr := hBr.size
      clear hBr hBn
      go_wp2
      clear e0 e1
      go_loopw [33] (fun i wx => ∃ j : Nat, j ≤ 2 ∧ i = .int .i64 j ∧ Hid ((1 ≤ j → inCount x = true) ∧ (2 ≤ j → inCount y = true)) ∧ Below w2.heap.size w2 wx) (fun i _ => 2 - (intOf i).toNat)
      case atStart => exact ⟨0, by omega, rfl, Lib.hid ⟨fun h => by omega, fun h => by omega⟩, HBn.out⟩
      case round =>
        obtain ⟨j, hj, rfl, HJ, hBx⟩ := hrel
        have hbx := hBx.size
        rcases (by omega : j = 0 ∨ j = 1 ∨ j = 2) with rfl | rfl | rfl
        · by_cases q1 : x < 0
          · have HF := Lib.hid (show (inCount x && inCount y) = false by unfold inCount; simp; omega)
            go_wp2
            try rw [Exit.noGoto_ret]
            go_ret2
            exact BackOut.bad HN.out (bad_cons (HBad.out HF.out)) (HB.out.trans (hBx.mono HB.out.size))
          by_cases q2 : 1000000 ≤ x
          · have HF := Lib.hid (show (inCount x && inCount y) = false by unfold inCount; simp; omega)
            go_wp2
            try rw [Exit.noGoto_ret]
            go_ret2
            exact BackOut.bad HN.out (bad_cons (HBad.out HF.out)) (HB.out.trans (hBx.mono HB.out.size))
          have HF := Lib.hid (show inCount x = true by unfold inCount; simp; omega)
          go_wp2
          go_roundw
          case rel => exact ⟨1, by omega, by go_num, Lib.hid ⟨fun _ => HF.out, fun h => by omega⟩, hBx⟩
          case measure => simp [intOf]
        · by_cases q1 : y < 0
          · have HF := Lib.hid (show (inCount x && inCount y) = false by unfold inCount; simp; omega)
            go_wp2
            try rw [Exit.noGoto_ret]
            go_ret2
            exact BackOut.bad HN.out (bad_cons (HBad.out HF.out)) (HB.out.trans (hBx.mono HB.out.size))
          by_cases q2 : 1000000 ≤ y
          · have HF := Lib.hid (show (inCount x && inCount y) = false by unfold inCount; simp; omega)
            go_wp2
            try rw [Exit.noGoto_ret]
            go_ret2
            exact BackOut.bad HN.out (bad_cons (HBad.out HF.out)) (HB.out.trans (hBx.mono HB.out.size))
          have HF := Lib.hid (show inCount y = true by unfold inCount; simp; omega)
          go_wp2
          go_roundw
          case rel => exact ⟨2, by omega, by go_num, Lib.hid ⟨fun _ => HJ.out.1 (by omega), fun _ => HF.out⟩, hBx⟩
          case measure => simp [intOf]
        · have HF := Lib.hid (show (inCount x && inCount y) = true by rw [HJ.out.1 (by omega), HJ.out.2 (by omega)]; rfl)
          go_wp2
          go_roundw
          case rel => exact ⟨k + 1, by omega, by go_num, Lib.hid (HOk.out HF.out), hBx⟩
          case measure => simp [intOf]; omega
    · obtain rfl : k = es.length + 1 := by omega
      have HE := Lib.hid (show (inCount p && edgesOk es) = true by
        have := HO.out
        rw [List.take_of_length_le (by simp)] at this
        simpa [edgesOk] using this)
      have HBr := Lib.hid (HB.out.trans (hBr.mono HB.out.size))
      clear HO hBr HB HX
      have hmm := @run_makeMap Try.prog
      have hBm : Below wr.heap.size wr (wr.alloc (.map #[] 0)) := (Below.refl _ _).alloc (Nat.le_refl _) _
      have hm0 : BSet (wr.alloc (.map #[] 0)) wr.heap.size 0 [] := by
        have h := MapOf.made (P := Try.prog) (k := 3) (lk := intKey) (vr := vBool) wr
        have e : setOf [] = fun _ => none := funext fun _ => by simp [setOf]
        unfold BSet; rw [e]; exact h
      obtain ⟨w3, hput, hm1, hg1⟩ := hm0.put (by decide) hp
      have HB3 := Lib.hid (HBr.out.trans ((hBm.grown hg1 (by simp) (fun k hk => by cases hk; exact Nat.le_refl _)).mono HBr.out.size))
      have HM := Lib.hid hm1
      have HG3 := Lib.hid (show w.heap.size ≤ wr.heap.size from HBr.out.size)
      clear hm0 hBm hg1 hm1
      go_wp2
      go_step3
      clear hput hmm
      generalize wr.heap.size = mb at HM HG3 ⊢
      go_wp2
      go_loopg [13] es.length (fun g u wx => ∃ L : List Int, L.length + g = es.length ∧ BackSt w wx mb u p L ∧ Hid (BGen es ws p L) ∧ ∃ a c, u = .slice a L.length c)
      case atStart => exact ⟨[], by simp, ⟨Owns.nil _ _ _ _, HM.out, HG3.out, (fun h => by cases h), HB3.out⟩, Lib.hid .nil, none, 0, rfl⟩
      case round =>
        clear HM HG3 HB3
        obtain ⟨L, hL, hS, HG, a8, c8, rfl⟩ := hrel
        go_wp2
        go_loopg [13, 49] es.length (fun g u i wx => ∃ k : Nat, k + g = es.length ∧ u = .slice a8 L.length c8 ∧ i = .int .i64 k ∧ BackSt w wx mb (.slice a8 L.length c8) p L ∧ Hid (ClosedTo es ws (p :: L) k))
        case atStart => exact ⟨0, by omega, rfl, by go_num, hS, Lib.hid (fun i e h => by omega)⟩
        case round =>
          clear hS
          obtain ⟨k, hkg, rfl, rfl, hS, HC⟩ := hrel
          have hLen := HG.out.len
          cases gk with
          | zero =>
            obtain rfl : k = es.length := by omega
            have HS := Lib.hid hS
            have hsort := sort_own w.heap.size _ L wr hS.own (by omega) hS.bel.size
            clear hS
            go_wp2_with fail
            refine hsort.mono ?_
            rintro e w4 ⟨rfl, hr, hb⟩
            have HRR := Lib.hid (And.intro hr (HS.out.bel.trans hb))
            clear hr hb hsort
            go_wp2
            try rw [Exit.noGoto_ret]
            go_ret2
            exact BackOut.ok HN.out HE.out HG.out (HC.out.done (Nat.le_refl _)) (InOrder.sort L) HRR.out.1 HRR.out.2
          | succ g2 =>
            have hlt : k < es.length := by omega
            have hkw : k < ws.length := by omega
            obtain ⟨b1, o1, rfl, hat⟩ := slice_at HU.out hlt
            obtain ⟨b2, o2, rfl, hat2⟩ := slice_at HV.out hkw
            obtain ⟨e0, e1, i0, i1⟩ := int2_at hat
            obtain ⟨cs2, hc2', rfl⟩ := hat2
            have hq : (mem w) b2 (o2 + k * 1 + 0) = some (.bool ws[k]) := hc2' 0 _ rfl
            have hbm : ∀ b o v, mem w b o = some v → mem wr b o = some v := fun b o v e => (mem_of_block (hS.bel.block b (mem_lt e)) o).trans e
            have z0 : wr.cell? ⟨b1, o1 + k * 2, none⟩ = some (.int .i64 es[k].1) := hbm _ _ _ e0
            have z1 : wr.cell? ⟨b1, o1 + k * 2 + 1, none⟩ = some (.int .i64 es[k].2) := hbm _ _ _ e1
            have zq : wr.cell? ⟨b2, o2 + k, none⟩ = some (.bool ws[k]) := by have := hbm _ _ _ hq; simpa [mem] using this
            have HSk := Lib.hid (fun (h : ws[k] = true → es[k].2 ∈ p :: L → es[k].1 ∈ p :: L) => HC.out.succ hlt hkw h)
            have HSt := Lib.hid (fun (h1 : ws[k] = true) (h2 : es[k].2 ∈ p :: L) => (⟨k, es[k], by rw [List.getElem?_eq_getElem hkw, h1], List.getElem?_eq_getElem hlt, h2, rfl⟩ : BStep es ws (p :: L) es[k].1))
            clear hat hc2' hq hbm e0 e1
            generalize es[k].1 = x at *
            generalize es[k].2 = y at *
            generalize ws[k]'hkw = q at *
            have hX : Below wr.heap.size wr (wr.alloc (.cells #[.int .i64 x, .int .i64 y] 75)) := (Below.refl _ _).alloc (Nat.le_refl _) _
            have xc := heap_alloc_new wr (.cells #[.int .i64 x, .int .i64 y] 75)
            have xq := below_mem hX _ _ _ zq
            have HX2 := Lib.hid (hS.pure hX)
            have hxm : mb < wr.heap.size := hS.lt
            have hxs : (wr.alloc (.cells #[.int .i64 x, .int .i64 y] 75)).heap.size = wr.heap.size + 1 := by simp
            clear hX hS
            go_upto_region 18 with fail
            generalize (wr.alloc (.cells #[.int .i64 x, .int .i64 y] 75)) = X at xc xq HX2 hxs ⊢
            generalize wr.heap.size = xb at xc hxm hxs ⊢
            clear z0 z1 zq
            have zq : X.cell? ⟨b2, o2 + k, none⟩ = some (.bool q) := xq
            have y0 : X.cell? ⟨xb, 0, none⟩ = some (.int .i64 x) := mem_cells xc 0
            have y1 : X.cell? ⟨xb, 1, none⟩ = some (.int .i64 y) := mem_cells xc 1
            have hlx := HX2.out.map.look i0
            have hly := HX2.out.map.look i1
            clear xq
            cases q with
            | false =>
              clear hlx hly
              go_wp2
              go_roundg g2
              case measure => omega
              case rel => exact ⟨k + 1, by omega, rfl, by go_num, HX2.out, Lib.hid (HSk.out (fun h => by cases h))⟩
            | true =>
              cases hyin : decide (y ∈ p :: L) with
              | false =>
                have HY := Lib.hid (of_decide_eq_false hyin)
                rw [hyin] at hly
                clear hyin hlx
                go_wp2
                go_roundg g2
                case measure => omega
                case rel => exact ⟨k + 1, by omega, rfl, by go_num, HX2.out, Lib.hid (HSk.out (fun _ h => absurd h HY.out))⟩
              | true =>
                have HY := Lib.hid (of_decide_eq_true hyin)
                rw [hyin] at hly
                clear hyin
                cases hxin : decide (x ∈ p :: L) with
                | true =>
                  have HX3 := Lib.hid (of_decide_eq_true hxin)
                  rw [hxin] at hlx
                  clear hxin
                  go_wp2
                  go_roundg g2
                  case measure => omega
                  case rel => exact ⟨k + 1, by omega, rfl, by go_num, HX2.out, Lib.hid (HSk.out (fun _ _ => HX3.out))⟩
                | false =>
                  have HX3 := Lib.hid (of_decide_eq_false hxin)
                  rw [hxin] at hlx
                  clear hxin
                  obtain ⟨w5, hput5, hm5, hg5⟩ := HX2.out.map.put (by unfold maxLen; omega) i0
                  have y05 : w5.cell? ⟨xb, 0, none⟩ = some (.int .i64 x) := (mem_of_block (hg5.block xb (by omega) (by simp; omega)) 0).trans y0
                  have hO5 := HX2.out.afterPut hg5
                  have HM5 := Lib.hid (And.intro hm5 hg5)
                  have c5 := @cell_new w5 #[.int .i64 x] 3 (0, 0) w5.heap.size 0 rfl
                  have HO5 := Lib.hid (hO5.alloc (.cells #[.int .i64 x] 3))
                  have hs5 : w.heap.size ≤ (w5.alloc (.cells #[.int .i64 x] 3)).heap.size := by
                    have h1 := HX2.out.bel.size; have h2 := (grown_keeps hg5).size; simp; omega
                  have HNew := Lib.hid (BGen.snoc L x HG.out (HSt.out rfl HY.out) HX3.out)
                  clear hm5 hg5 hO5
                  go_wp2_with (at_builtin; refine wpList_append_int rfl _ _ 25 rfl Try.underlying25 Try.infoInt w.heap.size _ L rfl HO5.out _ _ x rfl ?d1 ?d2 ?d3 ?d4 ?_)
                  case d3 => omega
                  case d4 => simpa using hs5
                  intro v' w6 hown6 hg6 hblk
                  obtain ⟨a6, c6, rfl, _⟩ := hown6.len
                  have HSt6 := Lib.hid (HX2.out.add HM5.out.1 HM5.out.2 hown6 hg6 (by simpa using hblk))
                  have hl6 := HNew.out.len
                  rw [List.length_append] at hl6
                  clear hown6 hg6 hblk c5 hput5 hlx hly y0 y1 y05 zq xc
                  go_wp2
                  go_roundg (es.length - (L.length + 1))
                  case measure => simp at hl6; omega
                  case rel => exact ⟨L ++ [x], by simp at hl6 ⊢; omega, HSt6.out, HNew, a6, c6, by simp⟩
end Go.Proofs.Ytfkphdmnelchmaa
