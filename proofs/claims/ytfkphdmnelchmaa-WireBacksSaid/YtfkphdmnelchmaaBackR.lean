/- The reference's Backpressure. -/
import Derived.Test.YtfkphdmnelchmaaBackB
import Derived.Test.YtfkphdmnelchmaaDeep
namespace Go.Proofs.Ytfkphdmnelchmaa
open Go.RowKit

theorem Owns.toO {α : Type} {t : Ty α} (hf : t.flat) {w : World} {B : Nat} {e : TypeId} {v : Value} {xs : List α} (h : Owns t w B e v xs) : OwnsO t w e v xs := by
  obtain ⟨css, h1, ⟨h2, h3⟩, h4, h5⟩ := h
  refine ⟨css, h1, fun k a b => hf _ _ _ _ (h5 k a b), ?_⟩
  rcases h3 with ⟨rfl, h6⟩ | ⟨g, cap, cur, rfl, hg, hh, hn, hm, hc, ht⟩
  · exact .inl ⟨rfl, List.eq_nil_of_length_eq_zero h6⟩
  · exact .inr ⟨g, 0, cap, cur, rfl, hh, hn, hm, by omega, by rw [List.drop_zero]; exact ht⟩

theorem edgesOk_bad {es : List (Int × Int)} {k : Nat} (hk : k < es.length) (h : (inCount es[k].1 && inCount es[k].2) = false) : edgesOk es = false := by
  rw [← Bool.not_eq_true]
  intro hall
  have := List.all_eq_true.1 hall es[k] (List.getElem_mem hk)
  rw [h] at this; cases this
theorem edgesOk_succ {es : List (Int × Int)} {k : Nat} (hk : k < es.length) (h : (inCount es[k].1 && inCount es[k].2) = true) (ho : edgesOk (es.take k) = true) : edgesOk (es.take (k + 1)) = true := by
  rw [List.take_succ_eq_append_getElem hk]
  unfold edgesOk at *
  rw [List.all_append, ho]
  simpa using h
/-- Nothing more is met by the first k edges. -/
def ClosedTo (es : List (Int × Int)) (ws : List Bool) (S : List Int) (k : Nat) : Prop := ∀ i e, i < k → ws[i]? = some true → es[i]? = some e → e.2 ∈ S → e.1 ∈ S
theorem ClosedTo.done {es : List (Int × Int)} {ws : List Bool} {p : Int} {L : List Int} {k : Nat} (h : ClosedTo es ws (p :: L) k) (hk : es.length ≤ k) : BDone es ws p L := by
  rintro x ⟨i, e, h1, h2, h3, rfl⟩
  exact h i e (Nat.lt_of_lt_of_le (List.getElem?_eq_some_iff.1 h2).1 hk) h1 h2 h3
theorem ClosedTo.succ {es : List (Int × Int)} {ws : List Bool} {S : List Int} {k : Nat} (h : ClosedTo es ws S k) (hk : k < es.length) (hw : k < ws.length) (hn : ws[k] = true → es[k].2 ∈ S → es[k].1 ∈ S) : ClosedTo es ws S (k + 1) := by
  intro i e hi h1 h2 h3
  by_cases hik : i = k
  · subst hik
    rw [List.getElem?_eq_getElem hk] at h2
    rw [List.getElem?_eq_getElem hw] at h1
    cases h2
    exact hn (by simpa using h1) h3
  · exact h i e (by omega) h1 h2 h3
def lenV : Value → Nat
  | .slice _ n _ => n
  | _ => 0
def bitV : Value → Nat
  | .bool true => 1
  | _ => 0
/-- What the loops of Backpressure keep. -/
def PassKept (es : List (Int × Int)) (ws : List Bool) (L L' : List Int) (q : Bool) (k : Nat) (p : Int) : Prop := (q = false → L' = L ∧ ClosedTo es ws (p :: L) k) ∧ (q = true → L.length < L'.length)

theorem PassKept.skip {es : List (Int × Int)} {ws : List Bool} {L L' : List Int} {q : Bool} {k : Nat} {p : Int} (h : PassKept es ws L L' q k p) (hk : k < es.length) (hw : k < ws.length) (hn : ws[k] = true → es[k].2 ∈ p :: L' → es[k].1 ∈ p :: L') : PassKept es ws L L' q (k + 1) p :=
  ⟨fun e => by
    obtain ⟨e1, c⟩ := h.1 e
    subst e1
    exact ⟨rfl, c.succ hk hw hn⟩, h.2⟩
theorem PassKept.add {es : List (Int × Int)} {ws : List Bool} {L L' : List Int} {q : Bool} {k k' : Nat} {p x : Int} (h : PassKept es ws L L' q k p) : PassKept es ws L (L' ++ [x]) true k' p :=
  ⟨fun e => (by cases e), fun _ => by
    cases q
    · rw [(h.1 rfl).1]; simp
    · have := h.2 rfl; simp; omega⟩

def BackOut (es : List (Int × Int)) (ws : List Bool) (p : Int) (W : World) (e : Ending) (w' : World) : Prop := ∃ x c S, e = .returned (.tuple #[x, .int .i64 c]) ∧ (tSlice tInt).rv (mem w') [x] S ∧ BackSays es ws p c S ∧ Below W.heap.size W w'
theorem BackOut.size {es : List (Int × Int)} {ws : List Bool} {p : Int} {W w' : World} (h : es.length ≠ ws.length) (hb : Below W.heap.size W w') : BackOut es ws p W (.returned (.tuple #[.slice none 0 0, .int .i64 9])) w' :=
  ⟨_, 9, [], rfl, slice_nil _ _, by unfold BackSays; rw [if_pos h]; exact ⟨rfl, rfl⟩, hb⟩
theorem BackOut.bad {es : List (Int × Int)} {ws : List Bool} {p : Int} {W w' : World} (h : es.length = ws.length) (ho : (inCount p && edgesOk es) = false) (hb : Below W.heap.size W w') : BackOut es ws p W (.returned (.tuple #[.slice none 0 0, .int .i64 7])) w' :=
  ⟨_, 7, [], rfl, slice_nil _ _, by unfold BackSays; rw [if_neg (by omega), if_pos ho]; exact ⟨rfl, rfl⟩, hb⟩
theorem BackOut.ok {es : List (Int × Int)} {ws : List Bool} {p : Int} {W w' : World} {x : Value} {L S : List Int} (h : es.length = ws.length) (ho : (inCount p && edgesOk es) = true) (hg : BGen es ws p L) (hd : BDone es ws p L) (hi : InOrder L S) (hr : (tSlice tInt).rv (mem w') [x] S) (hb : Below W.heap.size W w') : BackOut es ws p W (.returned (.tuple #[x, .int .i64 0])) w' :=
  ⟨_, 0, S, rfl, hr, by unfold BackSays; rw [if_neg (by omega), if_neg (by rw [ho]; simp)]; exact ⟨rfl, L, hg, hd, hi⟩, hb⟩

set_option maxRecDepth 100000 in
set_option maxHeartbeats 4000000 in
theorem refBack_any (es : List (Int × Int)) (ws : List Bool) (p : Int) (u v : Value) (w : World) (hu : (tSlice tInt2).rv (mem w) [u] es) (hv : (tSlice tBool).rv (mem w) [v] ws) (hp : inI64 p) (he : es.length ≤ 60) (hws : ws.length ≤ 60) :
    Calls Try.prog 12 #[u, v, .int .i64 p] w (BackOut es ws p w) := by
  obtain ⟨a1, c1, rfl, hl1, hm1, hu⟩ := slice_form hu
  obtain ⟨a2, c2, rfl, hl2, hm2, hv⟩ := slice_form hv
  have hc1 : c1 ≤ 9223372036854775807 := by unfold maxLen at hm1; exact hm1
  have hc2 : c2 ≤ 9223372036854775807 := by unfold maxLen at hm2; exact hm2
  have HU := Lib.hid hu
  have HV := Lib.hid hv
  clear hm1 hm2 hu hv
  by_cases hn : es.length = ws.length
  rotate_left
  · have hne : ((es.length : Int) != (ws.length : Int)) = true := by simp; omega
    have hne' : ((es.length : Int) == (ws.length : Int)) = false := by simp; omega
    have HN := Lib.hid hn
    clear hn
    go_enter Try.func12, Try.ntmps12
    go_wp2
    go_ret2
    exact BackOut.size HN.out (Below.refl _ _)
  have hne : ((es.length : Int) != (ws.length : Int)) = false := by simp [hn]
  have hne' : ((es.length : Int) == (ws.length : Int)) = true := by simp [hn]
  have HN := Lib.hid hn
  have hlw : ws.length ≤ es.length := by omega
  have hlw' : es.length ≤ ws.length := by omega
  clear hn
  go_enter Try.func12, Try.ntmps12
  go_wp2
  clear hne hne'
  go_loopw [8] (fun i wr => w = wr ∧ ∃ k : Nat, k ≤ es.length ∧ i = .int .i64 k ∧ Hid (edgesOk (es.take k) = true)) (fun i _ => es.length - (intOf i).toNat)
  case atStart => exact ⟨rfl, 0, by omega, rfl, Lib.hid rfl⟩
  case round =>
    obtain ⟨rfl, k, hk, rfl, HO⟩ := hrel
    by_cases hlt : k < es.length
    · obtain ⟨b1, o1, rfl, hat⟩ := slice_at HU.out hlt
      obtain ⟨e0, e1, i0, i1⟩ := int2_at hat
      have e0 : w.cell? ⟨b1, o1 + k * 2, none⟩ = some (.int .i64 es[k].1) := e0
      have e1 : w.cell? ⟨b1, o1 + k * 2 + 1, none⟩ = some (.int .i64 es[k].2) := e1
      have HBad := Lib.hid (fun h => edgesOk_bad hlt h)
      have HOk := Lib.hid (fun h => edgesOk_succ hlt h HO.out)
      clear hat
      generalize hx : es[k].1 = x at *
      generalize hy : es[k].2 = y at *
      by_cases q1 : x < 0
      · have HF := Lib.hid (show (inCount x && inCount y) = false by unfold inCount; simp; omega)
        go_wp2
        go_ret2
        exact BackOut.bad HN.out (by rw [HBad.out HF.out]; simp) (Below.refl _ _)
      by_cases q2 : 1000000 ≤ x
      · have HF := Lib.hid (show (inCount x && inCount y) = false by unfold inCount; simp; omega)
        go_wp2
        go_ret2
        exact BackOut.bad HN.out (by rw [HBad.out HF.out]; simp) (Below.refl _ _)
      by_cases q3 : y < 0
      · have HF := Lib.hid (show (inCount x && inCount y) = false by unfold inCount; simp; omega)
        go_wp2
        go_ret2
        exact BackOut.bad HN.out (by rw [HBad.out HF.out]; simp) (Below.refl _ _)
      by_cases q4 : 1000000 ≤ y
      · have HF := Lib.hid (show (inCount x && inCount y) = false by unfold inCount; simp; omega)
        go_wp2
        go_ret2
        exact BackOut.bad HN.out (by rw [HBad.out HF.out]; simp) (Below.refl _ _)
      have HF := Lib.hid (show (inCount x && inCount y) = true by unfold inCount; simp; omega)
      go_wp2
      go_roundw
      case rel => exact ⟨(by first | rfl | trivial), k + 1, by omega, by go_num, Lib.hid (HOk.out HF.out)⟩
      case measure => simp [intOf]; omega
    · obtain rfl : k = es.length := by omega
      have HE := Lib.hid (show edgesOk es = true by have := HO.out; rwa [List.take_length] at this)
      clear HO
      by_cases q1 : p < 0
      · have HF := Lib.hid (show inCount p = false by unfold inCount; simp; omega)
        go_wp2
        go_ret2
        exact BackOut.bad HN.out (by rw [HF.out]; rfl) (Below.refl _ _)
      by_cases q2 : 1000000 ≤ p
      · have HF := Lib.hid (show inCount p = false by unfold inCount; simp; omega)
        go_wp2
        go_ret2
        exact BackOut.bad HN.out (by rw [HF.out]; rfl) (Below.refl _ _)
      have HF := Lib.hid (show (inCount p && edgesOk es) = true by rw [HE.out]; unfold inCount; simp; omega)
      have hown0 : Owns tInt (w.alloc (.cells #[.int .i64 p] 3)) w.heap.size 3 (.slice (some ⟨w.heap.size, 0, none⟩) 1 1) [p] :=
        ⟨[[.int .i64 p]], rfl, World.ownsRow_lit w #[.int .i64 p] 1 (Nat.le_refl _) (by decide) (by simp [tInt]), fun c h => by simp at h; subst h; rfl, fun k h h' => by
          obtain rfl : k = 0 := by simp at h; omega
          exact ⟨rfl, hp⟩⟩
      have hB0 : Below w.heap.size w (w.alloc (.cells #[.int .i64 p] 3)) := (Below.refl _ _).alloc (Nat.le_refl _) _
      go_wp2
      go_loopw [9, 10] (fun u q wx => ∃ L, ∃ b : Bool, ∃ a c, u = .slice a (L.length + 1) c ∧ q = .bool b ∧ Owns tInt wx w.heap.size 3 u (p :: L) ∧ Hid (BGen es ws p L) ∧ Hid (b = false → BDone es ws p L) ∧ Below w.heap.size w wx) (fun u q _ => 2 * (62 - lenV u) + bitV q)
      case atStart => exact ⟨[], true, _, _, rfl, rfl, hown0, Lib.hid .nil, Lib.hid (fun h => by cases h), hB0⟩
      case round =>
        clear hown0 hB0
        obtain ⟨L, b, a9, c9, rfl, rfl, hown, HG, HD, hB⟩ := hrel
        have hLL := HG.out.len
        have hBs := hB.size
        cases b with
        | false =>
          obtain ⟨v', hrun, htail, _, a', c', rfl⟩ := hown.toO tInt_flat |>.tail (P := Try.prog) (T := 25) Try.underlying25 (by kernel_rfl)
          have HT := Lib.hid (htail.rv' tInt_flat)
          have hrun := hrun wr
          clear hown htail
          go_wp2_with fail
          refine (sorted12_any L _ _ HT.out (by omega)).mono ?_
          rintro e w3 ⟨x, S, rfl, hS, hO, hb3⟩
          have HB := Lib.hid (hB.trans (hb3.mono hBs))
          clear hB hb3 hrun
          go_wp2
          go_ret2
          exact BackOut.ok HN.out HF.out HG.out (HD.out (by simp)) hO hS HB.out
        | true =>
          clear HD
          go_wp2
          go_loopw [9, 10, 11] (fun u q i wx => ∃ k : Nat, k ≤ es.length ∧ i = .int .i64 k ∧ ∃ L', ∃ b : Bool, ∃ a c, u = .slice a (L'.length + 1) c ∧ q = .bool b ∧ Owns tInt wx w.heap.size 3 u (p :: L') ∧ Hid (BGen es ws p L') ∧ Hid (PassKept es ws L L' b k p) ∧ Below w.heap.size w wx) (fun _ _ i _ => es.length - (intOf i).toNat)
          case atStart => exact ⟨0, by omega, rfl, L, false, a9, c9, rfl, rfl, hown, HG, Lib.hid ⟨fun _ => ⟨rfl, fun i e h => by omega⟩, fun h => by cases h⟩, hB⟩
          case round =>
            clear hown HG hB hLL hBs
            obtain ⟨k, hk, rfl, L', b, a8, c8, rfl, rfl, hown, HG, HK, hB⟩ := hrel
            have hLL := HG.out.len
            have hBs := hB.size
            by_cases hlt : k < es.length
            · obtain ⟨b1, o1, rfl, hat⟩ := slice_at HU.out hlt
              obtain ⟨b2, o2, rfl, hat2⟩ := slice_at HV.out (show k < ws.length by omega)
              obtain ⟨e0, e1, i0, i1⟩ := int2_at hat
              obtain ⟨cs2, hc2', rfl⟩ := hat2
              have hq : (mem w) b2 (o2 + k * 1 + 0) = some (.bool ws[k]) := hc2' 0 _ rfl
              have hbm : ∀ b o v, mem w b o = some v → mem wr b o = some v := fun b o v e => (mem_of_block (hB.block b (mem_lt e)) o).trans e
              have HM := Lib.hid hbm
              have z0 : wr.cell? ⟨b1, o1 + k * 2, none⟩ = some (.int .i64 es[k].1) := hbm _ _ _ e0
              have z1 : wr.cell? ⟨b1, o1 + k * 2 + 1, none⟩ = some (.int .i64 es[k].2) := hbm _ _ _ e1
              have zq : wr.cell? ⟨b2, o2 + k, none⟩ = some (.bool ws[k]) := by have := hbm _ _ _ hq; simpa [mem] using this
              have hkw : k < ws.length := by omega
              have HSk := Lib.hid (fun (h : ws[k] = true → es[k].2 ∈ p :: L' → es[k].1 ∈ p :: L') => HK.out.skip hlt hkw h)
              have HSt := Lib.hid (fun (h1 : ws[k] = true) (h2 : es[k].2 ∈ p :: L') => (⟨k, es[k], by rw [List.getElem?_eq_getElem hkw, h1], List.getElem?_eq_getElem hlt, h2, rfl⟩ : BStep es ws (p :: L') es[k].1))
              clear hat hc2' hq hbm e0 e1
              have HE0 := Lib.hid (show mem wr b1 (o1 + k * 2) = some (.int .i64 es[k].1) from z0)
              generalize es[k].1 = x at *
              generalize es[k].2 = y at *
              generalize ws[k]'hkw = q at *
              cases q with
              | false =>
                go_wp2
                go_roundw
                case rel => exact ⟨k + 1, by omega, by go_num, L', b, a8, c8, rfl, rfl, hown, HG, Lib.hid (HSk.out (fun h => by cases h)), hB⟩
                case measure => simp [intOf]; omega
              | true =>
                have HOW := Lib.hid hown
                have HBw := Lib.hid hB
                clear hown hB
                go_wp2_with fail
                refine (has_any (p :: L') _ y _ HOW.out.rv' i1).mono ?_
                rintro e w3 ⟨rfl, hb3⟩
                have HO3 := Lib.hid (HOW.out.keeps hb3)
                have HB3 := Lib.hid (HBw.out.trans (hb3.mono hBs))
                have hBs3 : w.heap.size ≤ w3.heap.size := HB3.out.size
                have z03 : w3.cell? ⟨b1, o1 + k * 2, none⟩ = some (.int .i64 x) := below_mem hb3 _ _ _ HE0.out
                clear hb3 z0 z1 zq HOW HBw hBs
                cases hyin : decide (y ∈ p :: L') with
                | false =>
                  have HY := Lib.hid (of_decide_eq_false hyin)
                  clear hyin
                  go_wp2
                  go_roundw
                  case rel => exact ⟨k + 1, by omega, by go_num, L', b, a8, c8, rfl, rfl, HO3.out, HG, Lib.hid (HSk.out (fun _ h => absurd h HY.out)), HB3.out⟩
                  case measure => simp [intOf]; omega
                | true =>
                  have HY := Lib.hid (of_decide_eq_true hyin)
                  clear hyin
                  go_wp2_with fail
                  refine (has_any (p :: L') _ x _ HO3.out.rv' i0).mono ?_
                  rintro e w4 ⟨rfl, hb4⟩
                  have HO4 := Lib.hid (HO3.out.keeps hb4)
                  have HB4 := Lib.hid (HB3.out.trans (hb4.mono hBs3))
                  have hBs4 : w.heap.size ≤ w4.heap.size := HB4.out.size
                  have z04 : w4.cell? ⟨b1, o1 + k * 2, none⟩ = some (.int .i64 x) := below_mem hb4 _ _ _ z03
                  clear hb4 z03 HO3 HB3 hBs3
                  cases hxin : decide (x ∈ p :: L') with
                  | true =>
                    have HX := Lib.hid (of_decide_eq_true hxin)
                    clear hxin
                    go_wp2
                    go_roundw
                    case rel => exact ⟨k + 1, by omega, by go_num, L', b, a8, c8, rfl, rfl, HO4.out, HG, Lib.hid (HSk.out (fun _ _ => HX.out)), HB4.out⟩
                    case measure => simp [intOf]; omega
                  | false =>
                    have HX := Lib.hid (of_decide_eq_false hxin)
                    clear hxin
                    have hd : Below w4.heap.size w4 (w4.alloc (.cells #[.int .i64 x] 3)) := (Below.refl _ _).alloc (Nat.le_refl _) _
                    have HB5 := Lib.hid (HB4.out.trans (hd.mono hBs4))
                    have c5 := @cell_new w4 #[.int .i64 x] 3 (0, 0) w4.heap.size 0 rfl
                    clear hd
                    go_wp2_with (at_builtin; refine wpList_append_int rfl _ _ 25 rfl Try.underlying25 Try.infoInt w.heap.size _ (p :: L') rfl (HO4.out.alloc _) _ _ x rfl ?c1 ?c2 ?c3 ?c4 ?_)
                    case c1 => exact c5
                    case c2 => exact i0
                    case c3 => simp; omega
                    case c4 => simp; omega
                    intro v' w6 hown6 hg6 hblk
                    obtain ⟨a6, c6, rfl, _⟩ := hown6.len
                    have HB6 := Lib.hid (HB5.out.grown hg6 (by simp; omega) (fun k hk => (HO4.out.lt k hk).1))
                    have HO6 := Lib.hid hown6
                    clear hown6 hg6 hblk c5 z04
                    go_wp2
                    go_roundw
                    case rel => exact ⟨k + 1, by omega, by go_num, L' ++ [x], true, a6, c6, by simp, rfl, HO6.out, Lib.hid (.snoc _ _ HG.out (HSt.out (by simp) HY.out) HX.out), Lib.hid HK.out.add, HB6.out⟩
                    case measure => simp [intOf]; omega
            · obtain rfl : k = es.length := by omega
              go_wp2
              go_roundw
              case rel => exact ⟨L', b, a8, c8, rfl, rfl, hown, HG, Lib.hid (fun hb => by obtain ⟨rfl, hc⟩ := HK.out.1 hb; exact hc.done (Nat.le_refl _)), hB⟩
              case measure =>
                cases b
                · have h := (HK.out.1 rfl).1; subst h; simp [lenV, bitV]
                · have h := HK.out.2 rfl; simp [lenV, bitV]; omega
end Go.Proofs.Ytfkphdmnelchmaa
