/- slices.AppendSeq, Collect at spots. -/
import Derived.Test.YtbmpoecmjmmngaaFence
import Derived.Test.YtbmpoecmjmmngaaSpot
namespace Go.Proofs.Ytbmpoecmjmmngaa
open Go.RowKit Go.Shelf
attribute [local go_sem] Oper.semAt_some

abbrev spotV0 (x : Spot) : Value := .agg #[.string x.1, .string x.2]
def tSpot : Ty Spot := ⟨2, fun _ cs x => cs = [.string x.1, .string x.2], fun _ _ _ h => by rw [h]; rfl, fun _ _ _ _ _ h => h⟩
theorem tSpot_flat : tSpot.flat := fun _ _ _ _ h => h
abbrev tSpots : Ty (List Spot) := tSlice tSpot
theorem infoSpot : (Try.prog.info? 71).map (fun i => (i.zero, i.size, i.bytes)) = some (some (.agg #[.string .empty, .string .empty]), tSpot.sz, 32) := by kernel_rfl
/-- What the variable of AppendSeq holds while elements come. -/
structure AppKept (w : World) (ps : List Spot) (W : World) : Prop where
  ex : ∃ u, W.heap[w.heap.size]? = some (.cells #[u] 125 (0, 0)) ∧ Owns tSpot W (w.heap.size + 1) 71 u ps
  bl : Below w.heap.size w W
theorem AppKept.keeps {w A B : World} {ps : List Spot} {F : Nat → Prop} (h : AppKept w ps A) (hk : Keeps F A B) (hF : ∀ k, F k → w.heap.size < k) (hC : ∀ k o, w.heap.size < k → A.heap[k]? = some o → o.isCells = true → ¬ F k) : AppKept w ps B := by
  obtain ⟨⟨u, c, o⟩, hb⟩ := h
  exact ⟨⟨u, (hk.block _ (Array.getElem?_eq_some_iff.1 c).1 (fun h => by have := hF _ h; omega)).trans c, o.keepsC tSpot_flat hk (fun k o' h1 => hC k o' (by omega))⟩, Keeps.belowStep hb hk (fun k h => by have := hF k h; omega) hb.size⟩

set_option maxRecDepth 100000 in
set_option maxHeartbeats 8000000 in
theorem appendSeqS_any (gf : Nat) (lb : Array Value) (Stp : List Spot → Spot → Prop) (Fin : List Spot → Prop) (n : Nat) (w : World) (eg : ∀ args w, (callFunc gf args).run Try.prog w = .ok (.enter gf args) w)
    (hseq : GivesW Try.prog gf lb (fun x => #[spotV0 x]) Stp Fin w) (hst : ∀ pre x, Stp pre x → pre.length < n) (hn : n ≤ 1000000000) :
    Calls Try.prog 98 #[.slice none 0 0, .func (.func gf) #[] lb] w fun e w' => ∃ v ss, e = .returned v ∧ Fin ss ∧ Owns tSpot w' w.heap.size 71 v ss ∧ Below w.heap.size w w' := by
  refine (callsIn_wide (n := 0)).1 (callsIn_of_wp_marks Try.func98 rfl trivial ?_ rfl)
  simp only [Try.ntmps98, List.size_toArray, List.length_cons, List.length_nil, Nat.reduceAdd, Nat.reduceSub, Array.replicate_succ, Array.replicate_zero, List.push_toArray, List.append_toArray, List.nil_append, List.cons_append]
  have HB1 := Lib.hid (show Below w.heap.size w (w.alloc (.cells #[.slice none 0 0] 125)) from (Below.refl _ _).alloc (Nat.le_refl _) _)
  have B0 := Lib.hid (show (w.alloc (.cells #[.slice none 0 0] 125)).heap[w.heap.size]? = some (.cells #[.slice none 0 0] 125 (0, 0)) from World.alloc_heap_new w _)
  have HST := Lib.hid hst
  have HSQ := Lib.hid hseq
  have HEG := Lib.hid eg
  clear hst hseq eg
  gi_wp2
  refine (wpIn_wide (n := 0)).2 (wp_rangeW (gf := gf) (lb := lb) (by first | rfl | simp) HEG.out HSQ.out HB1.out (fun x => rfl) (fun pre W => AppKept w pre W) ?closed ?start ?round ?done)
  case closed =>
    intro pre A B hI hk
    refine hI.keeps hk (fun k h => ?_) (fun k o h1 h2 h3 h => ?_)
    · have := h.1; simp at this; omega
    · obtain ⟨_, o', ho, hc⟩ := h
      rw [h2] at ho; cases ho; rw [h3] at hc; cases hc
  case start => exact ⟨⟨_, B0.out, Owns.nil _ _ _ _⟩, HB1.out⟩
  case round =>
    rintro l pre x W1 hx hI hsz1
    have hpl : pre.length < n := HST.out _ _ hx
    clear hx HST HSQ
    obtain ⟨x1, x2⟩ := x
    gi_wp2
    refine ⟨(Keeps.refl _ _).alloc _, fun W3 hk => ?_⟩
    have hV1 : (W1.alloc (.cells #[.string x1, .string x2] 71)).heap[W1.heap.size]? = some (.cells #[.string x1, .string x2] 71 (0, 0)) := World.alloc_heap_new W1 _
    have hI2 : AppKept w pre (W1.alloc (.cells #[.string x1, .string x2] 71)) := hI.keeps (F := fun _ => False) ((Keeps.refl _ _).alloc _) (fun k h => h.elim) (fun k o _ _ _ h => h.elim)
    have hI3 := hI2.keeps hk (fun k h => by have := h.1; simp at this; omega) (fun k o h1 h2 h3 h => by
      obtain ⟨_, o', ho, hc⟩ := h
      rw [h2] at ho; cases ho; rw [h3] at hc; cases hc)
    have hV3 : W3.heap[W1.heap.size]? = some (.cells #[.string x1, .string x2] 71 (0, 0)) := (hk.block _ (by simp) (fun h => by
      obtain ⟨_, o', ho, hc⟩ := h
      rw [hV1] at ho; cases ho; cases hc)).trans hV1
    have v0 : W3.cell? ⟨W1.heap.size, 0, none⟩ = some (.string x1) := mem_cells hV3 0
    have v1 : W3.cell? ⟨W1.heap.size, 1, none⟩ = some (.string x2) := mem_cells hV3 1
    clear hk hI2 hI hV1 hV3
    obtain ⟨⟨u, c3, o3⟩, hB3⟩ := hI3
    obtain ⟨au, cu, rfl, hml⟩ := o3.len
    have c5 : W3.cell? ⟨w.heap.size, 0, none⟩ = some (.slice au pre.length cu) := mem_cells c3 0
    have f5 : W3.frozen? ⟨w.heap.size, 0, none⟩ = false := frozen_cells c3 0
    have HC3 := Lib.hid c3
    have HCU3 := Lib.hid (own_cells o3)
    have O4 := Lib.hid o3
    have HLU := Lib.hid (o3.lt)
    have HB := Lib.hid hB3
    have hlt5 : w.heap.size < W3.heap.size := mem_lt c5
    have hpl2 : pre.length ≤ 1000000000 := by omega
    clear c3 o3 hB3 hml
    gi_wp2_with (gi_at_builtin; refine wpListIn_append_one rfl _ _ 125 rfl tSpot Try.underlying125 infoSpot rfl (by decide) (w.heap.size + 1) _ pre rfl (O4.out.alloc _) _ _ ((x1, x2) : Spot) rfl [.string x1, .string x2] ?a2 rfl ?b2 ?c2 ?d2 ?e2 ?_)
    case a2 => exact fun j u hj => by match j, hj with | 0, hj => simp at hj; subst hj; simp [mem] | 1, hj => simp at hj; subst hj; simp [mem]
    case b2 => intro x hx; simp at hx; rcases hx with rfl | rfl <;> rfl
    case c2 => unfold maxLen; omega
    case d2 => omega
    case e2 => simp; omega
    intro v' W6 own6 hgrow hblk
    obtain ⟨a6, cap6, rfl, _⟩ := own6.len
    have hne6 : some w.heap.size ≠ (Value.slice au pre.length cu).ownBlock := fun h => by have := (HLU.out _ h.symm).1; omega
    have i6 : W6.heap[w.heap.size]? = some (.cells #[.slice au pre.length cu] 125 (0, 0)) := (hgrow.block w.heap.size (by simp; omega) hne6).trans ((Below.heap_alloc _ _ _ (by omega)).trans HC3.out)
    have k6 : W6.cell? ⟨w.heap.size, 0, none⟩ = some (.slice au pre.length cu) := mem_cells i6 0
    have l6 : W6.frozen? ⟨w.heap.size, 0, none⟩ = false := frozen_cells i6 0
    have KG := Lib.hid (show Keeps (fun k => k = w.heap.size ∨ some k = (Value.slice au pre.length cu).ownBlock ∨ W3.heap.size ≤ k) W3 W6 from
      ((Keeps.refl _ W3).alloc _).trans ((grown_keeps hgrow).wide (fun k _ h => .inr (.inl h))))
    have I6 := Lib.hid i6
    have O6 := Lib.hid own6
    have HGB := Lib.hid (show Below w.heap.size w W6 from (HB.out.alloc (by omega) _).grown hgrow (by simp; omega) (fun k hk => by have := (HLU.out k hk).1; omega))
    clear i6 own6 hgrow hblk hne6
    gi_wp2
    have O7 := O6.out
    simp only [List.length_append, List.length_cons, List.length_nil, Nat.zero_add] at O7
    generalize (Value.slice a6 (pre.length + 1) cap6) = v' at O7
    have hset : Keeps (fun k => k = w.heap.size) W6 (W6.setCell ⟨w.heap.size, 0, none⟩ v') := (Keeps.refl (fun k => k = w.heap.size) W6).setCell (p := ⟨w.heap.size, 0, none⟩) (fun _ => rfl) _
    have KH : Keeps (fun k => k = w.heap.size ∨ some k = (Value.slice au pre.length cu).ownBlock ∨ W3.heap.size ≤ k) W3 (W6.setCell ⟨w.heap.size, 0, none⟩ v') := KG.out.trans (hset.wide (fun k _ h => .inl h))
    refine ⟨others_of_keeps KH (fun k o h1 h2 => ?_), ⟨⟨v', ?_, ?_⟩, ?_⟩⟩
    · rcases h1 with h1 | h1 | h1
      · subst h1; rw [HC3.out] at h2; cases h2; rfl
      · exact HCU3.out k o h1.symm h2
      · have := (Array.getElem?_eq_some_iff.1 h2).1; omega
    · exact setC_block I6.out
    · exact O7.keepsC tSpot_flat hset (fun k o h1 _ _ h => by omega)
    · exact Keeps.belowStep HGB.out hset (fun k h => by omega) HGB.out.size
  case done =>
    intro D W xs hfin hDl hI hD
    obtain ⟨⟨u, c, o4⟩, hB⟩ := hI
    obtain ⟨au, cu, rfl, hml⟩ := o4.len
    have c4 : W.cell? ⟨w.heap.size, 0, none⟩ = some (.slice au xs.length cu) := mem_cells c 0
    have O4 := Lib.hid o4
    have HB := Lib.hid hB
    have HD := Lib.hid hD
    have hwD : w.heap.size < D := by simp at hDl; omega
    clear o4 hB hD c HSQ B0 HST
    gi_wp2
    refine coll_end rfl rfl HD.out (fun WF hk => ⟨_, xs, rfl, hfin, ?_, Keeps.belowStep HB.out hk (fun k h => by omega) HB.out.size⟩)
    obtain ⟨css, h1, ⟨h2, h3⟩, h4, h5⟩ := O4.out.keepsC tSpot_flat hk (fun k o h1 h2 h3 h => by subst h; rw [HD.out] at h2; cases h2; cases h3)
    refine ⟨css, h1, ⟨h2, ?_⟩, h4, h5⟩
    rcases h3 with h3 | ⟨g, cap, cur, e, hg, hh⟩
    · exact .inl h3
    · exact .inr ⟨g, cap, cur, e, by omega, hh⟩
end Go.Proofs.Ytbmpoecmjmmngaa
