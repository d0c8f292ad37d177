/- slices.AppendSeq at entries, onto a row of the call's own. -/
import Derived.Test.YtbmpoecmjmmngaaHIter
namespace Go.Proofs.Ytbmpoecmjmmngaa
open Go.RowKit Go.Shelf
attribute [local go_sem] Oper.semAt_some

theorem infoEnt : (Try.prog.info? 24).map (fun i => (i.zero, i.size, i.bytes)) = some (some (.agg #[.int .i64 0, .string .empty, .string .empty, .string .empty]), tEnt.sz, 56) := by kernel_rfl
/-- What the variable of AppendSeq holds while elements come. -/
structure AppEKept (w : World) (B : Nat) (v0 : Value) (xs ps : List Ent) (W : World) : Prop where
  ex : ∃ u, W.heap[w.heap.size]? = some (.cells #[u] 22 (0, 0)) ∧ Owns tEnt W B 24 u (xs ++ ps) ∧ (u.ownBlock = v0.ownBlock ∨ ∀ k, u.ownBlock = some k → w.heap.size < k)
  kp : Keeps (fun k => some k = v0.ownBlock) w W
theorem AppEKept.keeps {w A C : World} {B : Nat} {v0 : Value} {xs ps : List Ent} {F : Nat → Prop} (h : AppEKept w B v0 xs ps A) (hk : Keeps F A C) (hF : ∀ k, F k → w.heap.size < k) (hC : ∀ k o, A.heap[k]? = some o → o.isCells = true → ¬ F k) : AppEKept w B v0 xs ps C := by
  obtain ⟨⟨u, c, o, hb⟩, hk0⟩ := h
  refine ⟨⟨u, (hk.block _ (Array.getElem?_eq_some_iff.1 c).1 (fun h => by have := hF _ h; omega)).trans c, o.keepsC tEnt_flat hk (fun k o' _ => hC k o'), hb⟩, ⟨hk.os.trans hk0.os, hk.tape.trans hk0.tape, hk.output.trans hk0.output, Nat.le_trans hk0.size hk.size, fun k h1 h2 => ?_⟩⟩
  exact (hk.block k (Nat.lt_of_lt_of_le h1 hk0.size) (fun h => by have := hF _ h; omega)).trans (hk0.block k h1 h2)
theorem owns_kind {α : Type} {t : Ty α} {w : World} {B : Nat} {e : TypeId} {v : Value} {xs : List α} (h : Owns t w B e v xs) : ∀ (j : Nat) o, v.ownBlock = some j → w.heap[j]? = some o → ∃ c, o = .cells c e (0, 0) := by
  intro j o hj ho
  obtain ⟨css, h1, ⟨h2, h3⟩, h4, h5⟩ := h
  rcases h3 with ⟨rfl, _⟩ | ⟨g, cap, cur, rfl, hg, hh, r⟩
  · cases hj
  · cases hj; rw [hh] at ho; cases ho; exact ⟨_, rfl⟩

set_option maxRecDepth 100000 in
set_option maxHeartbeats 8000000 in
theorem appendSeqE_any (gf : Nat) (lb : Array Value) (Stp : List Ent → Ent → Prop) (Fin : List Ent → Prop) (n B : Nat) (v0 : Value) (xs : List Ent) (w : World) (eg : ∀ args w, (callFunc gf args).run Try.prog w = .ok (.enter gf args) w)
    (hown : Owns tEnt w B 24 v0 xs) (hB : B ≤ w.heap.size)
    (hseq : GivesB okB Try.prog gf lb (fun x => #[x.v]) Stp Fin w) (hst : ∀ pre x, Stp pre x → pre.length < n ∧ x.okE) (hn : xs.length + n ≤ 1000000000) :
    Calls Try.prog 62 #[v0, .func (.func gf) #[] lb] w fun e w' => ∃ v ps, e = .returned v ∧ Fin ps ∧ Owns tEnt w' B 24 v (xs ++ ps) ∧ Keeps (fun k => some k = v0.ownBlock) w w' ∧ (v.ownBlock = v0.ownBlock ∨ ∀ k, v.ownBlock = some k → w.heap.size ≤ k) := by
  obtain ⟨a0, k0, rfl, _⟩ := hown.len
  have HL0 := Lib.hid (hown.lt)
  refine (callsIn_wide (n := 0)).1 (callsIn_of_wp_marks Try.func62 rfl trivial ?_ rfl)
  simp only [Try.ntmps62, List.size_toArray, List.length_cons, List.length_nil, Nat.reduceAdd, Nat.reduceSub, Array.replicate_succ, Array.replicate_zero, List.push_toArray, List.append_toArray, List.nil_append, List.cons_append]
  have HO := Lib.hid hown
  have HST := Lib.hid hst
  have HSQ := Lib.hid hseq
  have HEG := Lib.hid eg
  have hn1 : xs.length ≤ 1000000000 := by omega
  clear hst hseq eg hown
  generalize hv0 : Value.slice a0 xs.length k0 = v0 at *
  have HB1 := Lib.hid (show Below w.heap.size w (w.alloc (.cells #[v0] 22)) from (Below.refl _ _).alloc (Nat.le_refl _) _)
  have B0 := Lib.hid (show (w.alloc (.cells #[v0] 22)).heap[w.heap.size]? = some (.cells #[v0] 22 (0, 0)) from heap_alloc_new w _)
  subst hv0
  gi_wp2
  refine (wpIn_wide (n := 0)).2 (wp_rangeB okB okB_loop (gf := gf) (lb := lb) (by first | rfl | simp) HEG.out HSQ.out HB1.out (fun x => rfl) (fun pre W => AppEKept w B (.slice a0 xs.length k0) xs pre W) ?closed ?start ?round ?done)
  case closed =>
    intro pre A C hI hk
    refine hI.keeps hk (fun k h => ?_) (fun k o h2 h3 h => ?_)
    · have := h.1; simp at this; omega
    · obtain ⟨_, o', ho, hc⟩ := h
      rw [h2] at ho; cases ho; rw [h3] at hc; cases hc
  case start => exact ⟨⟨_, B0.out, by rw [List.append_nil]; exact HO.out.alloc _, .inl rfl⟩, (Keeps.refl _ w).alloc _⟩
  case round =>
    rintro l pre x W1 hx hI hsz1
    obtain ⟨hpl, hxok⟩ := HST.out _ _ hx
    clear hx HST HSQ
    obtain ⟨xg, x1, x2, x3⟩ := x
    have HXO := Lib.hid hxok
    clear hxok
    gi_wp2
    refine ⟨(Keeps.refl _ _).alloc _, fun W3 hk => ?_⟩
    have hV1 : (W1.alloc (.cells #[.int .i64 xg, .string x1, .string x2, .string x3] 24)).heap[W1.heap.size]? = some (.cells #[.int .i64 xg, .string x1, .string x2, .string x3] 24 (0, 0)) := heap_alloc_new W1 _
    have hI2 : AppEKept w B (.slice a0 xs.length k0) xs pre (W1.alloc (.cells #[.int .i64 xg, .string x1, .string x2, .string x3] 24)) := hI.keeps (F := fun _ => False) ((Keeps.refl _ _).alloc _) (fun k h => h.elim) (fun k o _ _ h => h.elim)
    have hI3 := hI2.keeps hk (fun k h => by have := h.1; simp at this; omega) (fun k o h2 h3 h => by
      obtain ⟨_, o', ho, hc⟩ := h
      rw [h2] at ho; cases ho; rw [h3] at hc; cases hc)
    have hV3 : W3.heap[W1.heap.size]? = some (.cells #[.int .i64 xg, .string x1, .string x2, .string x3] 24 (0, 0)) := (hk.block _ (by simp) (fun h => by
      obtain ⟨_, o', ho, hc⟩ := h
      rw [hV1] at ho; cases ho; cases hc)).trans hV1
    have v0 : W3.cell? ⟨W1.heap.size, 0, none⟩ = some (.int .i64 xg) := mem_cells hV3 0
    have v1 : W3.cell? ⟨W1.heap.size, 1, none⟩ = some (.string x1) := mem_cells hV3 1
    have v2 : W3.cell? ⟨W1.heap.size, 2, none⟩ = some (.string x2) := mem_cells hV3 2
    have v3 : W3.cell? ⟨W1.heap.size, 3, none⟩ = some (.string x3) := mem_cells hV3 3
    clear hk hI2 hI hV1 hV3
    obtain ⟨⟨u, c3, o3, hub⟩, hK3⟩ := hI3
    have HUB := Lib.hid hub
    have HK3 := Lib.hid hK3
    have hql : (xs ++ pre).length ≤ 1000000000 ∧ (xs ++ pre).length < 1000000000 := by rw [List.length_append]; omega
    have HAP := Lib.hid (show xs ++ (pre ++ [⟨xg, x1, x2, x3⟩]) = (xs ++ pre) ++ [(⟨xg, x1, x2, x3⟩ : Ent)] by rw [List.append_assoc])
    generalize xs ++ pre = qs at *
    obtain ⟨au, cu, rfl, hml⟩ := o3.len
    have c5 : W3.cell? ⟨w.heap.size, 0, none⟩ = some (.slice au qs.length cu) := mem_cells c3 0
    have f5 : W3.frozen? ⟨w.heap.size, 0, none⟩ = false := frozen_cells c3 0
    have HC3 := Lib.hid c3
    have HCU3 := Lib.hid (owns_kind o3)
    have O4 := Lib.hid o3
    have HLU := Lib.hid (o3.lt)
    have hlt5 : w.heap.size < W3.heap.size := mem_lt c5
    have hbase3 : B ≤ W3.heap.size := by omega
    clear c3 o3 hml hub hK3
    gi_wp2_with (gi_at_builtin; refine wpListIn_append_one rfl _ _ 22 rfl tEnt Try.underlying22 infoEnt rfl (by decide) B _ qs rfl (O4.out.alloc _) _ _ (⟨xg, x1, x2, x3⟩ : Ent) rfl [.int .i64 xg, .string x1, .string x2, .string x3] ?a2 ⟨rfl, HXO.out⟩ ?b2 ?c2 ?d2 ?e2 ?_)
    case a2 => exact fun j u hj => by match j, hj with | 0, hj => simp at hj; subst hj; simp [mem] | 1, hj => simp at hj; subst hj; simp [mem] | 2, hj => simp at hj; subst hj; simp [mem] | 3, hj => simp at hj; subst hj; simp [mem]
    case b2 => intro x hx; simp at hx; rcases hx with rfl | rfl | rfl | rfl <;> rfl
    case c2 => unfold maxLen; omega
    case d2 => omega
    case e2 => simp; omega
    intro v' W6 own6 hgrow hblk
    obtain ⟨a6, cap6, rfl, _⟩ := own6.len
    have hne6 : some w.heap.size ≠ (Value.slice au qs.length cu).ownBlock := fun h => by
      rcases HUB.out with e | e
      · have := (HL0.out _ (e ▸ h.symm)).2; omega
      · have := e _ h.symm; omega
    have i6 : W6.heap[w.heap.size]? = some (.cells #[.slice au qs.length cu] 22 (0, 0)) := (hgrow.block w.heap.size (by simp; omega) hne6).trans ((Below.heap_alloc _ _ _ (by omega)).trans HC3.out)
    have k6 : W6.cell? ⟨w.heap.size, 0, none⟩ = some (.slice au qs.length cu) := mem_cells i6 0
    have l6 : W6.frozen? ⟨w.heap.size, 0, none⟩ = false := frozen_cells i6 0
    have KG := Lib.hid (show Keeps (fun k => k = w.heap.size ∨ some k = (Value.slice au qs.length cu).ownBlock ∨ W3.heap.size ≤ k) W3 W6 from
      ((Keeps.refl _ W3).alloc _).trans ((grown_keeps hgrow).wide (fun k _ h => .inr (.inl h))))
    have I6 := Lib.hid i6
    have O6 := Lib.hid own6
    have HBK := Lib.hid (show (Value.slice a6 (qs ++ [(⟨xg, x1, x2, x3⟩ : Ent)]).length cap6).ownBlock = (Value.slice a0 xs.length k0).ownBlock ∨ ∀ k, (Value.slice a6 (qs ++ [(⟨xg, x1, x2, x3⟩ : Ent)]).length cap6).ownBlock = some k → w.heap.size < k from by
      rcases hblk with e | e
      · rcases HUB.out with g | g
        · exact .inl (e.trans g)
        · exact .inr (fun k h => g k (e ▸ h))
      · exact .inr (fun k h => by have := e k h; omega))
    clear i6 own6 hgrow hblk hne6
    gi_wp2
    have O7 := O6.out
    have HBK7 := HBK.out
    simp only [List.length_append, List.length_cons, List.length_nil, Nat.zero_add] at O7 HBK7
    generalize (Value.slice a6 (qs.length + 1) cap6) = v' at O7 HBK7
    have hset : Keeps (fun k => k = w.heap.size) W6 (W6.setCell ⟨w.heap.size, 0, none⟩ v') := (Keeps.refl (fun k => k = w.heap.size) W6).setCell (p := ⟨w.heap.size, 0, none⟩) (fun _ => rfl) _
    have KH : Keeps (fun k => k = w.heap.size ∨ some k = (Value.slice au qs.length cu).ownBlock ∨ W3.heap.size ≤ k) W3 (W6.setCell ⟨w.heap.size, 0, none⟩ v') := KG.out.trans (hset.wide (fun k _ h => .inl h))
    refine ⟨others_of_keeps KH (fun k o h1 h2 => ?_), Keeps.kinds KH (fun k o h1 h2 => ?_), ⟨⟨v', ?_, ?_, HBK7⟩, ?_⟩⟩
    · rcases h1 with h1 | h1 | h1
      · subst h1; rw [HC3.out] at h2; cases h2; rfl
      · obtain ⟨c, rfl⟩ := HCU3.out k o h1.symm h2; rfl
      · have := (Array.getElem?_eq_some_iff.1 h2).1; omega
    · rcases h1 with h1 | h1 | h1
      · subst h1; rw [HC3.out] at h2; cases h2; rfl
      · obtain ⟨c, rfl⟩ := HCU3.out k o h1.symm h2; rfl
      · have := (Array.getElem?_eq_some_iff.1 h2).1; omega
    · exact setC_block I6.out
    · rw [HAP.out]
      exact O7.keepsFlat tEnt_flat hset (fun k e h => by
        subst h
        rcases HBK7 with g | g
        · have := (HL0.out _ (g ▸ e)).2; omega
        · have := g _ e; omega)
    · refine ⟨KH.os.trans HK3.out.os, KH.tape.trans HK3.out.tape, KH.output.trans HK3.out.output, Nat.le_trans HK3.out.size KH.size, fun k h1 h2 => (KH.block k (by omega) (fun h => ?_)).trans (HK3.out.block k h1 h2)⟩
      rcases h with h | h | h
      · omega
      · rcases HUB.out with g | g
        · exact h2 (h.trans g)
        · have := g k h.symm; omega
      · omega
  case done =>
    intro D W ps hfin hDl hI hD
    obtain ⟨⟨u, c, o4, hub⟩, hK⟩ := hI
    obtain ⟨au, cu, rfl, hml⟩ := o4.len
    have c4 : W.cell? ⟨w.heap.size, 0, none⟩ = some (.slice au (xs ++ ps).length cu) := mem_cells c 0
    have O4 := Lib.hid o4
    have HK := Lib.hid hK
    have HD := Lib.hid hD
    have HUB := Lib.hid hub
    have hwD : w.heap.size < D := by simp at hDl; omega
    generalize (Value.slice au (xs ++ ps).length cu) = u at *
    clear o4 hK hD c HSQ B0 HST hub
    gi_wp2
    refine coll_end rfl rfl HD.out (fun WF hk => ⟨_, ps, rfl, hfin, ?_, ⟨hk.os.trans HK.out.os, hk.tape.trans HK.out.tape, hk.output.trans HK.out.output, Nat.le_trans HK.out.size hk.size, fun k h1 h2 => (hk.block k (Nat.lt_of_lt_of_le h1 HK.out.size) (fun h => by omega)).trans (HK.out.block k h1 h2)⟩, ?_⟩)
    · exact O4.out.keepsC tEnt_flat hk (fun k o h1 h2 h3 h => by subst h; rw [HD.out] at h2; cases h2; cases h3)
    · rcases HUB.out with g | g
      · exact .inl g
      · exact .inr (fun k h => by have := g k h; omega)
end Go.Proofs.Ytbmpoecmjmmngaa
