/- package heap: the steps of the state: a group of its own, a map that changes, marks, snapshots. -/
import Derived.Test.YtbmpoecmjmmngaaHGet
namespace Go.Proofs.Ytbmpoecmjmmngaa
open Go.RowKit Go.Maps

theorem nodup_set {β : Type} {x : β} : ∀ {l : List β} {i : Nat}, l.Nodup → x ∉ l → (l.set i x).Nodup
  | [], _, h, _ => h
  | y :: l, 0, h, hx => by
    rw [List.nodup_cons] at h
    exact List.nodup_cons.2 ⟨fun hm => hx (List.mem_cons_of_mem _ hm), h.2⟩
  | y :: l, i + 1, h, hx => by
    rw [List.nodup_cons] at h
    refine List.nodup_cons.2 ⟨fun hm => ?_, nodup_set h.2 (fun hm => hx (List.mem_cons_of_mem _ hm))⟩
    rcases List.mem_or_eq_of_mem_set hm with e | e
    · exact h.1 e
    · subst e; exact hx List.mem_cons_self
/-- The state told plainly. -/
structure PS where
  grps : List FMap
  cnt : Int
  last : Int
  sn : Int → Option (List FMap)
def HS.view (r : HS) : PS := ⟨r.cur.map (fun a => (r.g a).f), r.cnt, r.last, fun k => (r.snaps k).map fun x => x.2.map fun a => (r.g a).f⟩
def HS.withG (r : HS) (a : Nat) (x : G) : HS := { r with g := fun b => if b = a then x else r.g b }
theorem withG_same (r : HS) (a : Nat) (x : G) : (r.withG a x).g a = x := by simp [HS.withG]
theorem withG_other (r : HS) {a b : Nat} (x : G) (h : b ≠ a) : (r.withG a x).g b = r.g b := by simp [HS.withG, h]
section
variable {W W2 W' : World} {base p : Nat} {r : HS}
theorem used_lt (h : HeapInv W base p r) {a : Nat} (ha : used r a) : a < W.heap.size := (Array.getElem?_eq_some_iff.1 (h.gb a ha).1).1
/-- A group of the state's own in the place of another one. -/
theorem HeapInv.newGroup (h : HeapInv W base p r) {i : Nat} (hi : i < r.cur.length) {cb off cap nb : Nat} (hcv : r.cv = .slice (some ⟨cb, off, none⟩) r.cur.length cap) (hk : Below W.heap.size W W2) (hnb : W.heap.size ≤ nb) {f : FMap} (hgm : GMap W2 nb r.nn f) :
    HStep W base p r ((W2.alloc (.cells #[.map (some nb), .bool false] 75)).setCell ⟨cb, off + i, none⟩ (ptrTo W2.heap.size)) ({ r with cur := r.cur.set i W2.heap.size }.withG W2.heap.size ⟨nb, false, f⟩) := by
  have hap := h.apart
  have hlt := h.cells_kind
  have hcb : r.cv.ownBlock = some cb := by rw [hcv]; rfl
  have hcl : cb < W.heap.size := hlt cb (.inr (.inr (.inl hcb)))
  have hs2 := hk.size
  have hnl : nb < W2.heap.size := hgm.lt
  have hother : ∀ k, k < W2.heap.size → k ≠ cb → ((W2.alloc (.cells #[.map (some nb), .bool false] 75)).setCell ⟨cb, off + i, none⟩ (ptrTo W2.heap.size)).heap[k]? = W2.heap[k]? := fun k hl hne =>
    (set_block_other hne).trans (Below.heap_alloc _ _ _ hl)
  have hold : ∀ k, mutB p r k → k ≠ cb → ((W2.alloc (.cells #[.map (some nb), .bool false] 75)).setCell ⟨cb, off + i, none⟩ (ptrTo W2.heap.size)).heap[k]? = W.heap[k]? := fun k hm hne => by
    have := hlt k hm
    exact (hother k (by omega) hne).trans (hk.block k this)
  have hused : ∀ a, used ({ r with cur := r.cur.set i W2.heap.size }.withG W2.heap.size ⟨nb, false, f⟩) a → a = W2.heap.size ∨ used r a := fun a ha => by
    rcases ha with ha | ha
    · rcases List.mem_or_eq_of_mem_set ha with e | e
      · exact .inr (.inl e)
      · exact .inl e
    · exact .inr (.inr ha)
  have hne : ∀ a, used r a → a ≠ W2.heap.size := fun a ha => by have := used_lt h ha; omega
  have hgo : ∀ a, used r a → ({ r with cur := r.cur.set i W2.heap.size }.withG W2.heap.size ⟨nb, false, f⟩).g a = r.g a := fun a ha => withG_other _ _ (hne a ha)
  refine HStep.mk' h ?_ ?_ ?_ ?_ ?_ (fun k x e => .inl e) (by show (r.cur.set i _).length = _; rw [List.length_set]) ?_ ?_ ?_ ?_ ?_
  · exact (((below_keeps hk).wide (fun k h1 h2 => by omega)).alloc _).setCell (p := ⟨cb, off + i, none⟩) (fun _ => .inr (.inr (.inl hcb))) _
  · rintro k (e | e | e | ⟨a, ha, e⟩)
    · exact .inl (.inl e)
    · exact .inl (.inr (.inl e))
    · exact .inl (.inr (.inr (.inl e)))
    · rcases hused a ha with rfl | ha'
      · rw [withG_same] at e
        rcases e with rfl | rfl
        · exact .inr hs2
        · exact .inr hnb
      · rw [hgo a ha'] at e
        exact .inl (.inr (.inr (.inr ⟨a, ha', e⟩)))
  · exact (hold p (.inl rfl) (fun e => hap.2.1 (e ▸ hcb))).trans h.hb
  · obtain ⟨b', off', cap', arr, e1, h2, h3, h4, h5, h6⟩ := h.cu
    rw [hcv] at e1
    injection e1 with e1 _ e2
    injection e1 with e1
    injection e1 with e1 e3 _
    subst e1; subst e2; subst e3
    refine ⟨cb, off, cap, arr.setIfInBounds (off + i) (ptrTo W2.heap.size), by show r.cv = _; rw [hcv]; congr 1; show _ = (r.cur.set i _).length; rw [List.length_set], by show (r.cur.set i _).length ≤ _; rw [List.length_set]; exact h2, h3,
      set_block ((Below.heap_alloc _ _ _ (by omega)).trans ((hk.block _ hcl).trans h4)), by simpa using h5, fun j hj => ?_⟩
    have hj' : j < r.cur.length := by simpa [HS.withG] using hj
    have hj2 : j < (r.cur.set i W2.heap.size).length := by rw [List.length_set]; exact hj'
    show (arr.setIfInBounds (off + i) (ptrTo W2.heap.size))[off + j]? = some (ptrTo ((r.cur.set i W2.heap.size)[j]'hj2))
    rw [Array.getElem?_setIfInBounds, List.getElem_set]
    by_cases e : i = j
    · subst e
      rw [if_pos rfl, if_pos (by omega), if_pos rfl]
    · rw [if_neg (by omega), if_neg e]
      exact h6 j hj'
  · exact h.sn.at (hold _ (.inr (.inl rfl)) (fun e => hap.2.2.1 (by rw [hcb, e])))
  · intro a ha
    rcases hused a ha with rfl | ha'
    · rw [withG_same]
      refine ⟨?_, hgm.at (hother nb hnl (by omega))⟩
      exact (set_block_other (by omega)).trans (heap_alloc_new W2 _)
    · rw [hgo a ha']
      obtain ⟨h1, h2⟩ := h.gb a ha'
      have hap' := hap.2.2.2 a ha'
      exact ⟨(hold a (.inr (.inr (.inr ⟨a, ha', .inl rfl⟩))) (fun e => hap'.2.2.1 (by rw [hcb, e]))).trans h1, h2.at (hold _ (.inr (.inr (.inr ⟨a, ha', .inr rfl⟩))) (fun e => hap'.2.2.2.2.1 (by rw [hcb, e])))⟩
  · intro a b ha hb e
    rcases hused a ha with rfl | ha' <;> rcases hused b hb with rfl | hb'
    · rfl
    · rw [withG_same, hgo b hb'] at e
      have := hlt _ (.inr (.inr (.inr ⟨b, hb', .inr rfl⟩)))
      have e : nb = (r.g b).mb := e
      omega
    · rw [withG_same, hgo a ha'] at e
      have := hlt _ (.inr (.inr (.inr ⟨a, ha', .inr rfl⟩)))
      have e : (r.g a).mb = nb := e
      omega
    · rw [hgo a ha', hgo b hb'] at e
      exact h.inj a b ha' hb' e
  · intro a ha
    rcases hused a ha with rfl | ha'
    · rw [withG_same]
      show nb ≠ r.sm
      have := hlt r.sm (.inr (.inl rfl))
      omega
    · rw [hgo a ha']; exact h.smb a ha'
  · intro k x a e ha
    have hu : used r a := .inr ⟨k, x, e, ha⟩
    rw [hgo a hu]; exact h.sh k x a e ha
  · exact nodup_set h.nd (fun hm => hne _ (.inl hm) rfl)
theorem view_newGroup (h : HeapInv W base p r) {i nb : Nat} {f : FMap} {a : Nat} (ha : W.heap.size ≤ a) :
    ({ r with cur := r.cur.set i a }.withG a ⟨nb, false, f⟩).view = { r.view with grps := r.view.grps.set i f } := by
  have hgo : ∀ b, used r b → ({ r with cur := r.cur.set i a }.withG a ⟨nb, false, f⟩).g b = r.g b := fun b hb => withG_other _ _ (by have := used_lt h hb; omega)
  unfold HS.view
  congr 1
  · show (r.cur.set i a).map _ = (r.cur.map _).set i f
    rw [List.map_set, withG_same]
    congr 1
    exact List.map_congr_left fun b hb => by rw [hgo b (.inl hb)]
  · funext k
    show (r.snaps k).map _ = (r.snaps k).map _
    cases e : r.snaps k with
    | none => rfl
    | some x =>
      simp only [Option.map_some]
      congr 1
      exact List.map_congr_left fun b hb => by rw [hgo b (.inr ⟨k, x, e, hb⟩)]
/-- A group's map changes; the group is the state's own. -/
theorem HeapInv.putG (h : HeapInv W base p r) {a : Nat} (ha : used r a) {n : Nat} (hn : r.nn ≤ n) {f : FMap} (hgm : GMap W' (r.g a).mb n f) (hg : W.grownBy W' (some (r.g a).mb)) :
    HStep W base p r W' ({ r with nn := n }.withG a { r.g a with f := f }) := by
  have hap := h.apart
  have hlt := h.cells_kind
  have hold : ∀ k, mutB p r k → k ≠ (r.g a).mb → W'.heap[k]? = W.heap[k]? := fun k hm hne => hg.block k (hlt k hm) (fun e => hne (by injection e))
  have hmb : ∀ b, (({ r with nn := n }.withG a { r.g a with f := f }).g b).mb = (r.g b).mb ∧ (({ r with nn := n }.withG a { r.g a with f := f }).g b).sh = (r.g b).sh := fun b => by
    by_cases e : b = a
    · subst e; rw [withG_same]; exact ⟨rfl, rfl⟩
    · rw [withG_other _ _ e]; exact ⟨rfl, rfl⟩
  have hap' := hap.2.2.2 a ha
  refine HStep.mk' h ((grown_keeps hg).wide (fun k _ e => by injection e with e; exact .inr (.inr (.inr ⟨a, ha, .inr e⟩)))) ?_ ((hold p (.inl rfl) (Ne.symm hap'.2.2.2.1)).trans h.hb) (h.cu.at (fun k e => hold k (.inr (.inr (.inl e))) (fun e2 => hap'.2.2.2.2.1 (e2 ▸ e))))
    ((h.sn.at (hold _ (.inr (.inl rfl)) (Ne.symm (h.smb a ha)))).mono hn) (fun k x e => .inl e) rfl ?_ ?_ ?_ ?_ h.nd
  · rintro k (e | e | e | ⟨b, hb, e⟩)
    · exact .inl (.inl e)
    · exact .inl (.inr (.inl e))
    · exact .inl (.inr (.inr (.inl e)))
    · rw [(hmb b).1] at e
      exact .inl (.inr (.inr (.inr ⟨b, hb, e⟩)))
  · intro b hb
    have hbu : used r b := hb
    obtain ⟨h1, h2⟩ := h.gb b hbu
    have hne : b ≠ (r.g a).mb := fun e => (hap.2.2.2 b hbu).2.2.2.2.2 a ha e.symm
    by_cases e : b = a
    · subst e
      rw [withG_same]
      exact ⟨(hold b (.inr (.inr (.inr ⟨b, hbu, .inl rfl⟩))) hne).trans h1, hgm⟩
    · rw [withG_other _ _ e]
      have hne2 : (r.g b).mb ≠ (r.g a).mb := fun e2 => e (h.inj b a hbu ha e2)
      exact ⟨(hold b (.inr (.inr (.inr ⟨b, hbu, .inl rfl⟩))) hne).trans h1, (h2.at (hold _ (.inr (.inr (.inr ⟨b, hbu, .inr rfl⟩))) hne2)).mono hn⟩
  · intro b c hb hc e
    rw [(hmb b).1, (hmb c).1] at e
    exact h.inj b c hb hc e
  · intro b hb
    rw [(hmb b).1]; exact h.smb b hb
  · intro k x b e hb
    rw [(hmb b).2]; exact h.sh k x b e hb
theorem view_putG (h : HeapInv W base p r) {i : Nat} (hi : i < r.cur.length) {n : Nat} {f : FMap} (hs : (r.g (adAt r i)).sh = false) :
    ({ r with nn := n }.withG (adAt r i) { r.g (adAt r i) with f := f }).view = { r.view with grps := r.view.grps.set i f } := by
  unfold HS.view
  congr 1
  · show r.cur.map _ = (r.cur.map _).set i f
    apply List.ext_getElem
    · simp
    intro j h1 h2
    have hj : j < r.cur.length := by simpa using h1
    rw [List.getElem_map, List.getElem_set]
    by_cases e : i = j
    · subst e
      rw [if_pos rfl, ← adAt_eq hi, withG_same]
    · rw [if_neg e, List.getElem_map, withG_other]
      intro e2
      have e3 : r.cur[j] = r.cur[i] := e2.trans (adAt_eq hi)
      exact e ((List.getElem_inj h.nd).1 e3).symm
  · funext k
    show (r.snaps k).map _ = (r.snaps k).map _
    cases e : r.snaps k with
    | none => rfl
    | some x =>
      simp only [Option.map_some]
      congr 1
      refine List.map_congr_left fun b hb => ?_
      rw [withG_other]
      intro e2
      have := h.sh k x b e hb
      rw [e2, hs] at this
      cases this
/-- A group is marked as shared. -/
theorem HeapInv.mark (h : HeapInv W base p r) {a : Nat} (ha : used r a) :
    HStep W base p r (W.setCell ⟨a, 1, none⟩ (.bool true)) (r.withG a { r.g a with sh := true }) := by
  have hap := h.apart
  have hlt := h.cells_kind
  have hold : ∀ k, k ≠ a → (W.setCell ⟨a, 1, none⟩ (.bool true)).heap[k]? = W.heap[k]? := fun k hne => set_block_other hne
  have hmb : ∀ b, ((r.withG a { r.g a with sh := true }).g b).mb = (r.g b).mb ∧ ((r.withG a { r.g a with sh := true }).g b).f = (r.g b).f := fun b => by
    by_cases e : b = a
    · subst e; rw [withG_same]; exact ⟨rfl, rfl⟩
    · rw [withG_other _ _ e]; exact ⟨rfl, rfl⟩
  have hap' := hap.2.2.2 a ha
  refine HStep.mk' h ((Keeps.refl _ W).setCell (p := ⟨a, 1, none⟩) (fun _ => .inr (.inr (.inr ⟨a, ha, .inl rfl⟩))) _) ?_ ((hold p (Ne.symm hap'.1)).trans h.hb) (h.cu.at (fun k e => hold k (fun e2 => hap'.2.2.1 (e2 ▸ e))))
    (h.sn.at (hold _ (Ne.symm hap'.2.1))) (fun k x e => .inl e) rfl ?_ ?_ ?_ ?_ h.nd
  · rintro k (e | e | e | ⟨b, hb, e⟩)
    · exact .inl (.inl e)
    · exact .inl (.inr (.inl e))
    · exact .inl (.inr (.inr (.inl e)))
    · rw [(hmb b).1] at e
      exact .inl (.inr (.inr (.inr ⟨b, hb, e⟩)))
  · intro b hb
    have hbu : used r b := hb
    obtain ⟨h1, h2⟩ := h.gb b hbu
    have hm := (hap.2.2.2 a ha).2.2.2.2.2 b hbu
    by_cases e : b = a
    · subst e
      rw [withG_same]
      exact ⟨set_block h1, h2.at (hold _ hm)⟩
    · rw [withG_other _ _ e]
      exact ⟨(hold b e).trans h1, h2.at (hold _ hm)⟩
  · intro b c hb hc e
    rw [(hmb b).1, (hmb c).1] at e
    exact h.inj b c hb hc e
  · intro b hb
    rw [(hmb b).1]; exact h.smb b hb
  · intro k x b e hb
    by_cases e2 : b = a
    · subst e2; rw [withG_same]
    · rw [withG_other _ _ e2]; exact h.sh k x b e hb
theorem view_mark (r : HS) (a : Nat) : (r.withG a { r.g a with sh := true }).view = r.view := by
  have hf : ∀ b, ((r.withG a { r.g a with sh := true }).g b).f = (r.g b).f := fun b => by
    by_cases e : b = a
    · subst e; rw [withG_same]
    · rw [withG_other _ _ e]
  unfold HS.view
  congr 1
  · exact List.map_congr_left fun b _ => hf b
  · funext k
    show (r.snaps k).map _ = (r.snaps k).map _
    cases r.snaps k with
    | none => rfl
    | some x =>
      simp only [Option.map_some]
      congr 1
      exact List.map_congr_left fun b _ => hf b
/-- A snapshot is laid down. -/
theorem HeapInv.snap (h : HeapInv W base p r) {k0 : Int} {v : Value} (hk : Below W.heap.size W W2) (hv : tPtrs.rv ((mem W2).on (W.heap.size ≤ ·)) [v] r.cur) (hsh : ∀ a ∈ r.cur, (r.g a).sh = true) (hsm : SMap W' r.sm (r.nn + 1) (putAt r.snaps k0 (v, r.cur))) (hg : W2.grownBy W' (some r.sm)) :
    HStep W base p r W' { r with nn := r.nn + 1, snaps := putAt r.snaps k0 (v, r.cur) } := by
  have h2 := h.pure hk
  have hap := h2.apart
  have hlt := h2.cells_kind
  have hlt0 := h.cells_kind
  have hold : ∀ k, mutB p r k → k ≠ r.sm → W'.heap[k]? = W2.heap[k]? := fun k hm hne => hg.block k (hlt k hm) (fun e => hne (by injection e))
  have hcase : ∀ k x, putAt r.snaps k0 (v, r.cur) k = some x → (x = (v, r.cur)) ∨ r.snaps k = some x := fun k x e => by
    by_cases e2 : k = k0
    · subst e2; rw [putAt_same] at e; injection e with e; exact .inl e.symm
    · rw [putAt_other _ _ e2] at e; exact .inr e
  have hused : ∀ a, used { r with nn := r.nn + 1, snaps := putAt r.snaps k0 (v, r.cur) } a → used r a := fun a ha => by
    rcases ha with ha | ⟨k, x, e, ha⟩
    · exact .inl ha
    · rcases hcase k x e with e | e
      · subst e; exact .inl ha
      · exact .inr ⟨k, x, e, ha⟩
  have hK : Keeps (mutB p r) W W' := ((below_keeps hk).wide (fun k h1 h2 => by omega)).trans ((grown_keeps hg).wide (fun k _ e => by injection e with e; exact .inr (.inl e)))
  have hM : ∀ k, mutB p { r with nn := r.nn + 1, snaps := putAt r.snaps k0 (v, r.cur) } k → mutB p r k := by
    rintro k (e | e | e | ⟨b, hb, e⟩)
    · exact .inl e
    · exact .inr (.inl e)
    · exact .inr (.inr (.inl e))
    · exact .inr (.inr (.inr ⟨b, hused b hb, e⟩))
  refine HStep.mk' h hK (fun k e => .inl (hM k e)) ((hold p (.inl rfl) hap.1).trans h2.hb) (h2.cu.at (fun k e => hold k (.inr (.inr (.inl e))) (fun e2 => hap.2.2.1 (e2 ▸ e)))) hsm ?_ rfl ?_ (fun a b ha hb => h.inj a b (hused a ha) (hused b hb)) (fun a ha => h.smb a (hused a ha)) ?_ h.nd
  · intro k x e
    rcases hcase k x e with e | e
    · subst e
      refine .inr ⟨tPtrs.mono _ _ _ _ (fun j o u hu => ?_) hv, h.nd, rfl⟩
      obtain ⟨hj, hu⟩ := Mem.of_on hu
      have hjl := mem_lt hu
      refine Mem.on_some ((mem_of_block (hg.block j hjl (fun e => ?_)) o).trans hu) (fun hm => ?_)
      · injection e with e
        have := hlt0 r.sm (.inr (.inl rfl))
        omega
      · have := hlt0 j (hM j hm)
        omega
    · exact .inl e
  · intro a ha
    have hau := hused a ha
    obtain ⟨h1, h3⟩ := h2.gb a hau
    have hap' := hap.2.2.2 a hau
    exact ⟨(hold a (.inr (.inr (.inr ⟨a, hau, .inl rfl⟩))) hap'.2.1).trans h1, (h3.at (hold _ (.inr (.inr (.inr ⟨a, hau, .inr rfl⟩))) (h.smb a hau))).mono (Nat.le_succ _)⟩
  · intro k x a e ha
    rcases hcase k x e with e | e
    · subst e; exact hsh a ha
    · exact h.sh k x a e ha
theorem view_snap (r : HS) (k0 : Int) (v : Value) (n : Nat) : ({ r with nn := n, snaps := putAt r.snaps k0 (v, r.cur) } : HS).view = { r.view with sn := putAt r.view.sn k0 r.view.grps } := by
  unfold HS.view
  congr 1
  funext k
  show (putAt r.snaps k0 (v, r.cur) k).map _ = putAt (fun k => (r.snaps k).map _) k0 _ k
  by_cases e : k = k0
  · subst e; rw [putAt_same, putAt_same]; rfl
  · rw [putAt_other _ _ e, putAt_other _ _ e]
/-- A snapshot goes. -/
theorem HeapInv.unsnap (h : HeapInv W base p r) {k0 : Int} (hsm : SMap W' r.sm r.nn (delAt r.snaps k0)) (hg : W.grownBy W' (some r.sm)) :
    HStep W base p r W' { r with snaps := delAt r.snaps k0 } := by
  have hap := h.apart
  have hlt := h.cells_kind
  have hold : ∀ k, mutB p r k → k ≠ r.sm → W'.heap[k]? = W.heap[k]? := fun k hm hne => hg.block k (hlt k hm) (fun e => hne (by injection e))
  have hcase : ∀ k x, delAt r.snaps k0 k = some x → r.snaps k = some x := fun k x e => by
    by_cases e2 : k = k0
    · subst e2; rw [delAt_same] at e; cases e
    · rw [delAt_other _ e2] at e; exact e
  have hused : ∀ a, used { r with snaps := delAt r.snaps k0 } a → used r a := fun a ha => by
    rcases ha with ha | ⟨k, x, e, ha⟩
    · exact .inl ha
    · exact .inr ⟨k, x, hcase k x e, ha⟩
  refine HStep.mk' h ((grown_keeps hg).wide (fun k _ e => by injection e with e; exact .inr (.inl e))) ?_ ((hold p (.inl rfl) hap.1).trans h.hb) (h.cu.at (fun k e => hold k (.inr (.inr (.inl e))) (fun e2 => hap.2.2.1 (e2 ▸ e)))) hsm (fun k x e => .inl (hcase k x e)) rfl ?_ (fun a b ha hb => h.inj a b (hused a ha) (hused b hb)) (fun a ha => h.smb a (hused a ha)) (fun k x a e ha => h.sh k x a (hcase k x e) ha) h.nd
  · rintro k (e | e | e | ⟨b, hb, e⟩)
    · exact .inl (.inl e)
    · exact .inl (.inr (.inl e))
    · exact .inl (.inr (.inr (.inl e)))
    · exact .inl (.inr (.inr (.inr ⟨b, hused b hb, e⟩)))
  · intro a ha
    have hau := hused a ha
    obtain ⟨h1, h3⟩ := h.gb a hau
    have hap' := hap.2.2.2 a hau
    exact ⟨(hold a (.inr (.inr (.inr ⟨a, hau, .inl rfl⟩))) hap'.2.1).trans h1, h3.at (hold _ (.inr (.inr (.inr ⟨a, hau, .inr rfl⟩))) (h.smb a hau))⟩
theorem view_unsnap (r : HS) (k0 : Int) : ({ r with snaps := delAt r.snaps k0 } : HS).view = { r.view with sn := delAt r.view.sn k0 } := by
  unfold HS.view
  congr 1
  funext k
  show (delAt r.snaps k0 k).map _ = delAt (fun k => (r.snaps k).map _) k0 k
  by_cases e : k = k0
  · subst e; rw [delAt_same, delAt_same]; rfl
  · rw [delAt_other _ e, delAt_other _ e]
/-- The groups become those of a snapshot, in a row of their own. -/
theorem HeapInv.reset (h : HeapInv W base p r) {k0 : Int} {x : Value × List Nat} (hx : r.snaps k0 = some x) {v : Value} (hk : Below W.heap.size W W2) (hv : PRow W2 v x.2) (hb : ∀ k, v.ownBlock = some k → W.heap.size ≤ k) :
    HStep W base p r (W2.setCell ⟨p, 0, none⟩ v) { r with cv := v, cur := x.2 } := by
  have h2 := h.pure hk
  have hap := h2.apart
  have hlt := h2.cells_kind
  have hpl : p < W.heap.size := h.cells_kind p (.inl rfl)
  have hold : ∀ k, k ≠ p → (W2.setCell ⟨p, 0, none⟩ v).heap[k]? = W2.heap[k]? := fun k hne => set_block_other hne
  have hused : ∀ a, used { r with cv := v, cur := x.2 } a → used r a := fun a ha => by
    rcases ha with ha | ha
    · exact .inr ⟨k0, x, hx, ha⟩
    · exact .inr ha
  obtain ⟨_, hnd, hlen⟩ := h.sr k0 x hx
  refine HStep.mk' h (((below_keeps hk).wide (fun k h1 h2 => by omega)).setCell (p := ⟨p, 0, none⟩) (fun _ => .inl rfl) _) ?_ ?_ (hv.at (fun k e => hold k (fun e2 => by have := hb k e; omega))) (h2.sn.at (hold _ (Ne.symm hap.1))) (fun k y e => .inl e) hlen ?_ (fun a b ha hb => h.inj a b (hused a ha) (hused b hb)) (fun a ha => h.smb a (hused a ha)) h.sh hnd
  · rintro k (e | e | e | ⟨b, hb', e⟩)
    · exact .inl (.inl e)
    · exact .inl (.inr (.inl e))
    · exact .inr (hb k e)
    · exact .inl (.inr (.inr (.inr ⟨b, hused b hb', e⟩)))
  · exact set_block h2.hb
  · intro a ha
    have hau := hused a ha
    obtain ⟨h1, h3⟩ := h2.gb a hau
    have hap' := hap.2.2.2 a hau
    exact ⟨(hold a hap'.1).trans h1, h3.at (hold _ hap'.2.2.2.1)⟩
theorem view_reset {r : HS} {k0 : Int} {x : Value × List Nat} (hx : r.snaps k0 = some x) (v : Value) : ({ r with cv := v, cur := x.2 } : HS).view = { r.view with grps := x.2.map fun a => (r.g a).f } ∧ r.view.sn k0 = some (x.2.map fun a => (r.g a).f) := by
  refine ⟨rfl, ?_⟩
  show (r.snaps k0).map _ = _
  rw [hx]; rfl
end
end Go.Proofs.Ytbmpoecmjmmngaa
