/- package heap: slices.Clone at groups, share, Snapshot, snapshot, Entries, Reset, Count. -/
import Derived.Test.YtbmpoecmjmmngaaHEntries
import Derived.Test.YtbmpoecmjmmngaaHAppF
import Derived.Test.YtbmpoecmjmmngaaHNew
import Derived.Deep.RegionHeld3
import Derived.Lib.SlKeysI
namespace Go.Proofs.Ytbmpoecmjmmngaa
open Go.RowKit Go.Maps

theorem tPtr_one : ∀ m cs x, tPtr.rv m cs x → ∀ u ∈ cs, u.oneCell' = true := fun m cs x h u hu => by
  obtain rfl : cs = [ptrTo x] := h
  simp at hu; subst hu; rfl
set_option maxRecDepth 100000 in
set_option maxHeartbeats 1000000 in
theorem clonePtr_any (l : List Nat) (ad : Addr) (cap0 : Nat) (w : World) (hv : tPtrs.rv (mem w) [.slice (some ad) l.length cap0] l) (hl : l.length ≤ 1000000) :
    Calls Try.prog 45 #[.slice (some ad) l.length cap0] w fun e w' => ∃ x, e = .returned x ∧ Owns tPtr w' w.heap.size 76 x l ∧ Below w.heap.size w w' := by
  have hb0 : ∀ o, Below w.heap.size w (w.alloc o) := fun o => (Below.refl _ _).alloc (Nat.le_refl _) o
  have hown : ∀ T, T = 76 → Owns tPtr (w.alloc (.cells #[] T)) w.heap.size 76 (.slice (some ⟨w.heap.size, 0, none⟩) 0 0) [] := fun T hT => by
    subst hT
    exact ⟨[], rfl, World.ownsRow_lit w #[] 0 (Nat.le_refl _) (Nat.zero_le _) (by simp), fun c h => absurd h (by simp), fun k h => absurd h (by simp)⟩
  have HV := Lib.hid (fun o => (tPtrs.mono _ _ _ _ (below_mem (hb0 o)) hv : tPtrs.rv (mem (w.alloc o)) _ l))
  clear hv
  have hq := fun w => Lib.run_eql_slice_nil (P := Try.prog) w 77 _ (some ad) l.length cap0 0 0 Try.underlying77
  go_enter Try.func45, Try.ntmps45
  go_wp2_with (at_builtin; refine wpList_append_flat rfl _ _ 77 rfl tPtr_flat tPtr_one Try.underlying77 infoPtr rfl (by decide) w.heap.size _ [] l rfl (hown _ rfl) _ _ _ rfl rfl (HV.out _) ?c1 ?c2 ?c3 ?_)
  case c1 => simp; unfold maxLen; omega
  case c2 => simp; omega
  case c3 => simp
  intro v' w2 hown' hgrow
  have hB : Below w.heap.size w w2 := (hb0 _).grown hgrow (by simp) (fun k hk => by simp [Value.ownBlock] at hk; omega)
  clear hgrow
  obtain ⟨a2, c2, rfl, _⟩ := hown'.len
  go_wp2
  go_ret
  exact ⟨_, rfl, by simpa using hown', hB⟩
set_option maxHeartbeats 400000 in
theorem share_any (a : Nat) (x : G) (w : World) (h : w.heap[a]? = some (.cells (gCells x) 75 (0, 0))) :
    Calls Try.prog 44 #[ptrTo a] w fun e w' => (∃ v, e = .returned v) ∧ w' = w.setCell ⟨a, 1, none⟩ (.bool true) := by
  have c1 : w.cell? ⟨a, 1, none⟩ = some (.bool x.sh) := mem_cells h 1
  have f1 : w.frozen? ⟨a, 1, none⟩ = false := frozen_cells h 1
  clear h
  go_enter Try.func44, Try.ntmps44
  go_wp2
  go_end0
  exact ⟨⟨_, rfl⟩, rfl⟩
/-- Which snapshots there are. -/
def SnapKeys (r : HS) (ks : List Int) : Prop := ks.Nodup ∧ ∀ k, k ∈ ks ↔ (r.snaps k).isSome = true
theorem SMap.card {W : World} {b n : Nat} {f : Int → Option (Value × List Nat)} {D : DataW Value} (hown : W.ownsMap Try.prog 3 rawE b n D) (hs : MapSays intKey vRow (mem W) D f) {ks : List Int} (hn : ks.Nodup) (hk : ∀ k, k ∈ ks ↔ (f k).isSome = true) : Maps.size D = ks.length := by
  obtain ⟨es, hD, hpw⟩ := hown.tidy keyK
  have hko : ∀ p ∈ es, ∃ x, p.1 = .int .i64 x := fun p hp => by
    obtain ⟨es', hD', hko⟩ := hown.keysOf
    obtain rfl : es = es' := by rw [hD] at hD'; simpa using hD'
    obtain ⟨v, hv⟩ := hko p hp
    obtain ⟨x, _, hx, _⟩ := Maps.keyOf_i64 Try.underlying3 hv
    exact ⟨x, hx⟩
  have hh : ∀ k, k ∈ ks ↔ intKey k ∈ es.map (·.1) := fun k => by
    rw [hk]
    have h1 : Maps.has D (intKey k) = (f k).isSome := by
      cases hf : f k with
      | none => exact hs.1 k hf
      | some a => exact (hs.2.1 k a hf).1
    rw [← h1]
    subst hD
    rw [has_eq, List.any_eq_true, List.mem_map]
    constructor
    · rintro ⟨p, hp', hsk⟩
      obtain ⟨a, ha⟩ := hko p hp'
      refine ⟨p, hp', ?_⟩
      rw [ha] at hsk ⊢
      simpa [Lit.sameKey, intKey] using hsk
    · rintro ⟨p, hp', e⟩
      exact ⟨p, hp', by rw [e]; simp [Lit.sameKey, intKey]⟩
  have hd : (es.map (·.1)).Nodup := List.pairwise_map.2 (hpw.imp fun h => h)
  have h1 : (ks.map intKey).length ≤ (es.map (·.1)).length := nodup_le (List.pairwise_map.2 (hn.imp fun h e => h (intKey_inj _ _ e))) (fun l hl => by
    obtain ⟨k, hk', rfl⟩ := List.mem_map.1 hl
    exact (hh k).1 hk')
  have h2 : (es.map (·.1)).length ≤ (ks.map intKey).length := nodup_le hd (fun l hl => by
    obtain ⟨p, hp, rfl⟩ := List.mem_map.1 hl
    obtain ⟨a, ha⟩ := hko p hp
    rw [ha]
    exact List.mem_map.2 ⟨a, (hh a).2 (List.mem_map.2 ⟨p, hp, ha⟩), rfl⟩)
  subst hD
  show es.length = _
  simp only [List.length_map] at h1 h2
  omega
/-- A step that changes nothing that is told. -/
structure SameStep (W : World) (base p : Nat) (r : HS) (W' : World) (r' : HS) : Prop where
  st : HStep W base p r W' r'
  vw : r'.view = r.view
  cur : r'.cur = r.cur
  nn : r'.nn = r.nn
  cv : r'.cv = r.cv
  sm : r'.sm = r.sm
  sn : r'.snaps = r.snaps
  cn : r'.cnt = r.cnt ∧ r'.last = r.last
theorem SameStep.refl {W : World} {base p : Nat} {r : HS} (h : HeapInv W base p r) : SameStep W base p r W r := ⟨HStep.pure h (Below.refl _ _), rfl, rfl, rfl, rfl, rfl, rfl, rfl, rfl⟩
theorem SameStep.mark {W W' : World} {base p : Nat} {r r' : HS} (h : SameStep W base p r W' r') {a : Nat} (ha : a ∈ r.cur) : SameStep W base p r (W'.setCell ⟨a, 1, none⟩ (.bool true)) (r'.withG a { r'.g a with sh := true }) :=
  ⟨h.st.trans (h.st.inv.mark (.inl (by rw [h.cur]; exact ha))), (view_mark r' a).trans h.vw, h.cur, h.nn, h.cv, h.sm, h.sn, h.cn⟩
set_option maxRecDepth 100000 in
set_option maxHeartbeats 8000000 in
theorem snapshot_any {base p : Nat} {r : HS} (ks : List Int) (w : World) (hI : HeapInv w base p r) (hks : SnapKeys r ks) (h20 : ks.length ≠ 20) (hl0 : 0 ≤ r.last) (hl1 : r.last ≤ 1000000) (hnn : r.nn ≤ 1000000) (hcl : r.cur.length ≤ 1000) :
    Calls Try.prog 15 #[.pointer (some ⟨p, 0, none⟩)] w fun e w' =>
      e = .returned (.tuple #[.int .i64 (r.last + 1), .int .i64 0]) ∧ ∃ r', HStep w base p r w' r' ∧ r'.view = { r.view with last := r.last + 1, sn := putAt r.view.sn (r.last + 1) r.view.grps } ∧ r'.nn = r.nn + 1 ∧ r'.cur = r.cur ∧ ∃ x, r'.snaps = putAt r.snaps (r.last + 1) x := by
  have HI := Lib.hid hI
  have HKS := Lib.hid hks
  obtain ⟨b', off', cap', arr, hcv, hlc, hmx, -, -⟩ := hI.cu
  have c0 : w.cell? ⟨p, 0, none⟩ = some (.slice (some ⟨b', off', none⟩) r.cur.length cap') := by have := mem_cells hI.hb 0; rw [show (hCells r)[0]? = some r.cv from rfl, hcv] at this; exact this
  have c2 : w.cell? ⟨p, 2, none⟩ = some (.map (some r.sm)) := mem_cells hI.hb 2
  have hlen : (Builtin.len_ #[78] 3 #[.map (some r.sm)]).run Try.prog w = .ok (.int .i64 ks.length) w := by
    obtain ⟨D, hown, hs⟩ := hI.sn
    have := hown.len Try.underlying78 3
    rwa [SMap.card hown hs hks.1 hks.2] at this
  have h20i : ((ks.length : Int) == 20) = false := by simp; omega
  have hmx' : cap' ≤ 9223372036854775807 := by unfold maxLen at hmx; exact hmx
  have HCV := Lib.hid hcv
  clear hI hcv hmx hks
  obtain ⟨sm, hsm⟩ : ∃ sm, sm = r.sm := ⟨_, rfl⟩
  rw [← hsm] at c2 hlen
  have HSM := Lib.hid hsm
  clear hsm
  obtain ⟨N, hN⟩ : ∃ N, N = r.cur.length := ⟨_, rfl⟩
  have HNL := Lib.hid hN
  rw [← hN] at c0 hlc hcl
  clear hN
  go_enter Try.func15, Try.ntmps15
  go_wp2
  go_loopw [22] (fun iv wr => ∃ (k : Nat) (r1 : HS), k ≤ N ∧ iv = .int .i64 k ∧ Hid (SameStep w base p r wr r1) ∧ Hid (∀ a ∈ r.cur.take k, (r1.g a).sh = true)) (fun iv _ => N - (intOf iv).toNat)
  case atStart => exact ⟨0, r, Nat.zero_le _, rfl, Lib.hid (SameStep.refl HI.out), Lib.hid (by simp)⟩
  case round =>
    obtain ⟨k, r1, hk, rfl, HS1, HSH⟩ := hrel
    by_cases hlt : k < N
    · have hltr : k < r.cur.length := by rw [← HNL.out]; exact hlt
      have HC := Lib.hid (show wr.cell? ⟨b', off' + k, none⟩ = some (ptrTo r.cur[k]) from by
        obtain ⟨b2, o2, c2, arr2, e, _, _, hh, _, hel⟩ := HS1.out.st.inv.cu
        rw [HS1.out.cv, HCV.out] at e
        injection e with e1
        injection e1 with e1
        injection e1 with e1 e2
        subst e1; subst e2
        have h3 := hel k (by rw [HS1.out.cur]; exact hltr)
        have h4 := mem_cells hh (off' + k)
        rw [h3] at h4
        rw [show r1.cur[k]'(by rw [HS1.out.cur]; exact hltr) = r.cur[k] from by congr 1; exact HS1.out.cur] at h4
        exact h4)
      have c5 := HC.out
      have HGB := Lib.hid ((HS1.out.st.inv.gb r.cur[k] (.inl (by rw [HS1.out.cur]; exact List.getElem_mem hltr))).1)
      have HM := Lib.hid (HS1.out.mark (List.getElem_mem hltr))
      have HSH2 := Lib.hid (show ∀ a ∈ r.cur.take (k + 1), ((r1.withG r.cur[k] { r1.g r.cur[k] with sh := true }).g a).sh = true from fun a ha => by
        by_cases e : a = r.cur[k]
        · rw [e, withG_same]
        · rw [withG_other _ _ e]
          rw [List.take_succ_eq_append_getElem hltr] at ha
          rcases List.mem_append.1 ha with ha | ha
          · exact HSH.out a ha
          · simp at ha; exact absurd ha e)
      clear HC HS1 HSH
      generalize r.cur[k] = a at *
      go_wp2_with fail
      refine (share_any a (r1.g a) wr HGB.out).mono ?_
      rintro e w2 ⟨⟨v, rfl⟩, rfl⟩
      go_wp2
      go_roundw
      case rel => exact ⟨k + 1, _, by omega, by go_num, HM, HSH2⟩
      case measure => simp [intOf]; omega
    · obtain rfl : k = N := by omega
      have HSA := Lib.hid (show ∀ a ∈ r.cur, (r1.g a).sh = true from fun a ha => HSH.out a (by rw [List.take_of_length_le (by rw [← HNL.out]; omega)]; exact ha))
      have c7 : wr.cell? ⟨p, 3, none⟩ = some (.int .i64 r.last) := by have := mem_cells HS1.out.st.inv.hb 3; rw [show (hCells r1)[3]? = some (.int .i64 r1.last) from rfl, HS1.out.cn.2] at this; exact this
      have f7 : wr.frozen? ⟨p, 3, none⟩ = false := frozen_cells HS1.out.st.inv.hb 3
      have HST2 := Lib.hid (HS1.out.st.trans (HStep.own (W' := wr.setCell ⟨p, 3, none⟩ (.int .i64 (r.last + 1))) HS1.out.st.inv ((Keeps.refl (fun k => k = p) _).setCell (p := ⟨p, 3, none⟩) (fun _ => rfl) _) r1.cnt (r.last + 1) (set_block HS1.out.st.inv.hb)))
      obtain ⟨r2, hr2⟩ : ∃ r2, r2 = ({ r1 with cnt := r1.cnt, last := r.last + 1 } : HS) := ⟨_, rfl⟩
      rw [← hr2] at HST2
      have HV2 := Lib.hid (show r2.view = { r.view with last := r.last + 1 } by rw [hr2]; show ({ r1.view with last := r.last + 1 } : PS) = _; rw [HS1.out.vw])
      have HE2 := Lib.hid (show r2.cur = r.cur ∧ r2.nn = r.nn ∧ r2.cv = r.cv ∧ r2.sm = r.sm ∧ r2.snaps = r.snaps ∧ (∀ a ∈ r2.cur, (r2.g a).sh = true) by rw [hr2]; exact ⟨HS1.out.cur, HS1.out.nn, HS1.out.cv, HS1.out.sm, HS1.out.sn, fun a ha => HSA.out a (by rw [← HS1.out.cur]; exact ha)⟩)
      clear hr2 HS1 HSH HSA hlen c0 c2
      have hi1 : -9223372036854775808 ≤ r.last + 1 := by omega
      have hi2 : r.last + 1 ≤ 9223372036854775807 := by omega
      go_wp2_with fail
      generalize wr.setCell ⟨p, 3, none⟩ (.int .i64 (r.last + 1)) = W3 at *
      have HI3 := Lib.hid HST2.out.inv
      have hr2l : r2.last = r.last + 1 := by have := congrArg PS.last HV2.out; exact this
      have d0 : W3.cell? ⟨p, 0, none⟩ = some (.slice (some ⟨b', off', none⟩) k cap') := by have := mem_cells HI3.out.hb 0; rw [show (hCells r2)[0]? = some r2.cv from rfl, HE2.out.2.2.1, HCV.out, ← HNL.out] at this; exact this
      have d2 : W3.cell? ⟨p, 2, none⟩ = some (.map (some sm)) := by have := mem_cells HI3.out.hb 2; rw [show (hCells r2)[2]? = some (.map (some r2.sm)) from rfl, HE2.out.2.2.2.1, ← HSM.out] at this; exact this
      have d3 : W3.cell? ⟨p, 3, none⟩ = some (.int .i64 (r.last + 1)) := by have := mem_cells HI3.out.hb 3; rw [show (hCells r2)[3]? = some (.int .i64 r2.last) from rfl, hr2l] at this; exact this
      have HCL := Lib.hid (show Calls Try.prog 45 #[.slice (some ⟨b', off', none⟩) k cap'] W3.drew fun e w' => ∃ x, e = .returned x ∧ Owns tPtr w' W3.heap.size 76 x r.cur ∧ Below W3.heap.size W3 w' from by
        have h := HI3.out.cu.rv
        rw [HE2.out.2.2.1, HCV.out, HE2.out.1] at h
        have := clonePtr_any r.cur ⟨b', off', none⟩ cap' W3.drew h (by rw [← HNL.out]; omega)
        rw [← HNL.out] at this
        exact this.mono fun e w' h => h.elim fun x g => ⟨x, g.1, g.2.1, (show Below W3.heap.size W3 W3.drew from ⟨rfl, rfl, rfl, Nat.le_refl _, fun _ _ => rfl⟩).trans g.2.2⟩)
      have HPUT := Lib.hid (fun (w5 : World) (x : Value) (hb5 : Below W3.heap.size W3 w5) => (show ∃ W6, (Instr.mapUpdate 78 (.map (some sm)) (.int .i64 (r.last + 1)) x).run Try.prog w5 = .ok () W6 ∧ SMap W6 sm (r.nn + 1) (putAt r.snaps (r.last + 1) (x, r.cur)) ∧ w5.grownBy W6 (some sm) from by
        have h := HI3.out.sn.below (w' := w5) hb5
        rw [HE2.out.2.2.2.1, ← HSM.out, HE2.out.2.1, HE2.out.2.2.2.2.1] at h
        exact SMap.put h (by unfold maxLen; omega) (by unfold inI64; omega) (x, r.cur)))
      have hps : p ≠ sm := by have := HI3.out.apart.1; rw [HE2.out.2.2.2.1, ← HSM.out] at this; exact this
      have hpl : p < W3.heap.size := mem_lt d0
      go_region_held3 (fun w' => w'.cell? ⟨p, 0, none⟩ = some (.slice (some ⟨b', off', none⟩) k cap') ∧ w'.cell? ⟨p, 2, none⟩ = some (.map (some sm)) ∧ w'.cell? ⟨p, 3, none⟩ = some (.int .i64 (r.last + 1)))
        (first | exact ⟨by assumption, by assumption, by assumption⟩ | go_keep)
        ((first | (go_at_call 45; refine HCL.out.mono ?_; rintro e w5 ⟨x, rfl, hox, hb5⟩; have HOX := Lib.hid hox; obtain ⟨ax, cx, rfl, _⟩ := hox.len; clear hox; obtain ⟨W6, hrun6, hg6, hgr6⟩ := HPUT.out w5 (.slice ax r.cur.length cx) hb5; have e0 : w5.cell? ⟨p, 0, none⟩ = some (.slice (some ⟨b', off', none⟩) k cap') := below_mem hb5 _ _ _ d0; have e2 : w5.cell? ⟨p, 2, none⟩ = some (.map (some sm)) := below_mem hb5 _ _ _ d2; have e3 : w5.cell? ⟨p, 3, none⟩ = some (.int .i64 (r.last + 1)) := below_mem hb5 _ _ _ d3; have hbk : W6.heap[p]? = w5.heap[p]? := hgr6.block p (mem_lt e0) (fun h => hps (by injection h)); have g0 : W6.cell? ⟨p, 0, none⟩ = some (.slice (some ⟨b', off', none⟩) k cap') := (mem_of_block hbk 0).trans e0; have g2 : W6.cell? ⟨p, 2, none⟩ = some (.map (some sm)) := (mem_of_block hbk 2).trans e2; have g3 : W6.cell? ⟨p, 3, none⟩ = some (.int .i64 (r.last + 1)) := (mem_of_block hbk 3).trans e3; have HG6 := Lib.hid hg6; have HGR6 := Lib.hid hgr6; have HB5 := Lib.hid hb5; clear hg6 hgr6 hb5)))
      generalize (Value.slice ax r.cur.length cx) = x at *
      have HST6 := Lib.hid (HI3.out.snap (W' := W6) (k0 := r.last + 1) (v := x) HB5.out (by rw [HE2.out.1]; exact HOX.out.rv (fun b h => h) (fun k cs hk hr => tPtr_flat _ _ _ _ hr)) HE2.out.2.2.2.2.2 (by rw [HE2.out.2.2.2.1, ← HSM.out, HE2.out.2.1, HE2.out.2.2.2.2.1, HE2.out.1]; exact HG6.out) (by rw [HE2.out.2.2.2.1, ← HSM.out]; exact HGR6.out))
      have HVF := Lib.hid (view_snap r2 (r.last + 1) x (r2.nn + 1))
      clear HPUT HCL HOX hrun6 e0 e2 e3 d0 d2 d3 HG6 HGR6 HB5
      simp only [Exit.then]
      go_at_K
      go_wp2
      go_ret2
      refine ⟨rfl, _, HST2.out.trans HST6.out, ?_, by show r2.nn + 1 = _; rw [HE2.out.2.1], HE2.out.1, x, r2.cur, by show putAt r2.snaps _ _ = _; rw [HE2.out.2.2.2.2.1]⟩
      rw [HVF.out, HV2.out]
end Go.Proofs.Ytbmpoecmjmmngaa
