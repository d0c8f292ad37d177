/- package heap: Get. -/
import Derived.Test.YtbmpoecmjmmngaaHMapOps
namespace Go.Proofs.Ytbmpoecmjmmngaa
open Go.RowKit Go.Maps

/-- What stands where, at a group. -/
structure GrpAt (W : World) (p : Nat) (r : HS) (i a cb off cap : Nat) : Prop where
  cv : W.cell? ⟨p, 0, none⟩ = some (.slice (some ⟨cb, off, none⟩) r.cur.length cap)
  lc : r.cur.length ≤ cap
  mx : cap ≤ 9223372036854775807
  el : W.cell? ⟨cb, off + i, none⟩ = some (ptrTo a)
  mp : W.cell? ⟨a, 0, none⟩ = some (.map (some (r.g a).mb))
  sh : W.cell? ⟨a, 1, none⟩ = some (.bool (r.g a).sh)
  gm : GMap W (r.g a).mb r.nn (r.g a).f
def adAt (r : HS) (g : Int) : Nat := r.cur.getD g.toNat 0
def grpF (r : HS) (g : Int) : FMap := (r.g (adAt r g)).f
theorem adAt_eq {r : HS} {i : Nat} (hi : i < r.cur.length) : adAt r i = r.cur[i] := by
  unfold adAt
  rw [Int.toNat_natCast, List.getD_eq_getElem?_getD, List.getElem?_eq_getElem hi]
  rfl
theorem HeapInv.grp {W : World} {base p : Nat} {r : HS} (h : HeapInv W base p r) {i : Nat} (hi : i < r.cur.length) : ∃ cb off cap, GrpAt W p r i (adAt r i) cb off cap ∧ used r (adAt r i) := by
  obtain ⟨cb, off, cap, arr, hcv, h2, h3, h4, h5, h6⟩ := h.cu
  have hu : used r (adAt r i) := by rw [adAt_eq hi]; exact .inl (List.getElem_mem hi)
  obtain ⟨g1, g2⟩ := h.gb _ hu
  refine ⟨cb, off, cap, ⟨?_, h2, by unfold maxLen at h3; exact h3, ?_, ?_, ?_, g2⟩, hu⟩
  · have := mem_cells h.hb 0
    rw [show (hCells r)[0]? = some r.cv from rfl, hcv] at this
    exact this
  · have := mem_cells h4 (off + i)
    rw [h6 i hi, ← adAt_eq hi] at this
    exact this
  · exact mem_cells g1 0
  · exact mem_cells g1 1
theorem GrpAt.below {W W' : World} {p : Nat} {r : HS} {i a cb off cap : Nat} (h : GrpAt W p r i a cb off cap) (hb : Below W.heap.size W W') : GrpAt W' p r i a cb off cap :=
  ⟨below_mem hb _ _ _ h.cv, h.lc, h.mx, below_mem hb _ _ _ h.el, below_mem hb _ _ _ h.mp, below_mem hb _ _ _ h.sh, h.gm.below hb⟩
def getAns (N : Nat) (F : FMap) (g : Int) (nm key : ByteArray) : ByteArray × Int :=
  if chk N g nm [key] = 0 then (strOr (F (nm, key)), if (F (nm, key)).isSome = true then 0 else 8) else (.empty, chk N g nm [key])
theorem chk_size {N : Nat} {g : Int} {nm : ByteArray} {ts : List ByteArray} (h : chk N g nm ts = 0) : nm.size ≤ 16 ∧ ∀ t ∈ ts, t.size ≤ 65536 := by
  obtain ⟨h1, h2, _⟩ := chk_ok h
  refine ⟨(isName_size h1).2, fun t ht => ?_⟩
  rw [List.any_eq_false] at h2
  have := h2 t ht
  unfold big at this
  simpa using this
theorem okSpot_of {N : Nat} {g : Int} {nm key : ByteArray} {ts : List ByteArray} (h : chk N g nm ts = 0) (hk : key ∈ ts) : okSpot (nm, key) := by
  obtain ⟨h1, h2⟩ := chk_size h
  have := h2 key hk
  exact ⟨by unfold maxLen; show nm.size ≤ _; omega, by unfold maxLen; show key.size ≤ _; omega⟩
set_option maxRecDepth 100000 in
set_option maxHeartbeats 2000000 in
theorem get_any {base p : Nat} {r : HS} (g : Int) (nm key : ByteArray) (w : World) (hI : HeapInv w base p r) (hg : inI64 g) (hn : nm.size ≤ maxLen) (hk : key.size ≤ maxLen) :
    Calls Try.prog 10 #[.pointer (some ⟨p, 0, none⟩), .int .i64 g, .string nm, .string key] w fun e w' =>
      e = .returned (.tuple #[.string (getAns r.cur.length (grpF r g) g nm key).1, .int .i64 (getAns r.cur.length (grpF r g) g nm key).2]) ∧ Below w.heap.size w w' := by
  have HB0 := Lib.hid (fun o => (show Below w.heap.size w (w.alloc o) from (Below.refl _ _).alloc (Nat.le_refl _) o))
  have HCH := Lib.hid (fun (o : Obj) (v : Value) (hv : tStrs.rv (mem (w.alloc o)) [v] [key]) => checked_any g nm [key] v (w.alloc o) (hI.pure (HB0.out o)) hg hn hv)
  have HST := Lib.hid (fun (T : TypeId) => (show tStrs.rv (mem (w.alloc (.cells #[.string key] T))) [.slice (some ⟨w.heap.size, 0, none⟩) 1 1] [key] from strs_rv1 (mem_cells_new w _ T (0, 0) 0) hk))
  have HA := Lib.hid (show getAns r.cur.length (grpF r g) g nm key = if chk r.cur.length g nm [key] = 0 then (strOr (grpF r g (nm, key)), if (grpF r g (nm, key)).isSome = true then 0 else 8) else (.empty, chk r.cur.length g nm [key]) from rfl)
  have HGR := Lib.hid (fun (h : chk r.cur.length g nm [key] = 0) => (show ∃ (cb off cap i : Nat), g = (i : Int) ∧ i < r.cur.length ∧ GrpAt w p r i (adAt r g) cb off cap ∧ okSpot (nm, key) from by
    obtain ⟨_, _, h0, h1⟩ := chk_ok h
    obtain ⟨i, rfl⟩ := Int.eq_ofNat_of_zero_le h0
    obtain ⟨cb, off, cap, hg, _⟩ := hI.grp (i := i) (by omega)
    exact ⟨cb, off, cap, i, rfl, by omega, hg, okSpot_of h (by simp)⟩))
  have hcs := chk_cases r.cur.length g nm [key]
  clear hI hg hn hk
  generalize getAns r.cur.length (grpF r g) g nm key = ans at HA ⊢
  generalize hc : chk r.cur.length g nm [key] = c at *
  clear hc
  go_enter Try.func10, Try.ntmps10
  go_wp2_with fail
  refine (HCH.out _ _ (HST.out _)).mono ?_
  rintro e w1 ⟨rfl, hb1⟩
  have hB := pure_trans (HB0.out _) hb1
  clear hb1 HCH HST HB0
  rcases hcs with rfl | hcs
  · obtain ⟨cb, off, cap, i, rfl, hi, hG, hok⟩ := HGR.out rfl
    have hG := hG.below hB
    obtain ⟨c1, h2, h3, c4, c5, c6, hgm⟩ := hG
    have hl := hgm.lookOk hok
    have HF := Lib.hid (show (r.g (adAt r i)).f = grpF r i from rfl)
    rw [HF.out] at hl
    generalize grpF r i (nm, key) = q at hl HA
    generalize (r.g (adAt r i)).mb = mb at *
    clear HGR hgm HF c6
    generalize adAt r i = a at *
    generalize r.cur.length = N at *
    cases q with
    | none =>
      have hl' : (Instr.lookup 73 (.map (some mb)) (.agg #[.string nm, .string key]) true).run Try.prog w1 = .ok (.tuple #[.string .empty, .bool false]) w1 := hl
      clear hl
      go_wp2
      go_ret2
      exact ⟨by rw [HA.out]; rfl, hB⟩
    | some s =>
      have hl' : (Instr.lookup 73 (.map (some mb)) (.agg #[.string nm, .string key]) true).run Try.prog w1 = .ok (.tuple #[.string s, .bool true]) w1 := hl
      clear hl
      go_wp2
      go_ret2
      exact ⟨by rw [HA.out]; rfl, hB⟩
  · have HN := Lib.hid (show ans = (.empty, c) from by rw [HA.out, if_neg (by omega)])
    have hne : (c == 0) = false := by rcases hcs with rfl | rfl <;> rfl
    clear hcs HGR
    go_wp2
    go_ret2
    exact ⟨by rw [HN.out] <;> rfl, hB⟩
end Go.Proofs.Ytbmpoecmjmmngaa
