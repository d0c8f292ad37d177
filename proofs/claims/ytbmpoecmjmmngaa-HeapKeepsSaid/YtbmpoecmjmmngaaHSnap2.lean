/- package heap: snapshot, Entries, Reset, Count. -/
import Derived.Test.YtbmpoecmjmmngaaHSnap
namespace Go.Proofs.Ytbmpoecmjmmngaa
open Go.RowKit Go.Maps

def rowOr' (x : Option (Value × List Nat)) : Value := rowOr x
set_option maxRecDepth 100000 in
set_option maxHeartbeats 2000000 in
theorem snapOf_any {base p : Nat} {r : HS} (k : Int) (w : World) (hI : HeapInv w base p r) (hk : inI64 k) :
    Calls Try.prog 47 #[.pointer (some ⟨p, 0, none⟩), .int .i64 k] w fun e w' => e = .returned (.tuple #[rowOr (r.snaps k), .int .i64 (if (r.snaps k).isSome = true then 0 else 8)]) ∧ w' = w := by
  have c2 : w.cell? ⟨p, 2, none⟩ = some (.map (some r.sm)) := mem_cells hI.hb 2
  have hl := hI.sn.lookOk hk
  have HF := Lib.hid (fun x (e : r.snaps k = some x) => slice_form (hI.sr k x e).1)
  clear hI
  cases hs : r.snaps k with
  | none =>
    rw [hs] at hl
    have hl' : (Instr.lookup 78 (.map (some r.sm)) (.int .i64 k) true).run Try.prog w = .ok (.tuple #[.slice none 0 0, .bool false]) w := hl
    clear hl HF hs
    go_enter Try.func47, Try.ntmps47
    go_wp2
    go_ret2
    exact ⟨rfl, rfl⟩
  | some x =>
    rw [hs] at hl
    obtain ⟨a, c, hx, _⟩ := HF.out x hs
    have hl' : (Instr.lookup 78 (.map (some r.sm)) (.int .i64 k) true).run Try.prog w = .ok (.tuple #[.slice a x.2.length c, .bool true]) w := by rw [← hx]; exact hl
    have HX := Lib.hid (show rowOr (some x) = .slice a x.2.length c from hx)
    rw [HX.out]
    clear hl HF hs hx
    go_enter Try.func47, Try.ntmps47
    go_wp2
    go_ret2
    exact ⟨rfl, rfl⟩
/-- What a snapshot's entries are, with the error. -/
def SnapEnts (s : PS) (k : Int) (es : List Ent) (c : Int) : Prop := match s.sn k with
  | none => es = [] ∧ c = 8
  | some fs => AllOf 0 fs es ∧ c = 0
theorem view_sn {r : HS} {k : Int} {x : Value × List Nat} (h : r.snaps k = some x) : r.view.sn k = some (x.2.map fun a => (r.g a).f) := by
  show (r.snaps k).map _ = _
  rw [h]; rfl
theorem view_sn0 {r : HS} {k : Int} (h : r.snaps k = none) : r.view.sn k = none := by
  show (r.snaps k).map _ = _
  rw [h]; rfl
theorem HeapInv.grpB {w : World} {base p : Nat} {r : HS} (h : HeapInv w base p r) {a : Nat} (ha : used r a) : GrpB w r.nn a (r.g a) := h.gb a ha
set_option maxRecDepth 100000 in
set_option maxHeartbeats 2000000 in
theorem stEntries_any {base p : Nat} {r : HS} (k : Int) (w : World) (hI : HeapInv w base p r) (hk : inI64 k) (hcl : r.cur.length ≤ 1000) (hnn : r.nn ≤ 100000) :
    Calls Try.prog 18 #[.pointer (some ⟨p, 0, none⟩), .int .i64 k] w fun e w' => ∃ u es c, e = .returned (.tuple #[u, .int .i64 c]) ∧ SnapEnts r.view k es c ∧ Owns tEnt w' w.heap.size 24 u es ∧ Below w.heap.size w w' ∧ inI64 c ∧ es.length ≤ r.cur.length * r.nn := by
  have HS := Lib.hid (snapOf_any k w hI hk)
  cases hs : r.snaps k with
  | none =>
    rw [hs] at HS
    have HE := Lib.hid (entries_any [] r.g r.nn 0 (.slice none 0 0) w (slice_nil _ _) (fun a h => absurd h (by simp)) (by simp) hnn (Int.le_refl _) (by decide))
    have HV := Lib.hid (view_sn0 hs)
    clear hs hI
    go_enter Try.func18, Try.ntmps18
    go_wp2_with fail
    refine HS.out.mono ?_
    rintro e w1 ⟨rfl, rfl⟩
    simp only [rowOr]
    go_wp2_with fail
    refine HE.out.mono ?_
    rintro e w2 ⟨u, es, rfl, ha, ho, hb, hl⟩
    obtain ⟨au, cu, rfl, _⟩ := ho.len
    have HO := Lib.hid ho
    have HA := Lib.hid ha
    clear ho ha HE HS
    go_wp2
    go_ret2
    obtain rfl : es = [] := HA.out
    exact ⟨_, [], 8, rfl, by unfold SnapEnts; rw [HV.out]; exact ⟨rfl, rfl⟩, HO.out, hb, by unfold inI64; decide, Nat.zero_le _⟩
  | some x =>
    obtain ⟨h1, h2, h3⟩ := hI.sr k x hs
    have HE := Lib.hid (entries_any x.2 r.g r.nn 0 x.1 w (tPtrs.mono _ _ _ _ (Mem.on_le _ _) h1) (fun a ha => hI.grpB (.inr ⟨k, x, hs, ha⟩)) (by omega) hnn (Int.le_refl _) (by decide))
    have HV := Lib.hid (view_sn hs)
    have HL := Lib.hid h3
    rw [hs] at HS
    obtain ⟨a, c, hx, _⟩ := slice_form h1
    have HS : Hid (Calls Try.prog 47 #[.pointer (some ⟨p, 0, none⟩), .int .i64 k] w fun e w' => e = .returned (.tuple #[.slice a x.2.length c, .int .i64 0]) ∧ w' = w) := by
      have := HS
      rw [show rowOr (some x) = .slice a x.2.length c from hx] at this
      exact this
    rw [hx] at HE
    clear hs hI h1 h2 h3 hx
    go_enter Try.func18, Try.ntmps18
    go_wp2_with fail
    refine HS.out.mono ?_
    rintro e w1 ⟨rfl, rfl⟩
    go_wp2_with fail
    refine HE.out.mono ?_
    rintro e w2 ⟨u, es, rfl, ha, ho, hb, hl⟩
    obtain ⟨au, cu, rfl, _⟩ := ho.len
    have HO := Lib.hid ho
    have HA := Lib.hid ha
    clear ho ha HE HS
    go_wp2
    go_ret2
    exact ⟨_, es, 0, rfl, by unfold SnapEnts; rw [HV.out]; exact ⟨HA.out, rfl⟩, HO.out, hb, by unfold inI64; decide, by rw [← HL.out]; exact hl⟩
set_option maxHeartbeats 400000 in
theorem count_any {base p : Nat} {r : HS} (w : World) (hI : HeapInv w base p r) :
    Calls Try.prog 24 #[.pointer (some ⟨p, 0, none⟩)] w fun e w' => e = .returned (.int .i64 r.cnt) ∧ w' = w := by
  have c1 : w.cell? ⟨p, 1, none⟩ = some (.int .i64 r.cnt) := mem_cells hI.hb 1
  clear hI
  go_enter Try.func24, Try.ntmps24
  go_wp2
  go_ret
  exact ⟨rfl, rfl⟩
set_option maxRecDepth 100000 in
set_option maxHeartbeats 4000000 in
theorem reset_any {base p : Nat} {r : HS} (k : Int) (w : World) (hI : HeapInv w base p r) (hk : inI64 k) (hcl : r.cur.length ≤ 1000) (hc0 : 0 < r.cur.length) (hnn : r.nn ≤ 100000) :
    Calls Try.prog 20 #[.pointer (some ⟨p, 0, none⟩), .int .i64 k] w fun e w' => ∃ r', HStep w base p r w' r' ∧ r'.nn = r.nn ∧ r'.cur.length = r.cur.length ∧ r'.snaps = r.snaps ∧
      ((r.view.sn k = none ∧ e = .returned (.int .i64 8) ∧ r'.view = r.view) ∨ ∃ fs es, r.view.sn k = some fs ∧ AllOf 0 fs es ∧ e = .returned (.int .i64 0) ∧ r'.view = { r.view with grps := fs, cnt := es.length }) := by
  have HS := Lib.hid (snapOf_any k w hI hk)
  have HI := Lib.hid hI
  cases hs : r.snaps k with
  | none =>
    rw [hs] at HS
    have HV := Lib.hid (view_sn0 hs)
    have HF := Lib.hid (HStep.pure hI (Below.refl _ _))
    clear hs hI
    go_enter Try.func20, Try.ntmps20
    go_wp2_with fail
    refine HS.out.mono ?_
    rintro e w1 ⟨rfl, rfl⟩
    simp only [rowOr]
    go_wp2
    go_ret
    exact ⟨r, HF.out, rfl, rfl, rfl, .inl ⟨HV.out, rfl, rfl⟩⟩
  | some x =>
    obtain ⟨h1, h2, h3⟩ := hI.sr k x hs
    have HV := Lib.hid (view_sn hs)
    have HSS := Lib.hid hs
    have HL := Lib.hid h3
    rw [hs] at HS
    have hrw := tPtrs.mono _ _ _ _ (Mem.on_le _ _) h1
    obtain ⟨a, c, hx, _⟩ := slice_form h1
    have HS : Hid (Calls Try.prog 47 #[.pointer (some ⟨p, 0, none⟩), .int .i64 k] w fun e w' => e = .returned (.tuple #[.slice a x.2.length c, .int .i64 0]) ∧ w' = w) := by
      have := HS
      rw [show rowOr (some x) = .slice a x.2.length c from hx] at this
      exact this
    have HX := Lib.hid hx
    rw [hx] at hrw
    obtain ⟨ad, rfl⟩ : ∃ ad, a = some ad := by
      obtain ⟨b, o, e, _⟩ := slice_at hrw (k := 0) (by omega)
      exact ⟨_, e⟩
    have HCL := Lib.hid (clonePtr_any x.2 ad c w hrw (by omega))
    have hx0 : x.2 ≠ [] := fun e => by rw [e] at h3; simp at h3; omega
    have HX0 := Lib.hid hx0
    clear hs hI h1 h2 hx hrw hx0 h3
    go_enter Try.func20, Try.ntmps20
    go_wp2_with fail
    refine HS.out.mono ?_
    rintro e w1 ⟨rfl, rfl⟩
    go_wp2_with fail
    refine HCL.out.mono ?_
    rintro e w2 ⟨v, rfl, hov, hb2⟩
    have HI2 := Lib.hid (HI.out.pure hb2)
    have c0 : w2.cell? ⟨p, 0, none⟩ = some r.cv := mem_cells HI2.out.hb 0
    have f0 : w2.frozen? ⟨p, 0, none⟩ = false := frozen_cells HI2.out.hb 0
    have HPR := Lib.hid (show PRow w2 v x.2 from by
      obtain ⟨css, g1, ⟨g2, g3⟩, g4, g5⟩ := hov
      refine PRow.of ⟨css, g1, fun k h h' => tPtr_flat _ _ _ _ (g5 k h h'), ?_⟩ HX0.out
      rcases g3 with ⟨e, g3⟩ | ⟨g, cap, cur, e, hg, hh, g6, g7, g8, g9⟩
      · exact .inl ⟨e, List.eq_nil_of_length_eq_zero g3⟩
      · exact .inr ⟨g, 0, cap, cur, e, hh, g6, g7, by rw [g8]; omega, by rw [List.drop_zero]; exact g9⟩)
    have HRS := Lib.hid (HI.out.reset HSS.out hb2 HPR.out (fun k e => (hov.lt k e).1))
    obtain ⟨av, cv', rfl, _⟩ := hov.len
    clear hov HCL HS hb2 HPR
    go_wp2_with fail
    generalize (Value.slice av x.2.length cv') = v at *
    generalize w2.setCell ⟨p, 0, none⟩ v = W3 at *
    have HE := Lib.hid (entries_any x.2 r.g r.nn 0 x.1 W3 (tPtrs.mono _ _ _ _ (Mem.on_le _ _) ((HRS.out.inv.sr k x HSS.out).1)) (fun a ha => HRS.out.inv.gb a (.inr ⟨k, x, HSS.out, ha⟩)) (by rw [HL.out]; exact hcl) hnn (Int.le_refl _) (by decide))
    rw [HX.out] at HE
    refine HE.out.mono ?_
    rintro e w4 ⟨u, es, rfl, ha, ho, hb4, hl⟩
    have HI4 := Lib.hid (HRS.out.trans (HStep.pure HRS.out.inv hb4))
    have c1 : w4.cell? ⟨p, 1, none⟩ = some (.int .i64 r.cnt) := mem_cells HI4.out.inv.hb 1
    have f1 : w4.frozen? ⟨p, 1, none⟩ = false := frozen_cells HI4.out.inv.hb 1
    have HST := Lib.hid (HI4.out.trans (HStep.own (W' := w4.setCell ⟨p, 1, none⟩ (.int .i64 es.length)) HI4.out.inv ((Keeps.refl (fun k => k = p) _).setCell (p := ⟨p, 1, none⟩) (fun _ => rfl) _) es.length r.last (set_block HI4.out.inv.hb)))
    obtain ⟨au, cu, rfl, hml⟩ := ho.len
    have HA := Lib.hid ha
    clear ho ha HE c0 f0
    go_wp2
    go_ret
    exact ⟨_, HST.out, rfl, HL.out, rfl, .inr ⟨_, es, HV.out, HA.out, rfl, rfl⟩⟩
end Go.Proofs.Ytbmpoecmjmmngaa
