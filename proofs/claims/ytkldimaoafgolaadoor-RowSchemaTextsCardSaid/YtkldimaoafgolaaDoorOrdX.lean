/- The order of rows: more walks. -/
import Derived.Test.YtkldimaoafgolaaDoorOrdW
namespace Go.Proofs.YtkldimaoafgolaaDoor
open Go.RowKit

set_option maxRecDepth 100000 in
set_option maxHeartbeats 1000000 in
theorem refCmpVals_any (a b : Val) (w : World) :
    Calls Tryd.prog 31 #[a.v, b.v] w fun e w' => e = .returned (.int .i64 (cmpVal a b)) ∧ Below w.heap.size w w' := by
  obtain ⟨ak, an, as'⟩ := a
  obtain ⟨bk, bn, bs⟩ := b
  have H0 := (Box2.start w ⟨ak, an, as'⟩ ⟨bk, bn, bs⟩ 30).drew
  obtain ⟨a0, a1, a2, b0, b1, b2, hsz, hbl⟩ := id H0
  simp only at a0 a1 a2 b0 b1 b2 H0
  go_enter Tryd.func31, Tryd.ntmps31
  by_cases hab : cls ⟨ak, an, as'⟩ = cls ⟨bk, bn, bs⟩
  · have hq : (cls ⟨ak, an, as'⟩ == cls ⟨bk, bn, bs⟩) = true := by simpa using hab
    go_wp2_with fail
    go_region_held3 (fun w' => w'.cell? ⟨w.heap.size, 0, none⟩ = some (.int .i64 ak) ∧ w'.cell? ⟨w.heap.size, 1, none⟩ = some (.int .i64 an) ∧ w'.cell? ⟨w.heap.size, 2, none⟩ = some (.string as') ∧
        w'.cell? ⟨w.heap.size + 1, 0, none⟩ = some (.int .i64 bk) ∧ w'.cell? ⟨w.heap.size + 1, 1, none⟩ = some (.int .i64 bn) ∧ w'.cell? ⟨w.heap.size + 1, 2, none⟩ = some (.string bs))
      (first | go_keep | exact Box2.six (a := ⟨ak, an, as'⟩) (b := ⟨bk, bn, bs⟩) (by assumption))
      ((go_at_call 71; refine (refClass_any ⟨_, _, _⟩ _).mono ?_; rintro e wa ⟨rfl, hba⟩; have hbx := Box2.pure (w := w) (a := ⟨ak, an, as'⟩) (b := ⟨bk, bn, bs⟩) (by assumption) hba; clear hba))
    all_goals
      clear H0 a0 a1 a2 b0 b1 b2 hsz hbl
      obtain ⟨a0, a1, a2, b0, b1, b2, hsz, hbl⟩ := id hbx
      simp only at a0 a1 a2 b0 b1 b2
      rcases cls_cases ⟨ak, an, as'⟩ with h0 | h0 | h0
      · have HR := Lib.hid (cmpVal_0 (a := ⟨ak, an, as'⟩) (b := ⟨bk, bn, bs⟩) h0 (hab.symm.trans h0))
        clear hab hq
        have q1 : (cls ⟨ak, an, as'⟩ == 1) = false := by rw [h0]; rfl
        have q2 : (cls ⟨ak, an, as'⟩ == 2) = false := by rw [h0]; rfl
        go_wp2_with (go_at_call 71; refine (refClass_any ⟨_, _, _⟩ _).mono ?_; rintro e wa ⟨rfl, hba⟩; have hbx := Box2.pure (w := w) (a := ⟨ak, an, as'⟩) (b := ⟨bk, bn, bs⟩) (by assumption) hba; clear hba; obtain ⟨a0, a1, a2, b0, b1, b2, hsz, hbl⟩ := id hbx; simp only at a0 a1 a2 b0 b1 b2)
        go_ret
        exact ⟨by rw [HR.out]; rfl, Box2.below (w := w) (a := ⟨ak, an, as'⟩) (b := ⟨bk, bn, bs⟩) (by assumption)⟩
      · have HR := Lib.hid (cmpVal_1 (a := ⟨ak, an, as'⟩) (b := ⟨bk, bn, bs⟩) h0 (hab.symm.trans h0))
        clear hab hq
        have q1 : (cls ⟨ak, an, as'⟩ == 1) = true := by rw [h0]; rfl
        have q2 : (cls ⟨ak, an, as'⟩ == 2) = false := by rw [h0]; rfl
        have HI := Lib.hid (show cmpInt an bn = if an < bn then -1 else if bn < an then 1 else 0 from rfl)
        rcases Int.lt_trichotomy an bn with hlt | heq | hgt
        · have HI := Lib.hid (HI.out.trans (if_pos hlt))
          go_wp2_with (go_at_call 71; refine (refClass_any ⟨_, _, _⟩ _).mono ?_; rintro e wa ⟨rfl, hba⟩; have hbx := Box2.pure (w := w) (a := ⟨ak, an, as'⟩) (b := ⟨bk, bn, bs⟩) (by assumption) hba; clear hba; obtain ⟨a0, a1, a2, b0, b1, b2, hsz, hbl⟩ := id hbx; simp only at a0 a1 a2 b0 b1 b2)
          go_ret
          exact ⟨by rw [HR.out]; show _ = Ending.returned (Value.int .i64 (cmpInt an bn)); rw [HI.out]; rfl, Box2.below (w := w) (a := ⟨ak, an, as'⟩) (b := ⟨bk, bn, bs⟩) (by assumption)⟩
        · have HI := Lib.hid ((HI.out.trans (if_neg (by omega))).trans (if_neg (by omega)))
          go_wp2_with (go_at_call 71; refine (refClass_any ⟨_, _, _⟩ _).mono ?_; rintro e wa ⟨rfl, hba⟩; have hbx := Box2.pure (w := w) (a := ⟨ak, an, as'⟩) (b := ⟨bk, bn, bs⟩) (by assumption) hba; clear hba; obtain ⟨a0, a1, a2, b0, b1, b2, hsz, hbl⟩ := id hbx; simp only at a0 a1 a2 b0 b1 b2)
          go_ret
          exact ⟨by rw [HR.out]; show _ = Ending.returned (Value.int .i64 (cmpInt an bn)); rw [HI.out]; rfl, Box2.below (w := w) (a := ⟨ak, an, as'⟩) (b := ⟨bk, bn, bs⟩) (by assumption)⟩
        · have HI := Lib.hid ((HI.out.trans (if_neg (by omega))).trans (if_pos hgt))
          go_wp2_with (go_at_call 71; refine (refClass_any ⟨_, _, _⟩ _).mono ?_; rintro e wa ⟨rfl, hba⟩; have hbx := Box2.pure (w := w) (a := ⟨ak, an, as'⟩) (b := ⟨bk, bn, bs⟩) (by assumption) hba; clear hba; obtain ⟨a0, a1, a2, b0, b1, b2, hsz, hbl⟩ := id hbx; simp only at a0 a1 a2 b0 b1 b2)
          go_ret
          exact ⟨by rw [HR.out]; show _ = Ending.returned (Value.int .i64 (cmpInt an bn)); rw [HI.out]; rfl, Box2.below (w := w) (a := ⟨ak, an, as'⟩) (b := ⟨bk, bn, bs⟩) (by assumption)⟩
      · have HR := Lib.hid (cmpVal_2 (a := ⟨ak, an, as'⟩) (b := ⟨bk, bn, bs⟩) h0 (hab.symm.trans h0))
        clear hab hq
        have q1 : (cls ⟨ak, an, as'⟩ == 1) = false := by rw [h0]; rfl
        have q2 : (cls ⟨ak, an, as'⟩ == 2) = true := by rw [h0]; rfl
        have HR := Lib.hid (show cmpVal ⟨ak, an, as'⟩ ⟨bk, bn, bs⟩ = cmpBytes as'.toList bs.toList from HR.out)
        have hl0 := bytesLess_cmp as'.toList bs.toList
        have hg0 := bytesGtr_cmp as'.toList bs.toList
        rcases cmpBytes_good.range as'.toList bs.toList with hc | hc | hc
        · have HI := Lib.hid hc
          have hl : Op.bytesLess as'.toList bs.toList = true := by rw [hl0, hc]; rfl
          clear hl0 hg0 hc
          go_wp2_with (go_at_call 71; refine (refClass_any ⟨_, _, _⟩ _).mono ?_; rintro e wa ⟨rfl, hba⟩; have hbx := Box2.pure (w := w) (a := ⟨ak, an, as'⟩) (b := ⟨bk, bn, bs⟩) (by assumption) hba; clear hba; obtain ⟨a0, a1, a2, b0, b1, b2, hsz, hbl⟩ := id hbx; simp only at a0 a1 a2 b0 b1 b2)
          go_ret
          exact ⟨by rw [HR.out, HI.out]; rfl, Box2.below (w := w) (a := ⟨ak, an, as'⟩) (b := ⟨bk, bn, bs⟩) (by assumption)⟩
        · have HI := Lib.hid hc
          have hl : Op.bytesLess as'.toList bs.toList = false := by rw [hl0, hc]; rfl
          have hg : (!(Op.bytesLess as'.toList bs.toList || as'.toList == bs.toList)) = false := by rw [hg0, hc]; rfl
          rw [hl, Bool.false_or] at hg
          clear hl0 hg0 hc
          go_wp2_with (go_at_call 71; refine (refClass_any ⟨_, _, _⟩ _).mono ?_; rintro e wa ⟨rfl, hba⟩; have hbx := Box2.pure (w := w) (a := ⟨ak, an, as'⟩) (b := ⟨bk, bn, bs⟩) (by assumption) hba; clear hba; obtain ⟨a0, a1, a2, b0, b1, b2, hsz, hbl⟩ := id hbx; simp only at a0 a1 a2 b0 b1 b2)
          go_ret
          exact ⟨by rw [HR.out, HI.out]; rfl, Box2.below (w := w) (a := ⟨ak, an, as'⟩) (b := ⟨bk, bn, bs⟩) (by assumption)⟩
        · have HI := Lib.hid hc
          have hl : Op.bytesLess as'.toList bs.toList = false := by rw [hl0, hc]; rfl
          have hg : (!(Op.bytesLess as'.toList bs.toList || as'.toList == bs.toList)) = true := by rw [hg0, hc]; rfl
          rw [hl, Bool.false_or] at hg
          clear hl0 hg0 hc
          go_wp2_with (go_at_call 71; refine (refClass_any ⟨_, _, _⟩ _).mono ?_; rintro e wa ⟨rfl, hba⟩; have hbx := Box2.pure (w := w) (a := ⟨ak, an, as'⟩) (b := ⟨bk, bn, bs⟩) (by assumption) hba; clear hba; obtain ⟨a0, a1, a2, b0, b1, b2, hsz, hbl⟩ := id hbx; simp only at a0 a1 a2 b0 b1 b2)
          go_ret
          exact ⟨by rw [HR.out, HI.out]; rfl, Box2.below (w := w) (a := ⟨ak, an, as'⟩) (b := ⟨bk, bn, bs⟩) (by assumption)⟩
  · have hq : (cls ⟨ak, an, as'⟩ == cls ⟨bk, bn, bs⟩) = false := by simpa using hab
    have HR := Lib.hid (cmpVal_cls (a := ⟨ak, an, as'⟩) (b := ⟨bk, bn, bs⟩) hab)
    have HI := Lib.hid (show cmpInt (cls ⟨ak, an, as'⟩) (cls ⟨bk, bn, bs⟩) = if cls ⟨ak, an, as'⟩ < cls ⟨bk, bn, bs⟩ then -1 else if cls ⟨bk, bn, bs⟩ < cls ⟨ak, an, as'⟩ then 1 else 0 from rfl)
    go_wp2_with fail
    go_region_held3 (fun w' => w'.cell? ⟨w.heap.size, 0, none⟩ = some (.int .i64 ak) ∧ w'.cell? ⟨w.heap.size, 1, none⟩ = some (.int .i64 an) ∧ w'.cell? ⟨w.heap.size, 2, none⟩ = some (.string as') ∧
        w'.cell? ⟨w.heap.size + 1, 0, none⟩ = some (.int .i64 bk) ∧ w'.cell? ⟨w.heap.size + 1, 1, none⟩ = some (.int .i64 bn) ∧ w'.cell? ⟨w.heap.size + 1, 2, none⟩ = some (.string bs))
      (first | go_keep | exact Box2.six (a := ⟨ak, an, as'⟩) (b := ⟨bk, bn, bs⟩) (by assumption))
      ((go_at_call 71; refine (refClass_any ⟨_, _, _⟩ _).mono ?_; rintro e wa ⟨rfl, hba⟩; have hbx := Box2.pure (w := w) (a := ⟨ak, an, as'⟩) (b := ⟨bk, bn, bs⟩) (by assumption) hba; clear hba))
    all_goals
      go_wp2_with fail
      clear H0 a0 a1 a2 b0 b1 b2 hsz hbl
      obtain ⟨a0, a1, a2, b0, b1, b2, hsz, hbl⟩ := id (Box2.drew (w := w) (a := ⟨ak, an, as'⟩) (b := ⟨bk, bn, bs⟩) hbx)
      simp only at a0 a1 a2 b0 b1 b2
      have hby := Box2.drew (w := w) (a := ⟨ak, an, as'⟩) (b := ⟨bk, bn, bs⟩) hbx
      clear hbx
      go_region_held3 (fun w' => w'.cell? ⟨w.heap.size, 0, none⟩ = some (.int .i64 ak) ∧ w'.cell? ⟨w.heap.size, 1, none⟩ = some (.int .i64 an) ∧ w'.cell? ⟨w.heap.size, 2, none⟩ = some (.string as') ∧
        w'.cell? ⟨w.heap.size + 1, 0, none⟩ = some (.int .i64 bk) ∧ w'.cell? ⟨w.heap.size + 1, 1, none⟩ = some (.int .i64 bn) ∧ w'.cell? ⟨w.heap.size + 1, 2, none⟩ = some (.string bs))
        (first | go_keep | exact Box2.six (a := ⟨ak, an, as'⟩) (b := ⟨bk, bn, bs⟩) (by assumption))
        ((go_at_call 71; refine (refClass_any ⟨_, _, _⟩ _).mono ?_; rintro e wa ⟨rfl, hba⟩; have hbx := Box2.pure (w := w) (a := ⟨ak, an, as'⟩) (b := ⟨bk, bn, bs⟩) (by assumption) hba; clear hba))
      all_goals
        by_cases hlt : cls ⟨ak, an, as'⟩ < cls ⟨bk, bn, bs⟩
        · have HI := Lib.hid (HI.out.trans (if_pos hlt))
          go_wp2
          go_ret
          exact ⟨by rw [HR.out, HI.out]; rfl, hbx.below⟩
        · have HI := Lib.hid ((HI.out.trans (if_neg hlt)).trans (if_pos (by omega)))
          go_wp2
          go_ret
          exact ⟨by rw [HR.out, HI.out]; rfl, hbx.below⟩
end Go.Proofs.YtkldimaoafgolaaDoor
