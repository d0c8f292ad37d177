/- cmp.Compare[string]. -/
import Derived.Test.YtbmpoecmjmmngaaCmpB
import Derived.Test.YtbmpoecmjmmngaaLaw
namespace Go.Proofs.Ytbmpoecmjmmngaa
open Go.RowKit

set_option maxHeartbeats 400000 in
theorem nanStr_any (s : ByteArray) (w : World) :
    Calls Try.prog 86 #[.string s] w fun e w' => e = .returned (.bool false) ∧ w = w' := by
  go_enter Try.func86, Try.ntmps86
  go_wp2
  go_ret
  exact ⟨by simp, rfl⟩

set_option maxHeartbeats 400000 in
theorem cmpStr_any (s t : ByteArray) (w : World) :
    Calls Try.prog 77 #[.string s, .string t] w fun e w' => e = .returned (.int .i64 (cmpBytes s.toList t.toList)) ∧ w = w' := by
  have HL := Lib.hid (bytesLess_cmp s.toList t.toList)
  have HG := Lib.hid (bytesGtr_cmp s.toList t.toList)
  have hr := cmpBytes_good.range s.toList t.toList
  generalize cmpBytes s.toList t.toList = c at *
  go_enter Try.func77, Try.ntmps77
  go_wp2_with (go_at_call 86; refine (nanStr_any _ _).mono ?_; rintro e w' ⟨rfl, rfl⟩)
  · have h : Op.bytesLess s.toList t.toList = true := by assumption
    have hl := HL.out
    rw [h] at hl
    have : c = -1 := by have := of_decide_eq_true hl.symm; omega
    subst this
    go_ret
    exact ⟨rfl, rfl⟩
  · have h1 : Op.bytesLess s.toList t.toList = false := by assumption
    have h2 : (!s.toList == t.toList) = true := by assumption
    have hg := HG.out
    rw [h1, Bool.false_or, h2] at hg
    have : c = 1 := by have := of_decide_eq_true hg.symm; omega
    subst this
    go_ret
    exact ⟨rfl, rfl⟩
  · have h1 : Op.bytesLess s.toList t.toList = false := by assumption
    have h2 : (!s.toList == t.toList) = false := by assumption
    have hl := HL.out
    have hg := HG.out
    rw [h1] at hl
    rw [h1, Bool.false_or, h2] at hg
    have : c = 0 := by have := of_decide_eq_false hl.symm; have := of_decide_eq_false hg.symm; omega
    subst this
    go_ret
    exact ⟨rfl, rfl⟩

end Go.Proofs.Ytbmpoecmjmmngaa
