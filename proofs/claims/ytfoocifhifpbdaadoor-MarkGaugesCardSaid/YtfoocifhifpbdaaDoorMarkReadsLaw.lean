/- The law MarkReads at chapter 6, walked: it returns true. -/
import Derived.Test.YtfoocifhifpbdaaDoorGParse
import Derived.Test.YtfoocifhifpbdaaDoorGParseR
import Derived.Test.YtfoocifhifpbdaaDoorGaugeB
namespace Go.Proofs.YtfoocifhifpbdaaDoor
open Go.ChangeShapes Go.WideShapes Go.ChangeAt Go.RowKit
set_option maxRecDepth 100000

theorem ParsedAs.isLong {w w' : World} {t : ByteArray} {e : Ending} (h : ParsedAs w t e w') (hl : 65536 < t.size) : e = .returned (.tuple #[.pointer none, .int .i64 3]) ∧ Below w.heap.size w w' := ⟨h.2.1 hl, h.1⟩
theorem ParsedAs.isBad {w w' : World} {t : ByteArray} {e : Ending} (h : ParsedAs w t e w') (hl : ¬ 65536 < t.size) (hp : parseG t.data.toList = none) : e = .returned (.tuple #[.pointer none, .int .i64 2]) ∧ Below w.heap.size w w' := ⟨(h.2.2 hl).2 hp, h.1⟩
theorem ParsedAs.isGood {w w' : World} {t : ByteArray} {e : Ending} {b m : Int} {c : Bool} (h : ParsedAs w t e w') (hl : ¬ 65536 < t.size) (hp : parseG t.data.toList = some (b, m, c)) :
    ∃ g, w.heap.size ≤ g ∧ e = .returned (.tuple #[.pointer (some ⟨g, 0, none⟩), .int .i64 0]) ∧ GaugeAt w' g ⟨b, m, c⟩ ∧ Below w.heap.size w w' := by
  obtain ⟨g, h1, h2, h3⟩ := (h.2.2 hl).1 b m c hp
  exact ⟨g, h1, h2, h3, h.1⟩
theorem GaugeAt.other {w w' : World} {g : Nat} {x : Gauge} {F : Nat → Prop} (k : GaugeAt w g x) (h : Keeps F w w') (hg : ¬ F g) : GaugeAt w' g x := k.keeps (h.block g k.lt hg)

set_option maxHeartbeats 8000000 in
theorem markReads_any (t : ByteArray) (n : Int) (w : World) (ht : t.size ≤ maxLen) (hn : inI64 n) (hT : Tryd.Tab w) (hE : Tryd.Errs w) (hM : Tryd.MaxIs w) :
    Calls Tryd.prog 3 #[.string t, .int .i64 n] w fun e w' => e = .returned (.bool true) ∧ Below w.heap.size w w' := by
  have ht' : t.size ≤ 9223372036854775807 := ht
  have HA := Lib.hid awake_any
  have HP := Lib.hid (fun (wr : World) (h : Below w.heap.size w wr) => gparse_any t wr ht (Tryd.tabStays hT h) (Tryd.errsStay hE h) (Tryd.maxStays hM h))
  have HR := Lib.hid (fun (wr : World) (h : Below w.heap.size w wr) => rparse_any t wr ht (Tryd.tabStays hT h))
  have HTab := Lib.hid (fun (wr : World) (h : Below w.heap.size w wr) => Tryd.tabStays hT h)
  clear hT hE hM ht
  have hb0 := Below.refl w.heap.size w
  by_cases h131 : 131072 < t.size
  · clear hb0
    go_enter Tryd.func3, Tryd.ntmps3
    go_wp2_with (first | (go_at_call 5; refine (HA.out _).mono ?_; rintro e w' ⟨rfl, hb⟩) | fail)
    go_ret
    exact ⟨rfl, hb⟩
  by_cases hl : 65536 < t.size
  · have HL := Lib.hid hl
    have H0 := Lib.hid hb0
    clear hl hb0
    go_enter Tryd.func3, Tryd.ntmps3
    go_wp2_with (first | (go_at_call 6; refine (HP.out _ H0.out).mono ?_; intro e w1 hh; obtain ⟨rfl, hb1⟩ := hh.isLong HL.out; clear hh) | (go_at_call 7; refine (HR.out _ hb1).mono ?_; intro e w2 hh; obtain ⟨rfl, hb2⟩ := hh.isLong HL.out; clear hh) | (go_at_call 5; refine (HA.out _).mono ?_; rintro e w3 ⟨rfl, hb3⟩) | fail)
    go_ret
    have s1 := hb1.size
    have s2 := hb2.size
    exact ⟨rfl, (hb1.trans (hb2.mono s1)).trans (hb3.mono (by omega))⟩
  have HL := Lib.hid hl
  have H0 := Lib.hid hb0
  clear hl hb0
  cases hp : parseG t.data.toList with
  | none =>
    have HN := Lib.hid hp
    clear hp
    go_enter Tryd.func3, Tryd.ntmps3
    go_wp2_with (first | (go_at_call 6; refine (HP.out _ H0.out).mono ?_; intro e w1 hh; obtain ⟨rfl, hb1⟩ := hh.isBad HL.out HN.out; clear hh) | (go_at_call 7; refine (HR.out _ hb1).mono ?_; intro e w2 hh; obtain ⟨rfl, hb2⟩ := hh.isBad HL.out HN.out; clear hh) | (go_at_call 5; refine (HA.out _).mono ?_; rintro e w3 ⟨rfl, hb3⟩) | fail)
    go_ret
    have s1 := hb1.size
    have s2 := hb2.size
    exact ⟨rfl, (hb1.trans (hb2.mono s1)).trans (hb3.mono (by omega))⟩
  | some r =>
    obtain ⟨b, m, c⟩ := r
    have HN := Lib.hid hp
    have hs := parseG_says t.data.toList
    rw [hp] at hs
    have hx : Gauge.text ⟨b, m, c⟩ = t := by
      unfold Gauge.text
      show (⟨(gText b m c).toArray⟩ : ByteArray) = t
      rw [hs.2]
    have HX := Lib.hid hx
    clear hp hs hx
    have e1 : (t.toList != t.toList) = false := by simp
    have e2 : (t.toList == t.toList) = true := by simp
    have HI := Lib.hid (fun (w w' : World) (e : Ending) (h : ParsedAs w t e w') => h.isGood HL.out HN.out)
    clear HN
    generalize (⟨b, m, c⟩ : Gauge) = x at HX HI
    have HTX := Lib.hid (fun (g : Nat) (wr : World) (h : GaugeAt wr g x) (hb : Below w.heap.size w wr) => (by have := gtext_any g x wr h (HTab.out wr hb); rw [HX.out] at this; exact this : Calls Tryd.prog 8 #[.pointer (some ⟨g, 0, none⟩)] wr fun e w' => e = .returned (.string t) ∧ Below wr.heap.size wr w'))
    have HMX := Lib.hid (fun (y : Gauge) (g : Nat) (wr : World) (h : GaugeAt wr g y) => gmark_any g y wr h)
    have HMY := Lib.hid (fun (y : Gauge) (g : Nat) (wr : World) (h : GaugeAt wr g y) => rmark_any g y wr h)
    have HCX := Lib.hid (fun (y : Gauge) (g : Nat) (wr : World) (h : GaugeAt wr g y) => gclosed_any g y wr h)
    have HCY := Lib.hid (fun (y : Gauge) (g : Nat) (wr : World) (h : GaugeAt wr g y) => rclosed_any g y wr h)
    have HSX := Lib.hid (fun (g : Nat) (wr : World) (h : GaugeAt wr g x) => gsee_any g x n wr h)
    have HSY := Lib.hid (fun (g : Nat) (wr : World) (h : GaugeAt wr g x) => rsee_any g x n wr h)
    generalize x.see n = r at HSX HSY
    obtain ⟨y, a, k⟩ := r
    obtain ⟨xb, xm, xc⟩ := x
    obtain ⟨yb, ym, yc⟩ := y
    go_enter Tryd.func3, Tryd.ntmps3
    go_wp2_with (first | (go_at_call 6; refine (HP.out _ H0.out).mono ?_; intro e w1 hh; obtain ⟨g1, hg1, rfl, hG1, hb1⟩ := HI.out _ _ _ hh; clear hh) | (go_at_call 7; refine (HR.out _ hb1).mono ?_; intro e w2 hh; obtain ⟨g2, hg2, rfl, hG2, hb2⟩ := HI.out _ _ _ hh; clear hh) | fail)
    have s1 := hb1.size
    have s2 := hb2.size
    have hG1' := Lib.hid (hG1.keeps (hb2.block g1 hG1.lt))
    have hlt := hG1.lt
    have hne : g1 ≠ g2 := by omega
    have hlt2 := hG2.lt
    have hb3 := Lib.hid (hb1.trans (hb2.mono s1))
    have HG2 := Lib.hid hG2
    have HS := Lib.hid (⟨s1, s2, hg1, hg2, hlt, hlt2⟩ : _ ∧ _ ∧ _ ∧ _ ∧ _ ∧ _)
    have HNE := Lib.hid hne
    clear hG1 hb1 hb2 hlt hlt2 s1 s2 hg1 hg2 hne hG2
    refine (HTX.out _ _ hG1'.out hb3.out).mono ?_
    rintro e w3 ⟨rfl, hb4⟩
    have hA := Lib.hid (hG1'.out.keeps (hb4.block g1 hG1'.out.lt))
    have hB := Lib.hid (HG2.out.keeps (hb4.block g2 HG2.out.lt))
    have hb5 := Lib.hid (hb3.out.trans (hb4.mono hb3.out.size))
    have HS4 := Lib.hid hb4.size
    clear hb4 hb3
    have HFIN := Lib.hid (show ∀ (w4 w5 w6 : World), Keeps (fun k => k = g1) w3 w4 → Keeps (fun k => k = g2) w4 w5 → Below w5.heap.size w5 w6 → Below w.heap.size w w6 from fun w4 w5 w6 k1 k2 hb => by
      obtain ⟨s1, s2, hg1, hg2, hlt, hlt2⟩ := HS.out
      have b4 := Keeps.belowStep hb5.out k1 (fun k hk => by omega) hb5.out.size
      have b5 := Keeps.belowStep b4 k2 (fun k hk => by omega) b4.size
      exact b5.trans (hb.mono b5.size))
    go_wp2_with (first | (go_at_call 9; refine (HMX.out _ _ _ hA.out).mono ?_; rintro e w' ⟨rfl, rfl⟩) | (go_at_call 10; refine (HMY.out _ _ _ hB.out).mono ?_; rintro e w' ⟨rfl, rfl⟩) | (go_at_call 11; refine (HCX.out _ _ _ hA.out).mono ?_; rintro e w' ⟨rfl, rfl⟩) | (go_at_call 12; refine (HCY.out _ _ _ hB.out).mono ?_; rintro e w' ⟨rfl, rfl⟩) | fail)
    refine (HSX.out _ _ hA.out).mono ?_
    rintro e w4 ⟨rfl, hC, hk1⟩
    have HC := Lib.hid hC
    have HK1 := Lib.hid hk1
    have HB4 := Lib.hid (hB.out.other hk1 (fun h => HNE.out h.symm))
    clear hC hk1
    go_wp2_with (first | (go_at_call 14; refine (HSY.out _ _ HB4.out).mono ?_; rintro e w5 ⟨rfl, hD, hk2⟩) | fail)
    have HC5 := Lib.hid (HC.out.other hk2 HNE.out)
    have HD := Lib.hid hD
    have HK2 := Lib.hid hk2
    clear hD hk2
    cases a <;> skip
    · go_wp2_with (first | (go_at_call 9; refine (HMX.out _ _ _ HC5.out).mono ?_; rintro e w' ⟨rfl, rfl⟩) | (go_at_call 10; refine (HMY.out _ _ _ HD.out).mono ?_; rintro e w' ⟨rfl, rfl⟩) | (go_at_call 5; refine (HA.out _).mono ?_; rintro e w6 ⟨rfl, hb6⟩) | fail)
      go_ret
      exact ⟨rfl, HFIN.out _ _ _ HK1.out HK2.out hb6⟩
    · go_wp2_with (first | (go_at_call 9; refine (HMX.out _ _ _ HC5.out).mono ?_; rintro e w' ⟨rfl, rfl⟩) | (go_at_call 10; refine (HMY.out _ _ _ HD.out).mono ?_; rintro e w' ⟨rfl, rfl⟩) | (go_at_call 5; refine (HA.out _).mono ?_; rintro e w6 ⟨rfl, hb6⟩) | fail)
      go_ret
      exact ⟨rfl, HFIN.out _ _ _ HK1.out HK2.out hb6⟩
end Go.Proofs.YtfoocifhifpbdaaDoor
