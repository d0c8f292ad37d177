/- ParseGauge of package mark. -/
import Derived.Test.YtfoocifhifpbdaaDoorGaugeB
import Derived.IntWalk
namespace Go.Proofs.YtfoocifhifpbdaaDoor
open Go.RowKit

/-- What decides a parse. -/
theorem parse_decide {t bL mL : List UInt8} {f q : Bool} {n k : Int} (hcut : Lib.cut t [32] = (bL, mL, f)) (hq : (mL == closedL) = q) (hn : ∀ b, inI64 b → bL = Lib.itoa b → n = b)
    (hk : q = false → ∀ m, inI64 m → mL = Lib.itoa m → k = m) (hl : q = true → k = 1000000000001) :
    ((0 ≤ n ∧ n ≤ 1000000000) → (q = false → -1000000000000 ≤ k ∧ k ≤ 1000000000000 - n + 1) → gText n k q = t → parseG t = some (n, k, q)) ∧
    (¬ ((0 ≤ n ∧ n ≤ 1000000000) ∧ (q = false → -1000000000000 ≤ k ∧ k ≤ 1000000000000 - n + 1) ∧ gText n k q = t) → parseG t = none) := by
  refine ⟨fun h1 h2 h3 => ?_, fun h => parseG_none fun b m c hc e => h ?_⟩
  · rw [← h3]
    exact parseG_some ⟨h1.1, h1.2, hl, h2⟩
  · rw [← e, gText_cut] at hcut
    simp only [Prod.mk.injEq] at hcut
    obtain ⟨e1, e2, _⟩ := hcut
    have hb := hc.b0
    have hb1 := hc.b1
    obtain rfl := hn b ⟨by omega, by omega⟩ e1.symm
    rw [← e2, gTail_closed] at hq
    subst hq
    have hkm : k = m := by
      cases c
      · obtain ⟨h1, h2⟩ := hc.op rfl
        exact hk rfl m ⟨by omega, by omega⟩ (by rw [← e2]; rfl)
      · rw [hl rfl, hc.cl rfl]
    subst hkm
    exact ⟨⟨hc.b0, hc.b1⟩, hc.op, e⟩

structure GCells (w : World) (g : Nat) (b m : Int) (c : Bool) : Prop where
  c0 : w.cell? ⟨g, 0, none⟩ = some (.int .i64 b)
  c1 : w.cell? ⟨g, 1, none⟩ = some (.int .i64 m)
  c2 : w.cell? ⟨g, 2, none⟩ = some (.bool c)
  fr : ∀ o, w.frozen? ⟨g, o, none⟩ = false
theorem GCells.keeps {w w' : World} {g : Nat} {b m : Int} {c : Bool} (k : GCells w g b m c) (hb : w'.heap[g]? = w.heap[g]?) : GCells w' g b m c :=
  ⟨(mem_of_block hb _).trans k.c0, (mem_of_block hb _).trans k.c1, (mem_of_block hb _).trans k.c2, fun o => (World.frozen?_of_block (w := w) (a := ⟨g, o, none⟩) hb).trans (k.fr o)⟩
theorem GCells.lt {w : World} {g : Nat} {b m : Int} {c : Bool} (k : GCells w g b m c) : g < w.heap.size := mem_lt k.c0
theorem GCells.below {w w' : World} {g : Nat} {b m : Int} {c : Bool} (k : GCells w g b m c) (hb : Below w.heap.size w w') : GCells w' g b m c := k.keeps (hb.block g k.lt)
theorem GCells.set0 {w : World} {g : Nat} {b m : Int} {c : Bool} (k : GCells w g b m c) (n : Int) : GCells (w.setCell ⟨g, 0, none⟩ (.int .i64 n)) g n m c :=
  ⟨World.cell?_setCell_same _ _ _ k.c0, (cell_other _ (by simp)).trans k.c1, (cell_other _ (by simp)).trans k.c2, fun o => (frozen_set _ _ _ _).trans (k.fr o)⟩
theorem GCells.set1 {w : World} {g : Nat} {b m : Int} {c : Bool} (k : GCells w g b m c) (n : Int) : GCells (w.setCell ⟨g, 1, none⟩ (.int .i64 n)) g b n c :=
  ⟨(cell_other _ (by simp)).trans k.c0, World.cell?_setCell_same _ _ _ k.c1, (cell_other _ (by simp)).trans k.c2, fun o => (frozen_set _ _ _ _).trans (k.fr o)⟩
theorem GCells.made {w : World} {b m : Int} {c : Bool} (t : TypeId) : GCells (w.alloc (.cells #[.int .i64 b, .int .i64 m, .bool c] t)) w.heap.size b m c :=
  have h := heap_alloc_new w (.cells #[.int .i64 b, .int .i64 m, .bool c] t (0, 0))
  ⟨mem_cells h 0, mem_cells h 1, mem_cells h 2, frozen_cells h⟩
theorem GCells.gauge {w : World} {g : Nat} {b m : Int} {c : Bool} (k : GCells w g b m c) (ok : Gauge.ok ⟨b, m, c⟩) : GaugeAt w g ⟨b, m, c⟩ := ⟨k.c0, k.c1, k.c2, k.fr, ok⟩

def ParsedAs (w : World) (t : ByteArray) (e : Ending) (w' : World) : Prop :=
  Below w.heap.size w w' ∧ (65536 < t.size → e = .returned (.tuple #[.pointer none, .int .i64 3])) ∧
  (¬ 65536 < t.size → (∀ b m c, parseG t.data.toList = some (b, m, c) → ∃ g, w.heap.size ≤ g ∧ e = .returned (.tuple #[.pointer (some ⟨g, 0, none⟩), .int .i64 0]) ∧ GaugeAt w' g ⟨b, m, c⟩) ∧
    (parseG t.data.toList = none → e = .returned (.tuple #[.pointer none, .int .i64 2])))
theorem ParsedAs.long {w w' : World} {t : ByteArray} {e : Ending} (hb : Below w.heap.size w w') (h : 65536 < t.size) (he : e = .returned (.tuple #[.pointer none, .int .i64 3])) : ParsedAs w t e w' := ⟨hb, fun _ => he, fun hn => absurd h hn⟩
theorem ParsedAs.bad {w w' : World} {t : ByteArray} {e : Ending} (hb : Below w.heap.size w w') (h : ¬ 65536 < t.size) (hp : parseG t.data.toList = none) (he : e = .returned (.tuple #[.pointer none, .int .i64 2])) : ParsedAs w t e w' :=
  ⟨hb, fun hn => absurd hn h, fun _ => ⟨fun b m c hs => (by rw [hp] at hs; cases hs), fun _ => he⟩⟩
theorem ParsedAs.good {w w' : World} {t : ByteArray} {e : Ending} {g : Nat} {b m : Int} {c : Bool} (hb : Below w.heap.size w w') (h : ¬ 65536 < t.size) (hp : parseG t.data.toList = some (b, m, c)) (hg : w.heap.size ≤ g)
    (he : e = .returned (.tuple #[.pointer (some ⟨g, 0, none⟩), .int .i64 0])) (ha : GaugeAt w' g ⟨b, m, c⟩) : ParsedAs w t e w' :=
  ⟨hb, fun hn => absurd hn h, fun _ => ⟨fun b' m' c' hs => (by rw [hp] at hs; cases hs; exact ⟨g, hg, he, ha⟩), fun hs => (by rw [hp] at hs; cases hs)⟩⟩

theorem quiet_eq {P : Program} {f : FuncId} {args : Array Value} {w : World} {n : Nat} {v : Value}
    (h : Calls P f args (w.drewN n) fun e w' => e = .returned v ∧ w.drewN n = w') : Calls P f args (w.drewN n) fun e w'' => e = .returned v ∧ ∃ m, w'' = w.drewN m :=
  h.mono fun _ _ ⟨he, hm⟩ => ⟨he, n, hm.symm⟩
theorem str_list (l : List UInt8) : (⟨l.toArray⟩ : ByteArray).toList = l := by rw [ByteArray.toList_eq]
theorem canon_ok {b m : Int} {c : Bool} (h : Canon b m c) : Gauge.ok ⟨b, m, c⟩ := by
  obtain ⟨b0, b1, cl, op⟩ := h
  refine ⟨b0, b1, ?_, ?_⟩
  · cases c
    · exact (op rfl).1
    · have := cl rfl; show _ ≤ m; omega
  · cases c
    · have := (op rfl).2; show m ≤ _; omega
    · have := cl rfl; show m ≤ _; omega

set_option maxRecDepth 100000 in
set_option maxHeartbeats 16000000 in
theorem gparse_any (t : ByteArray) (w : World) (ht : t.size ≤ maxLen) (hT : Tryd.Tab w) (hE : Tryd.Errs w) (hM : Tryd.MaxIs w) :
    Calls Tryd.prog 6 #[.string t] w (ParsedAs w t) := by
  unfold maxLen at ht
  by_cases hlong : 65536 < t.size
  · have HL := Lib.hid hlong
    go_enter Tryd.func6, Tryd.ntmps6
    go_wp2
    go_ret2
    exact ParsedAs.long (Below.refl _ _) HL.out rfl
  have HL := Lib.hid hlong
  have hcut := cut_any t ⟨#[32]⟩ (by omega) w hM
  have HD := Lib.hid (fun bL mL f q n k (h : Lib.cut t.data.toList [32] = (bL, mL, f)) => parse_decide (q := q) (n := n) (k := k) h)
  have e32 : (⟨#[32]⟩ : ByteArray).data.toList = [32] := rfl
  rw [e32] at hcut
  have hsz1 : (Lib.cut t.data.toList [32]).1.length ≤ t.size := by
    unfold Lib.cut; split
    · show (t.data.toList.take _).length ≤ _; rw [List.length_take]; exact Nat.min_le_right _ _
    · exact Nat.le_refl _
  have hsz2 : (Lib.cut t.data.toList [32]).2.1.length ≤ t.size := by
    unfold Lib.cut; split
    · show (t.data.toList.drop _).length ≤ _; rw [List.length_drop]; exact Nat.sub_le _ _
    · exact Nat.zero_le _
  generalize hc : Lib.cut t.data.toList [32] = r at hcut hsz1 hsz2
  obtain ⟨bL, mL, f⟩ := r
  have HD := Lib.hid (fun q n k => HD.out bL mL f q n k hc)
  simp only at hcut hsz1 hsz2
  have HC := Lib.hid hcut
  have HA1 := Lib.hid (fun wr (h : Below w.heap.size w wr) => atoi_any ⟨bL.toArray⟩ (by rw [bytes_size]; omega) wr (Tryd.errsStay hE h))
  have HA2 := Lib.hid (fun wr (h : Below w.heap.size w wr) => atoi_any ⟨mL.toArray⟩ (by rw [bytes_size]; omega) wr (Tryd.errsStay hE h))
  have e1 : (⟨bL.toArray⟩ : ByteArray).data.toList = bL := rfl
  have e2 : (⟨mL.toArray⟩ : ByteArray).data.toList = mL := rfl
  rw [e1] at HA1
  rw [e2] at HA2
  have hqq : ((⟨mL.toArray⟩ : ByteArray).toList == closedL) = (mL == closedL) := by rw [str_list]
  generalize hq : (mL == closedL) = q at hqq
  have HQ := Lib.hid hq
  unfold closedL at hqq
  clear hc hcut hq e1 e2 e32 hsz1 hsz2 hE
  generalize (⟨bL.toArray⟩ : ByteArray) = bs at *
  generalize (⟨mL.toArray⟩ : ByteArray) = ms at *
  go_enter Tryd.func6, Tryd.ntmps6
  go_wp2_with fail
  refine HC.out.mono ?_
  rintro e w1 ⟨rfl, hB⟩
  clear HC
  have hwb := hB.size
  have hBa : ∀ q : Bool, Below w.heap.size w (w1.alloc (.cells #[.int .i64 0, .int .i64 1000000000001, .bool q] 49)) := fun q => hB.alloc hwb _
  have hG0 : ∀ q : Bool, GCells (w1.alloc (.cells #[.int .i64 0, .int .i64 1000000000001, .bool q] 49)) w1.heap.size 0 1000000000001 q := fun q => GCells.made _
  have HBA := Lib.hid hBa
  have HG0 := Lib.hid hG0
  clear hBa hG0 hB
  cases q
  · go_wp2_with fail
    refine (HA1.out _ (HBA.out _)).mono ?_
    rintro e w2 ⟨n, ev, rfl, hn64, hev, hnv, hB2⟩
    have hB2' := pure_trans (HBA.out _) hB2
    obtain ⟨c0, c1, c2, fr⟩ := (HG0.out false).below hB2
    have f0 := fr 0
    have hB3 : Below w.heap.size w (w2.setCell ⟨w1.heap.size, 0, none⟩ (.int .i64 n)) := hB2'.setCell (by omega) _
    have hG3 := (GCells.mk c0 c1 c2 fr).set0 n
    have HNV := Lib.hid (fun b hb hl => (hnv b hb hl).1)
    clear hnv hB2 hB2' HBA HG0 HA1 hev fr
    go_wp2_with fail
    generalize w2.setCell ⟨w1.heap.size, 0, none⟩ (.int .i64 n) = w5 at *
    refine (HA2.out _ hB3).mono ?_
    rintro e w6 ⟨k, ev2, rfl, hk64, hev2, hkv, hB6⟩
    have hB6' := pure_trans hB3 hB6
    obtain ⟨d0, d1, d2, fr⟩ := hG3.below hB6
    have f1 := fr 1
    have hB3 : Below w.heap.size w (w6.setCell ⟨w1.heap.size, 1, none⟩ (.int .i64 k)) := hB6'.setCell (by omega) _
    have hG4 := (GCells.mk d0 d1 d2 fr).set1 k
    have hP := HD.out false n k HQ.out HNV.out (fun _ b hb hl => (hkv b hb hl).1) (fun h => by cases h)
    have HPY := Lib.hid hP.1
    have HPN := Lib.hid hP.2
    obtain ⟨hn2, hn3⟩ := hn64
    obtain ⟨hk2, hk3⟩ := hk64
    clear hkv hB6 hB6' HA2 hev2 fr hP HD HNV c0 c1 c2 f0 hG3
    go_wp2_with fail
    generalize w6.setCell ⟨w1.heap.size, 1, none⟩ (.int .i64 k) = w3 at *
    have hBd := hB3.drew
    have HTX := Lib.hid (fun (h1 : 0 ≤ n ∧ n ≤ 1000000000) (h2 : -1000000000000 ≤ k ∧ k ≤ 1000000000000 - n + 1) wr (h : Below w.heap.size w wr) (hg : GCells wr w1.heap.size n k false) => gtext_any w1.heap.size ⟨n, k, false⟩ wr (hg.gauge ⟨h1.1, h1.2, h2.1, by have := h2.2; have := h1.1; show k ≤ _; omega⟩) (Tryd.tabStays hT h))
    have hGd : GCells w3.drew w1.heap.size n k false := ⟨hG4.c0, hG4.c1, hG4.c2, hG4.fr⟩
    clear d0 d1 d2 f1 hG4
    have d0 := hGd.c0
    have d1 := hGd.c1
    have d2 := hGd.c2
    by_cases h1 : 0 ≤ n ∧ n ≤ 1000000000
    · have HW1 := Lib.hid (fun w => (by have := mwithin_any n 0 1000000000 w; rw [decide_eq_true h1] at this; exact this : Calls Tryd.prog 25 #[.int .i64 n, .int .i64 0, .int .i64 1000000000] w fun e w' => e = .returned (.bool true) ∧ w = w'))
      have HH1 := Lib.hid h1
      obtain ⟨hn0, hn1⟩ := h1
      have s1 : IntKind.i64.wrap (1000000000000 - n) = 1000000000000 - n := IntWalk.i64_in _ (by omega)
      have s2 : IntKind.i64.wrap (1000000000000 - n + 1) = 1000000000000 - n + 1 := IntWalk.i64_in _ (by omega)
      have HZ1 := Lib.hid (show IntKind.i64.wrap (IntKind.i64.wrap (1000000000000 - n) + 1) = 1000000000000 - n + 1 by rw [s1, s2])
      have HZ2 := Lib.hid s2
      have HZ3 := Lib.hid (show IntKind.i64.wrap (1 + IntKind.i64.wrap (1000000000000 - n)) = 1000000000000 - n + 1 by rw [s1, Int.add_comm, s2])
      clear s1 s2
      by_cases h2 : -1000000000000 ≤ k ∧ k ≤ 1000000000000 - n + 1
      · have HW2 := Lib.hid (fun w hi (hh : hi = 1000000000000 - n + 1) => (by subst hh; have := mwithin_any k (-1000000000000) (1000000000000 - n + 1) w; rw [decide_eq_true h2] at this; exact this : Calls Tryd.prog 25 #[.int .i64 k, .int .i64 (-1000000000000), .int .i64 hi] w fun e w' => e = .returned (.bool true) ∧ w = w'))
        have HH2 := Lib.hid h2
        have HTX2 := Lib.hid (HTX.out HH1.out HH2.out)
        have HTT := Lib.hid (show (Gauge.text ⟨n, k, false⟩).data.toList = gText n k false from rfl)
        clear h2
        generalize Gauge.text ⟨n, k, false⟩ = tx at HTX2 HTT
        by_cases h3 : tx.toList = t.toList
        · have e3 : (tx.toList == t.toList) = true := by simp [h3]
          have e3n : (tx.toList != t.toList) = false := by simp [h3]
          have HF := Lib.hid (show parseG t.data.toList = some (n, k, false) from HPY.out HH1.out (fun _ => HH2.out) (by rw [← HTT.out]; rw [ByteArray.toList_eq, ByteArray.toList_eq] at h3; exact h3))
          have hok : Gauge.ok ⟨n, k, false⟩ := ⟨hn0, hn1, by exact HH2.out.1, by have := HH2.out.2; show k ≤ _; omega⟩
          have HOK := Lib.hid hok
          clear h3 hok
          go_region_held3 (fun w' => w'.cell? ⟨w1.heap.size, 0, none⟩ = some (.int .i64 n) ∧ w'.cell? ⟨w1.heap.size, 1, none⟩ = some (.int .i64 k) ∧ w'.cell? ⟨w1.heap.size, 2, none⟩ = some (.bool false))
            (first | go_keep | exact ⟨below_mem (by assumption) _ _ _ d0, below_mem (by assumption) _ _ _ d1, below_mem (by assumption) _ _ _ d2⟩)
            ((first
              | (go_at_call_of 25 (Value.int .i64 1000000000); refine (HW1.out _).mono ?_; rintro e w' ⟨rfl, rfl⟩)
              | (go_at_call_of 25 (Value.int .i64 k); refine (HW2.out _ _ (by first | rfl | exact HZ1.out | exact HZ2.out | exact HZ3.out)).mono ?_; rintro e w' ⟨rfl, rfl⟩)
              | (go_at_call 8; refine (HTX2.out _ (by first | exact hBd | exact pure_trans hBd (by assumption)) (by first | exact hGd | exact hGd.below (by assumption))).mono ?_; rintro e w4 ⟨rfl, hb4⟩; have hbx : Below w3.drew.heap.size w3.drew w4 := by first | exact hb4 | exact pure_trans (by assumption) hb4)))
          all_goals
            have hGe := hGd.below (by assumption)
            have hBe := pure_trans hBd (by assumption)
            go_wp2
            go_ret2
            exact ParsedAs.good hBe HL.out HF.out (by omega) rfl (hGe.gauge HOK.out)
        · have e3 : (tx.toList == t.toList) = false := by simp [h3]
          have e3n : (tx.toList != t.toList) = true := by simp [h3]
          have H3 := Lib.hid h3
          clear h3
          go_region_held3 (fun w' => w'.cell? ⟨w1.heap.size, 0, none⟩ = some (.int .i64 n) ∧ w'.cell? ⟨w1.heap.size, 1, none⟩ = some (.int .i64 k) ∧ w'.cell? ⟨w1.heap.size, 2, none⟩ = some (.bool false))
            (first | go_keep | exact ⟨below_mem (by assumption) _ _ _ d0, below_mem (by assumption) _ _ _ d1, below_mem (by assumption) _ _ _ d2⟩)
            ((first
              | (go_at_call_of 25 (Value.int .i64 1000000000); refine (HW1.out _).mono ?_; rintro e w' ⟨rfl, rfl⟩)
              | (go_at_call_of 25 (Value.int .i64 k); refine (HW2.out _ _ (by first | rfl | exact HZ1.out | exact HZ2.out | exact HZ3.out)).mono ?_; rintro e w' ⟨rfl, rfl⟩)
              | (go_at_call 8; refine (HTX2.out _ (by first | exact hBd | exact pure_trans hBd (by assumption)) (by first | exact hGd | exact hGd.below (by assumption))).mono ?_; rintro e w4 ⟨rfl, hb4⟩; have hbx : Below w3.drew.heap.size w3.drew w4 := by first | exact hb4 | exact pure_trans (by assumption) hb4)))
          all_goals
            go_wp2
            go_ret2
            exact ParsedAs.bad (by first | exact pure_trans hBd (by assumption) | exact hBd) HL.out (HPN.out (fun h => H3.out (by rw [ByteArray.toList_eq, ByteArray.toList_eq]; exact HTT.out.trans h.2.2))) rfl
      · have HW2 := Lib.hid (fun w hi (hh : hi = 1000000000000 - n + 1) => (by subst hh; have := mwithin_any k (-1000000000000) (1000000000000 - n + 1) w; rw [decide_eq_false h2] at this; exact this : Calls Tryd.prog 25 #[.int .i64 k, .int .i64 (-1000000000000), .int .i64 hi] w fun e w' => e = .returned (.bool false) ∧ w = w'))
        have HH2 := Lib.hid h2
        clear h2
        have q0 : w3.cell? ⟨w1.heap.size, 0, none⟩ = some (.int .i64 n) := d0
        have q1 : w3.cell? ⟨w1.heap.size, 1, none⟩ = some (.int .i64 k) := d1
        have q2 : w3.cell? ⟨w1.heap.size, 2, none⟩ = some (.bool false) := d2
        go_quiet ((first | (go_at_call_of 25 (Value.int .i64 1000000000); exact quiet_eq (HW1.out _)) | (go_at_call_of 25 (Value.int .i64 k); exact quiet_eq (HW2.out _ _ (by first | rfl | exact HZ1.out | exact HZ2.out | exact HZ3.out)))))
        go_wp2
        go_ret2
        exact ParsedAs.bad (below_drewN hB3 _) HL.out (HPN.out (fun h => HH2.out (h.2.1 (by trivial)))) rfl
    · have HW1 := Lib.hid (fun w => (by have := mwithin_any n 0 1000000000 w; rw [decide_eq_false h1] at this; exact this : Calls Tryd.prog 25 #[.int .i64 n, .int .i64 0, .int .i64 1000000000] w fun e w' => e = .returned (.bool false) ∧ w = w'))
      have HH1 := Lib.hid h1
      clear h1
      have q0 : w3.cell? ⟨w1.heap.size, 0, none⟩ = some (.int .i64 n) := d0
      go_quiet ((go_at_call 25; exact quiet_eq (HW1.out _)))
      go_wp2
      go_ret2
      exact ParsedAs.bad (below_drewN hB3 _) HL.out (HPN.out (fun h => HH1.out h.1)) rfl
  · go_wp2_with fail
    refine (HA1.out _ (HBA.out _)).mono ?_
    rintro e w2 ⟨n, ev, rfl, hn64, hev, hnv, hB2⟩
    have hB2' := pure_trans (HBA.out _) hB2
    have hP := HD.out true n 1000000000001 HQ.out (fun b hb hl => (hnv b hb hl).1) (fun h => by cases h) (fun _ => rfl)
    have HPY := Lib.hid hP.1
    have HPN := Lib.hid hP.2
    obtain ⟨c0, c1, c2, fr⟩ := (HG0.out true).below hB2
    have f0 := fr 0
    have hB3 : Below w.heap.size w (w2.setCell ⟨w1.heap.size, 0, none⟩ (.int .i64 n)) := hB2'.setCell (by omega) _
    have hG3 := (GCells.mk c0 c1 c2 fr).set0 n
    clear hP hnv hB2 hB2' HBA HG0 HD HA1 HA2 hev fr hn64
    go_wp2_with fail
    generalize w2.setCell ⟨w1.heap.size, 0, none⟩ (.int .i64 n) = w3 at *
    have hBd := hB3.drew
    have HTX := Lib.hid (fun (h1 : 0 ≤ n ∧ n ≤ 1000000000) wr (h : Below w.heap.size w wr) (hg : GCells wr w1.heap.size n 1000000000001 true) => gtext_any w1.heap.size ⟨n, 1000000000001, true⟩ wr (hg.gauge ⟨h1.1, h1.2, by show _ ≤ (1000000000001 : Int); omega, by show (1000000000001 : Int) ≤ _; omega⟩) (Tryd.tabStays hT h))
    have hGd : GCells w3.drew w1.heap.size n 1000000000001 true := ⟨hG3.c0, hG3.c1, hG3.c2, hG3.fr⟩
    have d0 := hGd.c0
    have d1 := hGd.c1
    have d2 := hGd.c2
    clear c0 c1 c2 f0 hG3
    by_cases h1 : 0 ≤ n ∧ n ≤ 1000000000
    · have HW1 := Lib.hid (fun w => (by have := mwithin_any n 0 1000000000 w; rw [decide_eq_true h1] at this; exact this : Calls Tryd.prog 25 #[.int .i64 n, .int .i64 0, .int .i64 1000000000] w fun e w' => e = .returned (.bool true) ∧ w = w'))
      have HH1 := Lib.hid h1
      obtain ⟨hn0, hn1⟩ := h1
      have HTX2 := Lib.hid (HTX.out HH1.out)
      have HTT := Lib.hid (show (Gauge.text ⟨n, 1000000000001, true⟩).data.toList = gText n 1000000000001 true from rfl)
      generalize Gauge.text ⟨n, 1000000000001, true⟩ = tx at HTX2 HTT
      by_cases h3 : tx.toList = t.toList
      · have e3 : (tx.toList == t.toList) = true := by simp [h3]
        have e3n : (tx.toList != t.toList) = false := by simp [h3]
        have HF := Lib.hid (show parseG t.data.toList = some (n, 1000000000001, true) from HPY.out HH1.out (fun h => by cases h) (by rw [← HTT.out]; rw [ByteArray.toList_eq, ByteArray.toList_eq] at h3; exact h3))
        have hok : Gauge.ok ⟨n, 1000000000001, true⟩ := ⟨hn0, hn1, by show _ ≤ (1000000000001 : Int); omega, by show (1000000000001 : Int) ≤ _; omega⟩
        have HOK := Lib.hid hok
        clear h3 hok
        refine wp_region_any (by kernel_rfl) ?_
        try (change wpAny _ _ _ _ _ _ _ (World.drew _))
        refine wpAny_ready (rs := [0]) (by kernel_rfl) (by simp) ?_
        refine AllReady.cons rfl (fun K hK => ?_) AllReady.nil
        go_simp
        refine hK _ _ ?_
        clear hK K
        refine wpAny_ready (rs := [1]) (by kernel_rfl) (by simp) ?_
        refine AllReady.cons rfl (fun K hK => ?_) AllReady.nil
        go_simp
        refine hK _ _ ?_
        clear hK K
        refine wpAny_ready (rs := [2]) (by kernel_rfl) (by simp) ?_
        refine AllReady.cons rfl (fun K hK => ?_) AllReady.nil
        go_simp
        refine hK _ _ ?_
        clear hK K
        refine wpAny_ready (rs := [3]) (by kernel_rfl) (by simp) ?_
        refine AllReady.cons rfl (fun K hK => ?_) AllReady.nil
        go_simp
        refine hK _ _ ?_
        clear hK K
        refine wpAny_ready (rs := [4]) (by kernel_rfl) (by simp) ?_
        refine AllReady.cons rfl (fun K hK => ?_) AllReady.nil
        go_simp
        refine (HW1.out _).mono ?_
        rintro e w' ⟨rfl, rfl⟩
        refine hK _ _ ?_
        clear hK K
        refine wpAny_ready (rs := [5]) (by kernel_rfl) (by simp) ?_
        refine AllReady.cons rfl (fun K hK => ?_) AllReady.nil
        go_simp
        refine hK _ _ ?_
        clear hK K
        refine wpAny_ready (rs := [6]) (by kernel_rfl) (by simp) ?_
        refine AllReady.cons rfl (fun K hK => ?_) AllReady.nil
        go_simp
        refine hK _ _ ?_
        clear hK K
        refine wpAny_ready (rs := [7]) (by kernel_rfl) (by simp) ?_
        refine AllReady.cons rfl (fun K hK => ?_) AllReady.nil
        go_simp
        refine hK _ _ ?_
        clear hK K
        refine wpAny_ready (rs := [8]) (by kernel_rfl) (by simp) ?_
        refine AllReady.cons rfl (fun K hK => ?_) AllReady.nil
        go_simp
        refine hK _ _ ?_
        clear hK K
        refine wpAny_ready (rs := [9]) (by kernel_rfl) (by simp) ?_
        refine AllReady.cons rfl (fun K hK => ?_) AllReady.nil
        go_simp
        refine hK _ _ ?_
        clear hK K
        refine wpAny_ready (rs := [10]) (by kernel_rfl) (by simp) ?_
        refine AllReady.cons rfl (fun K hK => ?_) AllReady.nil
        go_simp
        refine hK _ _ ?_
        clear hK K
        refine wpAny_ready (rs := [11]) (by kernel_rfl) (by simp) ?_
        refine AllReady.cons rfl (fun K hK => ?_) AllReady.nil
        go_simp
        refine hK _ _ ?_
        clear hK K
        refine wpAny_ready (rs := [12]) (by kernel_rfl) (by simp) ?_
        refine AllReady.cons rfl (fun K hK => ?_) AllReady.nil
        go_simp
        refine hK _ _ ?_
        clear hK K
        refine wpAny_take (i := 13) (v := undef) rfl (by kernel_rfl) (by kernel_rfl) (by kernel_rfl) (fun _ _ _ h => h) (Or.inr ⟨by kernel_rfl, rfl⟩) ?_
        try simp only [Act.put, List.setIfInBounds_toArray, List.set_cons_succ, List.set_cons_zero]
        refine wpAny_take (i := 14) (v := undef) rfl (by kernel_rfl) (by kernel_rfl) (by kernel_rfl) (fun _ _ _ h => h) (Or.inr ⟨by kernel_rfl, rfl⟩) ?_
        try simp only [Act.put, List.setIfInBounds_toArray, List.set_cons_succ, List.set_cons_zero]
        refine wpAny_take (i := 15) (v := undef) rfl (by kernel_rfl) (by kernel_rfl) (by kernel_rfl) (fun _ _ _ h => h) (Or.inr ⟨by kernel_rfl, rfl⟩) ?_
        try simp only [Act.put, List.setIfInBounds_toArray, List.set_cons_succ, List.set_cons_zero]
        refine wpAny_take (i := 16) (v := undef) rfl (by kernel_rfl) (by kernel_rfl) (by kernel_rfl) (fun _ _ _ h => h) (Or.inr ⟨by kernel_rfl, rfl⟩) ?_
        try simp only [Act.put, List.setIfInBounds_toArray, List.set_cons_succ, List.set_cons_zero]
        refine wpAny_take (i := 17) (v := undef) rfl (by kernel_rfl) (by kernel_rfl) (by kernel_rfl) (fun _ _ _ h => h) (Or.inr ⟨by kernel_rfl, rfl⟩) ?_
        try simp only [Act.put, List.setIfInBounds_toArray, List.set_cons_succ, List.set_cons_zero]
        refine wpAny_take (i := 18) (v := undef) rfl (by kernel_rfl) (by kernel_rfl) (by kernel_rfl) (fun _ _ _ h => h) (Or.inr ⟨by kernel_rfl, rfl⟩) ?_
        try simp only [Act.put, List.setIfInBounds_toArray, List.set_cons_succ, List.set_cons_zero]
        refine wpAny_take (i := 19) (v := undef) rfl (by kernel_rfl) (by kernel_rfl) (by kernel_rfl) (fun _ _ _ h => h) (Or.inr ⟨by kernel_rfl, rfl⟩) ?_
        try simp only [Act.put, List.setIfInBounds_toArray, List.set_cons_succ, List.set_cons_zero]
        refine wpAny_take (i := 20) (v := undef) rfl (by kernel_rfl) (by kernel_rfl) (by kernel_rfl) (fun _ _ _ h => h) (Or.inr ⟨by kernel_rfl, rfl⟩) ?_
        try simp only [Act.put, List.setIfInBounds_toArray, List.set_cons_succ, List.set_cons_zero]
        refine wpAny_take (i := 21) (v := undef) rfl (by kernel_rfl) (by kernel_rfl) (by kernel_rfl) (fun _ _ _ h => h) (Or.inr ⟨by kernel_rfl, rfl⟩) ?_
        try simp only [Act.put, List.setIfInBounds_toArray, List.set_cons_succ, List.set_cons_zero]
        refine wpAny_take (i := 22) (v := undef) rfl (by kernel_rfl) (by kernel_rfl) (by kernel_rfl) (fun _ _ _ h => h) (Or.inr ⟨by kernel_rfl, rfl⟩) ?_
        try simp only [Act.put, List.setIfInBounds_toArray, List.set_cons_succ, List.set_cons_zero]
        refine wpAny_take (i := 23) (v := undef) rfl (by kernel_rfl) (by kernel_rfl) (by kernel_rfl) (fun _ _ _ h => h) (Or.inr ⟨by kernel_rfl, rfl⟩) ?_
        try simp only [Act.put, List.setIfInBounds_toArray, List.set_cons_succ, List.set_cons_zero]
        refine wpAny_take (i := 24) (v := undef) rfl (by kernel_rfl) (by kernel_rfl) (by kernel_rfl) (fun _ _ _ h => h) (Or.inr ⟨by kernel_rfl, rfl⟩) ?_
        try simp only [Act.put, List.setIfInBounds_toArray, List.set_cons_succ, List.set_cons_zero]
        refine wpAny_ready (rs := [25]) (by kernel_rfl) (by simp) ?_
        refine AllReady.cons rfl (fun K hK => ?_) AllReady.nil
        go_simp
        refine hK _ _ ?_
        clear hK K
        refine wpAny_ready (rs := [26]) (by kernel_rfl) (by simp) ?_
        refine AllReady.cons rfl (fun K hK => ?_) AllReady.nil
        go_simp
        refine hK _ _ ?_
        clear hK K
        refine wpAny_ready (rs := [27]) (by kernel_rfl) (by simp) ?_
        refine AllReady.cons rfl (fun K hK => ?_) AllReady.nil
        go_simp
        refine hK _ _ ?_
        clear hK K
        refine wpAny_take (i := 28) (v := .pointer (some ⟨w1.heap.size, 0, none⟩)) rfl (by kernel_rfl) (by kernel_rfl) (by kernel_rfl) (fun _ _ _ h => h) (Or.inl ⟨by kernel_rfl, fun w => by go_simp⟩) ?_
        try simp only [Act.put, List.setIfInBounds_toArray, List.set_cons_succ, List.set_cons_zero]
        refine wpAny_take (i := 30) (v := .string t) rfl (by kernel_rfl) (by kernel_rfl) (by kernel_rfl) (fun _ _ _ h => h) (Or.inl ⟨by kernel_rfl, fun w => by go_simp⟩) ?_
        try simp only [Act.put, List.setIfInBounds_toArray, List.set_cons_succ, List.set_cons_zero]
        refine wpAny_ready (rs := [29]) (by kernel_rfl) (by simp) ?_
        refine AllReady.cons rfl (fun K hK => ?_) AllReady.nil
        go_simp
        refine (HTX2.out _ hBd hGd).mono ?_
        rintro e w4 ⟨rfl, hb4⟩
        refine hK _ _ ?_
        clear hK K
        refine wpAny_ready (rs := [31]) (by kernel_rfl) (by simp) ?_
        refine AllReady.cons rfl (fun K hK => ?_) AllReady.nil
        go_simp
        refine hK _ _ ?_
        clear hK K
        refine wpAny_ready (rs := [32]) (by kernel_rfl) (by simp) ?_
        refine AllReady.cons rfl (fun K hK => ?_) AllReady.nil
        go_simp
        refine hK _ _ ?_
        clear hK K
        refine wpAny_done (by kernel_rfl) ?_ _
        all_goals
          have hGe := hGd.below hb4
          have hBe := pure_trans hBd hb4
          go_wp2
          go_ret2
          exact ParsedAs.good hBe HL.out HF.out (by omega) rfl (hGe.gauge HOK.out)
      · have e3 : (tx.toList == t.toList) = false := by simp [h3]
        have e3n : (tx.toList != t.toList) = true := by simp [h3]
        have H3 := Lib.hid h3
        clear h3
        refine wp_region_any (by kernel_rfl) ?_
        try (change wpAny _ _ _ _ _ _ _ (World.drew _))
        refine wpAny_ready (rs := [0]) (by kernel_rfl) (by simp) ?_
        refine AllReady.cons rfl (fun K hK => ?_) AllReady.nil
        go_simp
        refine hK _ _ ?_
        clear hK K
        refine wpAny_ready (rs := [1]) (by kernel_rfl) (by simp) ?_
        refine AllReady.cons rfl (fun K hK => ?_) AllReady.nil
        go_simp
        refine hK _ _ ?_
        clear hK K
        refine wpAny_ready (rs := [2]) (by kernel_rfl) (by simp) ?_
        refine AllReady.cons rfl (fun K hK => ?_) AllReady.nil
        go_simp
        refine hK _ _ ?_
        clear hK K
        refine wpAny_ready (rs := [3]) (by kernel_rfl) (by simp) ?_
        refine AllReady.cons rfl (fun K hK => ?_) AllReady.nil
        go_simp
        refine hK _ _ ?_
        clear hK K
        refine wpAny_ready (rs := [4]) (by kernel_rfl) (by simp) ?_
        refine AllReady.cons rfl (fun K hK => ?_) AllReady.nil
        go_simp
        refine (HW1.out _).mono ?_
        rintro e w' ⟨rfl, rfl⟩
        refine hK _ _ ?_
        clear hK K
        refine wpAny_ready (rs := [5]) (by kernel_rfl) (by simp) ?_
        refine AllReady.cons rfl (fun K hK => ?_) AllReady.nil
        go_simp
        refine hK _ _ ?_
        clear hK K
        refine wpAny_ready (rs := [6]) (by kernel_rfl) (by simp) ?_
        refine AllReady.cons rfl (fun K hK => ?_) AllReady.nil
        go_simp
        refine hK _ _ ?_
        clear hK K
        refine wpAny_ready (rs := [7]) (by kernel_rfl) (by simp) ?_
        refine AllReady.cons rfl (fun K hK => ?_) AllReady.nil
        go_simp
        refine hK _ _ ?_
        clear hK K
        refine wpAny_ready (rs := [8]) (by kernel_rfl) (by simp) ?_
        refine AllReady.cons rfl (fun K hK => ?_) AllReady.nil
        go_simp
        refine hK _ _ ?_
        clear hK K
        refine wpAny_ready (rs := [9]) (by kernel_rfl) (by simp) ?_
        refine AllReady.cons rfl (fun K hK => ?_) AllReady.nil
        go_simp
        refine hK _ _ ?_
        clear hK K
        refine wpAny_ready (rs := [10]) (by kernel_rfl) (by simp) ?_
        refine AllReady.cons rfl (fun K hK => ?_) AllReady.nil
        go_simp
        refine hK _ _ ?_
        clear hK K
        refine wpAny_ready (rs := [11]) (by kernel_rfl) (by simp) ?_
        refine AllReady.cons rfl (fun K hK => ?_) AllReady.nil
        go_simp
        refine hK _ _ ?_
        clear hK K
        refine wpAny_ready (rs := [12]) (by kernel_rfl) (by simp) ?_
        refine AllReady.cons rfl (fun K hK => ?_) AllReady.nil
        go_simp
        refine hK _ _ ?_
        clear hK K
        refine wpAny_take (i := 13) (v := undef) rfl (by kernel_rfl) (by kernel_rfl) (by kernel_rfl) (fun _ _ _ h => h) (Or.inr ⟨by kernel_rfl, rfl⟩) ?_
        try simp only [Act.put, List.setIfInBounds_toArray, List.set_cons_succ, List.set_cons_zero]
        refine wpAny_take (i := 14) (v := undef) rfl (by kernel_rfl) (by kernel_rfl) (by kernel_rfl) (fun _ _ _ h => h) (Or.inr ⟨by kernel_rfl, rfl⟩) ?_
        try simp only [Act.put, List.setIfInBounds_toArray, List.set_cons_succ, List.set_cons_zero]
        refine wpAny_take (i := 15) (v := undef) rfl (by kernel_rfl) (by kernel_rfl) (by kernel_rfl) (fun _ _ _ h => h) (Or.inr ⟨by kernel_rfl, rfl⟩) ?_
        try simp only [Act.put, List.setIfInBounds_toArray, List.set_cons_succ, List.set_cons_zero]
        refine wpAny_take (i := 16) (v := undef) rfl (by kernel_rfl) (by kernel_rfl) (by kernel_rfl) (fun _ _ _ h => h) (Or.inr ⟨by kernel_rfl, rfl⟩) ?_
        try simp only [Act.put, List.setIfInBounds_toArray, List.set_cons_succ, List.set_cons_zero]
        refine wpAny_take (i := 17) (v := undef) rfl (by kernel_rfl) (by kernel_rfl) (by kernel_rfl) (fun _ _ _ h => h) (Or.inr ⟨by kernel_rfl, rfl⟩) ?_
        try simp only [Act.put, List.setIfInBounds_toArray, List.set_cons_succ, List.set_cons_zero]
        refine wpAny_take (i := 18) (v := undef) rfl (by kernel_rfl) (by kernel_rfl) (by kernel_rfl) (fun _ _ _ h => h) (Or.inr ⟨by kernel_rfl, rfl⟩) ?_
        try simp only [Act.put, List.setIfInBounds_toArray, List.set_cons_succ, List.set_cons_zero]
        refine wpAny_take (i := 19) (v := undef) rfl (by kernel_rfl) (by kernel_rfl) (by kernel_rfl) (fun _ _ _ h => h) (Or.inr ⟨by kernel_rfl, rfl⟩) ?_
        try simp only [Act.put, List.setIfInBounds_toArray, List.set_cons_succ, List.set_cons_zero]
        refine wpAny_take (i := 20) (v := undef) rfl (by kernel_rfl) (by kernel_rfl) (by kernel_rfl) (fun _ _ _ h => h) (Or.inr ⟨by kernel_rfl, rfl⟩) ?_
        try simp only [Act.put, List.setIfInBounds_toArray, List.set_cons_succ, List.set_cons_zero]
        refine wpAny_take (i := 21) (v := undef) rfl (by kernel_rfl) (by kernel_rfl) (by kernel_rfl) (fun _ _ _ h => h) (Or.inr ⟨by kernel_rfl, rfl⟩) ?_
        try simp only [Act.put, List.setIfInBounds_toArray, List.set_cons_succ, List.set_cons_zero]
        refine wpAny_take (i := 22) (v := undef) rfl (by kernel_rfl) (by kernel_rfl) (by kernel_rfl) (fun _ _ _ h => h) (Or.inr ⟨by kernel_rfl, rfl⟩) ?_
        try simp only [Act.put, List.setIfInBounds_toArray, List.set_cons_succ, List.set_cons_zero]
        refine wpAny_take (i := 23) (v := undef) rfl (by kernel_rfl) (by kernel_rfl) (by kernel_rfl) (fun _ _ _ h => h) (Or.inr ⟨by kernel_rfl, rfl⟩) ?_
        try simp only [Act.put, List.setIfInBounds_toArray, List.set_cons_succ, List.set_cons_zero]
        refine wpAny_take (i := 24) (v := undef) rfl (by kernel_rfl) (by kernel_rfl) (by kernel_rfl) (fun _ _ _ h => h) (Or.inr ⟨by kernel_rfl, rfl⟩) ?_
        try simp only [Act.put, List.setIfInBounds_toArray, List.set_cons_succ, List.set_cons_zero]
        refine wpAny_ready (rs := [25]) (by kernel_rfl) (by simp) ?_
        refine AllReady.cons rfl (fun K hK => ?_) AllReady.nil
        go_simp
        refine hK _ _ ?_
        clear hK K
        refine wpAny_ready (rs := [26]) (by kernel_rfl) (by simp) ?_
        refine AllReady.cons rfl (fun K hK => ?_) AllReady.nil
        go_simp
        refine hK _ _ ?_
        clear hK K
        refine wpAny_ready (rs := [27]) (by kernel_rfl) (by simp) ?_
        refine AllReady.cons rfl (fun K hK => ?_) AllReady.nil
        go_simp
        refine hK _ _ ?_
        clear hK K
        refine wpAny_take (i := 28) (v := .pointer (some ⟨w1.heap.size, 0, none⟩)) rfl (by kernel_rfl) (by kernel_rfl) (by kernel_rfl) (fun _ _ _ h => h) (Or.inl ⟨by kernel_rfl, fun w => by go_simp⟩) ?_
        try simp only [Act.put, List.setIfInBounds_toArray, List.set_cons_succ, List.set_cons_zero]
        refine wpAny_take (i := 30) (v := .string t) rfl (by kernel_rfl) (by kernel_rfl) (by kernel_rfl) (fun _ _ _ h => h) (Or.inl ⟨by kernel_rfl, fun w => by go_simp⟩) ?_
        try simp only [Act.put, List.setIfInBounds_toArray, List.set_cons_succ, List.set_cons_zero]
        refine wpAny_ready (rs := [29]) (by kernel_rfl) (by simp) ?_
        refine AllReady.cons rfl (fun K hK => ?_) AllReady.nil
        go_simp
        refine (HTX2.out _ hBd hGd).mono ?_
        rintro e w4 ⟨rfl, hb4⟩
        refine hK _ _ ?_
        clear hK K
        refine wpAny_ready (rs := [31]) (by kernel_rfl) (by simp) ?_
        refine AllReady.cons rfl (fun K hK => ?_) AllReady.nil
        go_simp
        refine hK _ _ ?_
        clear hK K
        refine wpAny_ready (rs := [32]) (by kernel_rfl) (by simp) ?_
        refine AllReady.cons rfl (fun K hK => ?_) AllReady.nil
        go_simp
        refine hK _ _ ?_
        clear hK K
        refine wpAny_done (by kernel_rfl) ?_ _
        all_goals
          go_wp2
          go_ret2
          exact ParsedAs.bad (by first | exact pure_trans hBd (by assumption) | exact hBd) HL.out (HPN.out (fun h => H3.out (by rw [ByteArray.toList_eq, ByteArray.toList_eq]; exact HTT.out.trans h.2.2))) rfl
    · have HW1 := Lib.hid (fun w => (by have := mwithin_any n 0 1000000000 w; rw [decide_eq_false h1] at this; exact this : Calls Tryd.prog 25 #[.int .i64 n, .int .i64 0, .int .i64 1000000000] w fun e w' => e = .returned (.bool false) ∧ w = w'))
      have HH1 := Lib.hid h1
      clear h1
      have q0 : w3.cell? ⟨w1.heap.size, 0, none⟩ = some (.int .i64 n) := d0
      go_quiet ((go_at_call 25; exact quiet_eq (HW1.out _)))
      go_wp2
      go_ret2
      exact ParsedAs.bad (below_drewN hB3 _) HL.out (HPN.out (fun h => HH1.out h.1)) rfl
end Go.Proofs.YtfoocifhifpbdaaDoor
