/- The statement WireRunsSaid: for every input the law WireRuns returns true and leaves its arguments as they were. -/
import Derived.Deep.RegionHeld3
import Derived.Test.YtfkphdmnelchmaaWc10
set_option linter.unusedVariables false
set_option linter.unusedSimpArgs false
/- Reference chapter 12's helpers: SameInts, Has, Sorted. -/
namespace Go.Proofs.Ytfkphdmnelchmaa
open Go.RowKit

set_option maxHeartbeats 1000000 in
theorem sameInts_any (xs ys : List Int) (u v : Value) (w : World) (hu : (tSlice tInt).rv (mem w) [u] xs) (hv : (tSlice tInt).rv (mem w) [v] ys) :
    Calls Try.prog 13 #[u, v] w fun e w' => e = .returned (.bool (decide (xs = ys))) ∧ Below w.heap.size w w' := by
  obtain ⟨a, cap, rfl, hl, hm, hu⟩ := slice_form hu
  obtain ⟨b, cap', rfl, hl', hm', hv⟩ := slice_form hv
  have hcap : cap ≤ 9223372036854775807 := by unfold maxLen at hm; exact hm
  have hcap' : cap' ≤ 9223372036854775807 := by unfold maxLen at hm'; exact hm'
  clear hm hm'
  by_cases hn : xs.length = ys.length
  · have hne : ((xs.length : Int) != (ys.length : Int)) = false := by simp [hn]
    have HN := Lib.hid hn
    have hle : ys.length ≤ xs.length := by omega
    have hle' : xs.length ≤ ys.length := by omega
    clear hn
    go_enter Try.func13, Try.ntmps13
    go_wp2
    go_loopw [5] (fun i wr => ∃ k : Nat, k ≤ xs.length ∧ i = .int .i64 k ∧ Hid (xs.take k = ys.take k) ∧ Below w.heap.size w wr) (fun i _ => xs.length - (intOf i).toNat)
    case atStart => exact ⟨0, by omega, rfl, Lib.hid rfl, Below.refl _ _⟩
    case round =>
      obtain ⟨k, hk, rfl, HT, hB⟩ := hrel
      by_cases hlt : k < xs.length
      · obtain ⟨b1, o1, rfl, hat⟩ := slice_at (t := tInt) hu hlt
        obtain ⟨b2, o2, rfl, hat2⟩ := slice_at (t := tInt) hv (show k < ys.length by omega)
        obtain ⟨hc, hin⟩ := int_at hat
        obtain ⟨hc2, hin2⟩ := int_at hat2
        have hc' : wr.cell? ⟨b1, o1 + k, none⟩ = some (.int .i64 xs[k]) := by
          have := (mem_of_block (hB.block b1 (mem_lt hc)) _).trans hc
          simpa [tInt, mem] using this
        have hc2' : wr.cell? ⟨b2, o2 + k, none⟩ = some (.int .i64 (ys[k]'(by omega))) := by
          have := (mem_of_block (hB.block b2 (mem_lt hc2)) _).trans hc2
          simpa [tInt, mem] using this
        have hlty : k < ys.length := by omega
        have HTx := Lib.hid (List.take_succ_eq_append_getElem hlt)
        have HTy := Lib.hid (List.take_succ_eq_append_getElem hlty)
        have HX := Lib.hid (show xs[k]? = some xs[k] from List.getElem?_eq_getElem hlt)
        have HY := Lib.hid (show ys[k]? = some ys[k] from List.getElem?_eq_getElem hlty)
        clear hc hc2 hat hat2 hu hv hin hin2
        generalize xs[k] = p at hc' HTx HX
        generalize ys[k]'hlty = q at hc2' HTy HY
        by_cases hpq : p = q
        · have hb : (p != q) = false := by simp [hpq]
          have HP := Lib.hid hpq
          clear hpq
          go_wp2
          go_region
          go_wp2
          go_roundw
          case rel => exact ⟨k + 1, by omega, by go_num, Lib.hid (by rw [HTx.out, HTy.out, HT.out, HP.out]), below_drewN hB _⟩
          case measure => simp [intOf]; omega
        · have hb : (p != q) = true := by simp [hpq]
          have HD := Lib.hid (show decide (xs = ys) = false by
            simp only [decide_eq_false_iff_not]
            intro e
            have h1 := HX.out; have h2 := HY.out
            rw [e, h2] at h1
            exact hpq (Option.some.inj h1).symm)
          clear hpq
          go_wp2
          go_region
          go_wp2
          go_ret
          exact ⟨by rw [HD.out]; rfl, below_drewN hB _⟩
      · obtain rfl : k = xs.length := by omega
        have HD := Lib.hid (show decide (xs = ys) = true by
          have := HT.out
          rw [List.take_length, List.take_of_length_le (by omega)] at this
          simpa using this)
        go_wp2
        go_ret
        exact ⟨by rw [HD.out]; rfl, hB⟩
  · have hne : ((xs.length : Int) != (ys.length : Int)) = true := by simp; omega
    have HD := Lib.hid (show decide (xs = ys) = false by simp only [decide_eq_false_iff_not]; intro e; exact hn (by rw [e]))
    clear hn
    go_enter Try.func13, Try.ntmps13
    go_wp2
    go_ret
    exact ⟨by rw [HD.out]; rfl, Below.refl _ _⟩

set_option maxHeartbeats 1000000 in
theorem has_any (xs : List Int) (u : Value) (x : Int) (w : World) (hu : (tSlice tInt).rv (mem w) [u] xs) (hx : inI64 x) :
    Calls Try.prog 44 #[u, .int .i64 x] w fun e w' => e = .returned (.bool (decide (x ∈ xs))) ∧ Below w.heap.size w w' := by
  obtain ⟨a, cap, rfl, hl, hm, hu⟩ := slice_form hu
  have hcap : cap ≤ 9223372036854775807 := by unfold maxLen at hm; exact hm
  clear hm
  have HU := Lib.hid hu
  clear hu
  go_enter Try.func44, Try.ntmps44
  go_wp2
  go_loopw [5] (fun i wr => ∃ k : Nat, k ≤ xs.length ∧ i = .int .i64 k ∧ Hid (x ∉ xs.take k) ∧ Below w.heap.size w wr) (fun i _ => xs.length - (intOf i).toNat)
  case atStart => exact ⟨0, by omega, rfl, Lib.hid (by simp), Below.refl _ _⟩
  case round =>
    obtain ⟨k, hk, rfl, HT, hB⟩ := hrel
    by_cases hlt : k < xs.length
    · obtain ⟨b1, o1, rfl, hat⟩ := slice_at (t := tInt) HU.out hlt
      obtain ⟨hc, hin⟩ := int_at hat
      have hc' : wr.cell? ⟨b1, o1 + k, none⟩ = some (.int .i64 xs[k]) := by
        have := (mem_of_block (hB.block b1 (mem_lt hc)) _).trans hc
        simpa [tInt, mem] using this
      have HTx := Lib.hid (List.take_succ_eq_append_getElem hlt)
      have HX := Lib.hid (List.getElem_mem hlt)
      clear hc hat
      generalize xs[k] = p at hc' HTx HX hin
      by_cases hpq : p = x
      · subst hpq
        have HD := Lib.hid (show decide (p ∈ xs) = true by simpa using HX.out)
        go_wp2
        go_ret
        exact ⟨by rw [HD.out]; rfl, hB⟩
      · have hb : (p == x) = false := by simp [hpq]
        have HP := Lib.hid hpq
        clear hpq
        go_wp2
        go_roundw
        case rel => exact ⟨k + 1, by omega, by go_num, Lib.hid (by rw [HTx.out]; intro h; rcases List.mem_append.1 h with h | h; exact HT.out h; exact HP.out (List.mem_singleton.1 h).symm), hB⟩
        case measure => simp [intOf]; omega
    · obtain rfl : k = xs.length := by omega
      have HD := Lib.hid (show decide (x ∈ xs) = false by
        have := HT.out
        rw [List.take_length] at this
        simpa using this)
      go_wp2
      go_ret
      exact ⟨by rw [HD.out]; rfl, hB⟩
end Go.Proofs.Ytfkphdmnelchmaa
/- The law's 'same': a wire tells what the reference's wire tells. -/
namespace Go.Proofs.Ytfkphdmnelchmaa
open Go.RowKit Go.Maps

theorem rway_sorted {r : Raw} {ah : List El} {ps : List PK} {m : Nat} (h : Sim r ah ps m) : SortedKeys r.way (rway (refOf r ah ps)) := by
  have hp : (ps.map (·.num)).Pairwise (· < ·) := by
    rw [List.pairwise_iff_getElem]
    intro i j hi hj hij
    simp only [List.getElem_map]
    simp only [List.length_map] at hi hj
    rw [h.num i hi, h.num j hj]
    omega
  have hf : rway (refOf r ah ps) = (ps.filter (fun p => !p.dl)).map (·.num) := by
    unfold rway refOf
    simp only [List.filter_map, List.map_map]
    rfl
  have hp2 : ((ps.filter (fun p => !p.dl)).map (·.num)).Pairwise (· < ·) := hp.sublist (List.Sublist.map _ (List.filter_sublist))
  rw [hf]
  refine ⟨fun k => ?_, hp2.imp (fun h => by omega), hp2.imp (fun h => by omega)⟩
  rw [List.mem_map]
  constructor
  · rintro ⟨p, hp, rfl⟩
    obtain ⟨h1, h2⟩ := List.mem_filter.1 hp
    rw [(h.way p.num p.ad).2 ⟨p, h1, rfl, rfl, by simpa using h2⟩]; rfl
  · intro hk
    obtain ⟨a, ha⟩ := Option.isSome_iff_exists.1 hk
    obtain ⟨p, h1, h2, h3, h4⟩ := (h.way k a).1 ha
    exact ⟨p, List.mem_filter.2 ⟨h1, by rw [h4]; rfl⟩, h2⟩
theorem spill_ref (q room : Int) : max 0 (q - room) = spillR q room := by unfold spillR; split <;> omega
theorem below2 {w0 w1 w2 : World} (h : Below w0.heap.size w0 w1) (k : Below w1.heap.size w1 w2) : Below w0.heap.size w0 w2 := pure_trans h k

theorem same_ints (xs : List Int) (u v : Value) (w : World) (hu : (tSlice tInt).rv (mem w) [u] xs) (hv : (tSlice tInt).rv (mem w) [v] xs) : Calls Try.prog 13 #[u, v] w fun e w' => e = .returned (.bool true) ∧ Below w.heap.size w w' :=
  (sameInts_any xs xs u v w hu hv).mono fun e w' ⟨he, hb⟩ => ⟨by rw [he, decide_eq_true rfl], hb⟩

set_option maxRecDepth 100000 in
set_option maxHeartbeats 8000000 in
theorem same_any {c : Int} {base b m N : Nat} {M : Mem} {W : World} {r : Raw} {ah : List El} {ps : List PK} {F : Nat → Prop} {a q p : Value} (h : St base b W r N M F) (so : Sound c N r ah ps m) (rf : RwAt M (refOf r ah ps) a q p) (hN : N ≤ 500000) (hk : r.count ≤ 2000) :
    Calls Try.prog 34 #[.pointer (some ⟨b, 0, none⟩), wV (refOf r ah ps) a q p] W fun e W' => e = .returned (.bool true) ∧ Below W.heap.size W W' := by
  have hcn := so.cnt0
  have hF := so.fine (by omega)
  have hrc := so.rcnt
  have hpl : (refOf r ah ps).pk.length ≤ 100 := by
    have h1 := so.cr; have h2 := so.c0; have h3 := so.c1
    show (ps.map _).length ≤ 100
    rw [List.length_map]; omega
  have hql : (refOf r ah ps).queue.length ≤ 4000 := by
    have : r.queue.length ≤ (contentsOf r ah ps).length := by unfold contentsOf; simp; omega
    show r.queue.length ≤ 4000
    omega
  have HCO := Lib.hid (fun (wq : World) (hb : Below W.heap.size W wq) => st_contents (h.pure hb) so hN)
  have HWY := Lib.hid (fun (wq : World) (hb : Below W.heap.size W wq) => (st_way (h.pure hb) (by omega)).mono (R' := fun e W' => ∃ v, e = .returned v ∧ (tSlice tInt).rv ((mem W').on (wq.heap.size ≤ ·)) [v] (rway (refOf r ah ps)) ∧ Below wq.heap.size wq W') fun e W' ⟨v, ss, a1, a2, a3, a4⟩ => ⟨v, a1, by rw [← SortedKeys.unique a3 (rway_sorted so.toSim)]; exact a2, a4⟩)
  have HRC := Lib.hid (fun (wq : World) (hb : Below W.heap.size W wq) => (refContents_any (refOf r ah ps) a q p M wq (Mem.le_trans h.mem (below_mem hb)) rf (by omega)).mono (R' := fun e W' => ∃ v, e = .returned v ∧ tEls.rv (mem W') [v] (contentsOf r ah ps) ∧ Below wq.heap.size wq W') fun e W' ⟨v, a1, a2, a3, a4⟩ => ⟨v, a1, by rw [← rcont_ref]; exact slice_in (a2.rv' (tIn_flat _ _)) (Mem.le_trans (Mem.le_trans h.mem (below_mem hb)) (below_mem a4)), a4⟩)
  have HRW := Lib.hid (fun (wq : World) (hb : Below W.heap.size W wq) => refWay_any (refOf r ah ps) a q p M wq (Mem.le_trans h.mem (below_mem hb)) rf (by omega))
  have HWA := Lib.hid (fun (wq : World) (hb : Below W.heap.size W wq) => st_waits (h.pure hb))
  have HRA := Lib.hid (fun (wq : World) (hb : Below W.heap.size W wq) => (refWaits_any (refOf r ah ps) a q p M wq (Mem.le_trans h.mem (below_mem hb)) rf).mono (R' := fun e W' => e = .returned (.bool (decide (0 < r.queue.length) && decide (r.credits = 0))) ∧ Below wq.heap.size wq W') fun e W' ⟨a1, a2⟩ => ⟨a1, a2⟩)
  have HQU := Lib.hid (fun (wq : World) (hb : Below W.heap.size W wq) => (st_queue (h.pure hb)).mono (R' := fun e W' => e = .returned (.int .i64 (refOf r ah ps).queue.length) ∧ W' = wq) fun e W' ⟨a1, a2⟩ => ⟨a1, a2⟩)
  have HBU := Lib.hid (fun (wq : World) (hb : Below W.heap.size W wq) => (st_buffer (h.pure hb)).mono (R' := fun e W' => e = .returned (.int .i64 (rbuf (refOf r ah ps)).length) ∧ W' = wq) fun e W' ⟨a1, a2⟩ => ⟨by rw [rbuf_ref so.toSim, List.length_map]; exact a1, a2⟩)
  have HRB := Lib.hid (fun (wq : World) (hb : Below W.heap.size W wq) => (refBuffered_any (refOf r ah ps) a q p M wq (Mem.le_trans h.mem (below_mem hb)) rf (by omega)).mono (R' := fun e W' => ∃ ad cp, e = .returned (.slice ad (rbuf (refOf r ah ps)).length cp) ∧ cp ≤ 9223372036854775807 ∧ Below wq.heap.size wq W') fun e W' ⟨v, a1, a2, a3, a4⟩ => by
    obtain ⟨ad, cp, rfl, _, hcp⟩ := a2.form
    exact ⟨ad, cp, a1, by unfold maxLen at hcp; exact hcp, a4⟩)
  have HCR := Lib.hid (fun (wq : World) (hb : Below W.heap.size W wq) => (st_credits (h.pure hb)).mono (R' := fun e W' => e = .returned (.int .i64 (refOf r ah ps).credits) ∧ W' = wq) fun e W' ⟨a1, a2⟩ => ⟨a1, a2⟩)
  have HSP := Lib.hid (fun (wq : World) (hb : Below W.heap.size W wq) => (st_spilled (h.pure hb) hF).mono (R' := fun e W' => e = .returned (.int .i64 (spillR (refOf r ah ps).queue.length (refOf r ah ps).room)) ∧ Below wq.heap.size wq W') fun e W' ⟨a1, n, a2⟩ => ⟨by rw [← spill_ref]; exact a1, by rw [a2]; exact ⟨rfl, rfl, rfl, Nat.le_refl _, fun _ _ => rfl⟩⟩)
  have HRS := Lib.hid (fun (wq : World) (hb : Below W.heap.size W wq) => refSpilled_any (refOf r ah ps) a q p M wq (Mem.le_trans h.mem (below_mem hb)) rf (by have := so.rm; show 0 ≤ r.room ∧ r.room ≤ 1000000; omega) (by omega))
  generalize (decide (0 < r.queue.length) && decide (r.credits = 0)) = B at *
  generalize contentsOf r ah ps = C at *
  generalize refOf r ah ps = w at *
  generalize spillR w.queue.length w.room = sp at *
  generalize rway w = ways at *
  obtain ⟨aa, ca, rfl, _, hma, _⟩ := slice_form rf.ha
  obtain ⟨aq, cq, rfl, _, hmq, _⟩ := slice_form rf.hq
  obtain ⟨ap, cp, rfl, _, hmp, _⟩ := slice_form rf.hp
  have hca : ca ≤ 9223372036854775807 := by unfold maxLen at hma; exact hma
  have hcq : cq ≤ 9223372036854775807 := by unfold maxLen at hmq; exact hmq
  have hcp : cp ≤ 9223372036854775807 := by unfold maxLen at hmp; exact hmp
  have HB0 := Lib.hid ((Below.refl W.heap.size W).alloc (Nat.le_refl _) (.cells #[.int .i64 w.size, .int .i64 w.room, .int .i64 w.credits, .int .i64 w.next, .slice aa w.ahead.length ca, .slice aq w.queue.length cq, .slice ap w.pk.length cp] 56))
  have HY := Lib.hid (heap_alloc_new W (.cells #[.int .i64 w.size, .int .i64 w.room, .int .i64 w.credits, .int .i64 w.next, .slice aa w.ahead.length ca, .slice aq w.queue.length cq, .slice ap w.pk.length cp] 56))
  clear h so rf hma hmq hmp hcn hrc hF hpl hql hk
  go_enter Try.func34, Try.ntmps34
  go_wp2_with fail
  refine (HCO.out _ HB0.out).mono ?_
  rintro e w2 ⟨v5, rfl, hb2, hr5⟩
  obtain ⟨a5, c5, rfl, _, hm5, _⟩ := slice_form hr5
  have hc5 : c5 ≤ 9223372036854775807 := by unfold maxLen at hm5; exact hm5
  have HR5 := Lib.hid (fun (wq : World) (hb : Below w2.heap.size w2 wq) => tEls.mono _ _ _ _ (Mem.le_trans (Mem.on_le _ _) (below_mem hb)) hr5)
  have HB2 := Lib.hid (below2 HB0.out hb2)
  have HZ := Lib.hid (fun (wq : World) (hb : Below w2.heap.size w2 wq) => below2 HB2.out hb)
  have HS := Lib.hid (fun (wq : World) (hb : Below w2.heap.size w2 wq) => (show wq.cell? ⟨W.heap.size, 0, none⟩ = some (.int .i64 w.size) ∧ wq.cell? ⟨W.heap.size, 1, none⟩ = some (.int .i64 w.room) ∧ wq.cell? ⟨W.heap.size, 2, none⟩ = some (.int .i64 w.credits) ∧ wq.cell? ⟨W.heap.size, 3, none⟩ = some (.int .i64 w.next) ∧ wq.cell? ⟨W.heap.size, 4, none⟩ = some (.slice aa w.ahead.length ca) ∧ wq.cell? ⟨W.heap.size, 5, none⟩ = some (.slice aq w.queue.length cq) ∧ wq.cell? ⟨W.heap.size, 6, none⟩ = some (.slice ap w.pk.length cp) from by
    have hs2 := hb2.size
    rw [World.size_alloc] at hs2
    have hy := (hb.block W.heap.size (by omega)).trans ((hb2.block W.heap.size (by rw [World.size_alloc]; omega)).trans HY.out)
    exact ⟨mem_cells hy 0, mem_cells hy 1, mem_cells hy 2, mem_cells hy 3, mem_cells hy 4, mem_cells hy 5, mem_cells hy 6⟩))
  clear hb2 hr5 hm5 HB0 HY HB2 HCO
  go_upto_region 2 with fail
  have hz0 : Below w2.heap.size w2 w2.drew := (Below.refl _ _).drew
  have s0 := HS.out _ hz0
  go_region_held3 (fun w' => w'.cell? ⟨W.heap.size, 0, none⟩ = some (.int .i64 w.size) ∧ w'.cell? ⟨W.heap.size, 1, none⟩ = some (.int .i64 w.room) ∧ w'.cell? ⟨W.heap.size, 2, none⟩ = some (.int .i64 w.credits) ∧ w'.cell? ⟨W.heap.size, 3, none⟩ = some (.int .i64 w.next) ∧ w'.cell? ⟨W.heap.size, 4, none⟩ = some (.slice aa w.ahead.length ca) ∧ w'.cell? ⟨W.heap.size, 5, none⟩ = some (.slice aq w.queue.length cq) ∧ w'.cell? ⟨W.heap.size, 6, none⟩ = some (.slice ap w.pk.length cp)) (first | with_reducible exact s0 | exact HS.out _ (by assumption) | go_keep)
    ((first
      | (go_at_call 62; refine (HRC.out _ (HZ.out _ (by assumption))).mono ?_; rintro e wC ⟨vC, rfl, hrC, hbC⟩; obtain ⟨aC, cC, rfl, _⟩ := slice_form hrC; have HRCf := Lib.hid (fun (wq : World) (hb : Below wC.heap.size wC wq) => tEls.mono _ _ _ _ (below_mem hb) hrC); have hzC : Below w2.heap.size w2 wC := below2 (by assumption) hbC; clear hrC hbC)
      | (go_at_call 22; refine (same_els C _ _ _ (HR5.out _ (by assumption)) (HRCf.out _ (by first | exact Below.refl _ _ | assumption))).mono ?_; rintro e wS ⟨rfl, hbS⟩; have hzS : Below w2.heap.size w2 wS := below2 (by assumption) hbS; clear hbS)
      | (go_at_call 38; refine (HWY.out _ (HZ.out _ (by assumption))).mono ?_; rintro e wW ⟨vW, rfl, hrW, hbW⟩; obtain ⟨aW, cW, rfl, _⟩ := slice_form hrW; have HW2 := Lib.hid (fun (wq : World) (hb : Below wW.heap.size wW wq) => (tSlice tInt).mono _ _ _ _ (Mem.le_trans (Mem.on_le _ _) (below_mem hb)) hrW); have hzW : Below w2.heap.size w2 wW := below2 (by assumption) hbW; clear hrW)
      | (go_at_call 63; refine (HRW.out _ (HZ.out _ (by assumption))).mono ?_; rintro e wR ⟨vR, rfl, hrR, hbR⟩; obtain ⟨aR, cR, rfl, _⟩ := slice_form hrR; have HR2 := Lib.hid (fun (wq : World) (hb : Below wR.heap.size wR wq) => (tSlice tInt).mono _ _ _ _ (Mem.le_trans (Mem.on_le _ _) (below_mem hb)) hrR); have hzR : Below w2.heap.size w2 wR := below2 (by assumption) hbR; clear hrR)
      | (go_at_call 13; refine (same_ints ways _ _ _ (HW2.out _ (by first | exact Below.refl _ _ | assumption)) (HR2.out _ (by first | exact Below.refl _ _ | assumption))).mono ?_; rintro e wI ⟨rfl, hbI⟩; have hzI : Below w2.heap.size w2 wI := below2 (by assumption) hbI; clear hbI)))
  all_goals
    go_upto_region 4 with fail
    have HZI := Lib.hid hzI
    clear HRCf HW2 HR2 hbW hbR hz0 hzC hzS hzW hzR hzI HR5
    have hz0 : Below w2.heap.size w2 wI.drew := HZI.out.drew
    have s0 := HS.out _ hz0
    go_region_held3 (fun w' => w'.cell? ⟨W.heap.size, 0, none⟩ = some (.int .i64 w.size) ∧ w'.cell? ⟨W.heap.size, 1, none⟩ = some (.int .i64 w.room) ∧ w'.cell? ⟨W.heap.size, 2, none⟩ = some (.int .i64 w.credits) ∧ w'.cell? ⟨W.heap.size, 3, none⟩ = some (.int .i64 w.next) ∧ w'.cell? ⟨W.heap.size, 4, none⟩ = some (.slice aa w.ahead.length ca) ∧ w'.cell? ⟨W.heap.size, 5, none⟩ = some (.slice aq w.queue.length cq) ∧ w'.cell? ⟨W.heap.size, 6, none⟩ = some (.slice ap w.pk.length cp)) (first | with_reducible exact s0 | exact HS.out _ (by assumption) | go_keep)
      ((first
        | (go_at_call 29; refine (HWA.out _ (HZ.out _ (by assumption))).mono ?_; rintro e wA ⟨rfl, rfl⟩)
        | (go_at_call 64; refine (HRA.out _ (HZ.out _ (by assumption))).mono ?_; rintro e wA ⟨rfl, hbA⟩; have hzA : Below w2.heap.size w2 wA := below2 (by assumption) hbA; clear hbA)
        | (go_at_call 30; refine (HQU.out _ (HZ.out _ (by assumption))).mono ?_; rintro e wA ⟨rfl, rfl⟩)
        | (go_at_call 31; refine (HBU.out _ (HZ.out _ (by assumption))).mono ?_; rintro e wA ⟨rfl, rfl⟩)
        | (go_at_call 65; refine (HRB.out _ (HZ.out _ (by assumption))).mono ?_; rintro e wU ⟨aU, cU, rfl, hcU, hbU⟩; have hzU : Below w2.heap.size w2 wU := below2 (by assumption) hbU; clear hbU)
        | (go_at_call 28; refine (HCR.out _ (HZ.out _ (by assumption))).mono ?_; rintro e wA ⟨rfl, rfl⟩)
        | (go_at_call 37; refine (HSP.out _ (HZ.out _ (by assumption))).mono ?_; rintro e wP ⟨rfl, hbP⟩; have hzP : Below w2.heap.size w2 wP := below2 (by assumption) hbP; clear hbP)
        | (go_at_call 66; refine (HRS.out _ (HZ.out _ (by assumption))).mono ?_; rintro e wQ ⟨rfl, hbQ⟩; have hzQ : Below w2.heap.size w2 wQ := below2 (by assumption) hbQ; clear hbQ)))
    all_goals
      go_wp2
      go_ret
      exact ⟨rfl, HZ.out _ (by assumption)⟩
end Go.Proofs.Ytfkphdmnelchmaa
/- The law WireRuns, walked. -/
namespace Go.Proofs.Ytfkphdmnelchmaa
open Go.RowKit Go.Maps

section
variable {c : Int} {base b Rb nb k m N : Nat} {M0 M : Mem} {w0 w1 w2 W W' X : World} {F : Nat → Prop} {r r' : Raw} {ah ah' : List El} {ps ps' : List PK} {a q p : Value}
theorem Run.pure (h : Run c base b M0 w0 F W r ah ps m N M a q p) (hb : Below W.heap.size W W') : Run c base b M0 w0 F W' r ah ps m N M a q p :=
  ⟨h.st.pure hb, h.so, h.rf, h.bel.trans (hb.mono h.st.bw), h.mm, fun j hj => (hb.block j (h.st.fl j hj)).trans (h.fk j hj)⟩
/-- The next state of the reference's wire lies in a block of its own. -/
structure Next (c : Int) (base b Rb nb k : Nat) (M0 : Mem) (w0 X : World) (r : Raw) (ah : List El) (ps : List PK) (m N : Nat) (M : Mem) (a q p : Value) : Prop where
  run : Run c base b M0 w0 (fun j => j = Rb) X r ah ps m N M a q p
  hn : X.heap[nb]? = some (.cells (cells7 (refOf r ah ps) a q p) 56 (0, 0))
  hR : ∃ a0 a1 a2 a3 a4 a5 a6, X.heap[Rb]? = some (.cells #[a0, a1, a2, a3, a4, a5, a6] 56 (0, 0))
  cn : r.count ≤ k
  bR : base ≤ Rb
theorem Next.pure (h : Next c base b Rb nb k M0 w0 W r ah ps m N M a q p) (hb : Below W.heap.size W W') : Next c base b Rb nb k M0 w0 W' r ah ps m N M a q p := by
  obtain ⟨h1, h2, ⟨a0, a1, a2, a3, a4, a5, a6, h3⟩, h4, h5⟩ := h
  exact ⟨h1.pure hb, (hb.block nb (Array.getElem?_eq_some_iff.1 h2).1).trans h2, ⟨a0, a1, a2, a3, a4, a5, a6, (hb.block Rb (Array.getElem?_eq_some_iff.1 h3).1).trans h3⟩, h4, h5⟩
theorem Next.alloc (h : Run c base b M0 w0 (fun j => j = Rb) W r ah ps m N M a q p) (hc : r.count ≤ k) (hb : base ≤ Rb) {a0 a1 a2 a3 a4 a5 a6 : Value} (hR : W.heap[Rb]? = some (.cells #[a0, a1, a2, a3, a4, a5, a6] 56 (0, 0))) :
    Next c base b Rb W.heap.size k M0 w0 (W.alloc (.cells (cells7 (refOf r ah ps) a q p) 56)) r ah ps m N M a q p :=
  ⟨h.pure ((Below.refl _ _).alloc (Nat.le_refl _) _), heap_alloc_new W _, ⟨_, _, _, _, _, _, _, alloc_block hR _⟩, hc, hb⟩
/-- The same where the block was made ahead of the act. -/
theorem Next.store (h : Run c base b M0 w1 (fun j => j = Rb ∨ j = nb) W r ah ps m N M a q p) (h01 : Below w0.heap.size w0 w1) (hn0 : nb = w0.heap.size) (hbw : base ≤ w0.heap.size) (hRl : Rb < w0.heap.size) (hc : r.count ≤ k) (hb : base ≤ Rb) {a0 a1 a2 a3 a4 a5 a6 b0 b1 b2 b3 b4 b5 b6 : Value} (hR : W.heap[Rb]? = some (.cells #[a0, a1, a2, a3, a4, a5, a6] 56 (0, 0))) (hN : W.heap[nb]? = some (.cells #[b0, b1, b2, b3, b4, b5, b6] 56 (0, 0))) :
    Next c base b Rb nb k M0 w0 (store7 W nb (.int .i64 (refOf r ah ps).size) (.int .i64 (refOf r ah ps).room) (.int .i64 (refOf r ah ps).credits) (.int .i64 (refOf r ah ps).next) a q p) r ah ps m N M a q p := by
  have hk := store7_keeps W nb (.int .i64 (refOf r ah ps).size) (.int .i64 (refOf r ah ps).room) (.int .i64 (refOf r ah ps).credits) (.int .i64 (refOf r ah ps).next) a q p
  have hfl := h.st.fl
  obtain ⟨s, _⟩ := h.st.foreign (F' := fun j => j = Rb) (hk.wide (fun k h1 h2 => .inr h2)) (fun j e => ⟨.inl (.inl e), by have := hfl j (.inl e); have := hk.size; omega⟩)
  have hne : Rb ≠ nb := by omega
  have hRk : (store7 W nb (.int .i64 (refOf r ah ps).size) (.int .i64 (refOf r ah ps).room) (.int .i64 (refOf r ah ps).credits) (.int .i64 (refOf r ah ps).next) a q p).heap[Rb]? = W.heap[Rb]? := hk.block Rb (hfl Rb (.inl rfl)) hne
  have hbel : Below base w0 W := (h01.mono hbw).trans h.bel
  exact ⟨⟨s, h.so, h.rf, hbel.trans ⟨hk.os, hk.tape, hk.output, hk.size, fun k hl => hk.block k (by have := h.st.bw; omega) (by omega)⟩, h.mm, fun j e => by subst e; exact hRk.trans ((h.fk j (.inl rfl)).trans (h01.block j hRl))⟩, store7_block hN _ _ _ _ _ _ _, ⟨_, _, _, _, _, _, _, hRk.trans hR⟩, hc, hb⟩
theorem Next.back (h : Next c base b Rb nb k M0 W X r ah ps m N M a q p) (hb : Below base w0 W) : Both c base b Rb k M0 w0 (store7 X Rb (.int .i64 (refOf r ah ps).size) (.int .i64 (refOf r ah ps).room) (.int .i64 (refOf r ah ps).credits) (.int .i64 (refOf r ah ps).next) a q p) r ah ps m N M a q p := by
  obtain ⟨h1, h2, ⟨a0, a1, a2, a3, a4, a5, a6, h3⟩, h4, h5⟩ := h
  exact h1.stored hb h4 h5 h3
/-- What lies there behind an act, if the block of the result was made ahead. -/
def Done2 (c : Int) (base b Rb nb k : Nat) (M0 : Mem) (w1 : World) (N : Nat) (e : Ending) (W' : World) : Prop :=
  ∃ r' ah' ps' m' M' a' q' p', e = .returned (.tuple #[wV (refOf r' ah' ps') a' q' p', .bool true]) ∧ Run c base b M0 w1 (fun j => j = Rb ∨ j = nb) W' r' ah' ps' m' N M' a' q' p' ∧ r'.count ≤ k ∧ base ≤ Rb ∧ ∃ a0 a1 a2 a3 a4 a5 a6, W'.heap[Rb]? = some (.cells #[a0, a1, a2, a3, a4, a5, a6] 56 (0, 0))
theorem Both.does2 (h : Both c base b Rb k M0 w0 W r ah ps m N M a q p) (hb : Below W.heap.size W W') (hn : nb = W.heap.size) (hl : nb < W'.heap.size) (hN : N ≤ 500000) (hk : k ≤ 1000) (x : Act20) (s : Value) (hx : x.el.ok) (hxn : inI64 x.n) (hx8 : 0 ≤ x.kind ∧ x.kind ≤ 255) (hs : tRow.rv M0 [s] x.el.row) :
    Calls Try.prog 25 #[.pointer (some ⟨b, 0, none⟩), wV (refOf r ah ps) a q p, actV x s] W' (Done2 c base b Rb nb (k + 1) M0 W' (N + 1)) := by
  obtain ⟨s', _⟩ := h.st.foreign (F' := fun j => j = Rb ∨ j = nb) ((below_keeps hb).wide (fun k h1 h2 => by omega)) (fun j e => e.elim (fun e => ⟨.inl e, by have := h.st.fl j e; have := hb.size; omega⟩) (fun e => ⟨.inr (by omega), by omega⟩))
  refine (does_any c base b M W' (fun j => j = Rb ∨ j = nb) W' r ah ps m N k M a q p s x ⟨s', h.so, h.rf, Below.refl _ _, Mem.le_refl _, fun _ _ => rfl⟩ hx hxn hx8 (tRow.mono _ _ _ _ h.mm hs) hN h.cnt (by omega)).mono fun e W2 hd => ?_
  obtain ⟨r', ah', ps', m', M', a', q', p', he, hr, hm, hc⟩ := hd
  exact ⟨r', ah', ps', m', M', a', q', p', he, ⟨hr.st, hr.so, hr.rf, hr.bel, Mem.le_trans h.mm hr.mm, hr.fk⟩, by have := hc; omega, h.bR, _, _, _, _, _, _, _, (hr.fk Rb (.inl rfl)).trans ((hb.block Rb (Array.getElem?_eq_some_iff.1 h.hR).1).trans h.hR)⟩
end

set_option maxRecDepth 100000 in
set_option maxHeartbeats 8000000 in
theorem wireRuns_any (sz cr rm : Int) (xs : List Act20) (v : Value) (W : World) (hv : (tSlice tAct).rv (mem W) [v] xs) :
    Calls Try.prog 7 #[.int .i64 sz, .int .i64 cr, .int .i64 rm, v] W fun e W' => e = .returned (.bool true) ∧ Below W.heap.size W W' := by
  obtain ⟨a, cap, rfl, hl, hm, hv⟩ := slice_form hv
  have hcap : cap ≤ 9223372036854775807 := by unfold maxLen at hm; exact hm
  have HV := Lib.hid (fun (wq : World) (h : Below W.heap.size W wq) => (tSlice tAct).mono _ _ _ _ (below_mem h) hv)
  clear hm hv
  go_enter Try.func7, Try.ntmps7
  go_wp2_with fail
  refine (awake20 _).mono ?_
  rintro e w1 ⟨rfl, hb⟩
  have HB := Lib.hid hb
  clear hb
  go_wp2_with fail
  refine (many_any xs _ w1 (HV.out w1 HB.out)).mono ?_
  rintro e w2 ⟨⟨qq, rfl, hqq⟩, hb⟩
  have HB2 := Lib.hid (HB.out.trans (hb.mono HB.out.size))
  clear HB hb
  cases qq with
  | true =>
    go_wp2
    go_ret
    exact ⟨rfl, HB2.out⟩
  | false =>
    have hlen : xs.length ≤ 80 := hqq rfl
    clear hqq
    go_wp2_with fail
    refine (st_new sz cr rm (fun _ => False) w2 (fun _ h => h.elim)).mono ?_
    rintro e w3 ⟨hB3, ⟨hok, b, rfl, hS⟩ | ⟨hno, rfl⟩⟩
    rotate_left
    · have HB3 := Lib.hid (HB2.out.trans (hB3.mono HB2.out.size))
      clear hB3
      go_wp2_with fail
      refine (refNew_any sz cr rm w3).mono ?_
      rintro e w4 ⟨⟨h1, _⟩ | ⟨_, rfl⟩, hb4⟩
      · exact absurd h1 hno
      have HB4 := Lib.hid (fun o => (HB3.out.trans (hb4.mono HB3.out.size)).alloc (HB3.out.trans (hb4.mono HB3.out.size)).size o)
      clear hb4 HB3
      go_wp2
      go_ret
      exact ⟨rfl, HB4.out _⟩
    go_wp2_with fail
    refine (refNew_any sz cr rm w3).mono ?_
    rintro e w4 ⟨⟨_, rfl⟩ | ⟨h1, _⟩, hb4⟩
    rotate_left
    · exact absurd hok h1
    have HT := Lib.hid (both_new hok hS hB3 hb4)
    have HV2 := Lib.hid (show (tSlice tAct).rv ((mem w2).on (fun k => ¬ False)) _ xs from (tSlice tAct).mono _ _ _ _ (fun j o v e => Mem.on_some e (fun h => h)) (HV.out w2 HB2.out))
    clear hS hB3 HV hb4
    generalize ((mem w2).on (fun k => ¬ False)) = M0 at HT HV2
    clear hok
    go_wp2
    go_loopg [13] xs.length (fun g i wr => ∃ k : Nat, k + g = xs.length ∧ i = .int .i64 k ∧ ∃ r ah ps m N M a q p, N ≤ k ∧ Hid (Both cr w2.heap.size b w4.heap.size k M0 w2 wr r ah ps m N M a q p))
    case atStart => exact ⟨0, by omega, by go_num, _, _, _, _, 0, _, _, _, _, Nat.le_refl _, HT⟩
    case round =>
      clear HT
      obtain ⟨k, hkg, rfl, r, ah, ps, m, N, M, a0, q0, p0, hN, HT⟩ := hrel
      cases gk with
      | zero =>
        obtain rfl : k = xs.length := by omega
        have HB9 := Lib.hid (HB2.out.trans (HT.out.bel.mono HB2.out.size))
        clear HT
        go_wp2
        go_ret
        exact ⟨rfl, HB9.out⟩
      | succ g2 =>
        have hlt : k < xs.length := by omega
        obtain ⟨bb, o, rfl, hat⟩ := slice_at HV2.out hlt
        obtain ⟨ar, crr, hcr, q0, q1, q2, q3, q4, q5, q6, i1, i2, i3, hr⟩ := act_at hat
        clear hat
        generalize xs[k] = x at *
        have HC := Lib.hid (fun (wq : World) (h : M0.le (mem wq)) => And.intro (show wq.cell? ⟨bb, o + k * 7, none⟩ = some (.int .u8 x.kind) from h _ _ _ q0) (And.intro (show wq.cell? ⟨bb, o + k * 7 + 1, none⟩ = some (.int .i64 x.n) from h _ _ _ q1) (And.intro (show wq.cell? ⟨bb, o + k * 7 + 2, none⟩ = some (.int .i64 x.el.kind) from h _ _ _ q2) (And.intro (show wq.cell? ⟨bb, o + k * 7 + 3, none⟩ = some (.int .i64 x.el.n) from h _ _ _ q3)
          (And.intro (show wq.cell? ⟨bb, o + k * 7 + 4, none⟩ = some (.int .i64 x.el.time) from h _ _ _ q4) (And.intro (show wq.cell? ⟨bb, o + k * 7 + 5, none⟩ = some (.slice ar x.el.row.length crr) from h _ _ _ q5) (show wq.cell? ⟨bb, o + k * 7 + 6, none⟩ = some (.int .i64 x.el.cn) from h _ _ _ q6)))))))
        have HI := Lib.hid (And.intro i1 (And.intro i2 (And.intro i3 hr)))
        have HVE := Lib.hid (fun (wq : World) (h : Below wr.heap.size wr wq) => validEl_any x.el (.slice ar x.el.row.length crr) wq (tRow.mono _ _ _ _ (Mem.le_trans (Mem.le_trans HT.out.mm HT.out.st.mem) (below_mem h)) hr))
        have HRE := Lib.hid (fun (wq : World) (h : Below wr.heap.size wr wq) => refValidEl_any x.el (.slice ar x.el.row.length crr) wq (tRow.mono _ _ _ _ (Mem.le_trans (Mem.le_trans HT.out.mm HT.out.st.mem) (below_mem h)) hr))
        have HCE := Lib.hid (fun (wq : World) (h : Below wr.heap.size wr wq) => (HC.out wq (Mem.le_trans (Mem.le_trans HT.out.mm HT.out.st.mem) (below_mem h))).2.2)
        clear q0 q1 q2 q3 q4 q5 q6 i1 i2 i3 hr
        generalize validEl x.el = ve at HVE HRE
        go_upto_region 12 with fail
        have hz0 : Below wr.heap.size wr wr.drew := (Below.refl _ _).drew
        have s0 := HCE.out _ hz0
        go_region_held3 (fun w' => w'.cell? ⟨bb, o + k * 7 + 2, none⟩ = some (.int .i64 x.el.kind) ∧ w'.cell? ⟨bb, o + k * 7 + 3, none⟩ = some (.int .i64 x.el.n) ∧ w'.cell? ⟨bb, o + k * 7 + 4, none⟩ = some (.int .i64 x.el.time) ∧ w'.cell? ⟨bb, o + k * 7 + 5, none⟩ = some (.slice ar x.el.row.length crr) ∧ w'.cell? ⟨bb, o + k * 7 + 6, none⟩ = some (.int .i64 x.el.cn)) (first | with_reducible exact s0 | exact HCE.out _ (by assumption) | go_keep)
          ((first
            | (go_at_call 32; refine (HVE.out _ (by assumption)).mono ?_; rintro e wv ⟨rfl, hbV⟩; have hzV : Below wr.heap.size wr wv := below2 (by assumption) hbV; clear hbV)
            | (go_at_call 33; refine (HRE.out _ (by assumption)).mono ?_; rintro e wv ⟨rfl, hbV⟩; have hzV : Below wr.heap.size wr wv := below2 (by assumption) hbV; clear hbV)))
        all_goals
          have HT1 := Lib.hid (HT.out.pure hzV)
          clear hz0 s0 hzV HVE HRE HCE HT
          rename_i hzOld
          clear hzOld
          go_upto_region 14 with fail
          have HDa := Lib.hid ((HT1.out.pure (Below.refl wv.heap.size wv).drew).does (by omega) (by omega) x (.slice ar x.el.row.length crr) HI.out.2.2.1 HI.out.2.1 HI.out.1 HI.out.2.2.2)
          have HBL := Lib.hid (show Below wv.heap.size wv (wv.alloc (.cells #[.int .i64 0, .int .i64 0, .int .i64 0, .int .i64 0, .slice none 0 0, .slice none 0 0, .slice none 0 0] 56)).drew from ((Below.refl _ _).alloc (Nat.le_refl _) _).drew)
          have HDb := Lib.hid (HT1.out.does2 (nb := wv.heap.size) HBL.out rfl (by show wv.heap.size < (wv.alloc _).heap.size; simp) (by omega) (by omega) x (.slice ar x.el.row.length crr) HI.out.2.2.1 HI.out.2.1 HI.out.1 HI.out.2.2.2)
          have HBD := Lib.hid (show wv.heap.size ≤ wv.heap.size ∧ w2.heap.size ≤ wv.heap.size ∧ w4.heap.size < wv.heap.size ∧ Below w2.heap.size w2 wv ∧ (wv.alloc (.cells #[.int .i64 0, .int .i64 0, .int .i64 0, .int .i64 0, .slice none 0 0, .slice none 0 0, .slice none 0 0] 56)).drew.heap[wv.heap.size]? = some (.cells #[.int .i64 0, .int .i64 0, .int .i64 0, .int .i64 0, .slice none 0 0, .slice none 0 0, .slice none 0 0] 56 (0, 0)) from ⟨Nat.le_refl _, HT1.out.st.bw, (Array.getElem?_eq_some_iff.1 HT1.out.hR).1, HT1.out.bel, heap_alloc_new wv _⟩)
          obtain ⟨e0, e1, e2, e3, e4, e5, e6⟩ := HC.out wv.drew (Mem.le_trans HT1.out.mm HT1.out.st.mem)
          obtain ⟨x0, x1, x2, x3, x4, x5, x6⟩ := HC.out (wv.alloc (.cells #[.int .i64 0, .int .i64 0, .int .i64 0, .int .i64 0, .slice none 0 0, .slice none 0 0, .slice none 0 0] 56)).drew (Mem.le_trans (Mem.le_trans HT1.out.mm HT1.out.st.mem) (below_mem HBL.out))
          obtain ⟨aa, ca, rfl, _, hma, _⟩ := slice_form HT1.out.rf.ha
          obtain ⟨aq, cq, rfl, _, hmq, _⟩ := slice_form HT1.out.rf.hq
          obtain ⟨ap, cp, rfl, _, hmp, _⟩ := slice_form HT1.out.rf.hp
          have hca : ca ≤ 9223372036854775807 := by unfold maxLen at hma; exact hma
          have hcq : cq ≤ 9223372036854775807 := by unfold maxLen at hmq; exact hmq
          have hcp : cp ≤ 9223372036854775807 := by unfold maxLen at hmp; exact hmp
          clear hma hmq hmp
          have c0 : wv.drew.cell? ⟨w4.heap.size, 0, none⟩ = some (.int .i64 (refOf r ah ps).size) := HT1.out.cells 0
          have c1 : wv.drew.cell? ⟨w4.heap.size, 1, none⟩ = some (.int .i64 (refOf r ah ps).room) := HT1.out.cells 1
          have c2 : wv.drew.cell? ⟨w4.heap.size, 2, none⟩ = some (.int .i64 (refOf r ah ps).credits) := HT1.out.cells 2
          have c3 : wv.drew.cell? ⟨w4.heap.size, 3, none⟩ = some (.int .i64 (refOf r ah ps).next) := HT1.out.cells 3
          have c4 : wv.drew.cell? ⟨w4.heap.size, 4, none⟩ = some (.slice aa (refOf r ah ps).ahead.length ca) := HT1.out.cells 4
          have c5 : wv.drew.cell? ⟨w4.heap.size, 5, none⟩ = some (.slice aq (refOf r ah ps).queue.length cq) := HT1.out.cells 5
          have c6 : wv.drew.cell? ⟨w4.heap.size, 6, none⟩ = some (.slice ap (refOf r ah ps).pk.length cp) := HT1.out.cells 6
          have d0 : (wv.alloc (.cells #[.int .i64 0, .int .i64 0, .int .i64 0, .int .i64 0, .slice none 0 0, .slice none 0 0, .slice none 0 0] 56)).drew.cell? ⟨w4.heap.size, 0, none⟩ = some (.int .i64 (refOf r ah ps).size) := (HT1.out.pure HBL.out).cells 0
          have d1 : (wv.alloc (.cells #[.int .i64 0, .int .i64 0, .int .i64 0, .int .i64 0, .slice none 0 0, .slice none 0 0, .slice none 0 0] 56)).drew.cell? ⟨w4.heap.size, 1, none⟩ = some (.int .i64 (refOf r ah ps).room) := (HT1.out.pure HBL.out).cells 1
          have d2 : (wv.alloc (.cells #[.int .i64 0, .int .i64 0, .int .i64 0, .int .i64 0, .slice none 0 0, .slice none 0 0, .slice none 0 0] 56)).drew.cell? ⟨w4.heap.size, 2, none⟩ = some (.int .i64 (refOf r ah ps).credits) := (HT1.out.pure HBL.out).cells 2
          have d3 : (wv.alloc (.cells #[.int .i64 0, .int .i64 0, .int .i64 0, .int .i64 0, .slice none 0 0, .slice none 0 0, .slice none 0 0] 56)).drew.cell? ⟨w4.heap.size, 3, none⟩ = some (.int .i64 (refOf r ah ps).next) := (HT1.out.pure HBL.out).cells 3
          have d4 : (wv.alloc (.cells #[.int .i64 0, .int .i64 0, .int .i64 0, .int .i64 0, .slice none 0 0, .slice none 0 0, .slice none 0 0] 56)).drew.cell? ⟨w4.heap.size, 4, none⟩ = some (.slice aa (refOf r ah ps).ahead.length ca) := (HT1.out.pure HBL.out).cells 4
          have d5 : (wv.alloc (.cells #[.int .i64 0, .int .i64 0, .int .i64 0, .int .i64 0, .slice none 0 0, .slice none 0 0, .slice none 0 0] 56)).drew.cell? ⟨w4.heap.size, 5, none⟩ = some (.slice aq (refOf r ah ps).queue.length cq) := (HT1.out.pure HBL.out).cells 5
          have d6 : (wv.alloc (.cells #[.int .i64 0, .int .i64 0, .int .i64 0, .int .i64 0, .slice none 0 0, .slice none 0 0, .slice none 0 0] 56)).drew.cell? ⟨w4.heap.size, 6, none⟩ = some (.slice ap (refOf r ah ps).pk.length cp) := (HT1.out.pure HBL.out).cells 6
          clear HT1
          go_region_law (go_simp; go_at_call 25; (first
            | (refine HDa.out.mono ?_; rintro e w5 ⟨r5, ah5, ps5, m5, M5, a5, q5, p5, rfl, hrun5, hct5, hbr5, y0, y1, y2, y3, y4, y5, y6, hR5⟩; obtain ⟨a5a, a5c, rfl, _, hz1, _⟩ := slice_form hrun5.rf.ha; obtain ⟨q5a, q5c, rfl, _, hz2, _⟩ := slice_form hrun5.rf.hq; obtain ⟨p5a, p5c, rfl, _, hz3, _⟩ := slice_form hrun5.rf.hp; clear hz1 hz2 hz3; have HX := Lib.hid (Next.alloc hrun5 hct5 hbr5 hR5); clear hrun5 hct5 hbr5 hR5)
            | (refine HDb.out.mono ?_; rintro e w5 ⟨r5, ah5, ps5, m5, M5, a5, q5, p5, rfl, hrun5, hct5, hbr5, y0, y1, y2, y3, y4, y5, y6, hR5⟩; obtain ⟨a5a, a5c, rfl, _, hz1, _⟩ := slice_form hrun5.rf.ha; obtain ⟨q5a, q5c, rfl, _, hz2, _⟩ := slice_form hrun5.rf.hq; obtain ⟨p5a, p5c, rfl, _, hz3, _⟩ := slice_form hrun5.rf.hp; clear hz1 hz2 hz3; have hN5 := (hrun5.fk _ (.inr rfl)).trans HBD.out.2.2.2.2; have f5 := frozen_cells hN5; have z0 : w5.cell? ⟨wv.heap.size, 0, none⟩ = some (.int .i64 0) := mem_cells hN5 0; have z1 : w5.cell? ⟨wv.heap.size, 1, none⟩ = some (.int .i64 0) := mem_cells hN5 1; have z2 : w5.cell? ⟨wv.heap.size, 2, none⟩ = some (.int .i64 0) := mem_cells hN5 2; have z3 : w5.cell? ⟨wv.heap.size, 3, none⟩ = some (.int .i64 0) := mem_cells hN5 3; have z4 : w5.cell? ⟨wv.heap.size, 4, none⟩ = some (.slice none 0 0) := mem_cells hN5 4; have z55 : w5.cell? ⟨wv.heap.size, 5, none⟩ = some (.slice none 0 0) := mem_cells hN5 5; have z6 : w5.cell? ⟨wv.heap.size, 6, none⟩ = some (.slice none 0 0) := mem_cells hN5 6; have HX := Lib.hid (Next.store hrun5 HBL.out rfl HBD.out.2.1 HBD.out.2.2.1 hct5 hbr5 hR5 hN5); clear hrun5 hct5 hbr5 hR5 hN5)))
          all_goals
            clear e0 e1 e2 e3 e4 e5 e6 x0 x1 x2 x3 x4 x5 x6 c0 c1 c2 c3 c4 c5 c6 d0 d1 d2 d3 d4 d5 d6 HDa HDb HBL
            go_upto_region 15 with fail
            (first
              | (clear z0 z1 z2 z3 z4 z55 z6 f5; show Code.wp _ _ _ _ (store7 w5 wv.heap.size (.int .i64 (refOf r5 ah5 ps5).size) (.int .i64 (refOf r5 ah5 ps5).room) (.int .i64 (refOf r5 ah5 ps5).credits) (.int .i64 (refOf r5 ah5 ps5).next) (.slice a5a (refOf r5 ah5 ps5).ahead.length a5c) (.slice q5a (refOf r5 ah5 ps5).queue.length q5c) (.slice p5a (refOf r5 ah5 ps5).pk.length p5c)); generalize store7 w5 wv.heap.size (.int .i64 (refOf r5 ah5 ps5).size) (.int .i64 (refOf r5 ah5 ps5).room) (.int .i64 (refOf r5 ah5 ps5).credits) (.int .i64 (refOf r5 ah5 ps5).next) (.slice a5a (refOf r5 ah5 ps5).ahead.length a5c) (.slice q5a (refOf r5 ah5 ps5).queue.length q5c) (.slice p5a (refOf r5 ah5 ps5).pk.length p5c) = X at HX ⊢; generalize wv.heap.size = nb at HX ⊢)
              | (show Code.wp _ _ _ _ (w5.alloc (.cells #[.int .i64 (refOf r5 ah5 ps5).size, .int .i64 (refOf r5 ah5 ps5).room, .int .i64 (refOf r5 ah5 ps5).credits, .int .i64 (refOf r5 ah5 ps5).next, .slice a5a (refOf r5 ah5 ps5).ahead.length a5c, .slice q5a (refOf r5 ah5 ps5).queue.length q5c, .slice p5a (refOf r5 ah5 ps5).pk.length p5c] 56)); generalize w5.alloc (.cells #[.int .i64 (refOf r5 ah5 ps5).size, .int .i64 (refOf r5 ah5 ps5).room, .int .i64 (refOf r5 ah5 ps5).credits, .int .i64 (refOf r5 ah5 ps5).next, .slice a5a (refOf r5 ah5 ps5).ahead.length a5c, .slice q5a (refOf r5 ah5 ps5).queue.length q5c, .slice p5a (refOf r5 ah5 ps5).pk.length p5c] 56) = X at HX ⊢; generalize w5.heap.size = nb at HX ⊢))
            have hcn := HX.out.cn
            have HSM := Lib.hid (same_any HX.out.run.st HX.out.run.so HX.out.run.rf (by omega) (by omega))
            have HXC := Lib.hid (fun (wq : World) (hb : Below X.heap.size X wq) => (HX.out.pure hb).hn)
            have hn := HX.out.hn
            have n0 : X.cell? ⟨nb, 0, none⟩ = some (.int .i64 (refOf r5 ah5 ps5).size) := mem_cells hn 0
            have n1 : X.cell? ⟨nb, 1, none⟩ = some (.int .i64 (refOf r5 ah5 ps5).room) := mem_cells hn 1
            have n2 : X.cell? ⟨nb, 2, none⟩ = some (.int .i64 (refOf r5 ah5 ps5).credits) := mem_cells hn 2
            have n3 : X.cell? ⟨nb, 3, none⟩ = some (.int .i64 (refOf r5 ah5 ps5).next) := mem_cells hn 3
            have n4 : X.cell? ⟨nb, 4, none⟩ = some (.slice a5a (refOf r5 ah5 ps5).ahead.length a5c) := mem_cells hn 4
            have n5 : X.cell? ⟨nb, 5, none⟩ = some (.slice q5a (refOf r5 ah5 ps5).queue.length q5c) := mem_cells hn 5
            have n6 : X.cell? ⟨nb, 6, none⟩ = some (.slice p5a (refOf r5 ah5 ps5).pk.length p5c) := mem_cells hn 6
            clear hn
            go_wp2_with fail
            refine HSM.out.mono ?_
            rintro e w7 ⟨rfl, hb7⟩
            have HX7 := Lib.hid (HX.out.pure hb7)
            have HBK := Lib.hid (HX7.out.back (by first | exact HBD.out.2.2.2.1 | exact HBD.out.2.2.2.1.drew))
            clear n0 n1 n2 n3 n4 n5 n6 HXC HSM HX hb7
            have hn := HX7.out.hn
            have n0 : w7.cell? ⟨nb, 0, none⟩ = some (.int .i64 (refOf r5 ah5 ps5).size) := mem_cells hn 0
            have n1 : w7.cell? ⟨nb, 1, none⟩ = some (.int .i64 (refOf r5 ah5 ps5).room) := mem_cells hn 1
            have n2 : w7.cell? ⟨nb, 2, none⟩ = some (.int .i64 (refOf r5 ah5 ps5).credits) := mem_cells hn 2
            have n3 : w7.cell? ⟨nb, 3, none⟩ = some (.int .i64 (refOf r5 ah5 ps5).next) := mem_cells hn 3
            have n4 : w7.cell? ⟨nb, 4, none⟩ = some (.slice a5a (refOf r5 ah5 ps5).ahead.length a5c) := mem_cells hn 4
            have n5 : w7.cell? ⟨nb, 5, none⟩ = some (.slice q5a (refOf r5 ah5 ps5).queue.length q5c) := mem_cells hn 5
            have n6 : w7.cell? ⟨nb, 6, none⟩ = some (.slice p5a (refOf r5 ah5 ps5).pk.length p5c) := mem_cells hn 6
            obtain ⟨t0, t1, t2, t3, t4, t5, t6, hR⟩ := HX7.out.hR
            have f7 := frozen_cells hR
            have z0 : w7.cell? ⟨w4.heap.size, 0, none⟩ = some t0 := mem_cells hR 0
            have z1 : w7.cell? ⟨w4.heap.size, 1, none⟩ = some t1 := mem_cells hR 1
            have z2 : w7.cell? ⟨w4.heap.size, 2, none⟩ = some t2 := mem_cells hR 2
            have z3 : w7.cell? ⟨w4.heap.size, 3, none⟩ = some t3 := mem_cells hR 3
            have z4 : w7.cell? ⟨w4.heap.size, 4, none⟩ = some t4 := mem_cells hR 4
            have z5 : w7.cell? ⟨w4.heap.size, 5, none⟩ = some t5 := mem_cells hR 5
            have z6 : w7.cell? ⟨w4.heap.size, 6, none⟩ = some t6 := mem_cells hR 6
            clear hn hR HX7
            go_upto_region 11 with fail
            show Code.wp _ _ _ _ (store7 w7 w4.heap.size (.int .i64 (refOf r5 ah5 ps5).size) (.int .i64 (refOf r5 ah5 ps5).room) (.int .i64 (refOf r5 ah5 ps5).credits) (.int .i64 (refOf r5 ah5 ps5).next) (.slice a5a (refOf r5 ah5 ps5).ahead.length a5c) (.slice q5a (refOf r5 ah5 ps5).queue.length q5c) (.slice p5a (refOf r5 ah5 ps5).pk.length p5c))
            clear n0 n1 n2 n3 n4 n5 n6 z0 z1 z2 z3 z4 z5 z6 f7
            generalize store7 w7 w4.heap.size (.int .i64 (refOf r5 ah5 ps5).size) (.int .i64 (refOf r5 ah5 ps5).room) (.int .i64 (refOf r5 ah5 ps5).credits) (.int .i64 (refOf r5 ah5 ps5).next) (.slice a5a (refOf r5 ah5 ps5).ahead.length a5c) (.slice q5a (refOf r5 ah5 ps5).queue.length q5c) (.slice p5a (refOf r5 ah5 ps5).pk.length p5c) = Y at HBK ⊢
            go_wp2
            go_roundg g2
            case measure => omega
            case rel => exact ⟨k + 1, by omega, by go_num, _, _, _, _, _, _, _, _, _, by omega, HBK⟩
end Go.Proofs.Ytfkphdmnelchmaa
namespace Go.Proofs.Ytfkphdmnelchmaa.lawWireRuns
open Go.ChangeShapes Go.WideShapes Go.ChangeAt Go.RowKit
set_option maxRecDepth 100000 in
theorem lifted (os : Os) (started : os.Started) (H : Type) (enc : TypeId × Value → H) :
    ReturnsInHanded {} Try.checked os 7 .any (Rows.wireRunsSpec.pre6 enc Try.prog Try.f7 Rows.wireRunsRow.domain false) (Rows.wireRunsSpec.post enc Try.prog Try.f7 false true false false) := by
  refine returnsInHanded_of_change (C := Try.checked) Try.own started (by kernel_rfl) Try.func7
    (ChangeSpec.witness6 (enc := enc) (C := Try.checked) false ⟨#[], #[.int .i64 0, .int .i64 0, .int .i64 0, .slice none 0 0], []⟩ 8 (by kernel_rfl) (by kernel_rfl) (by kernel_rfl) (by kernel_rfl)) ?_
  intro W base args ds gs before hval0 hW hcnd _
  have hval : ∀ (j : Nat) t v, Try.f7.params[j]? = some t → args[j]? = some v → Value.okWide Try.prog W .any base t v := hval0
  have hW' := hW
  obtain ⟨p, q, hA0, hV, rfl, hfz, hnd⟩ := hW
  have hA : DataW.TrodAll enc Try.prog W 0 (fun _ => true) true Try.f7.params.toList args.toList ds p := hA0
  rw [Try.params7] at hA hval
  obtain ⟨v0, vs0, d0, ds0, p0, q0, hargs, rfl, rfl, h0, r0⟩ := trodAll_cons hA
  obtain ⟨v1, vs1, d1, ds1, p1, q1, rfl, rfl, rfl, h1, r1⟩ := trodAll_cons r0
  obtain ⟨v2, vs2, d2, ds2, p2, q2, rfl, rfl, rfl, h2, r2⟩ := trodAll_cons r1
  obtain ⟨v3, vs3, d3, ds3, p3, q3, rfl, rfl, rfl, h3, r3⟩ := trodAll_cons r2
  obtain ⟨rfl, rfl, rfl⟩ := trodAll_nil r3
  obtain rfl : args = #[v0, v1, v2, v3] := by cases args; simp_all
  obtain ⟨rfl, rfl⟩ := trodVars_none hV
  obtain ⟨n0, rfl, w0⟩ := arg_int Try.underlying3 (hval 0 3 v0 rfl rfl) h0
  obtain ⟨n1, rfl, w1⟩ := arg_int Try.underlying3 (hval 1 3 v1 rfl rfl) h1
  obtain ⟨n2, rfl, w2⟩ := arg_int Try.underlying3 (hval 2 3 v2 rfl rfl) h2
  obtain ⟨x3, w3⟩ := arg_slice (t := tAct) reads_acts Try.underlying31 (hval 3 31 v3 rfl rfl) h3
  clear hA0 hval0
  refine (wireRuns_any n0 n1 n2 x3 v3 W w3).mono fun e W' ⟨he, bel⟩ => ?_
  subst he
  exact ⟨_, rfl, law_post Try.laidOut rfl (by rw [Try.params7]; intro t ht; have hs : Try.prog.types.size = Try.prog.types.size := rfl; simp only [List.mem_cons, List.not_mem_nil, or_false] at ht; rcases ht with rfl | rfl | rfl | rfl <;> exact ⟨by kernel_rfl, of_decide_eq_true (by kernel_rfl)⟩) (by kernel_rfl) Try.underlying4 rfl rfl rfl hW' bel⟩

theorem proved : Rows.WireRunsSaid :=
  OpenClaim.holds_of_wide 7 Try.f7 rfl rfl rfl rfl rfl rfl rfl ⟨rfl, rfl, rfl, rfl, rfl⟩ rfl rfl rfl rfl rfl (by kernel_rfl) Try.func7 (by kernel_rfl)
    (of_decide_eq_true (by kernel_rfl)) (by unfold Func.isWrapper; first | (rw [if_pos (by decide +kernel)]; kernel_rfl) | (rw [if_neg (by decide +kernel)]; exact ⟨rfl, rfl⟩))
    (fun os started H enc _ => lifted os started H enc)
#print axioms proved
end Go.Proofs.Ytfkphdmnelchmaa.lawWireRuns
