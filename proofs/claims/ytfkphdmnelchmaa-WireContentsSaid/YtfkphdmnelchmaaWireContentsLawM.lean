/- The statement WireContentsSaid: for every input the law WireContents returns true and leaves its arguments as they were. -/
import Derived.Deep.RegionHeld3
import Derived.Test.YtfkphdmnelchmaaWc10
set_option linter.unusedVariables false
set_option linter.unusedSimpArgs false
/- Reference chapter 12's helpers: SameInts, Has, Sorted. -/
namespace Go.Proofs.Ytfkphdmnelchmaa
open Go.RowKit

set_option maxHeartbeats 1000000 in
theorem sameInts_any (xs ys : List Int) (u v : Value) (w : World) (hu : (tSlice tInt).rv (mem w) [u] xs) (hv : (tSlice tInt).rv (mem w) [v] ys) :
    Calls Try.prog 13 #[u, v] w fun e w' => e = .returned (.bool (decide (xs = ys))) ∧ Below w.heap.size w w' := by
  obtain ⟨a, cap, rfl, hl, hm, hu⟩ := slice_form hu
  obtain ⟨b, cap', rfl, hl', hm', hv⟩ := slice_form hv
  have hcap : cap ≤ 9223372036854775807 := by unfold maxLen at hm; exact hm
  have hcap' : cap' ≤ 9223372036854775807 := by unfold maxLen at hm'; exact hm'
  clear hm hm'
  by_cases hn : xs.length = ys.length
  · have hne : ((xs.length : Int) != (ys.length : Int)) = false := by simp [hn]
    have HN := Lib.hid hn
    have hle : ys.length ≤ xs.length := by omega
    have hle' : xs.length ≤ ys.length := by omega
    clear hn
    go_enter Try.func13, Try.ntmps13
    go_wp2
    go_loopw [5] (fun i wr => ∃ k : Nat, k ≤ xs.length ∧ i = .int .i64 k ∧ Hid (xs.take k = ys.take k) ∧ Below w.heap.size w wr) (fun i _ => xs.length - (intOf i).toNat)
    case atStart => exact ⟨0, by omega, rfl, Lib.hid rfl, Below.refl _ _⟩
    case round =>
      obtain ⟨k, hk, rfl, HT, hB⟩ := hrel
      by_cases hlt : k < xs.length
      · obtain ⟨b1, o1, rfl, hat⟩ := slice_at (t := tInt) hu hlt
        obtain ⟨b2, o2, rfl, hat2⟩ := slice_at (t := tInt) hv (show k < ys.length by omega)
        obtain ⟨hc, hin⟩ := int_at hat
        obtain ⟨hc2, hin2⟩ := int_at hat2
        have hc' : wr.cell? ⟨b1, o1 + k, none⟩ = some (.int .i64 xs[k]) := by
          have := (mem_of_block (hB.block b1 (mem_lt hc)) _).trans hc
          simpa [tInt, mem] using this
        have hc2' : wr.cell? ⟨b2, o2 + k, none⟩ = some (.int .i64 (ys[k]'(by omega))) := by
          have := (mem_of_block (hB.block b2 (mem_lt hc2)) _).trans hc2
          simpa [tInt, mem] using this
        have hlty : k < ys.length := by omega
        have HTx := Lib.hid (List.take_succ_eq_append_getElem hlt)
        have HTy := Lib.hid (List.take_succ_eq_append_getElem hlty)
        have HX := Lib.hid (show xs[k]? = some xs[k] from List.getElem?_eq_getElem hlt)
        have HY := Lib.hid (show ys[k]? = some ys[k] from List.getElem?_eq_getElem hlty)
        clear hc hc2 hat hat2 hu hv hin hin2
        generalize xs[k] = p at hc' HTx HX
        generalize ys[k]'hlty = q at hc2' HTy HY
        by_cases hpq : p = q
        · have hb : (p != q) = false := by simp [hpq]
          have HP := Lib.hid hpq
          clear hpq
          go_wp2
          go_region
          go_wp2
          go_roundw
          case rel => exact ⟨k + 1, by omega, by go_num, Lib.hid (by rw [HTx.out, HTy.out, HT.out, HP.out]), below_drewN hB _⟩
          case measure => simp [intOf]; omega
        · have hb : (p != q) = true := by simp [hpq]
          have HD := Lib.hid (show decide (xs = ys) = false by
            simp only [decide_eq_false_iff_not]
            intro e
            have h1 := HX.out; have h2 := HY.out
            rw [e, h2] at h1
            exact hpq (Option.some.inj h1).symm)
          clear hpq
          go_wp2
          go_region
          go_wp2
          go_ret
          exact ⟨by rw [HD.out]; rfl, below_drewN hB _⟩
      · obtain rfl : k = xs.length := by omega
        have HD := Lib.hid (show decide (xs = ys) = true by
          have := HT.out
          rw [List.take_length, List.take_of_length_le (by omega)] at this
          simpa using this)
        go_wp2
        go_ret
        exact ⟨by rw [HD.out]; rfl, hB⟩
  · have hne : ((xs.length : Int) != (ys.length : Int)) = true := by simp; omega
    have HD := Lib.hid (show decide (xs = ys) = false by simp only [decide_eq_false_iff_not]; intro e; exact hn (by rw [e]))
    clear hn
    go_enter Try.func13, Try.ntmps13
    go_wp2
    go_ret
    exact ⟨by rw [HD.out]; rfl, Below.refl _ _⟩

set_option maxHeartbeats 1000000 in
theorem has_any (xs : List Int) (u : Value) (x : Int) (w : World) (hu : (tSlice tInt).rv (mem w) [u] xs) (hx : inI64 x) :
    Calls Try.prog 44 #[u, .int .i64 x] w fun e w' => e = .returned (.bool (decide (x ∈ xs))) ∧ Below w.heap.size w w' := by
  obtain ⟨a, cap, rfl, hl, hm, hu⟩ := slice_form hu
  have hcap : cap ≤ 9223372036854775807 := by unfold maxLen at hm; exact hm
  clear hm
  have HU := Lib.hid hu
  clear hu
  go_enter Try.func44, Try.ntmps44
  go_wp2
  go_loopw [5] (fun i wr => ∃ k : Nat, k ≤ xs.length ∧ i = .int .i64 k ∧ Hid (x ∉ xs.take k) ∧ Below w.heap.size w wr) (fun i _ => xs.length - (intOf i).toNat)
  case atStart => exact ⟨0, by omega, rfl, Lib.hid (by simp), Below.refl _ _⟩
  case round =>
    obtain ⟨k, hk, rfl, HT, hB⟩ := hrel
    by_cases hlt : k < xs.length
    · obtain ⟨b1, o1, rfl, hat⟩ := slice_at (t := tInt) HU.out hlt
      obtain ⟨hc, hin⟩ := int_at hat
      have hc' : wr.cell? ⟨b1, o1 + k, none⟩ = some (.int .i64 xs[k]) := by
        have := (mem_of_block (hB.block b1 (mem_lt hc)) _).trans hc
        simpa [tInt, mem] using this
      have HTx := Lib.hid (List.take_succ_eq_append_getElem hlt)
      have HX := Lib.hid (List.getElem_mem hlt)
      clear hc hat
      generalize xs[k] = p at hc' HTx HX hin
      by_cases hpq : p = x
      · subst hpq
        have HD := Lib.hid (show decide (p ∈ xs) = true by simpa using HX.out)
        go_wp2
        go_ret
        exact ⟨by rw [HD.out]; rfl, hB⟩
      · have hb : (p == x) = false := by simp [hpq]
        have HP := Lib.hid hpq
        clear hpq
        go_wp2
        go_roundw
        case rel => exact ⟨k + 1, by omega, by go_num, Lib.hid (by rw [HTx.out]; intro h; rcases List.mem_append.1 h with h | h; exact HT.out h; exact HP.out (List.mem_singleton.1 h).symm), hB⟩
        case measure => simp [intOf]; omega
    · obtain rfl : k = xs.length := by omega
      have HD := Lib.hid (show decide (x ∈ xs) = false by
        have := HT.out
        rw [List.take_length] at this
        simpa using this)
      go_wp2
      go_ret
      exact ⟨by rw [HD.out]; rfl, hB⟩
end Go.Proofs.Ytfkphdmnelchmaa
/- The law's 'same': a wire tells what the reference's wire tells. -/
namespace Go.Proofs.Ytfkphdmnelchmaa
open Go.RowKit Go.Maps

theorem rway_sorted {r : Raw} {ah : List El} {ps : List PK} {m : Nat} (h : Sim r ah ps m) : SortedKeys r.way (rway (refOf r ah ps)) := by
  have hp : (ps.map (·.num)).Pairwise (· < ·) := by
    rw [List.pairwise_iff_getElem]
    intro i j hi hj hij
    simp only [List.getElem_map]
    simp only [List.length_map] at hi hj
    rw [h.num i hi, h.num j hj]
    omega
  have hf : rway (refOf r ah ps) = (ps.filter (fun p => !p.dl)).map (·.num) := by
    unfold rway refOf
    simp only [List.filter_map, List.map_map]
    rfl
  have hp2 : ((ps.filter (fun p => !p.dl)).map (·.num)).Pairwise (· < ·) := hp.sublist (List.Sublist.map _ (List.filter_sublist))
  rw [hf]
  refine ⟨fun k => ?_, hp2.imp (fun h => by omega), hp2.imp (fun h => by omega)⟩
  rw [List.mem_map]
  constructor
  · rintro ⟨p, hp, rfl⟩
    obtain ⟨h1, h2⟩ := List.mem_filter.1 hp
    rw [(h.way p.num p.ad).2 ⟨p, h1, rfl, rfl, by simpa using h2⟩]; rfl
  · intro hk
    obtain ⟨a, ha⟩ := Option.isSome_iff_exists.1 hk
    obtain ⟨p, h1, h2, h3, h4⟩ := (h.way k a).1 ha
    exact ⟨p, List.mem_filter.2 ⟨h1, by rw [h4]; rfl⟩, h2⟩
theorem spill_ref (q room : Int) : max 0 (q - room) = spillR q room := by unfold spillR; split <;> omega
theorem below2 {w0 w1 w2 : World} (h : Below w0.heap.size w0 w1) (k : Below w1.heap.size w1 w2) : Below w0.heap.size w0 w2 := pure_trans h k

theorem same_ints (xs : List Int) (u v : Value) (w : World) (hu : (tSlice tInt).rv (mem w) [u] xs) (hv : (tSlice tInt).rv (mem w) [v] xs) : Calls Try.prog 13 #[u, v] w fun e w' => e = .returned (.bool true) ∧ Below w.heap.size w w' :=
  (sameInts_any xs xs u v w hu hv).mono fun e w' ⟨he, hb⟩ => ⟨by rw [he, decide_eq_true rfl], hb⟩

set_option maxRecDepth 100000 in
set_option maxHeartbeats 8000000 in
theorem same_any {c : Int} {base b m N : Nat} {M : Mem} {W : World} {r : Raw} {ah : List El} {ps : List PK} {F : Nat → Prop} {a q p : Value} (h : St base b W r N M F) (so : Sound c N r ah ps m) (rf : RwAt M (refOf r ah ps) a q p) (hN : N ≤ 500000) (hk : r.count ≤ 2000) :
    Calls Try.prog 34 #[.pointer (some ⟨b, 0, none⟩), wV (refOf r ah ps) a q p] W fun e W' => e = .returned (.bool true) ∧ Below W.heap.size W W' := by
  have hcn := so.cnt0
  have hF := so.fine (by omega)
  have hrc := so.rcnt
  have hpl : (refOf r ah ps).pk.length ≤ 100 := by
    have h1 := so.cr; have h2 := so.c0; have h3 := so.c1
    show (ps.map _).length ≤ 100
    rw [List.length_map]; omega
  have hql : (refOf r ah ps).queue.length ≤ 4000 := by
    have : r.queue.length ≤ (contentsOf r ah ps).length := by unfold contentsOf; simp; omega
    show r.queue.length ≤ 4000
    omega
  have HCO := Lib.hid (fun (wq : World) (hb : Below W.heap.size W wq) => st_contents (h.pure hb) so hN)
  have HWY := Lib.hid (fun (wq : World) (hb : Below W.heap.size W wq) => (st_way (h.pure hb) (by omega)).mono (R' := fun e W' => ∃ v, e = .returned v ∧ (tSlice tInt).rv ((mem W').on (wq.heap.size ≤ ·)) [v] (rway (refOf r ah ps)) ∧ Below wq.heap.size wq W') fun e W' ⟨v, ss, a1, a2, a3, a4⟩ => ⟨v, a1, by rw [← SortedKeys.unique a3 (rway_sorted so.toSim)]; exact a2, a4⟩)
  have HRC := Lib.hid (fun (wq : World) (hb : Below W.heap.size W wq) => (refContents_any (refOf r ah ps) a q p M wq (Mem.le_trans h.mem (below_mem hb)) rf (by omega)).mono (R' := fun e W' => ∃ v, e = .returned v ∧ tEls.rv (mem W') [v] (contentsOf r ah ps) ∧ Below wq.heap.size wq W') fun e W' ⟨v, a1, a2, a3, a4⟩ => ⟨v, a1, by rw [← rcont_ref]; exact slice_in (a2.rv' (tIn_flat _ _)) (Mem.le_trans (Mem.le_trans h.mem (below_mem hb)) (below_mem a4)), a4⟩)
  have HRW := Lib.hid (fun (wq : World) (hb : Below W.heap.size W wq) => refWay_any (refOf r ah ps) a q p M wq (Mem.le_trans h.mem (below_mem hb)) rf (by omega))
  have HWA := Lib.hid (fun (wq : World) (hb : Below W.heap.size W wq) => st_waits (h.pure hb))
  have HRA := Lib.hid (fun (wq : World) (hb : Below W.heap.size W wq) => (refWaits_any (refOf r ah ps) a q p M wq (Mem.le_trans h.mem (below_mem hb)) rf).mono (R' := fun e W' => e = .returned (.bool (decide (0 < r.queue.length) && decide (r.credits = 0))) ∧ Below wq.heap.size wq W') fun e W' ⟨a1, a2⟩ => ⟨a1, a2⟩)
  have HQU := Lib.hid (fun (wq : World) (hb : Below W.heap.size W wq) => (st_queue (h.pure hb)).mono (R' := fun e W' => e = .returned (.int .i64 (refOf r ah ps).queue.length) ∧ W' = wq) fun e W' ⟨a1, a2⟩ => ⟨a1, a2⟩)
  have HBU := Lib.hid (fun (wq : World) (hb : Below W.heap.size W wq) => (st_buffer (h.pure hb)).mono (R' := fun e W' => e = .returned (.int .i64 (rbuf (refOf r ah ps)).length) ∧ W' = wq) fun e W' ⟨a1, a2⟩ => ⟨by rw [rbuf_ref so.toSim, List.length_map]; exact a1, a2⟩)
  have HRB := Lib.hid (fun (wq : World) (hb : Below W.heap.size W wq) => (refBuffered_any (refOf r ah ps) a q p M wq (Mem.le_trans h.mem (below_mem hb)) rf (by omega)).mono (R' := fun e W' => ∃ ad cp, e = .returned (.slice ad (rbuf (refOf r ah ps)).length cp) ∧ cp ≤ 9223372036854775807 ∧ Below wq.heap.size wq W') fun e W' ⟨v, a1, a2, a3, a4⟩ => by
    obtain ⟨ad, cp, rfl, _, hcp⟩ := a2.form
    exact ⟨ad, cp, a1, by unfold maxLen at hcp; exact hcp, a4⟩)
  have HCR := Lib.hid (fun (wq : World) (hb : Below W.heap.size W wq) => (st_credits (h.pure hb)).mono (R' := fun e W' => e = .returned (.int .i64 (refOf r ah ps).credits) ∧ W' = wq) fun e W' ⟨a1, a2⟩ => ⟨a1, a2⟩)
  have HSP := Lib.hid (fun (wq : World) (hb : Below W.heap.size W wq) => (st_spilled (h.pure hb) hF).mono (R' := fun e W' => e = .returned (.int .i64 (spillR (refOf r ah ps).queue.length (refOf r ah ps).room)) ∧ Below wq.heap.size wq W') fun e W' ⟨a1, n, a2⟩ => ⟨by rw [← spill_ref]; exact a1, by rw [a2]; exact ⟨rfl, rfl, rfl, Nat.le_refl _, fun _ _ => rfl⟩⟩)
  have HRS := Lib.hid (fun (wq : World) (hb : Below W.heap.size W wq) => refSpilled_any (refOf r ah ps) a q p M wq (Mem.le_trans h.mem (below_mem hb)) rf (by have := so.rm; show 0 ≤ r.room ∧ r.room ≤ 1000000; omega) (by omega))
  generalize (decide (0 < r.queue.length) && decide (r.credits = 0)) = B at *
  generalize contentsOf r ah ps = C at *
  generalize refOf r ah ps = w at *
  generalize spillR w.queue.length w.room = sp at *
  generalize rway w = ways at *
  obtain ⟨aa, ca, rfl, _, hma, _⟩ := slice_form rf.ha
  obtain ⟨aq, cq, rfl, _, hmq, _⟩ := slice_form rf.hq
  obtain ⟨ap, cp, rfl, _, hmp, _⟩ := slice_form rf.hp
  have hca : ca ≤ 9223372036854775807 := by unfold maxLen at hma; exact hma
  have hcq : cq ≤ 9223372036854775807 := by unfold maxLen at hmq; exact hmq
  have hcp : cp ≤ 9223372036854775807 := by unfold maxLen at hmp; exact hmp
  have HB0 := Lib.hid ((Below.refl W.heap.size W).alloc (Nat.le_refl _) (.cells #[.int .i64 w.size, .int .i64 w.room, .int .i64 w.credits, .int .i64 w.next, .slice aa w.ahead.length ca, .slice aq w.queue.length cq, .slice ap w.pk.length cp] 56))
  have HY := Lib.hid (heap_alloc_new W (.cells #[.int .i64 w.size, .int .i64 w.room, .int .i64 w.credits, .int .i64 w.next, .slice aa w.ahead.length ca, .slice aq w.queue.length cq, .slice ap w.pk.length cp] 56))
  clear h so rf hma hmq hmp hcn hrc hF hpl hql hk
  go_enter Try.func34, Try.ntmps34
  go_wp2_with fail
  refine (HCO.out _ HB0.out).mono ?_
  rintro e w2 ⟨v5, rfl, hb2, hr5⟩
  obtain ⟨a5, c5, rfl, _, hm5, _⟩ := slice_form hr5
  have hc5 : c5 ≤ 9223372036854775807 := by unfold maxLen at hm5; exact hm5
  have HR5 := Lib.hid (fun (wq : World) (hb : Below w2.heap.size w2 wq) => tEls.mono _ _ _ _ (Mem.le_trans (Mem.on_le _ _) (below_mem hb)) hr5)
  have HB2 := Lib.hid (below2 HB0.out hb2)
  have HZ := Lib.hid (fun (wq : World) (hb : Below w2.heap.size w2 wq) => below2 HB2.out hb)
  have HS := Lib.hid (fun (wq : World) (hb : Below w2.heap.size w2 wq) => (show wq.cell? ⟨W.heap.size, 0, none⟩ = some (.int .i64 w.size) ∧ wq.cell? ⟨W.heap.size, 1, none⟩ = some (.int .i64 w.room) ∧ wq.cell? ⟨W.heap.size, 2, none⟩ = some (.int .i64 w.credits) ∧ wq.cell? ⟨W.heap.size, 3, none⟩ = some (.int .i64 w.next) ∧ wq.cell? ⟨W.heap.size, 4, none⟩ = some (.slice aa w.ahead.length ca) ∧ wq.cell? ⟨W.heap.size, 5, none⟩ = some (.slice aq w.queue.length cq) ∧ wq.cell? ⟨W.heap.size, 6, none⟩ = some (.slice ap w.pk.length cp) from by
    have hs2 := hb2.size
    rw [World.size_alloc] at hs2
    have hy := (hb.block W.heap.size (by omega)).trans ((hb2.block W.heap.size (by rw [World.size_alloc]; omega)).trans HY.out)
    exact ⟨mem_cells hy 0, mem_cells hy 1, mem_cells hy 2, mem_cells hy 3, mem_cells hy 4, mem_cells hy 5, mem_cells hy 6⟩))
  clear hb2 hr5 hm5 HB0 HY HB2 HCO
  go_upto_region 2 with fail
  have hz0 : Below w2.heap.size w2 w2.drew := (Below.refl _ _).drew
  have s0 := HS.out _ hz0
  go_region_held3 (fun w' => w'.cell? ⟨W.heap.size, 0, none⟩ = some (.int .i64 w.size) ∧ w'.cell? ⟨W.heap.size, 1, none⟩ = some (.int .i64 w.room) ∧ w'.cell? ⟨W.heap.size, 2, none⟩ = some (.int .i64 w.credits) ∧ w'.cell? ⟨W.heap.size, 3, none⟩ = some (.int .i64 w.next) ∧ w'.cell? ⟨W.heap.size, 4, none⟩ = some (.slice aa w.ahead.length ca) ∧ w'.cell? ⟨W.heap.size, 5, none⟩ = some (.slice aq w.queue.length cq) ∧ w'.cell? ⟨W.heap.size, 6, none⟩ = some (.slice ap w.pk.length cp)) (first | with_reducible exact s0 | exact HS.out _ (by assumption) | go_keep)
    ((first
      | (go_at_call 62; refine (HRC.out _ (HZ.out _ (by assumption))).mono ?_; rintro e wC ⟨vC, rfl, hrC, hbC⟩; obtain ⟨aC, cC, rfl, _⟩ := slice_form hrC; have HRCf := Lib.hid (fun (wq : World) (hb : Below wC.heap.size wC wq) => tEls.mono _ _ _ _ (below_mem hb) hrC); have hzC : Below w2.heap.size w2 wC := below2 (by assumption) hbC; clear hrC hbC)
      | (go_at_call 22; refine (same_els C _ _ _ (HR5.out _ (by assumption)) (HRCf.out _ (by first | exact Below.refl _ _ | assumption))).mono ?_; rintro e wS ⟨rfl, hbS⟩; have hzS : Below w2.heap.size w2 wS := below2 (by assumption) hbS; clear hbS)
      | (go_at_call 38; refine (HWY.out _ (HZ.out _ (by assumption))).mono ?_; rintro e wW ⟨vW, rfl, hrW, hbW⟩; obtain ⟨aW, cW, rfl, _⟩ := slice_form hrW; have HW2 := Lib.hid (fun (wq : World) (hb : Below wW.heap.size wW wq) => (tSlice tInt).mono _ _ _ _ (Mem.le_trans (Mem.on_le _ _) (below_mem hb)) hrW); have hzW : Below w2.heap.size w2 wW := below2 (by assumption) hbW; clear hrW)
      | (go_at_call 63; refine (HRW.out _ (HZ.out _ (by assumption))).mono ?_; rintro e wR ⟨vR, rfl, hrR, hbR⟩; obtain ⟨aR, cR, rfl, _⟩ := slice_form hrR; have HR2 := Lib.hid (fun (wq : World) (hb : Below wR.heap.size wR wq) => (tSlice tInt).mono _ _ _ _ (Mem.le_trans (Mem.on_le _ _) (below_mem hb)) hrR); have hzR : Below w2.heap.size w2 wR := below2 (by assumption) hbR; clear hrR)
      | (go_at_call 13; refine (same_ints ways _ _ _ (HW2.out _ (by first | exact Below.refl _ _ | assumption)) (HR2.out _ (by first | exact Below.refl _ _ | assumption))).mono ?_; rintro e wI ⟨rfl, hbI⟩; have hzI : Below w2.heap.size w2 wI := below2 (by assumption) hbI; clear hbI)))
  all_goals
    go_upto_region 4 with fail
    have HZI := Lib.hid hzI
    clear HRCf HW2 HR2 hbW hbR hz0 hzC hzS hzW hzR hzI HR5
    have hz0 : Below w2.heap.size w2 wI.drew := HZI.out.drew
    have s0 := HS.out _ hz0
    go_region_held3 (fun w' => w'.cell? ⟨W.heap.size, 0, none⟩ = some (.int .i64 w.size) ∧ w'.cell? ⟨W.heap.size, 1, none⟩ = some (.int .i64 w.room) ∧ w'.cell? ⟨W.heap.size, 2, none⟩ = some (.int .i64 w.credits) ∧ w'.cell? ⟨W.heap.size, 3, none⟩ = some (.int .i64 w.next) ∧ w'.cell? ⟨W.heap.size, 4, none⟩ = some (.slice aa w.ahead.length ca) ∧ w'.cell? ⟨W.heap.size, 5, none⟩ = some (.slice aq w.queue.length cq) ∧ w'.cell? ⟨W.heap.size, 6, none⟩ = some (.slice ap w.pk.length cp)) (first | with_reducible exact s0 | exact HS.out _ (by assumption) | go_keep)
      ((first
        | (go_at_call 29; refine (HWA.out _ (HZ.out _ (by assumption))).mono ?_; rintro e wA ⟨rfl, rfl⟩)
        | (go_at_call 64; refine (HRA.out _ (HZ.out _ (by assumption))).mono ?_; rintro e wA ⟨rfl, hbA⟩; have hzA : Below w2.heap.size w2 wA := below2 (by assumption) hbA; clear hbA)
        | (go_at_call 30; refine (HQU.out _ (HZ.out _ (by assumption))).mono ?_; rintro e wA ⟨rfl, rfl⟩)
        | (go_at_call 31; refine (HBU.out _ (HZ.out _ (by assumption))).mono ?_; rintro e wA ⟨rfl, rfl⟩)
        | (go_at_call 65; refine (HRB.out _ (HZ.out _ (by assumption))).mono ?_; rintro e wU ⟨aU, cU, rfl, hcU, hbU⟩; have hzU : Below w2.heap.size w2 wU := below2 (by assumption) hbU; clear hbU)
        | (go_at_call 28; refine (HCR.out _ (HZ.out _ (by assumption))).mono ?_; rintro e wA ⟨rfl, rfl⟩)
        | (go_at_call 37; refine (HSP.out _ (HZ.out _ (by assumption))).mono ?_; rintro e wP ⟨rfl, hbP⟩; have hzP : Below w2.heap.size w2 wP := below2 (by assumption) hbP; clear hbP)
        | (go_at_call 66; refine (HRS.out _ (HZ.out _ (by assumption))).mono ?_; rintro e wQ ⟨rfl, hbQ⟩; have hzQ : Below w2.heap.size w2 wQ := below2 (by assumption) hbQ; clear hbQ)))
    all_goals
      go_wp2
      go_ret
      exact ⟨rfl, HZ.out _ (by assumption)⟩
end Go.Proofs.Ytfkphdmnelchmaa
/- Restore, of both sides, and list. -/
namespace Go.Proofs.Ytfkphdmnelchmaa
open Go.RowKit Go.Maps

set_option maxHeartbeats 1000000 in
theorem indexFuncEl (Fn : FuncId) (capt : Array Value) (p : El → Bool) (xs : List El) (v : Value) (w : World) (hv : tEls.rv (mem w) [v] xs)
    (hcf : ∀ args w, Sem.run Try.prog (callFunc Fn args) w = .ok (.enter Fn args) w)
    (hf : ∀ x ∈ xs, ∀ wr, Below w.heap.size w wr → ∀ s, tRow.rv (mem wr) [s] x.row → Calls Try.prog Fn (#[elV x s] ++ capt) wr fun e w' => e = .returned (.bool (p x)) ∧ Below wr.heap.size wr w') :
    Calls Try.prog 83 #[v, .func (.func Fn) #[] capt] w fun e w' => e = .returned (.int .i64 (idxOf p xs)) ∧ Below w.heap.size w w' := by
  obtain ⟨a, cap, rfl, hl, hm, hv⟩ := slice_form hv
  have hcap : cap ≤ 9223372036854775807 := by unfold maxLen at hm; exact hm
  clear hm
  have HF := Lib.hid hf
  clear hf
  go_enter Try.func83, Try.ntmps83
  go_wp2
  go_loopw [8] (fun i wr => ∃ k : Nat, k ≤ xs.length ∧ i = .int .i64 k ∧ Hid (∀ x ∈ xs.take k, p x = false) ∧ Below w.heap.size w wr) (fun i _ => xs.length - (intOf i).toNat)
  case atStart => exact ⟨0, by omega, rfl, Lib.hid (by simp), Below.refl _ _⟩
  case round =>
    obtain ⟨k, hk, rfl, HT, hB⟩ := hrel
    by_cases hlt : k < xs.length
    · obtain ⟨b, o, rfl, hat⟩ := slice_at hv hlt
      have hat := tEl.at_mono (below_mem hB) hat
      obtain ⟨a2, cap2, c0, c1, c2, c3, c4, i0, hr, hm2⟩ := el_at hat
      have c0 : wr.cell? ⟨b, o + k * 5, none⟩ = some (.int .i64 xs[k].kind) := c0
      have c1 : wr.cell? ⟨b, o + k * 5 + 1, none⟩ = some (.int .i64 xs[k].n) := c1
      have c2 : wr.cell? ⟨b, o + k * 5 + 2, none⟩ = some (.int .i64 xs[k].time) := c2
      have c3 : wr.cell? ⟨b, o + k * 5 + 3, none⟩ = some (.slice a2 xs[k].row.length cap2) := c3
      have c4 : wr.cell? ⟨b, o + k * 5 + 4, none⟩ = some (.int .i64 xs[k].cn) := c4
      have hcall := HF.out xs[k] (List.getElem_mem hlt) wr hB (.slice a2 xs[k].row.length cap2) hr
      have HI := Lib.hid (show p xs[k] = true → idxOf p xs = k from fun h => idxOf_at hlt h HT.out)
      have HN := Lib.hid (show p xs[k] = false → ∀ x ∈ xs.take (k + 1), p x = false from fun h => mem_take_snoc hlt HT.out h)
      clear hat hv HF HT hr
      generalize xs[k] = x at *
      generalize hpx : p x = r at hcall HI HN
      clear hpx
      have HC := Lib.hid hcall
      clear hcall
      go_wp2_with fail
      refine HC.out.mono ?_
      rintro e w1 ⟨rfl, hB1⟩
      have hB2 := pure_trans hB hB1
      clear HC hB hB1 c0 c1 c2 c3 c4
      cases r
      · go_wp2
        go_roundw
        case rel => exact ⟨k + 1, by omega, by go_num, Lib.hid (HN.out (by trivial)), hB2⟩
        case measure => simp [intOf]; omega
      · go_wp2
        go_ret
        exact ⟨by rw [HI.out (by trivial)]; rfl, hB2⟩
    · obtain rfl : k = xs.length := by omega
      have HX := Lib.hid (idxOf_none (p := p) (l := xs) (fun x hx => HT.out x (by rw [List.take_length]; exact hx)))
      go_wp2
      go_ret
      exact ⟨by rw [HX.out]; rfl, hB⟩
set_option maxHeartbeats 1000000 in
theorem containsFuncEl (Fn : FuncId) (capt : Array Value) (p : El → Bool) (xs : List El) (v : Value) (w : World) (hv : tEls.rv (mem w) [v] xs)
    (hcf : ∀ args w, Sem.run Try.prog (callFunc Fn args) w = .ok (.enter Fn args) w)
    (hf : ∀ x ∈ xs, ∀ wr, Below w.heap.size w wr → ∀ s, tRow.rv (mem wr) [s] x.row → Calls Try.prog Fn (#[elV x s] ++ capt) wr fun e w' => e = .returned (.bool (p x)) ∧ Below wr.heap.size wr w') :
    Calls Try.prog 67 #[v, .func (.func Fn) #[] capt] w fun e w' => e = .returned (.bool (xs.any p)) ∧ Below w.heap.size w w' := by
  have H := Lib.hid (indexFuncEl Fn capt p xs v w hv hcf hf)
  have HA := Lib.hid (idxOf_any p xs)
  clear hcf hf hv
  generalize idxOf p xs = i at H HA
  go_enter Try.func67, Try.ntmps67
  go_wp2_with fail
  refine H.out.mono ?_
  rintro e w1 ⟨rfl, hB⟩
  go_wp2
  go_ret
  exact ⟨by rw [← HA.out]; rfl, hB⟩
set_option maxHeartbeats 1000000 in
theorem restore1_any (x : El) (s : Value) (w : World) (hv : tRow.rv (mem w) [s] x.row) :
    Calls Try.prog 68 #[elV x s] w fun e w' => e = .returned (.bool (!validEl x)) ∧ Below w.heap.size w w' := by
  have HC := Lib.hid (fun o => validEl_any x s (w.alloc o) (tRow.mono _ _ _ _ (below_mem ((Below.refl _ _).alloc (Nat.le_refl _) o)) hv))
  have hb := Lib.hid (fun o => (Below.refl w.heap.size w).alloc (Nat.le_refl _) o)
  obtain ⟨a, cap, rfl, _, _, _⟩ := slice_form hv
  clear hv
  go_enter Try.func68, Try.ntmps68
  go_wp2_with fail
  refine (HC.out _).mono ?_
  rintro e w1 ⟨rfl, hb1⟩
  have HB := Lib.hid (below2 (hb.out _) hb1)
  clear hb1
  go_wp2
  go_ret
  exact ⟨rfl, HB.out⟩
set_option maxRecDepth 100000 in
theorem badEls_any (xs : List El) (v : Value) (w : World) (hv : tEls.rv (mem w) [v] xs) :
    Calls Try.prog 67 #[v, .func (.func 68) #[] #[]] w fun e w' => e = .returned (.bool (!xs.all validEl)) ∧ Below w.heap.size w w' := by
  rw [show (!xs.all validEl) = xs.any (fun x => !validEl x) from by simp [List.all_eq_not_any_not]]
  exact containsFuncEl 68 #[] (fun x => !validEl x) xs v w hv (fun _ _ => rfl) (fun x _ wr _ s hs => restore1_any x s wr hs)

set_option maxRecDepth 100000 in
set_option maxHeartbeats 2000000 in
theorem list_any (xs : List El) (v : Value) (W : World) (hv : tEls.rv (mem W) [v] xs) :
    Calls Try.prog 39 #[v] W fun e W' => (∃ q, e = .returned (.bool q) ∧ (q = false → xs.length ≤ 60)) ∧ Below W.heap.size W W' := by
  obtain ⟨a, cap, rfl, hl, hm, hv⟩ := slice_form hv
  have hcap : cap ≤ 9223372036854775807 := by unfold maxLen at hm; exact hm
  have HV := Lib.hid hv
  clear hm hv
  go_enter Try.func39, Try.ntmps39
  go_wp2
  go_loopw [3] (fun i wr => ∃ k : Nat, k ≤ xs.length ∧ i = .int .i64 k ∧ Below W.heap.size W wr) (fun i _ => xs.length - (intOf i).toNat)
  case atStart => exact ⟨0, by omega, by go_num, Below.refl _ _⟩
  case round =>
    obtain ⟨k, hk, rfl, hB⟩ := hrel
    by_cases hlt : k < xs.length
    · obtain ⟨b, o, rfl, hat⟩ := slice_at HV.out hlt
      obtain ⟨a2, cap2, c0, c1, c2, c3, c4, i0, hr, hm2⟩ := el_at (tEl.at_mono (below_mem hB) hat)
      have c0 : wr.cell? ⟨b, o + k * 5, none⟩ = some (.int .i64 xs[k].kind) := c0
      have c1 : wr.cell? ⟨b, o + k * 5 + 1, none⟩ = some (.int .i64 xs[k].n) := c1
      have c2 : wr.cell? ⟨b, o + k * 5 + 2, none⟩ = some (.int .i64 xs[k].time) := c2
      have c3 : wr.cell? ⟨b, o + k * 5 + 3, none⟩ = some (.slice a2 xs[k].row.length cap2) := c3
      have c4 : wr.cell? ⟨b, o + k * 5 + 4, none⟩ = some (.int .i64 xs[k].cn) := c4
      have HG := Lib.hid (great_any xs[k] _ wr hr)
      have HB := Lib.hid hB
      clear hat i0 hr hm2 hB
      generalize xs[k] = x at *
      go_wp2_with fail
      refine HG.out.mono ?_
      rintro e w2 ⟨⟨q, rfl, _⟩, hb⟩
      have HB2 := Lib.hid (HB.out.trans (hb.mono HB.out.size))
      clear HB hb c0 c1 c2 c3 c4 HG
      cases q with
      | false =>
        go_wp2
        go_roundw
        case rel => exact ⟨k + 1, by omega, by go_num, HB2.out⟩
        case measure => simp [intOf]; omega
      | true =>
        go_wp2
        try rw [Exit.noGoto_ret]
        go_ret
        exact ⟨⟨true, rfl, fun h => by cases h⟩, HB2.out⟩
    · have HB := Lib.hid hB
      clear hB
      go_wp2
      go_ret
      exact ⟨⟨_, rfl, fun h => by simp at h; omega⟩, HB.out⟩

def restR (size credits room : Int) (l : List El) : Raw := { newRaw size credits room with queue := l, count := l.length }
theorem put_rest {size credits room : Int} {l : List El} {x : El} (hv : validEl x = true) (hl : l.length < 4000) : putE (restR size credits room l) x = 0 ∧ putR (restR size credits room l) x = restR size credits room (l ++ [x]) := by
  have hne : ¬ ((restR size credits room l).count = 4000) := by show ¬ ((l.length : Int) = 4000); omega
  constructor
  · unfold putE; rw [if_pos hv, if_neg hne]
  · unfold putR; rw [if_pos hv, if_neg hne]
    unfold restR
    simp
theorem sound_rest {size credits room : Int} (h : okNew size credits room) {l : List El} (hl : l.length ≤ 4000) (hx : ∀ x ∈ l, validEl x = true ∧ x.ok) : Sound credits 0 (restR size credits room l) [] [] 0 := by
  have s := sim_new size credits room
  exact ⟨⟨⟨s.buf, s.num, s.tu, s.hm, s.dl, s.way, s.early, s.pt, s.ne, s.ads, s.nd, by show (l.length : Int) = _; simp [restR]⟩, s.tn⟩, h.1, h.2.2, by show credits + _ = credits; simp, by show 0 ≤ credits; have := h.2.1; omega, h.2.1, by show 0 ≤ (0 : Int) - _; simp, by show (0 : Int) ≤ _; simp, by show (l.length : Int) ≤ 4000; omega, fun x hm => hx x (by simpa [contentsOf, restR] using hm), fun p hp => by simp [restR, newRaw] at hp⟩
theorem rest_cont (size credits room : Int) (l : List El) : contentsOf (restR size credits room l) [] [] = l := by simp [contentsOf, restR]
theorem rest_ref (size credits room : Int) (l : List El) : refOf (restR size credits room l) [] [] = { newRW size credits room with queue := l } := rfl
def RestOut (W : World) (sz cr rm : Int) (xs : List El) (F : Nat → Prop) (e : Ending) (W' : World) : Prop :=
  (xs.all validEl = false ∧ e = .returned (.tuple #[.pointer none, .int .i64 1])) ∨ (xs.all validEl = true ∧ ¬ okNew sz cr rm ∧ e = .returned (.tuple #[.pointer none, .int .i64 7])) ∨
  (xs.all validEl = true ∧ okNew sz cr rm ∧ ∃ b base M, e = .returned (.tuple #[.pointer (some ⟨b, 0, none⟩), .int .i64 0]) ∧ W.heap.size ≤ base ∧ ((mem W).on (fun k => ¬ F k)).le M ∧ St base b W' (restR sz cr rm xs) xs.length M F)

set_option maxRecDepth 100000 in
set_option maxHeartbeats 4000000 in
theorem restore_any (sz cr rm : Int) (xs : List El) (v : Value) (F : Nat → Prop) (W : World) (hF : ∀ k, F k → k < W.heap.size) (hv : tEls.rv (mem W) [v] xs) (hok : ∀ x ∈ xs, x.ok) (hl : xs.length ≤ 1000) :
    Calls Try.prog 40 #[.int .i64 sz, .int .i64 cr, .int .i64 rm, v] W fun e W' => RestOut W sz cr rm xs F e W' ∧ Below W.heap.size W W' := by
  obtain ⟨a, cap, rfl, hlc, hm, hv⟩ := slice_form hv
  have hcap : cap ≤ 9223372036854775807 := by unfold maxLen at hm; exact hm
  have HV := Lib.hid hv
  have HF := Lib.hid hF
  have HOK := Lib.hid hok
  have HC := Lib.hid (badEls_any xs _ W hv)
  clear hm hv hF hok
  go_enter Try.func40, Try.ntmps40
  cases hva : xs.all validEl
  · rw [hva] at HC
    have HVA := Lib.hid hva
    clear hva
    go_wp2_with fail
    refine HC.out.mono ?_
    rintro e w1 ⟨rfl, hb1⟩
    have HB1 := Lib.hid hb1
    clear hb1
    go_wp2
    go_ret2
    exact ⟨.inl ⟨HVA.out, rfl⟩, HB1.out⟩
  rw [hva] at HC
  have HVA := Lib.hid hva
  have HVX := Lib.hid (show ∀ x ∈ xs, validEl x = true from fun x hx => List.all_eq_true.1 hva x hx)
  clear hva
  go_wp2_with fail
  refine HC.out.mono ?_
  rintro e w1 ⟨rfl, hb1⟩
  have HB1 := Lib.hid hb1
  clear hb1 HC
  go_wp2_with fail
  refine (st_new sz cr rm F w1 (fun k hk => Nat.lt_of_lt_of_le (HF.out k hk) HB1.out.size)).mono ?_
  rintro e w3 ⟨hB3, ⟨hok, b, rfl, hS⟩ | ⟨hno, rfl⟩⟩
  rotate_left
  · have HB3 := Lib.hid (below2 HB1.out hB3)
    have HNO := Lib.hid hno
    clear hB3 hno
    go_wp2
    go_ret2
    exact ⟨.inr (.inl ⟨HVA.out, HNO.out, rfl⟩), HB3.out⟩
  have HB3 := Lib.hid (below2 HB1.out hB3)
  have HKN := Lib.hid hok
  have HMM := Lib.hid (show ((mem W).on (fun k => ¬ F k)).le ((mem w1).on (fun k => ¬ F k)) from fun i o v e => by
    obtain ⟨hs, e⟩ := Mem.of_on e
    exact Mem.on_some (below_mem HB1.out _ _ _ e) hs)
  have HS := Lib.hid (show St w1.heap.size b w3 (restR sz cr rm (xs.take 0)) 0 ((mem w1).on (fun k => ¬ F k)) F from hS)
  have hsz := HB1.out.size
  clear hB3 hok hS
  generalize ((mem w1).on (fun k => ¬ F k)) = M at HS HMM
  go_wp2
  go_loopw [29] (fun i wr => ∃ k : Nat, k ≤ xs.length ∧ i = .int .i64 k ∧ Hid (St w1.heap.size b wr (restR sz cr rm (xs.take k)) k M F) ∧ Hid (Below W.heap.size W wr)) (fun i _ => xs.length - (intOf i).toNat)
  case atStart => exact ⟨0, by omega, by go_num, HS, HB3⟩
  case round =>
    clear HS HB3
    obtain ⟨k, hk, rfl, HS, HB3⟩ := hrel
    by_cases hlt : k < xs.length
    · obtain ⟨bb, o, rfl, hat⟩ := slice_at HV.out hlt
      obtain ⟨a2, cap2, c0, c1, c2, c3, c4, i0, hr, hm2⟩ := el_at (tEl.at_mono (below_mem HB3.out) hat)
      have c0 : wr.cell? ⟨bb, o + k * 5, none⟩ = some (.int .i64 xs[k].kind) := c0
      have c1 : wr.cell? ⟨bb, o + k * 5 + 1, none⟩ = some (.int .i64 xs[k].n) := c1
      have c2 : wr.cell? ⟨bb, o + k * 5 + 2, none⟩ = some (.int .i64 xs[k].time) := c2
      have c3 : wr.cell? ⟨bb, o + k * 5 + 3, none⟩ = some (.slice a2 xs[k].row.length cap2) := c3
      have c4 : wr.cell? ⟨bb, o + k * 5 + 4, none⟩ = some (.int .i64 xs[k].cn) := c4
      have hx := HOK.out xs[k] (List.getElem_mem hlt)
      have hvx := HVX.out xs[k] (List.getElem_mem hlt)
      have hlk : (xs.take k).length = k := by rw [List.length_take]; omega
      obtain ⟨hp1, hp2⟩ := put_rest (size := sz) (credits := cr) (room := rm) (l := xs.take k) hvx (by omega)
      have htk : xs.take k ++ [xs[k]] = xs.take (k + 1) := by rw [List.take_succ_eq_append_getElem hlt]
      rw [htk] at hp2
      have hso := sound_rest HKN.out (l := xs.take k) (by omega) (fun x hx => ⟨HVX.out x (List.mem_of_mem_take hx), HOK.out x (List.mem_of_mem_take hx)⟩)
      have HP := Lib.hid (fun o => st_put (HS.out.pure ((Below.refl _ _).alloc (Nat.le_refl _) o)) (hso.fine (by omega)) xs[k] (.slice a2 xs[k].row.length cap2) hx (tRow.mono _ _ _ _ (below_mem ((Below.refl _ _).alloc (Nat.le_refl _) o)) hr))
      rw [hp1, hp2] at HP
      clear hat i0 hr hm2 hx hvx hlk hp1 hp2 htk hso
      generalize xs[k] = x at *
      go_wp2_with fail
      refine (HP.out _).mono ?_
      rintro e w5 ⟨rfl, hS5⟩
      have HS5 := Lib.hid hS5.1
      have HB5 := Lib.hid ((HB3.out.alloc HB3.out.size (.cells #[.int .i64 x.kind, .int .i64 x.n, .int .i64 x.time, .slice a2 x.row.length cap2, .int .i64 x.cn] 42)).trans (hS5.2.1.mono hsz))
      clear hS5 HP c0 c1 c2 c3 c4 HS HB3
      go_wp2
      go_roundw
      case rel => exact ⟨k + 1, by omega, by go_num, HS5, HB5⟩
      case measure => simp [intOf]; omega
    · obtain rfl : k = xs.length := by omega
      go_wp2
      go_ret2
      exact ⟨.inr (.inr ⟨HVA.out, HKN.out, b, w1.heap.size, M, rfl, hsz, HMM.out, by have h := HS.out; rwa [List.take_length] at h⟩), HB3.out⟩
end Go.Proofs.Ytfkphdmnelchmaa
/- The reference's Restore. -/
namespace Go.Proofs.Ytfkphdmnelchmaa
open Go.RowKit Go.Maps

def RRest (W : World) (sz cr rm : Int) (xs : List El) (v : Value) (e : Ending) : Prop :=
  (xs.all validEl = false ∧ e = .returned (.tuple #[wV zeroRW (.slice none 0 0) (.slice none 0 0) (.slice none 0 0), .int .i64 1])) ∨ (xs.all validEl = true ∧ ¬ okNew sz cr rm ∧ e = .returned (.tuple #[wV zeroRW (.slice none 0 0) (.slice none 0 0) (.slice none 0 0), .int .i64 7])) ∨
  (xs.all validEl = true ∧ okNew sz cr rm ∧ e = .returned (.tuple #[wV { newRW sz cr rm with queue := xs } (.slice none 0 0) v (.slice none 0 0), .int .i64 0]))
set_option maxRecDepth 100000 in
set_option maxHeartbeats 4000000 in
theorem refRestore_any (sz cr rm : Int) (xs : List El) (v : Value) (W : World) (hv : tEls.rv (mem W) [v] xs) (hl : xs.length ≤ 1000) :
    Calls Try.prog 41 #[.int .i64 sz, .int .i64 cr, .int .i64 rm, v] W fun e W' => RRest W sz cr rm xs v e ∧ Below W.heap.size W W' := by
  obtain ⟨a, cap, rfl, hlc, hm, hv⟩ := slice_form hv
  have hcap : cap ≤ 9223372036854775807 := by unfold maxLen at hm; exact hm
  have HV := Lib.hid hv
  clear hm hv
  have HB2 := Lib.hid ((Below.refl W.heap.size W).alloc (Nat.le_refl _) (.cells #[.int .i64 0, .int .i64 0, .int .i64 0, .int .i64 0, .slice none 0 0, .slice none 0 0, .slice none 0 0] 56))
  have yR : (W.alloc (.cells #[.int .i64 0, .int .i64 0, .int .i64 0, .int .i64 0, .slice none 0 0, .slice none 0 0, .slice none 0 0] 56)).heap[W.heap.size]? = some (.cells #[.int .i64 0, .int .i64 0, .int .i64 0, .int .i64 0, .slice none 0 0, .slice none 0 0, .slice none 0 0] 56 (0, 0)) := heap_alloc_new W _
  have hszY : (W.alloc (.cells #[.int .i64 0, .int .i64 0, .int .i64 0, .int .i64 0, .slice none 0 0, .slice none 0 0, .slice none 0 0] 56)).heap.size = W.heap.size + 1 := by simp
  go_enter Try.func41, Try.ntmps41
  go_upto_region 1 with fail
  generalize W.alloc (.cells #[.int .i64 0, .int .i64 0, .int .i64 0, .int .i64 0, .slice none 0 0, .slice none 0 0, .slice none 0 0] 56) = Y at HB2 yR hszY ⊢
  have HYR := Lib.hid yR
  clear yR
  go_wp2
  go_loopw [10] (fun i wr => ∃ k : Nat, k ≤ xs.length ∧ i = .int .i64 k ∧ Hid (∀ x ∈ xs.take k, validEl x = true) ∧ Hid (Below Y.heap.size Y wr)) (fun i _ => xs.length - (intOf i).toNat)
  case atStart => exact ⟨0, by omega, by go_num, Lib.hid (by simp), Lib.hid (Below.refl _ _)⟩
  case round =>
    obtain ⟨k, hk, rfl, HT, HB⟩ := hrel
    have HBW := Lib.hid (HB2.out.trans (HB.out.mono (by omega)) : Below W.heap.size W wr)
    by_cases hlt : k < xs.length
    · obtain ⟨b, o, rfl, hat⟩ := slice_at HV.out hlt
      obtain ⟨a2, cap2, c0, c1, c2, c3, c4, i0, hr, hm2⟩ := el_at (tEl.at_mono (below_mem HBW.out) hat)
      have c0 : wr.cell? ⟨b, o + k * 5, none⟩ = some (.int .i64 xs[k].kind) := c0
      have c1 : wr.cell? ⟨b, o + k * 5 + 1, none⟩ = some (.int .i64 xs[k].n) := c1
      have c2 : wr.cell? ⟨b, o + k * 5 + 2, none⟩ = some (.int .i64 xs[k].time) := c2
      have c3 : wr.cell? ⟨b, o + k * 5 + 3, none⟩ = some (.slice a2 xs[k].row.length cap2) := c3
      have c4 : wr.cell? ⟨b, o + k * 5 + 4, none⟩ = some (.int .i64 xs[k].cn) := c4
      have HC := Lib.hid (refValidEl_any xs[k] (.slice a2 xs[k].row.length cap2) wr hr)
      have HI := Lib.hid (show validEl xs[k] = false → xs.all validEl = false from fun h => by
        rw [List.all_eq_false]
        exact ⟨xs[k], List.getElem_mem hlt, by simp [h]⟩)
      have HN := Lib.hid (show validEl xs[k] = true → ∀ x ∈ xs.take (k + 1), validEl x = true from fun h => mem_take_snoc hlt HT.out h)
      clear hat HT i0 hr hm2
      generalize xs[k] = x at *
      generalize validEl x = r at HC HI HN
      go_wp2_with fail
      refine HC.out.mono ?_
      rintro e w1 ⟨rfl, hb1⟩
      have HB3 := Lib.hid (HB.out.trans (hb1.mono HB.out.size))
      have HBW3 := Lib.hid (HBW.out.trans (hb1.mono HBW.out.size))
      clear HC HB HBW hb1 c0 c1 c2 c3 c4
      cases r
      · have yR := (HB3.out.block W.heap.size (by omega)).trans HYR.out
        have z0 : w1.cell? ⟨W.heap.size, 0, none⟩ = some (.int .i64 0) := mem_cells yR 0
        have z1 : w1.cell? ⟨W.heap.size, 1, none⟩ = some (.int .i64 0) := mem_cells yR 1
        have z2 : w1.cell? ⟨W.heap.size, 2, none⟩ = some (.int .i64 0) := mem_cells yR 2
        have z3 : w1.cell? ⟨W.heap.size, 3, none⟩ = some (.int .i64 0) := mem_cells yR 3
        have z4 : w1.cell? ⟨W.heap.size, 4, none⟩ = some (.slice none 0 0) := mem_cells yR 4
        have z5 : w1.cell? ⟨W.heap.size, 5, none⟩ = some (.slice none 0 0) := mem_cells yR 5
        have z6 : w1.cell? ⟨W.heap.size, 6, none⟩ = some (.slice none 0 0) := mem_cells yR 6
        have fR : ∀ o, w1.frozen? ⟨W.heap.size, o, none⟩ = false := frozen_cells yR
        have HY1 := Lib.hid yR
        clear yR
        go_wp2
        try rw [Exit.noGoto_ret]
        have r1 := store7_block HY1.out (.int .i64 0) (.int .i64 0) (.int .i64 0) (.int .i64 0) (.slice none 0 0) (.slice none 0 0) (.slice none 0 0)
        have hk := store7_keeps w1 W.heap.size (.int .i64 0) (.int .i64 0) (.int .i64 0) (.int .i64 0) (.slice none 0 0) (.slice none 0 0) (.slice none 0 0)
        show bodyPost _ _ _ _ _ (store7 w1 W.heap.size (.int .i64 0) (.int .i64 0) (.int .i64 0) (.int .i64 0) (.slice none 0 0) (.slice none 0 0) (.slice none 0 0))
        generalize store7 w1 W.heap.size (.int .i64 0) (.int .i64 0) (.int .i64 0) (.int .i64 0) (.slice none 0 0) (.slice none 0 0) (.slice none 0 0) = w9 at r1 hk ⊢
        have hBz : Below W.heap.size W w9 := Keeps.belowStep HBW3.out hk (fun k hk => by omega) HBW3.out.size
        have g0 : w9.cell? ⟨W.heap.size, 0, none⟩ = some (.int .i64 0) := mem_cells r1 0
        have g1 : w9.cell? ⟨W.heap.size, 1, none⟩ = some (.int .i64 0) := mem_cells r1 1
        have g2 : w9.cell? ⟨W.heap.size, 2, none⟩ = some (.int .i64 0) := mem_cells r1 2
        have g3 : w9.cell? ⟨W.heap.size, 3, none⟩ = some (.int .i64 0) := mem_cells r1 3
        have g4 : w9.cell? ⟨W.heap.size, 4, none⟩ = some (.slice none 0 0) := mem_cells r1 4
        have g5 : w9.cell? ⟨W.heap.size, 5, none⟩ = some (.slice none 0 0) := mem_cells r1 5
        have g6 : w9.cell? ⟨W.heap.size, 6, none⟩ = some (.slice none 0 0) := mem_cells r1 6
        exact bodyPost_ret (v := .tuple #[.agg #[.int .i64 0, .int .i64 0, .int .i64 0, .int .i64 0, .slice none 0 0, .slice none 0 0, .slice none 0 0], .int .i64 1]) (by simp [results, Try.results41, go_sem, g0, g1, g2, g3, g4, g5, g6]) rfl ⟨.inl ⟨HI.out trivial, rfl⟩, hBz⟩
      · go_wp2
        go_roundw
        case rel => exact ⟨k + 1, by omega, by go_num, Lib.hid (HN.out (by trivial)), HB3⟩
        case measure => simp [intOf]; omega
    · obtain rfl : k = xs.length := by omega
      have HA := Lib.hid (show xs.all validEl = true from List.all_eq_true.2 (fun x hx => HT.out x (by rw [List.take_length]; exact hx)))
      clear HT
      go_wp2_with fail
      refine (refNew_any sz cr rm wr).mono ?_
      rintro e w3 ⟨⟨hok, rfl⟩ | ⟨hno, rfl⟩, hb3⟩
      · have HKN := Lib.hid hok
        have HB3 := Lib.hid (HB.out.trans (hb3.mono HB.out.size))
        have HBW3 := Lib.hid (HBW.out.trans (hb3.mono HBW.out.size))
        clear hok hb3 HB HBW
        go_upto_region 12 with fail
        have HX := Lib.hid (heap_alloc_new w3 (.cells #[.int .i64 (newRW sz cr rm).size, .int .i64 (newRW sz cr rm).room, .int .i64 (newRW sz cr rm).credits, .int .i64 (newRW sz cr rm).next, .slice none 0 0, .slice a xs.length cap, .slice none 0 0] 56))
        have HBX := Lib.hid (HBW3.out.alloc HBW3.out.size (.cells #[.int .i64 (newRW sz cr rm).size, .int .i64 (newRW sz cr rm).room, .int .i64 (newRW sz cr rm).credits, .int .i64 (newRW sz cr rm).next, .slice none 0 0, .slice a xs.length cap, .slice none 0 0] 56))
        have HNX := Lib.hid (show W.heap.size < w3.heap.size from by have := HB3.out.size; omega)
        have yR : (w3.alloc (.cells #[.int .i64 (newRW sz cr rm).size, .int .i64 (newRW sz cr rm).room, .int .i64 (newRW sz cr rm).credits, .int .i64 (newRW sz cr rm).next, .slice none 0 0, .slice a xs.length cap, .slice none 0 0] 56)).heap[W.heap.size]? = some (.cells #[.int .i64 0, .int .i64 0, .int .i64 0, .int .i64 0, .slice none 0 0, .slice none 0 0, .slice none 0 0] 56 (0, 0)) := alloc_block ((HB3.out.block W.heap.size (by omega)).trans HYR.out) _
        generalize w3.alloc (.cells #[.int .i64 (newRW sz cr rm).size, .int .i64 (newRW sz cr rm).room, .int .i64 (newRW sz cr rm).credits, .int .i64 (newRW sz cr rm).next, .slice none 0 0, .slice a xs.length cap, .slice none 0 0] 56) = X at HX HBX yR ⊢
        have z0 : X.cell? ⟨W.heap.size, 0, none⟩ = some (.int .i64 0) := mem_cells yR 0
        have z1 : X.cell? ⟨W.heap.size, 1, none⟩ = some (.int .i64 0) := mem_cells yR 1
        have z2 : X.cell? ⟨W.heap.size, 2, none⟩ = some (.int .i64 0) := mem_cells yR 2
        have z3 : X.cell? ⟨W.heap.size, 3, none⟩ = some (.int .i64 0) := mem_cells yR 3
        have z4 : X.cell? ⟨W.heap.size, 4, none⟩ = some (.slice none 0 0) := mem_cells yR 4
        have z5 : X.cell? ⟨W.heap.size, 5, none⟩ = some (.slice none 0 0) := mem_cells yR 5
        have z6 : X.cell? ⟨W.heap.size, 6, none⟩ = some (.slice none 0 0) := mem_cells yR 6
        have fR : ∀ o, X.frozen? ⟨W.heap.size, o, none⟩ = false := frozen_cells yR
        have m0 : X.cell? ⟨w3.heap.size, 0, none⟩ = some (.int .i64 (newRW sz cr rm).size) := mem_cells HX.out 0
        have m1 : X.cell? ⟨w3.heap.size, 1, none⟩ = some (.int .i64 (newRW sz cr rm).room) := mem_cells HX.out 1
        have m2 : X.cell? ⟨w3.heap.size, 2, none⟩ = some (.int .i64 (newRW sz cr rm).credits) := mem_cells HX.out 2
        have m3 : X.cell? ⟨w3.heap.size, 3, none⟩ = some (.int .i64 (newRW sz cr rm).next) := mem_cells HX.out 3
        have m4 : X.cell? ⟨w3.heap.size, 4, none⟩ = some (.slice none 0 0) := mem_cells HX.out 4
        have m5 : X.cell? ⟨w3.heap.size, 5, none⟩ = some (.slice a xs.length cap) := mem_cells HX.out 5
        have m6 : X.cell? ⟨w3.heap.size, 6, none⟩ = some (.slice none 0 0) := mem_cells HX.out 6
        have HY1 := Lib.hid yR
        clear yR
        go_wp2
        have r1 := store7_block HY1.out (.int .i64 (newRW sz cr rm).size) (.int .i64 (newRW sz cr rm).room) (.int .i64 (newRW sz cr rm).credits) (.int .i64 (newRW sz cr rm).next) (.slice none 0 0) (.slice a xs.length cap) (.slice none 0 0)
        have hk := store7_keeps X W.heap.size (.int .i64 (newRW sz cr rm).size) (.int .i64 (newRW sz cr rm).room) (.int .i64 (newRW sz cr rm).credits) (.int .i64 (newRW sz cr rm).next) (.slice none 0 0) (.slice a xs.length cap) (.slice none 0 0)
        show bodyPost _ _ _ _ _ (store7 X W.heap.size (.int .i64 (newRW sz cr rm).size) (.int .i64 (newRW sz cr rm).room) (.int .i64 (newRW sz cr rm).credits) (.int .i64 (newRW sz cr rm).next) (.slice none 0 0) (.slice a xs.length cap) (.slice none 0 0))
        generalize store7 X W.heap.size (.int .i64 (newRW sz cr rm).size) (.int .i64 (newRW sz cr rm).room) (.int .i64 (newRW sz cr rm).credits) (.int .i64 (newRW sz cr rm).next) (.slice none 0 0) (.slice a xs.length cap) (.slice none 0 0) = w9 at r1 hk ⊢
        have hBz : Below W.heap.size W w9 := Keeps.belowStep HBX.out hk (fun k hk => by omega) HBX.out.size
        have g0 : w9.cell? ⟨W.heap.size, 0, none⟩ = some (.int .i64 (newRW sz cr rm).size) := mem_cells r1 0
        have g1 : w9.cell? ⟨W.heap.size, 1, none⟩ = some (.int .i64 (newRW sz cr rm).room) := mem_cells r1 1
        have g2 : w9.cell? ⟨W.heap.size, 2, none⟩ = some (.int .i64 (newRW sz cr rm).credits) := mem_cells r1 2
        have g3 : w9.cell? ⟨W.heap.size, 3, none⟩ = some (.int .i64 (newRW sz cr rm).next) := mem_cells r1 3
        have g4 : w9.cell? ⟨W.heap.size, 4, none⟩ = some (.slice none 0 0) := mem_cells r1 4
        have g5 : w9.cell? ⟨W.heap.size, 5, none⟩ = some (.slice a xs.length cap) := mem_cells r1 5
        have g6 : w9.cell? ⟨W.heap.size, 6, none⟩ = some (.slice none 0 0) := mem_cells r1 6
        exact bodyPost_ret (v := .tuple #[.agg #[.int .i64 (newRW sz cr rm).size, .int .i64 (newRW sz cr rm).room, .int .i64 (newRW sz cr rm).credits, .int .i64 (newRW sz cr rm).next, .slice none 0 0, .slice a xs.length cap, .slice none 0 0], .int .i64 0]) (by simp [results, Try.results41, go_sem, g0, g1, g2, g3, g4, g5, g6]) rfl ⟨.inr (.inr ⟨HA.out, HKN.out, rfl⟩), hBz⟩
      · have HNO := Lib.hid hno
        have HB3 := Lib.hid (HB.out.trans (hb3.mono HB.out.size))
        have HBW3 := Lib.hid (HBW.out.trans (hb3.mono HBW.out.size))
        clear hno hb3 HB HBW
        go_upto_region 8 with fail
        have HX := Lib.hid (heap_alloc_new w3 (.cells #[.int .i64 zeroRW.size, .int .i64 zeroRW.room, .int .i64 zeroRW.credits, .int .i64 zeroRW.next, .slice none 0 0, .slice none 0 0, .slice none 0 0] 56))
        have HBX := Lib.hid (HBW3.out.alloc HBW3.out.size (.cells #[.int .i64 zeroRW.size, .int .i64 zeroRW.room, .int .i64 zeroRW.credits, .int .i64 zeroRW.next, .slice none 0 0, .slice none 0 0, .slice none 0 0] 56))
        have HNX := Lib.hid (show W.heap.size < w3.heap.size from by have := HB3.out.size; omega)
        have yR : (w3.alloc (.cells #[.int .i64 zeroRW.size, .int .i64 zeroRW.room, .int .i64 zeroRW.credits, .int .i64 zeroRW.next, .slice none 0 0, .slice none 0 0, .slice none 0 0] 56)).heap[W.heap.size]? = some (.cells #[.int .i64 0, .int .i64 0, .int .i64 0, .int .i64 0, .slice none 0 0, .slice none 0 0, .slice none 0 0] 56 (0, 0)) := alloc_block ((HB3.out.block W.heap.size (by omega)).trans HYR.out) _
        generalize w3.alloc (.cells #[.int .i64 zeroRW.size, .int .i64 zeroRW.room, .int .i64 zeroRW.credits, .int .i64 zeroRW.next, .slice none 0 0, .slice none 0 0, .slice none 0 0] 56) = X at HX HBX yR ⊢
        have z0 : X.cell? ⟨W.heap.size, 0, none⟩ = some (.int .i64 0) := mem_cells yR 0
        have z1 : X.cell? ⟨W.heap.size, 1, none⟩ = some (.int .i64 0) := mem_cells yR 1
        have z2 : X.cell? ⟨W.heap.size, 2, none⟩ = some (.int .i64 0) := mem_cells yR 2
        have z3 : X.cell? ⟨W.heap.size, 3, none⟩ = some (.int .i64 0) := mem_cells yR 3
        have z4 : X.cell? ⟨W.heap.size, 4, none⟩ = some (.slice none 0 0) := mem_cells yR 4
        have z5 : X.cell? ⟨W.heap.size, 5, none⟩ = some (.slice none 0 0) := mem_cells yR 5
        have z6 : X.cell? ⟨W.heap.size, 6, none⟩ = some (.slice none 0 0) := mem_cells yR 6
        have fR : ∀ o, X.frozen? ⟨W.heap.size, o, none⟩ = false := frozen_cells yR
        have m0 : X.cell? ⟨w3.heap.size, 0, none⟩ = some (.int .i64 zeroRW.size) := mem_cells HX.out 0
        have m1 : X.cell? ⟨w3.heap.size, 1, none⟩ = some (.int .i64 zeroRW.room) := mem_cells HX.out 1
        have m2 : X.cell? ⟨w3.heap.size, 2, none⟩ = some (.int .i64 zeroRW.credits) := mem_cells HX.out 2
        have m3 : X.cell? ⟨w3.heap.size, 3, none⟩ = some (.int .i64 zeroRW.next) := mem_cells HX.out 3
        have m4 : X.cell? ⟨w3.heap.size, 4, none⟩ = some (.slice none 0 0) := mem_cells HX.out 4
        have m5 : X.cell? ⟨w3.heap.size, 5, none⟩ = some (.slice none 0 0) := mem_cells HX.out 5
        have m6 : X.cell? ⟨w3.heap.size, 6, none⟩ = some (.slice none 0 0) := mem_cells HX.out 6
        have HY1 := Lib.hid yR
        clear yR
        go_wp2
        have r1 := store7_block HY1.out (.int .i64 zeroRW.size) (.int .i64 zeroRW.room) (.int .i64 zeroRW.credits) (.int .i64 zeroRW.next) (.slice none 0 0) (.slice none 0 0) (.slice none 0 0)
        have hk := store7_keeps X W.heap.size (.int .i64 zeroRW.size) (.int .i64 zeroRW.room) (.int .i64 zeroRW.credits) (.int .i64 zeroRW.next) (.slice none 0 0) (.slice none 0 0) (.slice none 0 0)
        show bodyPost _ _ _ _ _ (store7 X W.heap.size (.int .i64 zeroRW.size) (.int .i64 zeroRW.room) (.int .i64 zeroRW.credits) (.int .i64 zeroRW.next) (.slice none 0 0) (.slice none 0 0) (.slice none 0 0))
        generalize store7 X W.heap.size (.int .i64 zeroRW.size) (.int .i64 zeroRW.room) (.int .i64 zeroRW.credits) (.int .i64 zeroRW.next) (.slice none 0 0) (.slice none 0 0) (.slice none 0 0) = w9 at r1 hk ⊢
        have hBz : Below W.heap.size W w9 := Keeps.belowStep HBX.out hk (fun k hk => by omega) HBX.out.size
        have g0 : w9.cell? ⟨W.heap.size, 0, none⟩ = some (.int .i64 zeroRW.size) := mem_cells r1 0
        have g1 : w9.cell? ⟨W.heap.size, 1, none⟩ = some (.int .i64 zeroRW.room) := mem_cells r1 1
        have g2 : w9.cell? ⟨W.heap.size, 2, none⟩ = some (.int .i64 zeroRW.credits) := mem_cells r1 2
        have g3 : w9.cell? ⟨W.heap.size, 3, none⟩ = some (.int .i64 zeroRW.next) := mem_cells r1 3
        have g4 : w9.cell? ⟨W.heap.size, 4, none⟩ = some (.slice none 0 0) := mem_cells r1 4
        have g5 : w9.cell? ⟨W.heap.size, 5, none⟩ = some (.slice none 0 0) := mem_cells r1 5
        have g6 : w9.cell? ⟨W.heap.size, 6, none⟩ = some (.slice none 0 0) := mem_cells r1 6
        exact bodyPost_ret (v := .tuple #[.agg #[.int .i64 zeroRW.size, .int .i64 zeroRW.room, .int .i64 zeroRW.credits, .int .i64 zeroRW.next, .slice none 0 0, .slice none 0 0, .slice none 0 0], .int .i64 7]) (by simp [results, Try.results41, go_sem, g0, g1, g2, g3, g4, g5, g6]) rfl ⟨.inr (.inl ⟨HA.out, HNO.out, rfl⟩), hBz⟩
end Go.Proofs.Ytfkphdmnelchmaa
/- The law WireContents, walked. -/
namespace Go.Proofs.Ytfkphdmnelchmaa
open Go.RowKit Go.Maps

theorem els_ok {m : Mem} {v : Value} {xs : List El} (h : tEls.rv m [v] xs) : ∀ x ∈ xs, x.ok := fun x hx => by
  obtain ⟨k, hk, rfl⟩ := List.mem_iff_getElem.1 hx
  obtain ⟨a, cap, rfl, _, _, h⟩ := slice_form h
  obtain ⟨b, o, _, hat⟩ := slice_at h hk
  obtain ⟨_, _, _, _, _, _, _, i, _⟩ := el_at hat
  exact ⟨i.1, i.2.1, i.2.2.1, i.2.2.2⟩
section
variable {base basev b bv n N Nv : Nat} {M Mv : Mem} {F : Nat → Prop} {W w5 w6 w7 w8 w9 : World} {r rv : Raw}
/-- The one wire, behind the making of the other: the other's blocks are foreign. -/
theorem one_after (h : St base b w5 r N M F) (hb : Below w5.heap.size w5 w6) : St base b w6 r N M (fun j => F j ∨ (w5.heap.size ≤ j ∧ j < w6.heap.size)) :=
  (h.foreign (F' := fun j => F j ∨ (w5.heap.size ≤ j ∧ j < w6.heap.size)) ((below_keeps hb).wide (fun k h1 h2 => by omega)) (fun j e => e.elim (fun e => ⟨.inl e, Nat.lt_of_lt_of_le (h.fl j e) hb.size⟩) (fun e => ⟨.inr e.1, e.2⟩))).1
/-- The other wire, behind what was done with the one. -/
theorem other_after (h : St basev bv w6 rv Nv Mv (fun j => j < n)) (hb : Below base w6 w7) (hk : ∀ k, n ≤ k → k < w6.heap.size → w7.heap[k]? = w6.heap[k]?) : St basev bv w7 rv Nv Mv (fun j => j < n) :=
  (h.foreign (F' := fun j => j < n) ⟨hb.os, hb.tape, hb.output, hb.size, fun k h1 h2 => hk k (by omega) h1⟩ (fun j e => ⟨.inl e, Nat.lt_of_lt_of_le (h.fl j e) hb.size⟩)).1
theorem mem_after (hM : M.le (mem w5)) (hM8 : M.le (mem w8)) (hk : ∀ k, k < w5.heap.size → w9.heap[k]? = w8.heap[k]?) : M.le (mem w9) := fun i o v e => (mem_of_block (hk i (mem_lt (hM _ _ _ e))) o).trans (hM8 _ _ _ e)
end
set_option maxRecDepth 100000 in
set_option maxHeartbeats 16000000 in
theorem wireContents_any (sz cr rm sz2 cr2 rm2 : Int) (xs : List Act20) (v : Value) (ls : List El) (lv : Value) (W : World) (hv : (tSlice tAct).rv (mem W) [v] xs) (hlv : tEls.rv (mem W) [lv] ls) :
    Calls Try.prog 9 #[.int .i64 sz, .int .i64 cr, .int .i64 rm, v, .int .i64 sz2, .int .i64 cr2, .int .i64 rm2, lv] W fun e W' => e = .returned (.bool true) ∧ Below W.heap.size W W' := by
  have HOKL := Lib.hid (els_ok hlv)
  obtain ⟨a, cap, rfl, hl, hm, hv⟩ := slice_form hv
  have hcap : cap ≤ 9223372036854775807 := by unfold maxLen at hm; exact hm
  obtain ⟨al, capl, rfl, hll0, hml, hlv⟩ := slice_form hlv
  have hcapl : capl ≤ 9223372036854775807 := by unfold maxLen at hml; exact hml
  have HV := Lib.hid (fun (wq : World) (h : Below W.heap.size W wq) => (tSlice tAct).mono _ _ _ _ (below_mem h) hv)
  have HL := Lib.hid (fun (wq : World) (h : Below W.heap.size W wq) => tEls.mono _ _ _ _ (below_mem h) hlv)
  clear hm hv hml hlv
  go_enter Try.func9, Try.ntmps9
  go_wp2_with fail
  refine (awake20 _).mono ?_
  rintro e u1 ⟨rfl, hb⟩
  have HA1 := Lib.hid hb
  clear hb
  go_wp2_with fail
  refine (many_any xs _ u1 (HV.out u1 HA1.out)).mono ?_
  rintro e u2 ⟨⟨qq, rfl, hqq⟩, hb⟩
  have HA2 := Lib.hid (HA1.out.trans (hb.mono HA1.out.size))
  clear HA1 hb
  cases qq with
  | true =>
    go_wp2
    go_ret
    exact ⟨rfl, HA2.out⟩
  | false =>
  have hlen : xs.length ≤ 80 := hqq rfl
  clear hqq
  go_wp2_with fail
  refine (list_any ls _ u2 (HL.out u2 HA2.out)).mono ?_
  rintro e u3 ⟨⟨qq, rfl, hqq⟩, hb⟩
  have HA3 := Lib.hid (HA2.out.trans (hb.mono HA2.out.size))
  clear HA2 hb
  cases qq with
  | true =>
    go_wp2
    go_ret
    exact ⟨rfl, HA3.out⟩
  | false =>
  have hll : ls.length ≤ 60 := hqq rfl
  clear hqq
  go_wp2_with fail
  refine (restore_any sz2 cr2 rm2 ls _ (fun _ => False) u3 (fun _ h => h.elim) (HL.out u3 HA3.out) HOKL.out (by omega)).mono ?_
  rintro e u4 ⟨hX, hb⟩
  have HA4 := Lib.hid (HA3.out.trans (hb.mono HA3.out.size))
  have HL3 := Lib.hid (show tEls.rv ((mem u3).on (fun k => ¬ False)) _ ls from tEls.mono _ _ _ _ (fun j o v e => Mem.on_some e (fun h => h)) (HL.out u3 HA3.out))
  clear HA3 hb
  rcases hX with ⟨hva, rfl⟩ | ⟨hva, hno, rfl⟩ | ⟨hva, hk2, bx, basex, Mx, rfl, hbx, hMx, hSx⟩
  have HQ := Lib.hid hva
  clear hva
  go_wp2_with fail
  refine (refRestore_any sz2 cr2 rm2 ls _ u4 (HL.out u4 HA4.out) (by omega)).mono ?_
  rintro e u5 ⟨hq, hb⟩
  obtain rfl : e = (.returned (.tuple #[wV zeroRW (.slice none 0 0) (.slice none 0 0) (.slice none 0 0), .int .i64 1])) := by
    rcases hq with ⟨_, h⟩ | ⟨h1, _⟩ | ⟨h1, _⟩
    · exact h
    · rw [HQ.out] at h1; cases h1
    · rw [HQ.out] at h1; cases h1
  have HA5 := Lib.hid (fun o => (HA4.out.trans (hb.mono HA4.out.size)).alloc (HA4.out.trans (hb.mono HA4.out.size)).size o)
  clear hb HA4 hq
  go_upto_region 9 with fail
  have HB2 := Lib.hid (HA5.out (.cells #[.int .i64 zeroRW.size, .int .i64 zeroRW.room, .int .i64 zeroRW.credits, .int .i64 zeroRW.next, .slice none 0 0, .slice none 0 0, .slice none 0 0] 56))
  generalize u5.alloc (.cells #[.int .i64 zeroRW.size, .int .i64 zeroRW.room, .int .i64 zeroRW.credits, .int .i64 zeroRW.next, .slice none 0 0, .slice none 0 0, .slice none 0 0] 56) = w2 at HB2 ⊢
  have HFC := Lib.hid (show ¬ okNew sz2 cr2 rm2 → True from fun _ => trivial)
  clear HQ HA5 HL3
  rotate_left
  have HQ := Lib.hid hva
  have HNO := Lib.hid hno
  clear hva hno
  go_wp2_with fail
  refine (refRestore_any sz2 cr2 rm2 ls _ u4 (HL.out u4 HA4.out) (by omega)).mono ?_
  rintro e u5 ⟨hq, hb⟩
  obtain rfl : e = (.returned (.tuple #[wV zeroRW (.slice none 0 0) (.slice none 0 0) (.slice none 0 0), .int .i64 7])) := by
    rcases hq with ⟨h1, _⟩ | ⟨_, _, h⟩ | ⟨_, h1, _⟩
    · rw [HQ.out] at h1; cases h1
    · exact h
    · exact absurd h1 HNO.out
  have HA5 := Lib.hid (fun o => (HA4.out.trans (hb.mono HA4.out.size)).alloc (HA4.out.trans (hb.mono HA4.out.size)).size o)
  clear hb HA4 hq
  go_upto_region 9 with fail
  have HB2 := Lib.hid (HA5.out (.cells #[.int .i64 zeroRW.size, .int .i64 zeroRW.room, .int .i64 zeroRW.credits, .int .i64 zeroRW.next, .slice none 0 0, .slice none 0 0, .slice none 0 0] 56))
  generalize u5.alloc (.cells #[.int .i64 zeroRW.size, .int .i64 zeroRW.room, .int .i64 zeroRW.credits, .int .i64 zeroRW.next, .slice none 0 0, .slice none 0 0, .slice none 0 0] 56) = w2 at HB2 ⊢
  have HFC := Lib.hid (show ¬ okNew sz2 cr2 rm2 → True from fun _ => trivial)
  clear HQ HNO HA5 HL3
  rotate_left
  have HQ := Lib.hid hva
  have HK2 := Lib.hid hk2
  have HSx := Lib.hid hSx
  have hrfl : tEls.rv Mx [.slice al ls.length capl] ls := tEls.mono _ _ _ _ hMx HL3.out
  have HRF := Lib.hid (show RwAt Mx (refOf (restR sz2 cr2 rm2 ls) [] []) (.slice none 0 0) (.slice al ls.length capl) (.slice none 0 0) from ⟨by have := hk2.1; show inI64 sz2; unfold inI64; omega, by have := hk2.2.2; show inI64 rm2; unfold inI64; omega, by have := hk2.2.1; show inI64 cr2; unfold inI64; omega, by show inI64 0; unfold inI64; omega, slice_nil _ _, hrfl, slice_nil _ _⟩)
  have HSO := Lib.hid ((sound_rest hk2 (l := ls) (by omega) (fun x hx => ⟨List.all_eq_true.1 hva x hx, HOKL.out x hx⟩)).mono (Nat.zero_le ls.length))
  clear hva hk2 hbx hMx hSx HL3 hrfl
  go_wp2_with fail
  refine (refRestore_any sz2 cr2 rm2 ls _ u4 (HL.out u4 HA4.out) (by omega)).mono ?_
  rintro e u5 ⟨hq, hb⟩
  obtain rfl : e = .returned (.tuple #[wV { newRW sz2 cr2 rm2 with queue := ls } (.slice none 0 0) (.slice al ls.length capl) (.slice none 0 0), .int .i64 0]) := by
    rcases hq with ⟨h1, _⟩ | ⟨_, h1, _⟩ | ⟨_, _, h⟩
    · rw [HQ.out] at h1; cases h1
    · exact absurd HK2.out h1
    · exact h
  have HA5 := Lib.hid (fun o => (HA4.out.trans (hb.mono HA4.out.size)).alloc (HA4.out.trans (hb.mono HA4.out.size)).size o)
  have HS5 := Lib.hid (fun o => HSx.out.pure (hb.alloc hb.size o))
  have HSM := Lib.hid (fun o => same_any (HS5.out o) HSO.out HRF.out (by omega) (by show ((ls.length : Nat) : Int) ≤ 2000; omega))
  clear hb HA4 HSx hq
  go_wp2_with fail
  refine (HSM.out _).mono ?_
  rintro e w2 ⟨rfl, hb2⟩
  have HB2 := Lib.hid (below2 (HA5.out _) hb2)
  have HFC := Lib.hid (show ¬ okNew sz2 cr2 rm2 → False from fun h => h HK2.out)
  clear hb2 HSM HS5 HA5 HRF HSO HQ HK2
  rotate_left
  all_goals
    have HV := Lib.hid (fun (wq : World) (h : Below W.heap.size W wq) => HV.out wq h)
    clear HL HOKL
    go_wp2_with fail
    refine (st_new sz cr rm (fun _ => False) w2 (fun _ h => h.elim)).mono ?_
    rintro e w3 ⟨hB3, ⟨hok, b, rfl, hS⟩ | ⟨hno, rfl⟩⟩
    rotate_left
    · have HB3 := Lib.hid (HB2.out.trans (hB3.mono HB2.out.size))
      clear hB3
      go_wp2_with fail
      refine (refNew_any sz cr rm w3).mono ?_
      rintro e w4 ⟨⟨h1, _⟩ | ⟨_, rfl⟩, hb4⟩
      · exact absurd h1 hno
      have HB4 := Lib.hid (fun o => (HB3.out.trans (hb4.mono HB3.out.size)).alloc (HB3.out.trans (hb4.mono HB3.out.size)).size o)
      clear hb4 HB3
      go_wp2
      go_ret
      exact ⟨rfl, HB4.out _⟩
    go_wp2_with fail
    refine (refNew_any sz cr rm w3).mono ?_
    rintro e w4 ⟨⟨_, rfl⟩ | ⟨h1, _⟩, hb4⟩
    rotate_left
    · exact absurd hok h1
    have HT := Lib.hid (both_new hok hS hB3 hb4)
    have HV2 := Lib.hid (show (tSlice tAct).rv ((mem w2).on (fun k => ¬ False)) _ xs from (tSlice tAct).mono _ _ _ _ (fun j o v e => Mem.on_some e (fun h => h)) (HV.out w2 HB2.out))
    clear hS hB3 HV hb4
    generalize ((mem w2).on (fun k => ¬ False)) = M0 at HT HV2
    clear hok
    go_wp2
    go_loopg [24] xs.length (fun g i wr => ∃ k : Nat, k + g = xs.length ∧ i = .int .i64 k ∧ ∃ r ah ps m N M a q p, N ≤ k ∧ Hid (Both cr w2.heap.size b w4.heap.size k M0 w2 wr r ah ps m N M a q p))
    case atStart => exact ⟨0, by omega, by go_num, _, _, _, _, 0, _, _, _, _, Nat.le_refl _, HT⟩
    case round =>
      clear HT
      obtain ⟨k, hkg, rfl, r, ah, ps, m, N, M, a0, q0, p0, hN, HT⟩ := hrel
      cases gk with
      | zero =>
        obtain rfl : k = xs.length := by omega
        have hcl := HT.out.cnt
        have hcn := HT.out.so.cnt0
        have HC := Lib.hid (st_contents HT.out.st HT.out.so (by omega))
        go_wp2_with fail
        refine HC.out.mono ?_
        rintro e w5 ⟨v5, rfl, hb5, hr5⟩
        obtain ⟨M5, hS5, hM5, hn5, _⟩ := HT.out.st.grow hb5
        have hw5 := tEls.mono _ _ _ _ hn5 hr5
        obtain ⟨a5, c5, rfl, hl5, hm5, _⟩ := slice_form hw5
        have hc5 : c5 ≤ 9223372036854775807 := by unfold maxLen at hm5; exact hm5
        have HS5 := Lib.hid hS5
        have HW5 := Lib.hid hw5
        have HB5 := Lib.hid (HT.out.bel.trans (hb5.mono HT.out.st.bw))
        have HSO := Lib.hid HT.out.so
        have hcl80 : (contentsOf r ah ps).length ≤ 80 := by omega
        have HALL := Lib.hid (show (contentsOf r ah ps).all validEl = true from List.all_eq_true.2 (fun x hx => (HT.out.so.ok x hx).1))
        have HR := Lib.hid (restore_any sz2 cr2 rm2 (contentsOf r ah ps) _ (fun j => j < w5.heap.size) w5 (fun _ h => h) (tEls.mono _ _ _ _ hS5.mem hw5) (fun x hx => (HT.out.so.ok x hx).2) (by omega))
        clear hb5 hr5 hM5 hn5 hw5 hl5 hm5 hS5 HT HC hcl hcn
        go_wp2_with fail
        refine HR.out.mono ?_
        rintro e w6 ⟨hR, hb6⟩
        have HB6 := Lib.hid hb6
        clear hb6 HR
        rcases hR with ⟨hva, _⟩ | ⟨_, hno, rfl⟩ | ⟨_, hok2, bv, basev, Mv, rfl, hbv, _, hSv⟩
        · rw [HALL.out] at hva; cases hva
        · (first
            | exact (HFC.out hno).elim
            | (have HB9 := Lib.hid (HB2.out.trans ((HB5.out.trans (HB6.out.mono HS5.out.bw)).mono HB2.out.size))
               clear hno HFC
               go_wp2
               go_ret
               exact ⟨rfl, HB9.out⟩))
        · have HD1 := Lib.hid (drained_any cr w2.heap.size b _ M5 w6 r ah ps m N (one_after HS5.out HB6.out) HSO.out (by omega) (by omega))
          have HSV := Lib.hid hSv
          have HBV := Lib.hid hbv
          have HSR := Lib.hid ((sound_rest hok2 (l := contentsOf r ah ps) (by omega) (fun x hx => HSO.out.ok x hx)).mono (Nat.zero_le (contentsOf r ah ps).length))
          have HRC := Lib.hid (rest_cont sz2 cr2 rm2 (contentsOf r ah ps))
          clear hSv hbv hok2 HFC
          generalize contentsOf r ah ps = C at *
          go_wp2_with fail
          refine HD1.out.mono ?_
          rintro e w7 ⟨v7, M7, r7, N7, m7, rfl, _, _, hD7⟩
          obtain ⟨a7, c7, rfl, _⟩ := hD7.own.form
          have HSE := Lib.hid (same_els C _ _ w7 (slice_in (hD7.own.rv' (tIn_flat _ _)) hD7.st.mem) (tEls.mono _ _ _ _ (Mem.le_trans hD7.mm hD7.st.mem) HW5.out))
          have HM7 := Lib.hid (Mem.le_trans hD7.mm hD7.st.mem)
          have HSV7 := Lib.hid (other_after HSV.out hD7.bel (fun k h1 h2 => hD7.fk k (.inr ⟨h1, h2⟩)))
          have HB7 := Lib.hid ((HB5.out.trans (HB6.out.mono HS5.out.bw)).trans hD7.bel)
          have HBW7 := Lib.hid hD7.st.bw
          clear hD7 HD1 HSV HSO
          go_wp2_with fail
          refine HSE.out.mono ?_
          rintro e w8 ⟨rfl, hb8⟩
          have HSV8 := Lib.hid (HSV7.out.pure hb8)
          have HM8 := Lib.hid (Mem.le_trans HM7.out (below_mem hb8))
          have HB8 := Lib.hid (HB7.out.trans (hb8.mono HBW7.out))
          have HD2 := Lib.hid (drained_any cr2 basev bv _ Mv w8 _ [] [] 0 C.length HSV8.out HSR.out (by omega) (by rw [HRC.out]; omega))
          rw [HRC.out] at HD2
          clear hb8 HSE HSV7 HM7 HB7
          go_wp2_with fail
          refine HD2.out.mono ?_
          rintro e w9 ⟨v9, M9, r9, N9, m9, rfl, _, _, hD9⟩
          obtain ⟨a9, c9, rfl, _⟩ := hD9.own.form
          have HSE := Lib.hid (same_els C _ _ w9 (slice_in (hD9.own.rv' (tIn_flat _ _)) hD9.st.mem) (tEls.mono _ _ _ _ (mem_after HS5.out.mem HM8.out (fun k hk => hD9.fk k hk)) HW5.out))
          have HB9 := Lib.hid (HB2.out.trans ((HB8.out.trans (hD9.bel.mono (Nat.le_trans HS5.out.bw HBV.out))).mono HB2.out.size))
          clear hD9 HD2 HSV8 HM8 HB8
          go_wp2_with fail
          refine HSE.out.mono ?_
          rintro e w10 ⟨rfl, hb10⟩
          have HB10 := Lib.hid (HB9.out.trans (hb10.mono HB9.out.size))
          clear hb10 HSE HB9
          go_wp2
          go_ret
          exact ⟨rfl, HB10.out⟩
      | succ g2 =>
        have hlt : k < xs.length := by omega
        obtain ⟨bb, o, rfl, hat⟩ := slice_at HV2.out hlt
        obtain ⟨ar, crr, hcr, q0, q1, q2, q3, q4, q5, q6, i1, i2, i3, hr⟩ := act_at hat
        clear hat
        generalize xs[k] = x at *
        have HC := Lib.hid (fun (wq : World) (h : M0.le (mem wq)) => And.intro (show wq.cell? ⟨bb, o + k * 7, none⟩ = some (.int .u8 x.kind) from h _ _ _ q0) (And.intro (show wq.cell? ⟨bb, o + k * 7 + 1, none⟩ = some (.int .i64 x.n) from h _ _ _ q1) (And.intro (show wq.cell? ⟨bb, o + k * 7 + 2, none⟩ = some (.int .i64 x.el.kind) from h _ _ _ q2) (And.intro (show wq.cell? ⟨bb, o + k * 7 + 3, none⟩ = some (.int .i64 x.el.n) from h _ _ _ q3)
                  (And.intro (show wq.cell? ⟨bb, o + k * 7 + 4, none⟩ = some (.int .i64 x.el.time) from h _ _ _ q4) (And.intro (show wq.cell? ⟨bb, o + k * 7 + 5, none⟩ = some (.slice ar x.el.row.length crr) from h _ _ _ q5) (show wq.cell? ⟨bb, o + k * 7 + 6, none⟩ = some (.int .i64 x.el.cn) from h _ _ _ q6)))))))
        have HD := Lib.hid ((HT.out.pure (Below.refl wr.heap.size wr).drew).does (by omega) (by omega) x (.slice ar x.el.row.length crr) i3 i2 i1 hr)
        have HBD := Lib.hid (HT.out.pure (Below.refl wr.heap.size wr).drew).bel
        clear q0 q1 q2 q3 q4 q5 q6 i1 i2 i3 hr
        go_upto_region 16 with fail
        obtain ⟨e0, e1, e2, e3, e4, e5, e6⟩ := HC.out wr.drew (Mem.le_trans HT.out.mm HT.out.st.mem)
        obtain ⟨aa, ca, rfl, _, hma, _⟩ := slice_form HT.out.rf.ha
        obtain ⟨aq, cq, rfl, _, hmq, _⟩ := slice_form HT.out.rf.hq
        obtain ⟨ap, cp, rfl, _, hmp, _⟩ := slice_form HT.out.rf.hp
        have hca : ca ≤ 9223372036854775807 := by unfold maxLen at hma; exact hma
        have hcq : cq ≤ 9223372036854775807 := by unfold maxLen at hmq; exact hmq
        have hcp : cp ≤ 9223372036854775807 := by unfold maxLen at hmp; exact hmp
        clear hma hmq hmp
        have c0 : wr.drew.cell? ⟨w4.heap.size, 0, none⟩ = some (.int .i64 (refOf r ah ps).size) := HT.out.cells 0
        have c1 : wr.drew.cell? ⟨w4.heap.size, 1, none⟩ = some (.int .i64 (refOf r ah ps).room) := HT.out.cells 1
        have c2 : wr.drew.cell? ⟨w4.heap.size, 2, none⟩ = some (.int .i64 (refOf r ah ps).credits) := HT.out.cells 2
        have c3 : wr.drew.cell? ⟨w4.heap.size, 3, none⟩ = some (.int .i64 (refOf r ah ps).next) := HT.out.cells 3
        have c4 : wr.drew.cell? ⟨w4.heap.size, 4, none⟩ = some (.slice aa (refOf r ah ps).ahead.length ca) := HT.out.cells 4
        have c5 : wr.drew.cell? ⟨w4.heap.size, 5, none⟩ = some (.slice aq (refOf r ah ps).queue.length cq) := HT.out.cells 5
        have c6 : wr.drew.cell? ⟨w4.heap.size, 6, none⟩ = some (.slice ap (refOf r ah ps).pk.length cp) := HT.out.cells 6
        go_region_law (go_simp; go_at_call 25; refine HD.out.mono ?_; rintro e w5 ⟨r5, ah5, ps5, m5, M5, a5, q5, p5, rfl, hrun5, hct5, hbr5, y0, y1, y2, y3, y4, y5, y6, hR5⟩; obtain ⟨a5a, a5c, rfl, _, hz1, _⟩ := slice_form hrun5.rf.ha; obtain ⟨q5a, q5c, rfl, _, hz2, _⟩ := slice_form hrun5.rf.hq; obtain ⟨p5a, p5c, rfl, _, hz3, _⟩ := slice_form hrun5.rf.hp; clear hz1 hz2 hz3; have f5 := frozen_cells hR5; have z0 : w5.cell? ⟨w4.heap.size, 0, none⟩ = some y0 := mem_cells hR5 0; have z1 : w5.cell? ⟨w4.heap.size, 1, none⟩ = some y1 := mem_cells hR5 1; have z2 : w5.cell? ⟨w4.heap.size, 2, none⟩ = some y2 := mem_cells hR5 2; have z3 : w5.cell? ⟨w4.heap.size, 3, none⟩ = some y3 := mem_cells hR5 3; have z4 : w5.cell? ⟨w4.heap.size, 4, none⟩ = some y4 := mem_cells hR5 4; have z55 : w5.cell? ⟨w4.heap.size, 5, none⟩ = some y5 := mem_cells hR5 5; have z6 : w5.cell? ⟨w4.heap.size, 6, none⟩ = some y6 := mem_cells hR5 6; have HT5 := Lib.hid (hrun5.stored HBD.out hct5 hbr5 hR5); clear hrun5 hct5 hbr5 hR5 HD)
        clear c0 c1 c2 c3 c4 c5 c6 e0 e1 e2 e3 e4 e5 e6
        all_goals
          go_upto_region 15 with fail
          show Code.wp _ _ _ _ (store7 w5 w4.heap.size (.int .i64 (refOf r5 ah5 ps5).size) (.int .i64 (refOf r5 ah5 ps5).room) (.int .i64 (refOf r5 ah5 ps5).credits) (.int .i64 (refOf r5 ah5 ps5).next) (.slice a5a (refOf r5 ah5 ps5).ahead.length a5c) (.slice q5a (refOf r5 ah5 ps5).queue.length q5c) (.slice p5a (refOf r5 ah5 ps5).pk.length p5c))
          generalize store7 w5 w4.heap.size (.int .i64 (refOf r5 ah5 ps5).size) (.int .i64 (refOf r5 ah5 ps5).room) (.int .i64 (refOf r5 ah5 ps5).credits) (.int .i64 (refOf r5 ah5 ps5).next) (.slice a5a (refOf r5 ah5 ps5).ahead.length a5c) (.slice q5a (refOf r5 ah5 ps5).queue.length q5c) (.slice p5a (refOf r5 ah5 ps5).pk.length p5c) = X at HT5 ⊢
          go_wp2
          go_roundg g2
          case measure => omega
          case rel => exact ⟨k + 1, by omega, by go_num, _, _, _, _, _, _, _, _, _, by omega, HT5⟩
end Go.Proofs.Ytfkphdmnelchmaa
namespace Go.Proofs.Ytfkphdmnelchmaa.lawWireContents
open Go.ChangeShapes Go.WideShapes Go.ChangeAt Go.RowKit
set_option maxRecDepth 100000 in
theorem lifted (os : Os) (started : os.Started) (H : Type) (enc : TypeId × Value → H) :
    ReturnsInHanded {} Try.checked os 9 .any (Rows.wireContentsSpec.pre6 enc Try.prog Try.f9 Rows.wireContentsRow.domain false) (Rows.wireContentsSpec.post enc Try.prog Try.f9 false true false false) := by
  refine returnsInHanded_of_change (C := Try.checked) Try.own started (by kernel_rfl) Try.func9
    (ChangeSpec.witness6 (enc := enc) (C := Try.checked) false ⟨#[], #[.int .i64 0, .int .i64 0, .int .i64 0, .slice none 0 0, .int .i64 0, .int .i64 0, .int .i64 0, .slice none 0 0], []⟩ 8 (by kernel_rfl) (by kernel_rfl) (by kernel_rfl) (by kernel_rfl)) ?_
  intro W base args ds gs before hval0 hW hcnd _
  have hval : ∀ (j : Nat) t v, Try.f9.params[j]? = some t → args[j]? = some v → Value.okWide Try.prog W .any base t v := hval0
  have hW' := hW
  obtain ⟨p, q, hA0, hV, rfl, hfz, hnd⟩ := hW
  have hA : DataW.TrodAll enc Try.prog W 0 (fun _ => true) true Try.f9.params.toList args.toList ds p := hA0
  rw [Try.params9] at hA hval
  obtain ⟨v0, vs0, d0, ds0, p0, q0, hargs, rfl, rfl, h0, r0⟩ := trodAll_cons hA
  obtain ⟨v1, vs1, d1, ds1, p1, q1, rfl, rfl, rfl, h1, r1⟩ := trodAll_cons r0
  obtain ⟨v2, vs2, d2, ds2, p2, q2, rfl, rfl, rfl, h2, r2⟩ := trodAll_cons r1
  obtain ⟨v3, vs3, d3, ds3, p3, q3, rfl, rfl, rfl, h3, r3⟩ := trodAll_cons r2
  obtain ⟨v4, vs4, d4, ds4, p4, q4, rfl, rfl, rfl, h4, r4⟩ := trodAll_cons r3
  obtain ⟨v5, vs5, d5, ds5, p5, q5, rfl, rfl, rfl, h5, r5⟩ := trodAll_cons r4
  obtain ⟨v6, vs6, d6, ds6, p6, q6, rfl, rfl, rfl, h6, r6⟩ := trodAll_cons r5
  obtain ⟨v7, vs7, d7, ds7, p7, q7, rfl, rfl, rfl, h7, r7⟩ := trodAll_cons r6
  obtain ⟨rfl, rfl, rfl⟩ := trodAll_nil r7
  obtain rfl : args = #[v0, v1, v2, v3, v4, v5, v6, v7] := by cases args; simp_all
  obtain ⟨rfl, rfl⟩ := trodVars_none hV
  obtain ⟨n0, rfl, w0⟩ := arg_int Try.underlying3 (hval 0 3 v0 rfl rfl) h0
  obtain ⟨n1, rfl, w1⟩ := arg_int Try.underlying3 (hval 1 3 v1 rfl rfl) h1
  obtain ⟨n2, rfl, w2⟩ := arg_int Try.underlying3 (hval 2 3 v2 rfl rfl) h2
  obtain ⟨x3, w3⟩ := arg_slice (t := tAct) reads_acts Try.underlying31 (hval 3 31 v3 rfl rfl) h3
  obtain ⟨n4, rfl, w4⟩ := arg_int Try.underlying3 (hval 4 3 v4 rfl rfl) h4
  obtain ⟨n5, rfl, w5⟩ := arg_int Try.underlying3 (hval 5 3 v5 rfl rfl) h5
  obtain ⟨n6, rfl, w6⟩ := arg_int Try.underlying3 (hval 6 3 v6 rfl rfl) h6
  obtain ⟨x7, w7⟩ := arg_slice (t := tEl) reads_els Try.underlying36 (hval 7 36 v7 rfl rfl) h7
  clear hA0 hval0
  refine (wireContents_any n0 n1 n2 n4 n5 n6 x3 v3 x7 v7 W w3 w7).mono fun e W' ⟨he, bel⟩ => ?_
  subst he
  exact ⟨_, rfl, law_post Try.laidOut rfl (by rw [Try.params9]; intro t ht; have hs : Try.prog.types.size = Try.prog.types.size := rfl; simp only [List.mem_cons, List.not_mem_nil, or_false] at ht; rcases ht with rfl | rfl | rfl | rfl | rfl | rfl | rfl | rfl <;> exact ⟨by kernel_rfl, of_decide_eq_true (by kernel_rfl)⟩) (by kernel_rfl) Try.underlying4 rfl rfl rfl hW' bel⟩

theorem proved : Rows.WireContentsSaid :=
  OpenClaim.holds_of_wide 9 Try.f9 rfl rfl rfl rfl rfl rfl rfl ⟨rfl, rfl, rfl, rfl, rfl⟩ rfl rfl rfl rfl rfl (by kernel_rfl) Try.func9 (by kernel_rfl)
    (of_decide_eq_true (by kernel_rfl)) (by unfold Func.isWrapper; first | (rw [if_pos (by decide +kernel)]; kernel_rfl) | (rw [if_neg (by decide +kernel)]; exact ⟨rfl, rfl⟩))
    (fun os started H enc _ => lifted os started H enc)
#print axioms proved
end Go.Proofs.Ytfkphdmnelchmaa.lawWireContents
