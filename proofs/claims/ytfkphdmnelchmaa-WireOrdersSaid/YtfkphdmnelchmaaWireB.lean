/- Wires: Put. -/
import Derived.Test.YtfkphdmnelchmaaWireA
import Derived.Deep.RegionLaw
namespace Go.Proofs.Ytfkphdmnelchmaa
open Go.RowKit Go.Maps

theorem infoEl (M : Mem) : (Try.prog.info? 42).map (fun i => (i.zero, i.size, i.bytes)) = some (some (.agg #[.int .i64 0, .int .i64 0, .int .i64 0, .slice none 0 0, .int .i64 0]), (tIn M tEl).sz, 56) := by
  show _ = some (some (Value.agg #[.int .i64 0, .int .i64 0, .int .i64 0, .slice none 0 0, .int .i64 0]), 5, 56)
  kernel_rfl
structure El.ok (x : El) : Prop where
  k : inI64 x.kind
  n : inI64 x.n
  t : inI64 x.time
  c : inI64 x.cn
def putE (r : Raw) (x : El) : Int := if validEl x = true then (if r.count = 4000 then 4 else 0) else 1
def putR (r : Raw) (x : El) : Raw := if validEl x = true then (if r.count = 4000 then r else { r with queue := r.queue ++ [x], count := r.count + 1 }) else r

theorem el_cells {w : World} {x : El} {a : Option Addr} {c : Nat} {T : TypeId} : At (mem (w.alloc (.cells #[.int .i64 x.kind, .int .i64 x.n, .int .i64 x.time, .slice a x.row.length c, .int .i64 x.cn] T))) w.heap.size 0 [.int .i64 x.kind, .int .i64 x.n, .int .i64 x.time, .slice a x.row.length c, .int .i64 x.cn] := fun j u hj => by
  rw [Nat.zero_add]
  show World.cell? _ ⟨w.heap.size, j, none⟩ = some u
  rw [cell_new j rfl]; simpa using hj

theorem el_one {x : El} {a : Option Addr} {c : Nat} : ∀ u ∈ [Value.int .i64 x.kind, .int .i64 x.n, .int .i64 x.time, .slice a x.row.length c, .int .i64 x.cn], u.oneCell' = true := fun u hu => by
  simp at hu; rcases hu with rfl | rfl | rfl | rfl | rfl <;> rfl
/-- The queue has grown. -/
theorem WireInv.queued {W A C : World} {base b : Nat} {qv bv v' : Value} {wm em nw ne : Nat} {fr : Nat → Prop} {r : Raw} {x : El} {o : Obj} (hI : WireInv A base b ⟨qv, bv, wm, em, nw, ne, fr⟩ r) (own : OwnsO (tIn (safe (A.alloc o) b ⟨qv, bv, wm, em, nw, ne, fr⟩ r) tEl) C 42 v' (r.queue ++ [x]))
    (happ : AppAt (A.alloc o) C qv r.queue.length 1 v') (hs : (safe W b ⟨qv, bv, wm, em, nw, ne, fr⟩ r).le (safe A b ⟨qv, bv, wm, em, nw, ne, fr⟩ r)) (hB : Below base W A) (hfW : FrK ⟨qv, bv, wm, em, nw, ne, fr⟩ ⟨qv, bv, wm, em, nw, ne, fr⟩ W A) :
    WStep base b W ⟨qv, bv, wm, em, nw, ne, fr⟩ r ((C.setCell ⟨b, 0, none⟩ v').setCell ⟨b, 9, none⟩ (.int .i64 (r.count + 1))) { r with queue := r.queue ++ [x], count := r.count + 1 } := by
  have hA : WireInv (A.alloc o) base b ⟨qv, bv, wm, em, nw, ne, fr⟩ r := hI.pure ((Below.refl _ _).alloc (Nat.le_refl _) o)
  have hsA : (safe A b ⟨qv, bv, wm, em, nw, ne, fr⟩ r).le (safe (A.alloc o) b ⟨qv, bv, wm, em, nw, ne, fr⟩ r) := safe_le ((below_keeps ((Below.refl _ _).alloc (Nat.le_refl _) o)).wide (fun k h1 h2 => by omega)) (fun k hm => .inl hm) rfl
  have hBA : Below base W (A.alloc o) := hB.alloc hI.bw o
  have hfA : FrK ⟨qv, bv, wm, em, nw, ne, fr⟩ ⟨qv, bv, wm, em, nw, ne, fr⟩ W (A.alloc o) := hfW.trans ⟨rfl, fun k hx => ((Below.refl _ _).alloc (Nat.le_refl _) o : Below A.heap.size A (A.alloc o)).block k (hI.fl k hx)⟩
  generalize A.alloc o = X at hA hsA hBA hfA own happ
  have hk : Keeps (mutB b ⟨qv, bv, wm, em, nw, ne, fr⟩ r) X C := by
    rcases happ with ⟨_, hg, a, cap, e, hroom⟩ | ⟨hb, _⟩
    · refine (grown_keeps hg).wide (fun k _ hk => .inr (.inr (.inr (.inr (.inr ⟨hk.symm, fun ⟨a', n, e'⟩ => ?_⟩)))))
      rw [show (⟨qv, bv, wm, em, nw, ne, fr⟩ : WL).qv = qv from rfl] at e'
      rw [e] at e'; cases e'; omega
    · exact (below_keeps hb).wide (fun k h1 h2 => by omega)
  have hk2 : Keeps (mutB b ⟨qv, bv, wm, em, nw, ne, fr⟩ r) X ((C.setCell ⟨b, 0, none⟩ v').setCell ⟨b, 9, none⟩ (.int .i64 (r.count + 1))) := (hk.setCell (p := ⟨b, 0, none⟩) (fun _ => .inl rfl) _).setCell (p := ⟨b, 9, none⟩) (fun _ => .inl rfl) _
  have hmv : ∀ k, v'.ownBlock = some k → (qv.ownBlock = some k) ∨ X.heap.size ≤ k := fun k h => by
    rcases happ with ⟨e, _⟩ | ⟨_, e⟩
    · exact .inl (by rw [← e]; exact h)
    · right; rw [e] at h; cases h; exact Nat.le_refl _
  have hm : ∀ k, mutB b ⟨v', bv, wm, em, nw, ne, fr⟩ { r with queue := r.queue ++ [x], count := r.count + 1 } k → mutB b ⟨qv, bv, wm, em, nw, ne, fr⟩ r k ∨ X.heap.size ≤ k := fun k hk => by
    rcases hk with h | h | h | h | h | ⟨h, hf⟩
    · exact .inl (.inl h)
    · exact .inl (.inr (.inl h))
    · exact .inl (.inr (.inr (.inl h)))
    · exact .inl (.inr (.inr (.inr (.inl h))))
    · exact .inl (.inr (.inr (.inr (.inr (.inl h)))))
    · rcases happ with ⟨e, _, a, cap, e2, hroom⟩ | ⟨_, e⟩
      · refine .inl (.inr (.inr (.inr (.inr (.inr ⟨by rw [← e]; exact h, fun ⟨a', n, e'⟩ => ?_⟩)))))
        rw [show (⟨qv, bv, wm, em, nw, ne, fr⟩ : WL).qv = qv from rfl, e2] at e'
        cases e'; omega
      · right; rw [show (⟨v', bv, wm, em, nw, ne, fr⟩ : WL).qv = v' from rfl, e] at h; cases h; exact Nat.le_refl _
  have hsafe := safe_le (L' := ⟨v', bv, wm, em, nw, ne, fr⟩) (r' := { r with queue := r.queue ++ [x], count := r.count + 1 }) hk2 hm rfl
  have hap := hA.apart
  have hlt := hA.mut_lt
  -- blocks that the append has left alone
  have hold : ∀ k, k < X.heap.size → (qv.ownBlock ≠ some k) → C.heap[k]? = X.heap[k]? := fun k h1 h2 => happ.grown.block k h1 (fun e => h2 e.symm)
  have hset : ∀ k, k ≠ b → ((C.setCell ⟨b, 0, none⟩ v').setCell ⟨b, 9, none⟩ (.int .i64 (r.count + 1))).heap[k]? = C.heap[k]? := fun k hk => (set_block_other hk).trans (set_block_other hk)
  have hqb : qv.ownBlock ≠ some b := fun e => (hap.2.2.2.2 b e).1 rfl
  have hb5 : C.heap[b]? = some (.cells (wCells ⟨qv, bv, wm, em, nw, ne, fr⟩ r) 87 (0, 0)) := (hold b (hlt b (.inl rfl)) hqb).trans hA.hb
  have hvb : v'.ownBlock ≠ some b := fun e => by
    rcases hmv b e with h | h
    · exact hqb h
    · have := hlt b (.inl rfl); omega
  refine ⟨⟨v', bv, wm, em, nw, ne, fr⟩, ⟨?_, (own.keeps (fun k e => hset k (fun e2 => hvb (e2 ▸ e)))).re hsafe, (hA.bf.keeps (fun k e => ?_)).re hsafe, hA.wm.at ?_, hA.em.at ?_, hA.we, fun p hp => ?_, hA.nd, fun k hk => ?_, Nat.le_trans hA.bw hk2.size, hA.frL hk2 rfl, hA.frD hm hmv rfl⟩, ?_, Mem.le_trans hs (Mem.le_trans hsA hsafe), Nat.le_succ _, Nat.le_succ _, hfA.trans (hA.frK hk2 rfl)⟩
  · exact set_block (set_block hb5)
  · have h1 := hap.2.2.2.1 k e
    exact (hset k h1.1).trans (hold k (hA.bf.lt k e) (fun e2 => (hap.2.2.2.2 k e2).2.2.2.2 e))
  · exact (hset _ (fun e => hap.1 e.symm)).trans (hold _ hA.wm.lt (fun e => (hap.2.2.2.2 _ e).2.1 rfl))
  · exact (hset _ (fun e => hap.2.1 e.symm)).trans (hold _ hA.em.lt (fun e => (hap.2.2.2.2 _ e).2.2.1 rfl))
  · obtain ⟨lv, h1, h2⟩ := hA.pk p hp
    exact ⟨lv, ((hset _ (hap.2.2.1 p hp).1).trans (hold _ (Array.getElem?_eq_some_iff.1 h1).1 (fun e => (hap.2.2.2.2 _ e).2.2.2.1 p hp rfl))).trans h1, tEls.mono _ _ _ _ hsafe h2⟩
  · rcases hm k hk with h | h
    · exact hA.ge k h
    · exact Nat.le_trans hA.bw h
  · exact hBA.trans (hA.keepsB hk2)

theorem WireInv.afterApp {A C : World} {base b : Nat} {L : WL} {r : Raw} {v' : Value} {n m : Nat} {o : Obj} (hI : WireInv A base b L r) (happ : AppAt (A.alloc o) C L.qv n m v') : C.heap[b]? = some (.cells (wCells L r) 87 (0, 0)) :=
  (happ.grown.block b (by have := hI.mut_lt b (.inl rfl); simp; omega) (fun e => (hI.apart.2.2.2.2 b e.symm).1 rfl)).trans (hI.pure ((Below.refl _ _).alloc (Nat.le_refl _) o)).hb

set_option maxRecDepth 100000 in
set_option maxHeartbeats 4000000 in
theorem put_any (base b : Nat) (L : WL) (r : Raw) (x : El) (s : Value) (W : World) (hI : WireInv W base b L r) (hx : x.ok) (hv : tRow.rv (mem W) [s] x.row) (hc0 : 0 ≤ r.count) (hc1 : r.count ≤ 4000) (hq : r.queue.length ≤ 4000) :
    Calls Try.prog 16 #[.pointer (some ⟨b, 0, none⟩), elV x s] W fun e W' => e = .returned (.int .i64 (putE r x)) ∧ WStep base b W L r W' (putR r x) := by
  obtain ⟨qv, bv, wm, em, nw, ne, fr⟩ := L
  obtain ⟨aq, cq, hqv, hq1, hq2⟩ := hI.q.form
  simp only at hqv
  subst hqv
  obtain ⟨a, cap, rfl, _, _, hv⟩ := slice_form hv
  have hb1 : ∀ o, Below W.heap.size W (W.alloc o) := fun o => (Below.refl _ _).alloc (Nat.le_refl _) o
  have HV0 := fun o => validEl_any x _ (W.alloc o) (tRow.mono _ _ _ _ (below_mem (hb1 o)) hv)
  have HB1 := Lib.hid hb1
  have HRow := Lib.hid hv
  clear hv hb1
  cases hval : validEl x
  · rw [hval] at HV0
    have HV := Lib.hid HV0
    have HR := Lib.hid (show putE r x = 1 ∧ putR r x = r from ⟨by simp [putE, hval], by simp [putR, hval]⟩)
    have HI := Lib.hid hI
    clear HV0 hval hI
    go_enter Try.func16, Try.ntmps16
    go_wp2_with fail
    refine (HV.out _).mono ?_
    rintro e w1 ⟨rfl, hb⟩
    go_wp2
    go_ret
    exact ⟨by rw [HR.out.1]; rfl, by rw [HR.out.2]; exact HI.out.pureStep ((HB1.out _).trans (hb.mono (by simp)))⟩
  · rw [hval] at HV0
    have HV := Lib.hid HV0
    have h8 := validEl_row hval
    by_cases h4 : r.count = 4000
    · have HR := Lib.hid (show putE r x = 4 ∧ putR r x = r from ⟨by simp [putE, hval, h4], by simp [putR, hval, h4]⟩)
      have HI := Lib.hid hI
      have h41 : (r.count == 4000) = true := by simpa using h4
      clear HV0 hval hI h4
      go_enter Try.func16, Try.ntmps16
      go_wp2_with fail
      refine (HV.out _).mono ?_
      rintro e w1 ⟨rfl, hb⟩
      have hbw := (HB1.out _).trans (hb.mono (by simp))
      have HS := Lib.hid (HI.out.pureStep hbw)
      have c9 : w1.cell? ⟨b, 9, none⟩ = some (.int .i64 r.count) := (HI.out.pure hbw).cell 9
      clear hb hbw
      go_wp2
      go_ret
      exact ⟨by rw [HR.out.1]; rfl, by rw [HR.out.2]; exact HS.out⟩
    · have HR := Lib.hid (show putE r x = 0 ∧ putR r x = { r with queue := r.queue ++ [x], count := r.count + 1 } from ⟨by simp [putE, hval, h4], by simp [putR, hval, h4]⟩)
      have HI := Lib.hid hI
      have h41 : (r.count == 4000) = false := by simpa using h4
      clear HV0 hval hI h4
      go_enter Try.func16, Try.ntmps16
      go_wp2_with fail
      refine (HV.out _).mono ?_
      rintro e w1 ⟨rfl, hb⟩
      have hbw := (HB1.out _).trans (hb.mono (by simp))
      have c9 : w1.cell? ⟨b, 9, none⟩ = some (.int .i64 r.count) := (HI.out.pure hbw).cell 9
      have c0 : w1.cell? ⟨b, 0, none⟩ = some (.slice aq r.queue.length cq) := (HI.out.pure hbw).cell 0
      have x0 : w1.cell? ⟨W.heap.size, 0, none⟩ = some (.int .i64 x.kind) := below_mem hb _ _ _ (cell_new 0 rfl)
      have x1 : w1.cell? ⟨W.heap.size, 1, none⟩ = some (.int .i64 x.n) := below_mem hb _ _ _ (cell_new 1 rfl)
      have x2 : w1.cell? ⟨W.heap.size, 2, none⟩ = some (.int .i64 x.time) := below_mem hb _ _ _ (cell_new 2 rfl)
      have x3 : w1.cell? ⟨W.heap.size, 3, none⟩ = some (.slice a x.row.length cap) := below_mem hb _ _ _ (cell_new 3 rfl)
      have x4 : w1.cell? ⟨W.heap.size, 4, none⟩ = some (.int .i64 x.cn) := below_mem hb _ _ _ (cell_new 4 rfl)
      have HI1 := Lib.hid (HI.out.pure hbw)
      have HS1 := Lib.hid (HI.out.safePure hbw)
      have HF1 := Lib.hid (HI.out.pureFr hbw)
      have HBW := Lib.hid hbw
      have HO := Lib.hid (own_el x _ w1.drew (tRow.mono _ _ _ _ (below_mem (hbw.drew : Below W.heap.size W w1.drew)) HRow.out) (by omega))
      clear hb hbw
      have HL1 := Lib.hid (show r.queue.length + 1 ≤ maxLen by unfold maxLen; omega)
      have HL2 := Lib.hid (show (r.queue.length + 1) * 56 ≤ 140737488355328 by omega)
      go_wp2_with fail
      go_region_law (first
        | (go_simp; go_at_call 46; refine HO.out.mono ?_; rintro e w4 ⟨a4, c4, rfl, hu, hb4⟩; have hb4' := (Below.refl _ _).drew.trans hb4; have HI4 := Lib.hid (HI1.out.pure hb4'); have HB4 := Lib.hid ((HBW.out.mono HI.out.bw).trans (hb4'.mono (Nat.le_trans HI.out.bw HBW.out.size))); have HS4 := Lib.hid (Mem.le_trans HS1.out (HI1.out.safePure hb4')); have HF4 := Lib.hid (HF1.out.trans (HI1.out.pureFr hb4')); have HRow4 := Lib.hid (fun o => (⟨_, rfl, ⟨hx.k, hx.n, hx.t, hx.c⟩, HI1.out.fresh hb4' hu o⟩ : (tIn (safe (w4.alloc o) b ⟨.slice aq r.queue.length cq, bv, wm, em, nw, ne, fr⟩ r) tEl).rv noMem [.int .i64 x.kind, .int .i64 x.n, .int .i64 x.time, .slice a4 x.row.length c4, .int .i64 x.cn] x)); have c04 : ∀ o, (w4.alloc o).cell? ⟨b, 0, none⟩ = some (.slice aq r.queue.length cq) := fun o => (HI4.out.pure ((Below.refl _ _).alloc (Nat.le_refl _) o)).cell 0; have d04 : w4.cell? ⟨b, 0, none⟩ = some (.slice aq r.queue.length cq) := HI4.out.cell 0; clear hb4 hb4' hu)
        | (refine step_append_o1 rfl (.tmp 24) (.tmp 27) 36 rfl (tIn (safe (w4.alloc (.cells #[.int .i64 x.kind, .int .i64 x.n, .int .i64 x.time, .slice a4 x.row.length c4, .int .i64 x.cn] 42)) b ⟨.slice aq r.queue.length cq, bv, wm, em, nw, ne, fr⟩ r) tEl) Try.underlying36 (infoEl _) rfl _ r.queue rfl (HI4.out.pure ((Below.refl _ _).alloc (Nat.le_refl _) _)).q _ _ x rfl _ el_cells (HRow4.out _) el_one HL1.out HL2.out ?_; intro v' w5 own5 happ; obtain ⟨a5, c5, rfl, _⟩ := own5.form; have HQ := Lib.hid (HI4.out.queued own5 happ HS4.out HB4.out HF4.out); have hb5 := HI4.out.afterApp happ; have c05 : w5.cell? ⟨b, 0, none⟩ = some (.slice aq r.queue.length cq) := mem_cells hb5 0; have c95 : w5.cell? ⟨b, 9, none⟩ = some (.int .i64 r.count) := mem_cells hb5 9; have f05 : ∀ o, w5.frozen? ⟨b, o, none⟩ = false := frozen_cells hb5; clear own5 happ hb5))
      all_goals
        go_wp2
        go_ret
        exact ⟨by rw [HR.out.1]; rfl, by rw [HR.out.2]; have h := HQ.out; simp only [List.length_append, List.length_cons, List.length_nil, Nat.zero_add] at h; exact h⟩
end Go.Proofs.Ytfkphdmnelchmaa
