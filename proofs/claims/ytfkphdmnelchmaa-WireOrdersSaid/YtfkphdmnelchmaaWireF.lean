/- Wires: Send. -/
import Derived.Test.YtfkphdmnelchmaaPMap
import Derived.BigRegion
namespace Go.Proofs.Ytfkphdmnelchmaa
open Go.RowKit Go.Maps

def dropA (g off len n sz : Nat) : Addr := if len = n then ⟨g, off, none⟩ else ⟨g, off + n * sz, none⟩
theorem dropA_block (g off len n sz : Nat) : (dropA g off len n sz).block = g := by unfold dropA; split <;> rfl
section
variable {P : Program}
theorem size_run {e : TypeId} {sz : Nat} (hs : (P.info? e).map (·.size) = some sz) (w : World) : (sizeOf e).run P w = .ok sz w := by
  cases hq : P.info? e with
  | none => simp [hq] at hs
  | some i => simp only [hq, Option.map_some, Option.some.injEq] at hs; simp [sizeOf, typeInfo, hq, hs]
theorem take_run {T e : TypeId} {sz : Nat} (hT : P.underlying T = some (.slice e)) (hs : (P.info? e).map (·.size) = some sz) (g off len cap n : Nat) (h0 : 0 < n) (hn : n ≤ cap) (w2 : World) :
    (Instr.slice T (.slice (some ⟨g, off, none⟩) len cap) none (some (.int .i64 n)) (some (.int .i64 n))).run P w2 = .ok (.slice (some ⟨g, off, none⟩) n n) w2 := by
  have he : P.elem T = e := by simp [Program.elem, hT]
  rw [run_slice_hm w2 T _ len cap (by rw [he]; exact hT) .i64 .i64 n n (by omega) (by omega) (by omega), he, size_run hs]
  have h1 : ¬ n = 0 := by omega
  simp [Result.andThen, sliced, h1, Addr.add]
theorem drop_run {T e : TypeId} {sz : Nat} (hT : P.underlying T = some (.slice e)) (hs : (P.info? e).map (·.size) = some sz) (g off len cap n : Nat) (hn : n ≤ len) (hl : len ≤ cap) (w2 : World) :
    (Instr.slice T (.slice (some ⟨g, off, none⟩) len cap) (some (.int .i64 n)) (some (.int .i64 len)) (some (.int .i64 len))).run P w2 = .ok (.slice (some (dropA g off len n sz)) (len - n) (len - n)) w2 := by
  have he : P.elem T = e := by simp [Program.elem, hT]
  rw [run_slice_lhm w2 T _ len cap (by rw [he]; exact hT) .i64 .i64 .i64 n len len (by omega) (by omega) (by omega) (by omega), he, size_run hs]
  by_cases h1 : len = n
  · simp [Result.andThen, sliced, dropA, h1]
  · simp [Result.andThen, sliced, dropA, h1, Addr.add]
end
theorem OwnsO.drop {α : Type} {t : Ty α} {w : World} {e : TypeId} {g off cap n : Nat} {xs : List α} (h : OwnsO t w e (.slice (some ⟨g, off, none⟩) xs.length cap) xs) (hn : n ≤ xs.length) :
    OwnsO t w e (.slice (some (dropA g off xs.length n t.sz)) (xs.length - n) (xs.length - n)) (xs.drop n) := by
  obtain ⟨css, g1, g2, h | ⟨g', off', cap', cur, hv, h2, h3, h4, h5, h6⟩⟩ := h
  · obtain ⟨h, _⟩ := h; cases h
  · simp only [Value.slice.injEq, Option.some.injEq, Addr.mk.injEq, and_true, true_and] at hv
    obtain ⟨⟨rfl, rfl⟩, rfl⟩ := hv
    have hl := OwnsO.lens g1 g2
    refine ⟨css.drop n, by simp [g1], fun k h h' => ?_, .inr ?_⟩
    · simp only [List.getElem_drop]
      exact g2 _ _ _
    · by_cases he : xs.length = n
      · refine ⟨g, off, xs.length - n, cur, by simp [dropA, he], h2, by simp, by omega, ?_, ?_⟩
        · rw [show xs.length - n = 0 by omega, Nat.zero_mul]; have := Nat.zero_le (cap * t.sz); omega
        · have e1 : (xs.drop n).length = 0 := by simp; omega
          have e2 : css.drop n = [] := List.drop_eq_nil_iff.2 (by omega)
          rw [e1, e2, Nat.zero_mul]; rfl
      · refine ⟨g, off + n * t.sz, xs.length - n, cur, by simp [dropA, he], h2, by simp, by omega, ?_, ?_⟩
        · have e1 : xs.length * t.sz = n * t.sz + (xs.length - n) * t.sz := by rw [← Nat.add_mul]; congr 1; omega
          have e2 := Nat.mul_le_mul_right t.sz h3
          omega
        · have e1 : css.flatten = (css.take n).flatten ++ (css.drop n).flatten := by rw [← List.flatten_append, List.take_append_drop]
          have e2 : (css.take n).flatten.length = n * t.sz := by rw [flatten_length _ (fun c hc => hl c (List.mem_of_mem_take hc)), List.length_take]; congr 1; omega
          have e3 : (css.drop n).flatten = css.flatten.drop (n * t.sz) := by rw [e1, ← e2, List.drop_left]
          rw [e3, ← h6, List.drop_take, List.drop_drop, List.length_drop, ← Nat.sub_mul]
theorem OwnsO.addr {α : Type} {t : Ty α} {w : World} {e : TypeId} {v : Value} {xs : List α} (h : OwnsO t w e v xs) (hp : 0 < xs.length) : ∃ g off cap, v = .slice (some ⟨g, off, none⟩) xs.length cap ∧ xs.length ≤ cap ∧ cap ≤ maxLen :=
  let ⟨g, off, cap, _, h1, h2, h3, _, _⟩ := h.at hp
  ⟨g, off, cap, h1, h2, h3⟩
theorem slice_take {α : Type} {t : Ty α} {m : Mem} {a : Option Addr} {len cap n : Nat} {xs : List α} (h : (tSlice t).rv m [.slice a len cap] xs) (hn : n ≤ xs.length) : (tSlice t).rv m [.slice a n n] (xs.take n) := by
  obtain ⟨rfl, h1, h2⟩ := slice_len h
  obtain ⟨a', cap', e, _, _, h4⟩ := h
  simp only [List.cons.injEq, Value.slice.injEq, and_true] at e
  obtain ⟨rfl, _, rfl⟩ := e
  have hl : (xs.take n).length = n := by simp; omega
  refine ⟨a, n, by rw [hl], by rw [hl]; exact Nat.le_refl _, by omega, fun h0 => ?_⟩
  rw [hl] at h0
  obtain ⟨b, o, ha, hat⟩ := h4 (by omega)
  exact ⟨b, o, ha, fun k hk => by rw [List.getElem_take]; exact hat k (by omega)⟩

def sendN (r : Raw) : Nat := min r.size.toNat r.queue.length
noncomputable def sendR (r : Raw) (a : Nat) : Raw := { r with queue := r.queue.drop (sendN r), next := r.next + 1, credits := r.credits - 1, way := putAt r.way r.next a, pt := r.pt ++ [⟨a, r.queue.take (sendN r), sendN r⟩] }
def SendOut (base b : Nat) (W : World) (L : WL) (r : Raw) (e : Ending) (W' : World) : Prop :=
  (r.queue = [] ∧ e = .returned (.tuple #[.int .i64 0, .int .i64 8]) ∧ WStep base b W L r W' r) ∨ (r.queue ≠ [] ∧ r.credits = 0 ∧ e = .returned (.tuple #[.int .i64 0, .int .i64 10]) ∧ WStep base b W L r W' r) ∨
  (r.queue ≠ [] ∧ r.credits ≠ 0 ∧ e = .returned (.tuple #[.int .i64 r.next, .int .i64 0]) ∧ ∃ a, W.heap.size ≤ a ∧ WStep base b W L r W' (sendR r a))

section
variable {W W' : World} {base b : Nat} {L L' : WL} {r r' : Raw}
theorem WireInv.upd2 (hI : WireInv W base b L r) (hk : Keeps (mutB b L r) W W') (hm : ∀ k, mutB b L' r' k → mutB b L r k ∨ W.heap.size ≤ k)
    (hb : W'.heap[b]? = some (.cells (wCells L' r') 87 (0, 0)))
    (q : OwnsO (tIn (safe W b L r) tEl) W' 42 L'.qv r'.queue) (bf : OwnsO (tIn (safe W b L r) tItem) W' 94 L'.bv r'.buffer)
    (wm : PMap W' L'.wm L'.nw r'.way) (em : PMap W' L'.em L'.ne r'.early) (we : L'.wm ≠ L'.em)
    (pk : (safe W b L r).le (safe W' b L' r') → ∀ p ∈ r'.pt, ∃ lv, W'.heap[p.ad]? = some (.cells #[lv, .int .i64 p.left] 91 (0, 0)) ∧ tEls.rv (safe W' b L' r') [lv] p.els)
    (nd : (r'.pt.map (·.ad)).Nodup) (hnw : L'.nw ≤ L.nw + 1) (hne : L'.ne ≤ L.ne + 1) (hqo : ∀ k, L'.qv.ownBlock = some k → L.qv.ownBlock = some k ∨ W.heap.size ≤ k) (hf : L'.fr = L.fr) : WStep base b W L r W' r' := by
  have hs := safe_le (L' := L') (r' := r') hk hm hf
  refine ⟨L', ⟨hb, q.re hs, bf.re hs, wm, em, we, pk hs, nd, fun k h => ?_, Nat.le_trans hI.bw hk.size, hI.frL hk hf, hI.frD hm hqo hf⟩, hI.keepsB hk, hs, hnw, hne, hI.frK hk hf⟩
  rcases hm k h with h | h
  · exact hI.ge k h
  · exact Nat.le_trans hI.bw h
end

/-- Behind the packet's box and its place in the map. -/
theorem send_box {W x w4 : World} {base b : Nat} {L : WL} {r : Raw} {v : Value} {n : Nat} {y : World} (hI : WireInv W base b L r) (hD : Below W.heap.size W x) (hsz : x.heap.size = W.heap.size) (hg : y.grownBy w4 (some L.wm))
    (hy : y = (x.alloc (.cells #[v, .int .i64 n] 91)).drew) :
    w4.heap[b]? = some (.cells (wCells L r) 87 (0, 0)) ∧ w4.heap[x.heap.size]? = some (.cells #[v, .int .i64 n] 91 (0, 0)) ∧ (∀ k, k < W.heap.size → k ≠ L.wm → w4.heap[k]? = W.heap[k]?) ∧ Keeps (fun k => k = L.wm) W w4 ∧ W.heap.size < w4.heap.size := by
  subst hy
  have hlt := hI.mut_lt
  have hwm := hlt _ (.inr (.inl rfl))
  have hY : ∀ k, k < W.heap.size → (x.alloc (.cells #[v, .int .i64 n] 91)).drew.heap[k]? = W.heap[k]? := fun k hk => (Below.heap_alloc _ _ _ (by omega)).trans (hD.block k hk)
  have ho : ∀ k, k < W.heap.size → k ≠ L.wm → w4.heap[k]? = W.heap[k]? := fun k hk h => (hg.block k (by show k < (x.alloc _).heap.size; simp; omega) (fun e => h (by injection e))).trans (hY k hk)
  have hs : W.heap.size < w4.heap.size := by have := hg.size; have h2 : (x.alloc (.cells #[v, .int .i64 n] 91)).drew.heap.size = x.heap.size + 1 := by show (x.alloc _).heap.size = _; simp
                                             omega
  refine ⟨(ho b (hlt b (.inl rfl)) hI.apart.1).trans hI.hb, (hg.block _ (by show _ < (x.alloc _).heap.size; simp) (fun e => by injection e with e; omega)).trans (heap_alloc_new x _), ho, ⟨hg.os.trans hD.os, hg.tape.trans hD.tape, hg.output.trans hD.output, Nat.le_of_lt hs, fun k hk h => ho k hk h⟩, hs⟩

/-- Send's end. -/
theorem send_fin {W w4 F : World} {base b a : Nat} {L : WL} {r : Raw} {g off cq n : Nat} (hI : WireInv W base b L r) (hqv : L.qv = .slice (some ⟨g, off, none⟩) r.queue.length cq) (hn : n = sendN r) (hnl : n ≤ r.queue.length)
    (ha : a = W.heap.size) (hbox : w4.heap[a]? = some (.cells #[.slice (some ⟨g, off, none⟩) n n, .int .i64 n] 91 (0, 0))) (ho : ∀ k, k < W.heap.size → k ≠ L.wm → w4.heap[k]? = W.heap[k]?) (hk : Keeps (fun k => k = L.wm) W w4)
    (hM : PMap w4 L.wm (L.nw + 1) (putAt r.way r.next a))
    (hF : F = (((w4.setCell ⟨b, 0, none⟩ (.slice (some (dropA g off r.queue.length n 5)) (r.queue.length - n) (r.queue.length - n))).setCell ⟨b, 4, none⟩ (.int .i64 (r.next + 1))).setCell ⟨b, 2, none⟩ (.int .i64 (r.credits - 1))).drew) : WStep base b W L r F (sendR r a) := by
  have hap := hI.apart
  have hlt := hI.mut_lt
  have hq := hI.q
  rw [hqv] at hq
  have hqo : ∀ k, L.qv.ownBlock = some k → k = g := fun k e => by rw [hqv] at e; cases e; rfl
  have hqo' : L.qv.ownBlock = some g := by rw [hqv]; rfl
  have hoF : ∀ k, k ≠ b → F.heap[k]? = w4.heap[k]? := fun k h => by
    subst hF
    exact (set_block_other (w := (w4.setCell ⟨b, 0, none⟩ _).setCell ⟨b, 4, none⟩ _) h).trans ((set_block_other h).trans (set_block_other h))
  have hbF : F.heap[b]? = some (.cells (wCells { L with qv := .slice (some (dropA g off r.queue.length n 5)) (r.queue.length - n) (r.queue.length - n), nw := L.nw + 1 } (sendR r a)) 87 (0, 0)) := by
    subst hF
    exact set_block (w := (w4.setCell ⟨b, 0, none⟩ _).setCell ⟨b, 4, none⟩ _) (set_block (set_block ((ho b (hlt b (.inl rfl)) hap.1).trans hI.hb)))
  have hkF : Keeps (mutB b L r) W F := by
    subst hF
    exact ((((hk.wide (fun k _ h => .inr (.inl h)) : Keeps (mutB b L r) W w4).setCell (p := ⟨b, 0, none⟩) (fun _ => .inl rfl) _).setCell (p := ⟨b, 4, none⟩) (fun _ => .inl rfl) _).setCell (p := ⟨b, 2, none⟩) (fun _ => .inl rfl) _).drew
  have hfull : full (Value.slice (some (dropA g off r.queue.length n 5)) (r.queue.length - n) (r.queue.length - n)) := ⟨_, _, rfl⟩
  have hm : ∀ k, mutB b { L with qv := .slice (some (dropA g off r.queue.length n 5)) (r.queue.length - n) (r.queue.length - n), nw := L.nw + 1 } (sendR r a) k → mutB b L r k ∨ W.heap.size ≤ k := fun k h => by
    rcases h with h | h | h | ⟨p, hp, rfl⟩ | h | ⟨_, h⟩
    · exact .inl (.inl h)
    · exact .inl (.inr (.inl h))
    · exact .inl (.inr (.inr (.inl h)))
    · rcases List.mem_append.1 hp with hp | hp
      · exact .inl (.inr (.inr (.inr (.inl ⟨p, hp, rfl⟩))))
      · right; simp at hp; subst hp; exact Nat.le_of_eq ha.symm
    · exact .inl (.inr (.inr (.inr (.inr (.inl h)))))
    · exact absurd hfull h
  have hgb : g ≠ b ∧ g ≠ L.wm := ⟨(hap.2.2.2.2 g hqo').1, (hap.2.2.2.2 g hqo').2.1⟩
  have hgl := hI.q.lt g hqo'
  have hgF : F.heap[g]? = W.heap[g]? := (hoF g hgb.1).trans (ho g hgl hgb.2)
  have hqF : OwnsO (tIn (safe W b L r) tEl) F 42 (.slice (some ⟨g, off, none⟩) r.queue.length cq) r.queue := hq.keeps (fun k e => by cases e; exact hgF)
  refine hI.upd2 (L' := { L with qv := .slice (some (dropA g off r.queue.length n 5)) (r.queue.length - n) (r.queue.length - n), nw := L.nw + 1 }) hkF hm hbF ?_ (hI.bf.keeps (fun k e => ?_)) (hM.at (hoF _ (fun e => hap.1 e.symm))) (hI.em.at ?_) hI.we (fun hs p hp => ?_) ?_ (Nat.le_refl _) (Nat.le_succ _) (fun k e => by rw [hqv]; left; simpa [Value.ownBlock, dropA_block] using e) rfl
  · show OwnsO _ _ _ _ (r.queue.drop (sendN r))
    rw [← hn]; exact hqF.drop hnl
  · have h1 := hap.2.2.2.1 k e
    exact (hoF k h1.1).trans (ho k (hI.bf.lt k e) h1.2.1)
  · exact (hoF _ (fun e => hap.2.1 e.symm)).trans (ho _ hI.em.lt (fun e => hI.we e.symm))
  · rcases List.mem_append.1 hp with hp | hp
    · obtain ⟨lv, h1, h2⟩ := hI.pk p hp
      have h3 := hap.2.2.1 p hp
      exact ⟨lv, ((hoF _ h3.1).trans (ho _ (Array.getElem?_eq_some_iff.1 h1).1 h3.2.1)).trans h1, tEls.mono _ _ _ _ hs h2⟩
    · simp only [List.mem_singleton] at hp
      subst hp
      have hab : a ≠ b := by have := hlt b (.inl rfl); omega
      refine ⟨_, by rw [← hn]; exact (hoF a hab).trans hbox, ?_⟩
      have hown := (hqF.re hs).rv (tIn_flat _ _) (S := fun k => ¬ mutB b { L with qv := .slice (some (dropA g off r.queue.length n 5)) (r.queue.length - n) (r.queue.length - n), nw := L.nw + 1 } (sendR r a) k ∧ ¬ L.fr k) (fun k e => by
        cases e
        refine ⟨?_, fun h => (hI.fd g h).2 hqo'⟩
        intro h
        rcases h with h | h | h | ⟨p, hp, h⟩ | h | ⟨_, h⟩
        · exact hgb.1 h
        · exact hgb.2 h
        · exact (hap.2.2.2.2 g hqo').2.2.1 h
        · rcases List.mem_append.1 hp with hp | hp
          · exact (hap.2.2.2.2 g hqo').2.2.2.1 p hp h
          · simp only [List.mem_singleton] at hp; subst hp; simp only at h; omega
        · exact (hap.2.2.2.2 g hqo').2.2.2.2 h
        · exact h hfull)
      rw [← hn]
      exact slice_take (slice_in hown (Mem.le_refl _)) hnl
  · show ((r.pt ++ [_]).map PT.ad).Nodup
    rw [List.map_append, List.nodup_append]
    refine ⟨hI.nd, by simp, fun x hx y hy => ?_⟩
    simp only [List.map_cons, List.map_nil, List.mem_singleton] at hy
    obtain ⟨p, hp, rfl⟩ := List.mem_map.1 hx
    have := hlt p.ad (.inr (.inr (.inr (.inl ⟨p, hp, rfl⟩))))
    rw [hy]; show p.ad ≠ a; omega

set_option maxRecDepth 100000 in
set_option maxHeartbeats 4000000 in
theorem send_any (base b : Nat) (L : WL) (r : Raw) (W : World) (hI : WireInv W base b L r) (hs1 : 1 ≤ r.size) (hs2 : r.size ≤ 100) (hq : r.queue.length ≤ 4000) (hc0 : 0 ≤ r.credits) (hc1 : r.credits ≤ 1000) (hn0 : 0 ≤ r.next) (hn1 : r.next ≤ 1000000000) (hnw : L.nw ≤ 1000000000) :
    Calls Try.prog 17 #[.pointer (some ⟨b, 0, none⟩)] W (SendOut base b W L r) := by
  obtain ⟨qv, bv, wm, em, nw, ne, fr⟩ := L
  simp only at hnw
  have c2 : W.cell? ⟨b, 2, none⟩ = some (.int .i64 r.credits) := hI.cell 2
  by_cases hqe : r.queue = []
  · obtain ⟨aq, cq, hqv, hq1, hq2⟩ := hI.q.form
    simp only [hqe, List.length_nil] at hqv
    subst hqv
    have c0 : W.cell? ⟨b, 0, none⟩ = some (.slice aq 0 cq) := hI.cell 0
    have HI := Lib.hid hI
    have HQ := Lib.hid hqe
    clear hI hqe hq1
    go_enter Try.func17, Try.ntmps17
    go_wp2
    go_ret2
    exact .inl ⟨HQ.out, rfl, HI.out.same⟩
  · have hpos : 0 < r.queue.length := by cases h : r.queue with
      | nil => exact absurd h hqe
      | cons x l => simp
    obtain ⟨g, off, cq, hqv, hq1, hq2⟩ := hI.q.addr hpos
    simp only at hqv
    subst hqv
    have c0 : W.cell? ⟨b, 0, none⟩ = some (.slice (some ⟨g, off, none⟩) r.queue.length cq) := hI.cell 0
    have hz : ((r.queue.length : Int) == 0) = false := by simp; omega
    have HI := Lib.hid hI
    have HQ := Lib.hid hqe
    have c1 : W.cell? ⟨b, 1, none⟩ = some (.int .i64 r.size) := hI.cell 1
    have c4 : W.cell? ⟨b, 4, none⟩ = some (.int .i64 r.next) := hI.cell 4
    have c8 : W.cell? ⟨b, 8, none⟩ = some (.map (some wm)) := hI.cell 8
    have hcq : cq ≤ 9223372036854775807 := by unfold maxLen at hq2; exact hq2
    clear hI hqe
    by_cases hcz : r.credits = 0
    · have HC := Lib.hid hcz
      have hcz1 : (r.credits == 0) = true := by simpa using hcz
      clear hcz
      go_enter Try.func17, Try.ntmps17
      go_wp2
      go_ret2
      exact .inr (.inl ⟨HQ.out, HC.out, rfl, HI.out.same⟩)
    · have HC := Lib.hid hcz
      have hcz1 : (r.credits == 0) = false := by simpa using hcz
      clear hcz
      obtain ⟨n, hn, hn0', hnl, hmin⟩ : ∃ n, n = sendN r ∧ 0 < n ∧ n ≤ r.queue.length ∧ min r.size (r.queue.length : Int) = n := ⟨sendN r, rfl, by unfold sendN; omega, by unfold sendN; omega, by unfold sendN; omega⟩
      have HN := Lib.hid hn
      have hn100 : n ≤ 100 := by omega
      have hs1' := take_run (P := Try.prog) (T := 36) (sz := 5) Try.underlying36 (by kernel_rfl) g off r.queue.length cq n hn0' (by omega)
      have hs2' := drop_run (P := Try.prog) (T := 36) (sz := 5) Try.underlying36 (by kernel_rfl) g off r.queue.length cq n hnl hq1
      have HMIN := Lib.hid hmin
      clear hn hmin
      by_cases hle : r.size ≤ (r.queue.length : Int)
      · go_enter Try.func17, Try.ntmps17
        go_wp2_with fail
        go_region
        have hsn : r.size = (n : Int) := by have := HMIN.out; omega
        rw [hsn]
        have HD := Lib.hid (show Below W.heap.size W W.drew from (Below.refl _ _).drew)
        have hXb := HI.out.hb
        have hXb : W.drew.heap[b]? = some (.cells (wCells ⟨.slice (some ⟨g, off, none⟩) r.queue.length cq, bv, wm, em, nw, ne, fr⟩ r) 87 (0, 0)) := hXb
        have d0 : W.drew.cell? ⟨b, 0, none⟩ = some (.slice (some ⟨g, off, none⟩) r.queue.length cq) := c0
        have d4 : W.drew.cell? ⟨b, 4, none⟩ = some (.int .i64 r.next) := c4
        have d8 : W.drew.cell? ⟨b, 8, none⟩ = some (.map (some wm)) := c8
        have hPM : PMap (W.drew.alloc (.cells #[.slice (some ⟨g, off, none⟩) n n, .int .i64 n] 91)).drew wm nw r.way := ((HI.out.wm.drew).alloc _).drew
        have HPM := Lib.hid hPM
        have hsz : W.drew.heap.size = W.heap.size := rfl
        have HSZ := Lib.hid hsz
        clear c0 c1 c2 c4 c8 hPM hsz
        go_upto_region 9 with fail
        generalize W.drew = X at *
        have d8' : (X.alloc (.cells #[.slice (some ⟨g, off, none⟩) n n, .int .i64 n] 91)).cell? ⟨b, 8, none⟩ = some (.map (some wm)) := below_mem ((Below.refl _ _).alloc (Nat.le_refl _) _) _ _ _ d8
        obtain ⟨w4, hrun, HM4, hg4⟩ := HPM.out.put (by unfold maxLen; omega) (k := r.next) (by unfold inI64; omega) X.heap.size
        have HM := Lib.hid HM4
        have HP := Lib.hid (send_box (x := X) (n := n) HI.out HD.out HSZ.out hg4 rfl)
        have hb4 := (HP.out).1
        clear hg4 HPM hXb HM4
        go_region
        clear d0 d4 d8 d8' hrun
        have e0 : w4.cell? ⟨b, 0, none⟩ = some (.slice (some ⟨g, off, none⟩) r.queue.length cq) := mem_cells hb4 0
        have e2 : w4.cell? ⟨b, 2, none⟩ = some (.int .i64 r.credits) := mem_cells hb4 2
        have e4 : w4.cell? ⟨b, 4, none⟩ = some (.int .i64 r.next) := mem_cells hb4 4
        have f0 : w4.frozen? ⟨b, 0, none⟩ = false := frozen_cells hb4 0
        have f2 : w4.frozen? ⟨b, 2, none⟩ = false := frozen_cells hb4 2
        have f4 : w4.frozen? ⟨b, 4, none⟩ = false := frozen_cells hb4 4
        clear hb4
        go_wp2
        go_region
        go_wp2
        go_ret2
        exact .inr (.inr ⟨HQ.out, HC.out, rfl, X.heap.size, Nat.le_of_eq HSZ.out.symm, send_fin HI.out rfl HN.out hnl HSZ.out HP.out.2.1 HP.out.2.2.1 HP.out.2.2.2.1 HM.out rfl⟩)
      · obtain rfl : n = r.queue.length := by have := HMIN.out; omega
        go_enter Try.func17, Try.ntmps17
        go_wp2_with fail
        go_region
        have HD := Lib.hid (show Below W.heap.size W W.drew from (Below.refl _ _).drew)
        have hXb := HI.out.hb
        have hXb : W.drew.heap[b]? = some (.cells (wCells ⟨.slice (some ⟨g, off, none⟩) r.queue.length cq, bv, wm, em, nw, ne, fr⟩ r) 87 (0, 0)) := hXb
        have d0 : W.drew.cell? ⟨b, 0, none⟩ = some (.slice (some ⟨g, off, none⟩) r.queue.length cq) := c0
        have d4 : W.drew.cell? ⟨b, 4, none⟩ = some (.int .i64 r.next) := c4
        have d8 : W.drew.cell? ⟨b, 8, none⟩ = some (.map (some wm)) := c8
        have hPM : PMap (W.drew.alloc (.cells #[.slice (some ⟨g, off, none⟩) r.queue.length r.queue.length, .int .i64 r.queue.length] 91)).drew wm nw r.way := ((HI.out.wm.drew).alloc _).drew
        have HPM := Lib.hid hPM
        have hsz : W.drew.heap.size = W.heap.size := rfl
        have HSZ := Lib.hid hsz
        clear c0 c1 c2 c4 c8 hPM hsz
        go_upto_region 9 with fail
        generalize W.drew = X at *
        have d8' : (X.alloc (.cells #[.slice (some ⟨g, off, none⟩) r.queue.length r.queue.length, .int .i64 r.queue.length] 91)).cell? ⟨b, 8, none⟩ = some (.map (some wm)) := below_mem ((Below.refl _ _).alloc (Nat.le_refl _) _) _ _ _ d8
        obtain ⟨w4, hrun, HM4, hg4⟩ := HPM.out.put (by unfold maxLen; omega) (k := r.next) (by unfold inI64; omega) X.heap.size
        have HM := Lib.hid HM4
        have HP := Lib.hid (send_box (x := X) (n := r.queue.length) HI.out HD.out HSZ.out hg4 rfl)
        have hb4 := (HP.out).1
        clear hg4 HPM hXb HM4
        go_region
        clear d0 d4 d8 d8' hrun
        have e0 : w4.cell? ⟨b, 0, none⟩ = some (.slice (some ⟨g, off, none⟩) r.queue.length cq) := mem_cells hb4 0
        have e2 : w4.cell? ⟨b, 2, none⟩ = some (.int .i64 r.credits) := mem_cells hb4 2
        have e4 : w4.cell? ⟨b, 4, none⟩ = some (.int .i64 r.next) := mem_cells hb4 4
        have f0 : w4.frozen? ⟨b, 0, none⟩ = false := frozen_cells hb4 0
        have f2 : w4.frozen? ⟨b, 2, none⟩ = false := frozen_cells hb4 2
        have f4 : w4.frozen? ⟨b, 4, none⟩ = false := frozen_cells hb4 4
        clear hb4
        go_wp2
        go_region
        go_wp2
        go_ret2
        exact .inr (.inr ⟨HQ.out, HC.out, rfl, X.heap.size, Nat.le_of_eq HSZ.out.symm, send_fin HI.out rfl HN.out (Nat.le_refl _) HSZ.out HP.out.2.1 HP.out.2.2.1 HP.out.2.2.2.1 HM.out (by rw [Nat.sub_self])⟩)
end Go.Proofs.Ytfkphdmnelchmaa
