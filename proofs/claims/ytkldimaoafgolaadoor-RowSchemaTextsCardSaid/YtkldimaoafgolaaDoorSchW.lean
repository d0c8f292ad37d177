/- ParseSchema of package row, walked. -/
import Derived.Test.YtkldimaoafgolaaDoorSplIt
import Derived.Test.YtkldimaoafgolaaDoorSchRd
import Derived.RangeFuncLeaves
namespace Go.Proofs.YtkldimaoafgolaaDoor
open Go.RowKit Go.Shelf
attribute [local go_sem] Oper.semAt_some

theorem wpListIn_append_one {F : Fence} {m : Nat} {P : Program} {α : Type} {ops : Array Oper} {rest : List Oper} {o : Oper} {a : Act} {Q : Exit → Act → World → Prop} {w : World} (hgd : o.guard = none) (s x : Operand) (T : TypeId)
    (ho : o.op = .call { callee := .builtin .append, args := #[s, x], argTypes := #[T, T] }) (t : Ty α) {e : TypeId} {z : Value} {bytes : Nat} (hT : P.underlying T = some (.slice e))
    (hinf : (P.info? e).map (fun i => (i.zero, i.size, i.bytes)) = some (some z, t.sz, bytes)) (hzs : z.cells.size = t.sz) (hsz : 0 < t.sz) (B : Nat) (v : Value) (xs : List α) (hs : a.eval s = v) (hown : Owns t w B e v xs)
    (nb c : Nat) (y : α) (hx : a.eval x = .slice (some ⟨nb, 0, none⟩) 1 c) (cs : List Value) (hat : At (mem w) nb 0 cs) (hrv : t.rv ((mem w).on (fun b => some b ≠ v.ownBlock)) cs y) (h1 : ∀ u ∈ cs, u.oneCell' = true)
    (h63 : xs.length + 1 ≤ maxLen) (hbytes : (xs.length + 1) * bytes ≤ 140737488355328) (hbase : B ≤ w.heap.size)
    (h : ∀ v' w', Owns t w' B e v' (xs ++ [y]) → w.grownBy w' v.ownBlock → (v'.ownBlock = v.ownBlock ∨ ∀ k, v'.ownBlock = some k → w.heap.size ≤ k) → wpListIn F m P ops Q rest (a.put o.dst v') w') : wpListIn F m P ops Q (o :: rest) a w := by
  obtain ⟨i, hi, hz, hsize, hby⟩ := info_parts hinf
  have hown' := hown
  obtain ⟨css, g1, g2, g4, g5⟩ := hown
  have hl : cs.length = 1 * t.sz := by rw [t.len _ _ _ hrv, Nat.one_mul]
  have hnews : ∀ j u, cs[j]? = some u → w.cell? ((⟨nb, 0, none⟩ : Addr).add j) = some u := fun j u hj => by rw [Addr.add_lit]; exact hat j u hj
  refine wpListIn_plain hgd fun K hK => ?_
  obtain ⟨v', w', hr, h2, h3, _⟩ := run_append_own (P := P) w B T o.type e i z t.sz bytes hT hi hz hsize hby hzs hsz v xs.length css.flatten g2 ⟨nb, 0, none⟩ 1 c cs hl hnews h1 h63 hbytes hbase
  have hblk := append_block w B T o.type e i z t.sz bytes hT hi hz hsize hby v xs.length css.flatten g2 ⟨nb, 0, none⟩ 1 c cs hl hnews h1 (by omega) h63 hbytes hr
  have key : Owns t w' B e v' (xs ++ [y]) := by
    refine hown'.snoc (fun css' hc' => ?_) h3 hblk hrv
    obtain ⟨v2, w2, hr2, h22, _, _⟩ := run_append_own (P := P) w B T o.type e i z t.sz bytes hT hi hz hsize hby hzs hsz v xs.length css'.flatten hc' ⟨nb, 0, none⟩ 1 c cs hl hnews h1 h63 hbytes hbase
    rw [hr] at hr2
    injection hr2 with ev ew
    subst ev; subst ew
    exact h22
  unfold Oper.wpIn
  refine ⟨?_, ?_⟩
  · simp [Oper.about, ho, resolve, Target.leads, Sem.run_pure]
  · rw [Oper.semAt_plain F _ _ (by rw [ho]; intro c hc'; cases hc')]
    simp [execOp, ho, resolve, invoke, builtin, hs, hx, hr, Result.andThen]
    exact hK _ _ (h v' w' key h3 hblk)

/-- What the variable of the columns holds while words come. -/
structure SchKept (w : World) (n : Nat) (ps : List ByteArray) (W : World) : Prop where
  ex : ∃ u, W.heap[w.heap.size]? = some (.cells #[u] 23 (0, 0)) ∧ Owns tCol W n 69 u (ps.map colOf)
  bl : Below w.heap.size w W
theorem Owns.keepsC {α : Type} {t : Ty α} {w w' : World} {B : Nat} {e : TypeId} {v : Value} {xs : List α} (h : Owns t w B e v xs) (hf : t.flat) {F : Nat → Prop} (hk : Keeps F w w') (hF : ∀ k o, B ≤ k → w.heap[k]? = some o → o.isCells = true → ¬ F k) : Owns t w' B e v xs := by
  obtain ⟨css, h1, ⟨h2, h3⟩, h4, h5⟩ := h
  refine ⟨css, h1, ⟨h2, ?_⟩, h4, fun k h h' => hf _ _ _ _ (h5 k h h')⟩
  rcases h3 with h3 | ⟨g, cap, cur, rfl, hg, hh, r⟩
  · exact .inl h3
  · exact .inr ⟨g, cap, cur, rfl, hg, by rw [hk.block g (Array.getElem?_eq_some_iff.1 hh).1 (hF g _ hg hh rfl)]; exact hh, r⟩
theorem SchKept.keeps {w A B : World} {n : Nat} {ps : List ByteArray} {F : Nat → Prop} (h : SchKept w n ps A) (hk : Keeps F A B) (hF : ∀ k, F k → w.heap.size < k) (hC : ∀ k o, n ≤ k → A.heap[k]? = some o → o.isCells = true → ¬ F k) : SchKept w n ps B := by
  obtain ⟨⟨u, c, o⟩, hb⟩ := h
  exact ⟨⟨u, (hk.block _ (Array.getElem?_eq_some_iff.1 c).1 (fun h => by have := hF _ h; omega)).trans c, o.keepsC tCol_flat hk hC⟩, Keeps.belowStep hb hk (fun k h => by have := hF k h; omega) hb.size⟩
theorem own_cells {α : Type} {t : Ty α} {w : World} {B : Nat} {e : TypeId} {v : Value} {xs : List α} (h : Owns t w B e v xs) : ∀ j o, v.ownBlock = some j → w.heap[j]? = some o → o.isCells = true := by
  obtain ⟨css, _, ⟨_, h3⟩, _, _⟩ := h
  intro j o hj ho
  rcases h3 with h3 | ⟨g, cap, cur, rfl, _, hh, _⟩
  · obtain ⟨rfl, _⟩ := h3; cases hj
  · cases hj; rw [hh] at ho; cases ho; rfl
theorem cutName_le (p : ByteArray) : (cutName p).size ≤ p.size := by
  show (bl ⟨(Lib.cut (bl p) [32]).1.toArray⟩).length ≤ (bl p).length
  rw [bl_mk]
  unfold Lib.cut
  split
  · show (List.take _ _).length ≤ _
    rw [List.length_take]; omega
  · exact Nat.le_refl _
theorem others_of_keeps {F : Nat → Prop} {W W' : World} (hk : Keeps F W W') (hF : ∀ k o, F k → W.heap[k]? = some o → o.isCells = true) : KeepsOthers W W' :=
  ⟨hk.size, fun k o h hc => (hk.block k (Array.getElem?_eq_some_iff.1 h).1 (fun hf => by rw [hF k o hf h] at hc; cases hc)).trans h⟩
theorem cut2_any (p : ByteArray) (m : Int) (w : World) (hp : p.size ≤ 65536) (hm : w.cell? ⟨0, 0, none⟩ = some (.int .i64 m)) :
    Calls Tryd.prog 80 #[.string p, .string ⟨#[32]⟩] w fun e w' => ∃ b, e = .returned (.tuple #[.string (cutName p), .string (cutKind p), .bool b]) ∧ Below w.heap.size w w' :=
  (Tryd.strings_Cut p ⟨#[32]⟩ m w (by omega) hm).mono fun _ _ ⟨he, n, hw⟩ => ⟨_, he, by rw [hw]; exact ⟨rfl, rfl, rfl, Nat.le_refl _, fun _ _ => rfl⟩⟩
theorem colOf_kind (p : ByteArray) : (colOf p).kind = 1 ∨ (colOf p).kind = 2 := by
  unfold colOf; simp only; split <;> simp
theorem schW_end {tm : Array Value} {W : World} {D : Nat} {u : Value} {x : Int} {R : Ending → World → Prop} (h2 : tm.getD 2 undef = u) (h3 : tm.getD 3 undef = .int .i64 x) (hD : W.heap[D]? = some (.deferred (some [])))
    (hp : ∀ WF, Keeps (fun k => k = D) W WF → R (.returned (.tuple #[u, .int .i64 x])) WF) :
    bodyPostM Fence.wide 0 Tryd.prog Tryd.f44 R .ret { tmps := tm, defers := [{ target := .collected D, args := #[] }] } W := by
  refine ⟨by simp, .inl ⟨_, _, rfl, run_takeDeferred hD, ?_⟩⟩
  refine ⟨.tuple #[u, .int .i64 x], ?_, hp _ ((Keeps.refl _ _).trans (Keeps.put rfl))⟩
  unfold results
  rw [show Tryd.f44.results = #[.tmp 2, .tmp 3] from rfl]
  simp only [Array.getD_eq_getD_getElem?] at h2 h3
  simp [h2, h3, go_sem, Result.andThen]

set_option maxRecDepth 100000 in
set_option maxHeartbeats 8000000 in
theorem rowParseSchema_any (t : ByteArray) (w : World) (hs : t.size ≤ 200000) (m : Int) (hm : w.cell? ⟨0, 0, none⟩ = some (.int .i64 m)) :
    Calls Tryd.prog 44 #[.string t] w (SchOut t w) := by
  refine (callsIn_wide (n := 0)).1 (callsIn_of_wp_marks Tryd.func44 rfl trivial ?_ rfl)
  simp only [Tryd.ntmps44, List.size_toArray, List.length_cons, List.length_nil, Nat.reduceAdd, Nat.reduceSub, Array.replicate_succ, Array.replicate_zero, List.push_toArray, List.append_toArray, List.nil_append, List.cons_append]
  by_cases h64 : 65536 < t.size
  · have h64i : (65536 : Int) < (t.size : Int) := by omega
    gi_wp2
    have HE := fun v (hr : Sem.run Tryd.prog (results Tryd.f44 #[.string t]) w = v) => hr
    clear HE
    refine ⟨.tuple #[.slice none 0 0, .int .i64 3], ?_, ⟨Below.refl _ _, .inl ⟨h64, rfl⟩⟩⟩
    unfold results
    rw [show Tryd.f44.results = #[.tmp 2, .tmp 3] from rfl]
    simp [go_sem, Result.andThen]
  have h64i : (t.size : Int) ≤ 65536 := by omega
  have H64 := Lib.hid h64
  clear h64
  have HM := Lib.hid hm
  clear hm
  gi_wp2
  refine ⟨trivial, rfl, ((callsIn_wide (n := 0)).2 (splitSeq_any _ _ _)).mono ?_⟩
  rintro e w3 ⟨rfl, hw3⟩
  have hb3 : Below w.heap.size w w3 := by rw [hw3]; exact ((((Below.refl _ _).alloc (Nat.le_refl _) _).alloc (by simp) _).alloc (by simp; omega) _).alloc (by simp; omega) _
  have hs3 : w3.heap.size = w.heap.size + 4 := by rw [hw3]; simp
  have b0 : w3.heap[w.heap.size]? = some (.cells #[.slice none 0 0] 23 (0, 0)) := by
    rw [hw3, Below.heap_alloc _ _ _ (by simp; try omega), Below.heap_alloc _ _ _ (by simp; try omega), Below.heap_alloc _ _ _ (by simp)]; exact World.alloc_heap_new w _
  have b1 : w3.heap[w.heap.size + 1]? = some (.cells #[.string t] 9 (0, 0)) := by
    rw [hw3, Below.heap_alloc _ _ _ (by simp; try omega), Below.heap_alloc _ _ _ (by simp)]
    have := World.alloc_heap_new (w.alloc (.cells #[.slice none 0 0] 23)) (.cells #[.string t] 9); rwa [World.size_alloc] at this
  have b2 : w3.heap[w.heap.size + 2]? = some (.cells #[.string sepS] 9 (0, 0)) := by
    rw [hw3, Below.heap_alloc _ _ _ (by simp)]
    have := World.alloc_heap_new ((w.alloc (.cells #[.slice none 0 0] 23)).alloc (.cells #[.string t] 9)) (.cells #[.string sepS] 9); rwa [World.size_alloc, World.size_alloc] at this
  have b3 : w3.heap[w.heap.size + 3]? = some (.cells #[.int .i64 0] 3 (0, 0)) := by
    rw [hw3]
    have := World.alloc_heap_new (((w.alloc (.cells #[.slice none 0 0] 23)).alloc (.cells #[.string t] 9)).alloc (.cells #[.string sepS] 9)) (.cells #[.int .i64 0] 3); rwa [World.size_alloc, World.size_alloc, World.size_alloc] at this
  have hpos : 0 < w.heap.size := mem_lt HM.out
  have HSP := Lib.hid (show SplAt w3 (w.heap.size + 1) (w.heap.size + 2) (w.heap.size + 3) m t from ⟨b1, b2, b3, below_mem hb3 _ _ _ HM.out⟩)
  have HB3 := Lib.hid hb3
  have B0 := Lib.hid b0
  have HS3 := Lib.hid hs3
  clear hw3 b0 b1 b2 b3 hb3 hs3
  gi_wp2
  have hread := split1_gives t (w.heap.size + 1) (w.heap.size + 2) (w.heap.size + 3) m w3 (fun k => k = w.heap.size ∨ w3.heap.size ≤ k) HSP.out (by omega)
    (fun h => by have := HS3.out; omega) (fun h => by have := HS3.out; omega) (fun h => by have := HS3.out; omega) (fun h => by have := HS3.out; omega) ⟨by omega, by omega, by omega⟩
  have HLen := Lib.hid (splitB_len t.size t)
  have HSz := Lib.hid (splitB_size t.size t)
  have HDone := Lib.hid (fun s (h : IsSch s t) => splitB_sch h)
  generalize splitB t.size t = ps at hread HLen HSz HDone
  refine (wpIn_wide (n := 0)).2 (wp_rangeG (gf := 112) (lb := #[.pointer (some ⟨w.heap.size + 2, 0, none⟩), .pointer (some ⟨w.heap.size + 1, 0, none⟩), .pointer (some ⟨w.heap.size + 3, 0, none⟩)]) (by first | rfl | simp) (fun _ _ => rfl) hread (Below.refl _ _)
    (fun k hk => by have := HS3.out; omega) (fun k hk => .inr hk) (fun x vs n W hE => by obtain ⟨rfl, _⟩ := hE; rfl)
    (fun pre W => SchKept w w3.heap.size pre W) ?closed ?start ?round ?done)
  case closed =>
    intro pre A B hI hk
    refine hI.keeps hk (fun k h => ?_) (fun k o h1 h2 h3 h => ?_)
    · have := HS3.out; omega
    · rcases h with h | ⟨_, o', ho, hc⟩
      · have := HS3.out; omega
      · rw [h2] at ho; cases ho; rw [h3] at hc; cases hc
  case start => exact ⟨⟨_, B0.out, Owns.nil _ _ _ _⟩, HB3.out⟩
  case round =>
    clear hread HSP
    rintro l pre p post W0 W1 vs hx hI hG hE hsz0
    obtain ⟨rfl, _⟩ := hE
    have hpl : pre.length ≤ 65536 := by
      have h2 : ps.length = pre.length + (post.length + 1) := by rw [hx]; simp
      have := HLen.out
      omega
    have hps : p.size ≤ 65536 := by have := HSz.out p (by rw [hx]; simp); omega
    have hI1 := hI.keeps hG (fun k h => by omega) (fun k o h1 _ _ h => by have := HS3.out; omega)
    have hsz1 : W0.heap.size ≤ W1.heap.size := hG.size
    clear hI hx hG HLen HSz HDone
    gi_wp2
    refine ⟨Keeps.refl _ _, fun W3 hk => ?_⟩
    have hI3 := hI1.keeps hk (fun k h => by have := HS3.out; have := h.1; omega) (fun k o h1 h2 h3 h => by
      obtain ⟨_, o', ho, hc⟩ := h
      rw [h2] at ho; cases ho; rw [h3] at hc; cases hc)
    have hsz3 : w3.heap.size ≤ W3.heap.size := by have := hk.size; have := hsz1; omega
    clear hI1 hk
    have HCUT := Lib.hid (cut2_any p m W3 hps (below_mem hI3.bl _ _ _ HM.out))
    obtain ⟨⟨u, c3, o3⟩, hB3⟩ := hI3
    have hpl2 : (pre.map colOf).length ≤ 65536 := by rw [List.length_map]; exact hpl
    have HPR := Lib.hid (show (pre ++ [p]).map colOf = pre.map colOf ++ [colOf p] by simp)
    generalize pre.map colOf = cols at o3 hpl2 HPR
    obtain ⟨au, cu, rfl, hml⟩ := o3.len
    have HC3 := Lib.hid c3
    have HCU3 := Lib.hid (own_cells o3)
    have HO3 := Lib.hid o3
    have HB3' := Lib.hid hB3
    clear c3 o3 hB3 hml
    gi_wp2
    refine ⟨trivial, rfl, ((callsIn_wide (n := 0)).2 HCUT.out).mono ?_⟩
    rintro e w5 ⟨b, rfl, hb5⟩
    have HK5 := Lib.hid (below_keeps hb5)
    have hsz5 := hb5.size
    have c := (hb5.block _ (Array.getElem?_eq_some_iff.1 HC3.out).1).trans HC3.out
    have c5 : w5.cell? ⟨w.heap.size, 0, none⟩ = some (.slice au cols.length cu) := mem_cells c 0
    have f5 : w5.frozen? ⟨w.heap.size, 0, none⟩ = false := frozen_cells c 0
    have O4 := Lib.hid (HO3.out.keeps hb5)
    have HLU := Lib.hid (O4.out.lt)
    have HB := Lib.hid (pure_trans HB3'.out hb5)
    have hlt5 : w.heap.size < w5.heap.size := mem_lt c5
    have hne5 : ¬ w.heap.size = w5.heap.size := by omega
    have C := Lib.hid c
    clear c hb5 HCUT HB3' HO3
    have HCO := Lib.hid (show colOf p = ⟨cutName p, if bl (cutKind p) = [116, 101, 120, 116] then 2 else 1⟩ from rfl)
    have hnl : (cutName p).size ≤ 65536 := Nat.le_trans (cutName_le p) hps
    generalize cutName p = nm at hnl HCO ⊢
    by_cases hk2 : bl (cutKind p) = [116, 101, 120, 116]
    · have e5 : ((cutKind p).toList == [116, 101, 120, 116]) = true := by rw [Lib.toList_data]; exact beq_iff_eq.2 hk2
      have HCO2 := Lib.hid (show colOf p = ⟨nm, 2⟩ by rw [HCO.out, if_pos hk2])
      clear hk2
      gi_wp2_with (gi_at_builtin; refine wpListIn_append_one rfl _ _ 23 rfl tCol Tryd.underlying23 infoCol2 rfl (by decide) w3.heap.size _ cols rfl ((O4.out.alloc _).alloc _) _ _ (⟨nm, 2⟩ : Col) rfl [.string nm, .int .i64 2] ?a2 ⟨rfl, by unfold maxLen; show nm.size ≤ _; omega, in_two⟩ ?b2 ?c2 ?d2 ?e2 ?_)
      case a2 => exact fun j u hj => by match j, hj with | 0, hj => simp at hj; subst hj; simp [mem] | 1, hj => simp at hj; subst hj; simp [mem]
      case b2 => intro x hx; simp at hx; rcases hx with rfl | rfl <;> rfl
      case c2 => unfold maxLen; omega
      case d2 => omega
      case e2 => simp; omega
      intro v' W6 own6 hgrow hblk
      obtain ⟨a6, cap6, rfl, _⟩ := own6.len
      have hne6 : some w.heap.size ≠ (Value.slice au cols.length cu).ownBlock := fun h => by have := (HLU.out _ h.symm).1; have := HS3.out; omega
      have i6 : W6.heap[w.heap.size]? = some (.cells #[.slice au cols.length cu] 23 (0, 0)) := (hgrow.block w.heap.size (by simp; omega) hne6).trans ((Below.heap_alloc _ _ _ (by simp; omega)).trans ((Below.heap_alloc _ _ _ (by omega)).trans C.out))
      have k6 : W6.cell? ⟨w.heap.size, 0, none⟩ = some (.slice au cols.length cu) := mem_cells i6 0
      have l6 : W6.frozen? ⟨w.heap.size, 0, none⟩ = false := frozen_cells i6 0
      have KG := Lib.hid (show Keeps (fun k => k = w.heap.size ∨ some k = (Value.slice au cols.length cu).ownBlock ∨ W3.heap.size ≤ k) W3 W6 from
        (HK5.out.wide (fun k _ h => .inr (.inr h))).trans ((((Keeps.refl _ w5).alloc _).alloc _).trans ((grown_keeps hgrow).wide (fun k _ h => .inr (.inl h)))))
      have I6 := Lib.hid i6
      have O6 := Lib.hid own6
      have HGB := Lib.hid (show Below w.heap.size w W6 from ((HB.out.alloc (by omega) _).alloc (by simp; omega) _).grown hgrow (by simp; omega) (fun k hk => by have := (HLU.out k hk).1; have := HS3.out; omega))
      clear i6 own6 hgrow hblk hne6
      gi_wp2
      have O7 := O6.out
      simp only [List.length_append, List.length_cons, List.length_nil, Nat.zero_add] at O7
      generalize (Value.slice a6 (cols.length + 1) cap6) = v' at O7
      have hset : Keeps (fun k => k = w.heap.size) W6 (W6.setCell ⟨w.heap.size, 0, none⟩ v') := (Keeps.refl (fun k => k = w.heap.size) W6).setCell (p := ⟨w.heap.size, 0, none⟩) (fun _ => rfl) _
      have KH : Keeps (fun k => k = w.heap.size ∨ some k = (Value.slice au cols.length cu).ownBlock ∨ W3.heap.size ≤ k) W3 (W6.setCell ⟨w.heap.size, 0, none⟩ v') := KG.out.trans (hset.wide (fun k _ h => .inl h))
      refine ⟨others_of_keeps KH (fun k o h1 h2 => ?_), KH.wide (fun k hk h => ?_), ⟨⟨v', ?_, ?_⟩, ?_⟩⟩
      · rcases h1 with h1 | h1 | h1
        · subst h1; rw [HC3.out] at h2; cases h2; rfl
        · exact HCU3.out k o h1.symm h2
        · have := (Array.getElem?_eq_some_iff.1 h2).1; omega
      · rcases h with h | h | h
        · exact .inl h
        · exact .inr (HLU.out k h.symm).1
        · omega
      · exact setC_block I6.out
      · rw [HPR.out, HCO2.out]
        exact O7.keepsC tCol_flat hset (fun k o h1 _ _ h => by have := HS3.out; omega)
      · exact Keeps.belowStep HGB.out hset (fun k h => by omega) HGB.out.size
    · have e5 : ((cutKind p).toList == [116, 101, 120, 116]) = false := by rw [Lib.toList_data]; exact beq_eq_false_iff_ne.2 hk2
      have HCO2 := Lib.hid (show colOf p = ⟨nm, 1⟩ by rw [HCO.out, if_neg hk2])
      clear hk2
      gi_wp2_with (gi_at_builtin; refine wpListIn_append_one rfl _ _ 23 rfl tCol Tryd.underlying23 infoCol2 rfl (by decide) w3.heap.size _ cols rfl ((O4.out.alloc _).alloc _) _ _ (⟨nm, 1⟩ : Col) rfl [.string nm, .int .i64 1] ?a1 ⟨rfl, by unfold maxLen; show nm.size ≤ _; omega, in_one⟩ ?b1 ?c1 ?d1 ?e1 ?_)
      case a1 => exact fun j u hj => by match j, hj with | 0, hj => simp at hj; subst hj; simp [mem] | 1, hj => simp at hj; subst hj; simp [mem]
      case b1 => intro x hx; simp at hx; rcases hx with rfl | rfl <;> rfl
      case c1 => unfold maxLen; omega
      case d1 => omega
      case e1 => simp; omega
      intro v' W6 own6 hgrow hblk
      obtain ⟨a6, cap6, rfl, _⟩ := own6.len
      have hne6 : some w.heap.size ≠ (Value.slice au cols.length cu).ownBlock := fun h => by have := (HLU.out _ h.symm).1; have := HS3.out; omega
      have i6 : W6.heap[w.heap.size]? = some (.cells #[.slice au cols.length cu] 23 (0, 0)) := (hgrow.block w.heap.size (by simp; omega) hne6).trans ((Below.heap_alloc _ _ _ (by simp; omega)).trans ((Below.heap_alloc _ _ _ (by omega)).trans C.out))
      have k6 : W6.cell? ⟨w.heap.size, 0, none⟩ = some (.slice au cols.length cu) := mem_cells i6 0
      have l6 : W6.frozen? ⟨w.heap.size, 0, none⟩ = false := frozen_cells i6 0
      have KG := Lib.hid (show Keeps (fun k => k = w.heap.size ∨ some k = (Value.slice au cols.length cu).ownBlock ∨ W3.heap.size ≤ k) W3 W6 from
        (HK5.out.wide (fun k _ h => .inr (.inr h))).trans ((((Keeps.refl _ w5).alloc _).alloc _).trans ((grown_keeps hgrow).wide (fun k _ h => .inr (.inl h)))))
      have I6 := Lib.hid i6
      have O6 := Lib.hid own6
      have HGB := Lib.hid (show Below w.heap.size w W6 from ((HB.out.alloc (by omega) _).alloc (by simp; omega) _).grown hgrow (by simp; omega) (fun k hk => by have := (HLU.out k hk).1; have := HS3.out; omega))
      clear i6 own6 hgrow hblk hne6
      gi_wp2
      have O7 := O6.out
      simp only [List.length_append, List.length_cons, List.length_nil, Nat.zero_add] at O7
      generalize (Value.slice a6 (cols.length + 1) cap6) = v' at O7
      have hset : Keeps (fun k => k = w.heap.size) W6 (W6.setCell ⟨w.heap.size, 0, none⟩ v') := (Keeps.refl (fun k => k = w.heap.size) W6).setCell (p := ⟨w.heap.size, 0, none⟩) (fun _ => rfl) _
      have KH : Keeps (fun k => k = w.heap.size ∨ some k = (Value.slice au cols.length cu).ownBlock ∨ W3.heap.size ≤ k) W3 (W6.setCell ⟨w.heap.size, 0, none⟩ v') := KG.out.trans (hset.wide (fun k _ h => .inl h))
      refine ⟨others_of_keeps KH (fun k o h1 h2 => ?_), KH.wide (fun k hk h => ?_), ⟨⟨v', ?_, ?_⟩, ?_⟩⟩
      · rcases h1 with h1 | h1 | h1
        · subst h1; rw [HC3.out] at h2; cases h2; rfl
        · exact HCU3.out k o h1.symm h2
        · have := (Array.getElem?_eq_some_iff.1 h2).1; omega
      · rcases h with h | h | h
        · exact .inl h
        · exact .inr (HLU.out k h.symm).1
        · omega
      · exact setC_block I6.out
      · rw [HPR.out, HCO2.out]
        exact O7.keepsC tCol_flat hset (fun k o h1 _ _ h => by have := HS3.out; omega)
      · exact Keeps.belowStep HGB.out hset (fun k h => by omega) HGB.out.size
  case done =>
    intro D W hDl hI hD
    obtain ⟨⟨u, c, o4⟩, hB⟩ := hI
    have HD1 := Lib.hid (show ∀ s, IsSch s t → ps.map colOf = s from HDone.out)
    generalize ps.map colOf = cols at o4 HD1
    obtain ⟨au, cu, rfl, hml⟩ := o4.len
    have hlt : w.heap.size < W.heap.size := (Array.getElem?_eq_some_iff.1 c).1
    have c4 : W.cell? ⟨w.heap.size, 0, none⟩ = some (.slice au cols.length cu) := mem_cells c 0
    have O4 := Lib.hid o4
    have HB := Lib.hid hB
    have HD := Lib.hid hD
    have HC := Lib.hid c
    have hwD : w.heap.size ≤ D := by have := HS3.out; omega
    clear o4 hB hD c hread HLen HSz HDone HSP B0 HB3 hml
    by_cases hz : t.size = 0
    · have hem := emptyStr hz
      have HNO := Lib.hid (show ∀ s, ¬ IsSch s t from fun s hs => by have := hs.small.1; omega)
      gi_wp2
      refine ⟨trivial, ?_⟩
      go_at_K
      gi_wp2
      exact schW_end rfl rfl HD.out (fun WF hk => ⟨Keeps.belowStep HB.out hk (fun k h => by omega) HB.out.size, .inr (.inl ⟨by have := H64.out; omega, HNO.out, rfl⟩)⟩)
    · have hem := fullStr hz
      have HX := Lib.hid (rowFormat_any cols _ W O4.out.rv')
      have HZ := Lib.hid hz
      clear hz
      gi_wp2
      refine ⟨trivial, rfl, ((callsIn_wide (n := 0)).2 HX.out).mono ?_⟩
      rintro e w8 ⟨rfl, hb8⟩
      have HB8 := Lib.hid (pure_trans HB.out hb8)
      have O8 := Lib.hid (O4.out.keeps hb8)
      have HD8 := Lib.hid ((hb8.block _ (Array.getElem?_eq_some_iff.1 HD.out).1).trans HD.out)
      have c8 : w8.cell? ⟨w.heap.size, 0, none⟩ = some (.slice au cols.length cu) := below_mem hb8 _ _ _ c4
      clear hb8 HX c4
      by_cases heq : bl t = schemaText cols
      · have HR := Lib.hid (isSch_text heq HZ.out)
        rw [show (⟨(schemaText cols).toArray⟩ : ByteArray) = t from bl_inj heq.symm]
        clear heq
        gi_wp2
        exact schW_end rfl rfl HD8.out (fun WF hk => ⟨Keeps.belowStep HB8.out hk (fun k h => by omega) HB8.out.size, .inr (.inr ⟨by have := H64.out; omega, _, _, ⟨HR.out, fun r hr => (HD1.out r hr).symm⟩, rfl,
          (O8.out.keepsC tCol_flat hk (fun k o _ h2 h3 h => by subst h; rw [HD8.out] at h2; cases h2; cases h3)).rv (S := fun b => w.heap.size ≤ b) (fun b hb => by have := HS3.out; omega) (fun _ _ _ h => h)⟩)⟩)
      · have HR := Lib.hid (show ∀ s, ¬ IsSch s t from fun s hs => heq (by have := HD1.out s hs; subst this; exact hs.2))
        have hne : (schemaText cols == t.toList) = false := by
          rw [Lib.toList_data]
          exact beq_eq_false_iff_ne.2 (fun e => heq e.symm)
        clear heq
        gi_wp2
        exact schW_end rfl rfl HD8.out (fun WF hk => ⟨Keeps.belowStep HB8.out hk (fun k h => by omega) HB8.out.size, .inr (.inl ⟨by have := H64.out; omega, HR.out, rfl⟩)⟩)
end Go.Proofs.YtkldimaoafgolaaDoor
