/- Part 9 of the texts that the law's proof stands on, merged. -/
import Derived.Deep.RegionHeld3
import Derived.BigQuiet
import Derived.Deep.RegionLaw
import Derived.Test.YtnfolemblnnejaaGreatVr08
set_option linter.unusedVariables false
set_option linter.unusedSimpArgs false
/- The reference of a vault: Entries, Size. -/
namespace Go.Proofs.YtnfolemblnnejaaGreat
open Go.RowKit Go.Maps

theorem flat_take {ls : List (List Ent)} {i : Nat} (hi : i < ls.length) : (ls.take (i + 1)).flatten = (ls.take i).flatten ++ ls[i] := by
  rw [List.take_succ_eq_append_getElem hi, List.flatten_append]
  simp
theorem flat_take_le (ls : List (List Ent)) (i : Nat) : (ls.take i).flatten.length ≤ ls.flatten.length := by
  conv => rhs; rw [← List.take_append_drop i ls, List.flatten_append, List.length_append]
  omega
theorem ents_row {m : Mem} {ls : List (List Ent)} {a : Option Addr} {n cap : Nat} (h : tEntss.rv m [.slice a n cap] ls) {k : Nat} (hk : k < ls.length) :
    ∃ b o v, a = some ⟨b, o, none⟩ ∧ m b (o + k) = some v ∧ tEnts.rv m [v] ls[k] := by
  obtain ⟨b, o, rfl, cs, hat, hr⟩ := slice_at h hk
  have hl := tEnts.len _ _ _ hr
  have e1 : tEnts.sz = 1 := rfl
  rw [e1] at hl hat
  match cs, hl with
  | [v], _ => exact ⟨b, o, v, rfl, by have := hat 0 v rfl; simpa using this, hr⟩
theorem entsSay_code {o : Option Sn} (h : entsCode o ≠ 0) : EntsSay o [] := by
  cases o with
  | none => rfl
  | some t =>
    unfold entsCode at h
    unfold EntsSay
    simp only at h ⊢
    by_cases hd : t.done = true
    · rw [if_pos hd] at h; exact absurd rfl h
    · simp [hd]
set_option maxRecDepth 100000 in
set_option maxHeartbeats 8000000 in
theorem refEntriesV_any (s : VS) (a : Value) (W : World) (h : RV (mem W) s a) (k : Int) (hle : ∀ t, s.find k = some t → t.ents.length ≤ 100000) :
    Calls Tryz.prog 58 #[rvV s a, .int .i64 k] W (EntsOut W (s.find k)) := by
  obtain ⟨aa, ca, rfl, hla, hma, hra⟩ := slice_form h.ha
  have hca : ca ≤ 9223372036854775807 := by unfold maxLen at hma; exact hma
  obtain ⟨HB, HC⟩ := box5 W s (.slice aa s.all.length ca)
  have HAL := Lib.hid (show s.all.length ≤ 1000000 from by have := all_len h.ok; have := h.ok.l; omega)
  have HRW := Lib.hid (fun w' (hb : Below W.heap.size W w') => (h.mono (below_mem hb) : RV (mem w') s (.slice aa s.all.length ca)))
  have HLE := Lib.hid hle
  have HOK := Lib.hid h.ok
  clear hma hra h hle
  go_enter Tryz.func58, Tryz.ntmps58
  obtain ⟨c0, c1, c2, c3, c4⟩ := HC.out _ (Below.refl _ _)
  go_wp2_with fail
  generalize W.alloc (rvB s (.slice aa s.all.length ca)) = X at *
  refine (refComp_any s _ X (HRW.out _ HB.out) k).mono ?_
  rintro e w1 ⟨i, c, rfl, ⟨hc, hf⟩, hb1⟩
  have HB1 := Lib.hid (HB.out.trans (hb1.mono HB.out.size))
  have HX1 := Lib.hid (fun w' (hb : Below w1.heap.size w1 w') => (show w'.cell? ⟨W.heap.size, 4, none⟩ = some (.slice aa s.all.length ca) from (HC.out _ (pure_trans hb1 hb)).2.2.2.2))
  clear c0 c1 c2 c3 c4
  clear hb1
  have HEC := Lib.hid hc
  by_cases h0 : c = 0
  case neg =>
    have HA := Lib.hid (entsSay_code (o := s.find k) (by rw [← hc]; exact h0))
    have hcb : (c == 0) = false := by rw [beq_eq_false_iff_ne]; exact h0
    clear hc hf
    go_wp2
    go_ret2
    exact ⟨[], none, 0, by rw [← HEC.out] <;> rfl, HA.out, slice_nil _ _, HB1.out⟩
  subst h0
  obtain ⟨i, t, hj, hfs, hd, rfl⟩ := hf.resolve_left (by simp)
  have HS := Lib.hid (fun es (h : es.Perm t.ents ∧ es.Pairwise (fun a b => entC a b ≤ 0)) => (show EntsSay (s.find k) es from by rw [hfs]; unfold EntsSay; simp only; rw [if_pos hd]; exact h))
  have hlt := HLE.out t hfs
  have HLT := Lib.hid hlt
  obtain ⟨hil, hie⟩ := List.getElem?_eq_some_iff.1 hj
  have HG := Lib.hid (fun w' (hb : Below w1.heap.size w1 w') => (show ∃ b o a3 k3, aa = some ⟨b, o, none⟩ ∧ w'.cell? ⟨b, o + i * 6 + 5, none⟩ = some (.slice a3 t.rents.length k3) ∧ tEntss.rv (mem w') [.slice a3 t.rents.length k3] t.rents ∧ k3 ≤ 9223372036854775807 ∧ t.rents.length ≤ k3 from by
    obtain ⟨b, o, s1, s2, s3, e, ⟨-, -, -, -, -, q5⟩, -, -, -, -, r3⟩ := rsn_at (HRW.out _ (HB1.out.trans (hb.mono HB1.out.size))).ha hil
    rw [hie] at r3
    have r4 := r3
    obtain ⟨a3, k3, rfl, h1, h2, -⟩ := slice_form r4
    exact ⟨b, o, a3, k3, e, q5, r3, by unfold maxLen at h2; exact h2, h1⟩))
  have hen : t.rents.flatten = t.ents := rfl
  have HEN := Lib.hid hen
  clear hie hj hfs hf hc hlt hen HC HRW HOK HLE
  generalize t.rents = rs at *
  generalize t.ents = te at *
  obtain ⟨b, o, a3, k3, rfl, -⟩ := HG.out w1 (Below.refl _ _)
  have HG2 := Lib.hid (fun w' (hb : Below w1.heap.size w1 w') => (show ∃ a3 k3, w'.cell? ⟨b, o + i * 6 + 5, none⟩ = some (.slice a3 rs.length k3) ∧ tEntss.rv (mem w') [.slice a3 rs.length k3] rs ∧ k3 ≤ 9223372036854775807 ∧ rs.length ≤ k3 from by
    obtain ⟨b', o', a3, k3, e, h1, h2, h3, h4⟩ := HG.out w' hb
    simp only [Option.some.injEq, Addr.mk.injEq, and_true] at e
    obtain ⟨rfl, rfl⟩ := e
    exact ⟨a3, k3, h1, h2, h3, h4⟩))
  clear HG
  go_wp2_with fail
  go_loopw [8, 9] (fun ov iv wr => ∃ j : Nat, j ≤ rs.length ∧ iv = .int .i64 j ∧ Hid (Owns tEnt wr w1.heap.size 92 ov (rs.take j).flatten) ∧ Hid (Below w1.heap.size w1 wr)) (fun _ iv _ => rs.length - (intOf iv).toNat)
  case atStart => exact ⟨0, by omega, rfl, Lib.hid (Owns.nil _ _ _ _), Lib.hid (Below.refl _ _)⟩
  case round =>
    obtain ⟨j, hj, rfl, HO, HBR⟩ := hrel
    obtain ⟨a3, k3, e5, hr3, hk3, hk4⟩ := HG2.out wr HBR.out
    have c4 := HX1.out wr HBR.out
    by_cases hlt : j < rs.length
    · obtain ⟨b3, o3, v3, e, q0, hvi⟩ := ents_row hr3 hlt
      subst e
      have d0 : wr.cell? ⟨b3, o3 + j, none⟩ = some v3 := q0
      obtain ⟨ai, ki, rfl, -, hki, -⟩ := slice_form hvi
      have HVI := Lib.hid hvi
      have HTF := Lib.hid (flat_take hlt)
      have HLL := Lib.hid (show (rs.take j).flatten.length + rs[j].length ≤ 100000 from by
        have h1 := flat_take_le rs (j + 1)
        rw [flat_take hlt, List.length_append, HEN.out] at h1
        have := HLT.out
        omega)
      have HSZ := Lib.hid HBR.out.size
      clear q0 hvi hki hr3
      generalize rs[j] = xe at *
      generalize (rs.take j).flatten = fl at *
      obtain ⟨ag, cg, rfl, _⟩ := HO.out.len
      go_wp2_with (at_builtin; refine wpList_append_flat rfl _ _ 34 rfl tEnt_flat tEnt_one Tryz.underlying34 infoEnt rfl (by decide) w1.heap.size _ fl xe rfl HO.out _ _ _ rfl rfl HVI.out ?c1 ?c2 ?c3 ?_)
      case c1 => have := HLL.out; unfold maxLen; omega
      case c2 => have := HLL.out; omega
      case c3 => exact HSZ.out
      intro v' w6 own6 hgrow
      have HB6 := Lib.hid (show Below w1.heap.size w1 w6 from HBR.out.grown hgrow HSZ.out (fun k hk => (HO.out.lt k hk).1))
      obtain ⟨a6, cap6, rfl, _⟩ := own6.len
      have HO6 := Lib.hid (show Owns tEnt w6 w1.heap.size 92 (.slice a6 (fl ++ xe).length cap6) (rs.take (j + 1)).flatten by
        rw [HTF.out]
        exact own6)
      clear own6 hgrow HO d0 e5 c4
      go_wp2
      go_roundw
      case rel => exact ⟨j + 1, by omega, by go_num, HO6, HB6⟩
      case measure => simp [intOf]; omega
    · obtain rfl : j = rs.length := by omega
      rw [List.take_length, HEN.out] at HO
      have hle := HLT.out
      have HBW := Lib.hid (HB1.out.trans (HBR.out.mono HB1.out.size))
      obtain ⟨ag, cg, rfl, _⟩ := HO.out.len
      clear hr3
      go_wp2_with fail
      refine (sortEnts_any te _ wr HO.out.rv' hle).mono ?_
      rintro e w8 ⟨x, S, rfl, hx, hS, hSp, hb⟩
      have hx0 := hx
      obtain ⟨ax, kx, rfl, -, -, -⟩ := slice_form hx0
      have HR8 := Lib.hid (show tEnts.rv ((mem w8).on (W.heap.size ≤ ·)) [.slice ax S.length kx] S from
        tEnts.mono _ _ _ _ (fun b o v e => by obtain ⟨h1, h2⟩ := Mem.of_on e; exact Mem.on_some h2 (Nat.le_trans HBW.out.size h1)) hx)
      have HB8 := Lib.hid (show Below W.heap.size W w8 from HBW.out.trans (hb.mono HBW.out.size))
      have HSY := Lib.hid (HS.out S ⟨hS, hSp⟩)
      clear hx hx0 hS hSp hb HO e5 c4
      go_wp2
      go_ret2
      exact ⟨S, ax, kx, by rw [← HEC.out] <;> rfl, HSY.out, HR8.out, HB8.out⟩
set_option maxRecDepth 100000 in
set_option maxHeartbeats 8000000 in
theorem refSizeV_any (s : VS) (a : Value) (w : World) (h : RV (mem w) s a) (k : Int) (hle : ∀ t, s.find k = some t → t.ents.length ≤ 100000 ∧ ∀ x ∈ t.ents, x.nm.size + x.key.size + x.val.size ≤ 200000) :
    Calls Tryz.prog 68 #[rvV s a, .int .i64 k] w (SizeOut w (s.find k)) := by
  have HE := Lib.hid (fun w' (hb : Below w.heap.size w w') => refEntriesV_any s a w' (h.mono (below_mem hb)) k (fun t h => (hle t h).1))
  obtain ⟨HB, HC⟩ := box5 w s a
  obtain ⟨aa, ca, rfl, hla, hma, hra⟩ := slice_form h.ha
  have HBD := Lib.hid (fun es (h : EntsSay (s.find k) es) => (show bytesOf es ≤ 20000000000 ∧ es.length ≤ 100000 from by
    cases hf : s.find k with
    | none =>
      rw [hf] at h
      have h' : es = [] := h
      subst h'
      exact ⟨by decide, by simp⟩
    | some t =>
      rw [hf] at h
      unfold EntsSay at h
      simp only at h
      by_cases hd : t.done = true
      · rw [if_pos hd] at h
        have h1 := bytesOf_bound (es := es) (fun x hx => (hle t hf).2 x (h.1.mem_iff.1 hx))
        have h2 : es.length ≤ 100000 := by rw [h.1.length_eq]; exact (hle t hf).1
        have h3 := Nat.mul_le_mul_right 200000 h2
        exact ⟨by omega, h2⟩
      · rw [if_neg hd] at h
        subst h
        exact ⟨by decide, by simp⟩))
  generalize s.find k = o at *
  clear h hla hma hra hle
  go_enter Tryz.func68, Tryz.ntmps68
  obtain ⟨c0, c1, c2, c3, c4⟩ := HC.out _ (Below.refl _ _)
  go_wp2_with fail
  refine (HE.out _ HB.out).mono ?_
  rintro e w1 ⟨es, a, cap, rfl, hsay, hrv, hb1⟩
  have hb := HB.out.trans (hb1.mono HB.out.size)
  clear hb1 HC HB c0 c1 c2 c3 c4
  have HSAY := Lib.hid hsay
  have HB1 := Lib.hid hb
  have HR := Lib.hid (tEnts.mono _ _ _ _ (Mem.on_le _ _) hrv)
  obtain ⟨hb1, hl1⟩ := HBD.out es hsay
  clear hsay hb hrv HE HBD
  obtain ⟨ec, hec⟩ : ∃ ec, ec = entsCode o := ⟨_, rfl⟩
  rw [← hec]
  have HEC := Lib.hid hec
  clear hec
  go_wp2_with fail
  go_loopw [8, 9] (fun nv iv wr => ∃ j : Nat, j ≤ es.length ∧ iv = .int .i64 j ∧ nv = .int .i64 (bytesOf (es.take j) : Nat) ∧ Hid (Below w1.heap.size w1 wr)) (fun _ iv _ => es.length - (intOf iv).toNat)
  case atStart => exact ⟨0, by omega, rfl, rfl, Lib.hid (Below.refl _ _)⟩
  case round =>
    obtain ⟨j, hj, rfl, rfl, HB⟩ := hrel
    by_cases hlt : j < es.length
    · obtain ⟨b, o2, e, hat, hok⟩ := ents_at (tEnts.mono _ _ _ _ (below_mem HB.out) HR.out) hlt
      subst e
      have c0 : wr.cell? ⟨b, o2 + j * 4, none⟩ = some (.int .i64 es[j].g) := hat 0 _ rfl
      have c1 : wr.cell? ⟨b, o2 + j * 4 + 1, none⟩ = some (.string es[j].nm) := hat 1 _ rfl
      have c2 : wr.cell? ⟨b, o2 + j * 4 + 2, none⟩ = some (.string es[j].key) := hat 2 _ rfl
      have c3 : wr.cell? ⟨b, o2 + j * 4 + 3, none⟩ = some (.string es[j].val) := hat 3 _ rfl
      have HTK := Lib.hid (bytesOf_take hlt)
      have hle2 := Nat.le_trans (bytesOf_le (es := es) (j := j + 1)) hb1
      rw [bytesOf_take hlt] at hle2
      clear hat hok
      generalize bytesOf (es.take j) = n at *
      generalize es[j] = y at *
      obtain ⟨y0, y1, y2, y3⟩ := y
      simp only at c0 c1 c2 c3 hle2 HTK
      go_wp2_with fail
      go_region
      go_wp2
      go_roundw
      case rel => exact ⟨j + 1, by omega, by go_num, by rw [HTK.out]; congr 1, Lib.hid HB.out.drew⟩
      case measure => simp [intOf]; omega
    · obtain rfl : j = es.length := by omega
      rw [List.take_length]
      have HE := Lib.hid (HB1.out.trans (HB.out.mono HB1.out.size))
      go_wp2
      go_ret2
      exact ⟨es, HSAY.out, by rw [← HEC.out] <;> rfl, HE.out⟩
end Go.Proofs.YtnfolemblnnejaaGreat
/- The reference's SameEntries at equal lists (printed by gen_vsame.py). -/
namespace Go.Proofs.YtnfolemblnnejaaGreat
open Go.RowKit Go.Maps
set_option maxRecDepth 100000 in
set_option maxHeartbeats 4000000 in
theorem sameEnts_any (l : List Ent) (v v' : Value) (w : World) (hv : tEnts.rv (mem w) [v] l) (hv' : tEnts.rv (mem w) [v'] l) :
    Calls Tryz.prog 69 #[v, v'] w fun e w' => e = .returned (.bool true) ∧ Below w.heap.size w w' := by
  obtain ⟨a, cap, rfl, hlc, hm, hv⟩ := slice_form hv
  have hcap : cap ≤ 9223372036854775807 := by unfold maxLen at hm; exact hm
  obtain ⟨a', cap', rfl, hlc', hm', hv'⟩ := slice_form hv'
  have hcap' : cap' ≤ 9223372036854775807 := by unfold maxLen at hm'; exact hm'
  have hll : ((l.length : Int) == (l.length : Int)) = true := by simp
  clear hm hm'
  go_enter Tryz.func69, Tryz.ntmps69
  go_wp2
  go_loopw [5] (fun i wr => ∃ k : Nat, k ≤ l.length ∧ i = .int .i64 k ∧ Hid (Below w.heap.size w wr)) (fun i _ => l.length - (intOf i).toNat)
  case atStart => exact ⟨0, by omega, rfl, Lib.hid (Below.refl _ _)⟩
  case round =>
    obtain ⟨k, hk, rfl, HB⟩ := hrel
    by_cases hlt : k < l.length
    · obtain ⟨b, o, rfl, hat, hok⟩ := ents_at (tEnts.mono _ _ _ _ (below_mem HB.out) hv) hlt
      obtain ⟨b', o', rfl, hat', -⟩ := ents_at (tEnts.mono _ _ _ _ (below_mem HB.out) hv') hlt
      have c0 : wr.cell? ⟨b, o + k * 4, none⟩ = some (.int .i64 l[k].g) := hat 0 _ rfl
      have c1 : wr.cell? ⟨b, o + k * 4 + 1, none⟩ = some (.string l[k].nm) := hat 1 _ rfl
      have c2 : wr.cell? ⟨b, o + k * 4 + 2, none⟩ = some (.string l[k].key) := hat 2 _ rfl
      have c3 : wr.cell? ⟨b, o + k * 4 + 3, none⟩ = some (.string l[k].val) := hat 3 _ rfl
      have d0 : wr.cell? ⟨b', o' + k * 4, none⟩ = some (.int .i64 l[k].g) := hat' 0 _ rfl
      have d1 : wr.cell? ⟨b', o' + k * 4 + 1, none⟩ = some (.string l[k].nm) := hat' 1 _ rfl
      have d2 : wr.cell? ⟨b', o' + k * 4 + 2, none⟩ = some (.string l[k].key) := hat' 2 _ rfl
      have d3 : wr.cell? ⟨b', o' + k * 4 + 3, none⟩ = some (.string l[k].val) := hat' 3 _ rfl
      clear hat hat' hok
      generalize l[k] = y at *
      obtain ⟨yg, y1, y2, y3⟩ := y
      have e0 : (yg == yg) = true := by simp
      have e1 : (y1.toList == y1.toList) = true := by simp
      have e2 : (y2.toList == y2.toList) = true := by simp
      have e3 : (y3.toList == y3.toList) = true := by simp
      go_wp2_with fail
      go_quiet (fail)
      all_goals
        go_wp2
        exact ⟨⟨k + 1, by omega, by go_num, Lib.hid (HB.out.trans ⟨rfl, rfl, rfl, Nat.le_refl _, fun _ _ => rfl⟩)⟩, by simp [intOf]; omega⟩
    · obtain rfl : k = l.length := by omega
      go_wp2
      go_ret
      exact ⟨rfl, HB.out⟩
end Go.Proofs.YtnfolemblnnejaaGreat
/- The law's sameDealt, of equal lists; SameInts and SameTexts of equal lists. -/
namespace Go.Proofs.YtnfolemblnnejaaGreat
open Go.RowKit Go.Maps

theorem sameInts_self (xs : List Int) (u v : Value) (w : World) (hu : (tSlice tInt).rv (mem w) [u] xs) (hv : (tSlice tInt).rv (mem w) [v] xs) :
    Calls Tryz.prog 12 #[u, v] w fun e w' => e = .returned (.bool true) ∧ Below w.heap.size w w' :=
  (sameInts_any xs xs u v w hu hv).mono fun e w' ⟨he, hb⟩ => ⟨by rw [he]; simp, hb⟩
theorem sameTexts_self (xs : List ByteArray) (u v : Value) (w : World) (hu : tStrs.rv (mem w) [u] xs) (hv : tStrs.rv (mem w) [v] xs) :
    Calls Tryz.prog 38 #[u, v] w fun e w' => e = .returned (.bool true) ∧ Below w.heap.size w w' :=
  (sameTexts_any xs xs u v w hu hv).mono fun e w' ⟨he, hb⟩ => ⟨by rw [he]; simp, hb⟩
set_option maxRecDepth 100000 in
set_option maxHeartbeats 4000000 in
theorem sameDealt_any (l : List (List Ent)) (v v' : Value) (w : World) (hv : tEntss.rv (mem w) [v] l) (hv' : tEntss.rv (mem w) [v'] l) :
    Calls Tryz.prog 37 #[v, v'] w fun e w' => e = .returned (.bool true) ∧ Below w.heap.size w w' := by
  have HV := Lib.hid hv
  have HV' := Lib.hid hv'
  obtain ⟨a, cap, rfl, hlc, hm, -⟩ := slice_form hv
  have hcap : cap ≤ 9223372036854775807 := by unfold maxLen at hm; exact hm
  obtain ⟨a', cap', rfl, hlc', hm', -⟩ := slice_form hv'
  have hcap' : cap' ≤ 9223372036854775807 := by unfold maxLen at hm'; exact hm'
  have hll : ((l.length : Int) == (l.length : Int)) = true := by simp
  clear hm hm' hv hv'
  go_enter Tryz.func37, Tryz.ntmps37
  go_wp2
  go_loopw [5] (fun i wr => ∃ k : Nat, k ≤ l.length ∧ i = .int .i64 k ∧ Hid (Below w.heap.size w wr)) (fun i _ => l.length - (intOf i).toNat)
  case atStart => exact ⟨0, by omega, rfl, Lib.hid (Below.refl _ _)⟩
  case round =>
    obtain ⟨k, hk, rfl, HB⟩ := hrel
    by_cases hlt : k < l.length
    · obtain ⟨b, o, x, e, q0, hx⟩ := ents_row (tEntss.mono _ _ _ _ (below_mem HB.out) HV.out) hlt
      subst e
      obtain ⟨b', o', x', e, q0', hx'⟩ := ents_row (tEntss.mono _ _ _ _ (below_mem HB.out) HV'.out) hlt
      subst e
      have d0 : wr.cell? ⟨b, o + k, none⟩ = some x := q0
      have d1 : wr.cell? ⟨b', o' + k, none⟩ = some x' := q0'
      have hb0 : Below wr.heap.size wr wr.drew := (Below.refl _ _).drew
      have HSE := Lib.hid (fun w' (hb : Below wr.heap.size wr w') => sameEnts_any l[k] x x' w' (tEnts.mono _ _ _ _ (below_mem hb) hx) (tEnts.mono _ _ _ _ (below_mem hb) hx'))
      have HS := Lib.hid (fun (w' : World) (hb : Below wr.heap.size wr w') => (show w'.cell? ⟨b, o + k, none⟩ = some x ∧ w'.cell? ⟨b', o' + k, none⟩ = some x' from ⟨below_mem hb _ _ _ d0, below_mem hb _ _ _ d1⟩))
      clear hx hx' q0 q0'
      go_wp2_with fail
      go_region_held3 (fun w' => w'.cell? ⟨b, o + k, none⟩ = some x ∧ w'.cell? ⟨b', o' + k, none⟩ = some x')
        (first | with_reducible exact HS.out _ hb0 | with_reducible exact HS.out _ hb1)
        ((first
          | (go_at_call 69; refine (HSE.out _ hb0).mono ?_; rintro e w5 ⟨rfl, hb⟩; have hb1 := pure_trans hb0 hb; clear hb)))
      all_goals
        have HB5 := Lib.hid (HB.out.trans (hb1.mono HB.out.size))
        go_wp2
        go_roundw
        case rel => exact ⟨k + 1, by omega, by go_num, HB5⟩
        case measure => simp [intOf]; omega
    · obtain rfl : k = l.length := by omega
      go_wp2
      go_ret
      exact ⟨rfl, HB.out⟩
end Go.Proofs.YtnfolemblnnejaaGreat
/- The reference's SortedTexts: plain (printed by gen_vsortt.py). -/
namespace Go.Proofs.YtnfolemblnnejaaGreat
open Go.RowKit Go.Maps

def strC (a b : ByteArray) : Int := cmpBytes a.toList b.toList
theorem strC_good : Good strC := cmpBytes_good.pull (fun a : ByteArray => a.toList)
def swapT (ys : List ByteArray) (j : Nat) : List ByteArray := (ys.set j (ys.getD (j + 1) default)).set (j + 1) (ys.getD j default)
theorem swapT_len (ys : List ByteArray) (j : Nat) : (swapT ys j).length = ys.length := by simp [swapT]
theorem swapT_perm {ys : List ByteArray} {j : Nat} (h : j + 1 < ys.length) : (swapT ys j).Perm ys := by
  have := List.set_set_perm (i := j) (j := j + 1) (show j < ys.length by omega) h
  unfold swapT
  rw [show ys.getD (j + 1) default = ys[j + 1] by simp [List.getD, h], show ys.getD j default = ys[j] by simp [List.getD, show j < ys.length by omega]]
  exact this
theorem swapT_get {ys : List ByteArray} {j : Nat} (h : j + 1 < ys.length) (k : Nat) : (swapT ys j).getD k default = if k = j then ys.getD (j + 1) default else if k = j + 1 then ys.getD j default else ys.getD k default := by
  unfold swapT
  simp only [List.getD_eq_getElem?_getD, List.getElem?_set]
  by_cases h1 : k = j + 1
  · subst h1; simp [h]
  · by_cases h2 : k = j
    · subst h2; simp [show ¬ k + 1 = k by omega]; simp [show k < ys.length by omega]
    · simp [Ne.symm h1, Ne.symm h2, h1, h2]
/-- In order up to i, but for the place j. -/
def ButT (ys : List ByteArray) (i j : Nat) : Prop := ∀ a b, a < b → b ≤ i → b ≠ j → strC (ys.getD a default) (ys.getD b default) ≤ 0
def ToT (ys : List ByteArray) (k : Nat) : Prop := ∀ a b, a < b → b < k → strC (ys.getD a default) (ys.getD b default) ≤ 0
theorem ToT.but {ys : List ByteArray} {k : Nat} (h : ToT ys k) : ButT ys k k := fun a b h1 h2 h3 => h a b h1 (by omega)
theorem ButT.swap {ys : List ByteArray} {i j : Nat} (h : ButT ys i (j + 1)) (hj : j + 1 ≤ i) (hi : i < ys.length) (hlt : 0 < strC (ys.getD j default) (ys.getD (j + 1) default)) : ButT (swapT ys j) i j := fun a b h1 h2 h3 => by
  rw [swapT_get (by omega), swapT_get (by omega), if_neg h3]
  by_cases hb : b = j + 1
  · rw [if_pos hb]
    by_cases ha : a = j
    · rw [if_pos ha]; have := strC_good.anti (ys.getD j default) (ys.getD (j + 1) default); omega
    · rw [if_neg ha, if_neg (by omega)]
      exact h a j (by omega) (by omega) (by omega)
  · rw [if_neg hb]
    by_cases ha : a = j
    · rw [if_pos ha]; exact h (j + 1) b (by omega) h2 hb
    · rw [if_neg ha]
      by_cases ha2 : a = j + 1
      · rw [if_pos ha2]; exact h j b (by omega) h2 hb
      · rw [if_neg ha2]; exact h a b h1 h2 hb
theorem ButT.done {ys : List ByteArray} {i j : Nat} (h : ButT ys i (j + 1)) (hj : j + 1 ≤ i) (hle : strC (ys.getD j default) (ys.getD (j + 1) default) ≤ 0) : ToT ys (i + 1) := fun a b h1 h2 => by
  by_cases hb : b = j + 1
  · subst hb
    by_cases ha : a = j
    · subst ha; exact hle
    · exact (strC_good.trans _ _ _ (h a j (by omega) (by omega) (by omega)) hle).1
  · exact h a b h1 (by omega) hb
theorem ButT.zero {ys : List ByteArray} {i : Nat} (h : ButT ys i 0) : ToT ys (i + 1) := fun a b h1 h2 => h a b h1 (by omega) (by omega)
theorem ToT.pairwise {ys : List ByteArray} {k : Nat} (h : ToT ys k) (hk : ys.length ≤ k) : ys.Pairwise (fun a b => strC a b ≤ 0) := by
  refine List.pairwise_iff_getElem.2 fun a b ha hb hab => ?_
  have := h a b hab (by omega)
  simpa [List.getD, ha, hb] using this
/-- A block's texts. -/
structure TextsC (W : World) (g o : Nat) (ys : List ByteArray) : Prop where
  cell : ∀ k (h : k < ys.length), W.cell? ⟨g, o + k, none⟩ = some (.string ys[k])
  free : ∀ j, W.frozen? ⟨g, j, none⟩ = false
  ok : ∀ y ∈ ys, y.size ≤ maxLen
theorem TextsC.set {W : World} {g o : Nat} {ys : List ByteArray} (h : TextsC W g o ys) {k : Nat} (hk : k < ys.length) {x : ByteArray} (hx : x.size ≤ maxLen) : TextsC (W.setCell ⟨g, o + k, none⟩ (.string x)) g o (ys.set k x) := by
  refine ⟨fun j hj0 => ?_, fun j => ?_, fun z hz => ?_⟩
  · have hj : j < ys.length := by simpa using hj0
    by_cases e : j = k
    · subst e
      rw [List.getElem_set_self]
      exact World.cell?_setCell_same _ _ _ (h.cell j hj)
    · rw [List.getElem_set_ne (Ne.symm e), World.cell?_setCell_other _ _ _ _ (by intro e; injection e with e1 e2 e3; omega)]
      exact h.cell j hj
  · rw [World.frozen?_setCell]
    exact h.free j
  · rcases List.mem_or_eq_of_mem_set hz with e | e
    · exact h.ok z e
    · rw [e]; exact hx
theorem TextsC.below {W W' : World} {g o : Nat} {ys : List ByteArray} (h : TextsC W g o ys) (hg : g < W.heap.size) (hb : Below W.heap.size W W') : TextsC W' g o ys := by
  have hc : ∀ j, W'.cell? ⟨g, j, none⟩ = W.cell? ⟨g, j, none⟩ := fun j => mem_of_block (hb.block g hg) j
  refine ⟨fun k hk => ?_, fun j => ?_, h.ok⟩
  · rw [hc]; exact h.cell k hk
  · have := h.free j
    unfold World.frozen? at this ⊢
    rw [hb.block g hg]; exact this
/-- Sorted texts are one list. -/
theorem sortedT_one {a b : List ByteArray} (hp : a.Perm b) (ha : a.Pairwise (fun x y => strC x y ≤ 0)) (hb : b.Pairwise (fun x y => strC x y ≤ 0)) : a = b :=
  List.Perm.eq_of_pairwise (fun x y _ _ h1 h2 => tl_inj (cmpBytes_eq (show cmpBytes x.toList y.toList = 0 from by have h := strC_good.anti x y; unfold strC at h h1 h2; omega))) ha hb hp
theorem le_cmp : ∀ x y : List UInt8, decide (x ≤ y) = true → cmpBytes x y ≤ 0
  | [], [], _ => by decide
  | [], _ :: _, _ => by simp [cmpBytes, lexList]
  | _ :: _, [], h => by simp at h
  | a :: x, b :: y, h => by
    have h := of_decide_eq_true h
    have hc := List.cons_le_cons_iff.1 h
    rcases hc with hc | ⟨rfl, hc⟩
    · have : a.toNat < b.toNat := hc
      simp [cmpBytes, lexList, cmpInt, this]
    · have ih := le_cmp x y (decide_eq_true hc)
      have e : cmpBytes (a :: x) (a :: y) = cmpBytes x y := by simp [cmpBytes, lexList, cmpInt]
      rw [e]; exact ih
theorem sortTexts_sorted (xs : List ByteArray) : (sortTexts xs).Pairwise (fun x y => strC x y ≤ 0) := by
  unfold sortTexts
  rw [List.pairwise_map]
  have h := List.pairwise_mergeSort (le := fun x y : List UInt8 => decide (x ≤ y)) (fun a b c h1 h2 => by simp at *; exact List.le_trans h1 h2) (fun a b => by simp; exact List.le_total a b) (xs.map (fun x => x.data.toList))
  refine h.imp (fun {a b} hab => ?_)
  unfold strC
  have e : ∀ l : List UInt8, (⟨l.toArray⟩ : ByteArray).toList = l := fun l => by
    rw [ByteArray.toList_eq]
  rw [e, e]
  exact le_cmp a b hab
end Go.Proofs.YtnfolemblnnejaaGreat
/- The reference's SortedTexts: the walk. -/
namespace Go.Proofs.YtnfolemblnnejaaGreat
open Go.RowKit Go.Maps

theorem texts_at {m : Mem} {xs : List ByteArray} {a : Option Addr} {n cap : Nat} (h : tStrs.rv m [.slice a n cap] xs) {k : Nat} (hk : k < xs.length) :
    ∃ b o, a = some ⟨b, o, none⟩ ∧ m b (o + k) = some (.string xs[k]) ∧ xs[k].size ≤ maxLen := by
  obtain ⟨b, o, rfl, cs, hat, rfl, hr⟩ := slice_at h hk
  exact ⟨b, o, rfl, by have := hat 0 _ rfl; simpa [tStr] using this, hr⟩
theorem Owns.textsC {w : World} {B : Nat} {v : Value} {xs : List ByteArray} (h : Owns tStr w B 9 v xs) : (xs = [] ∧ v = .slice none 0 0) ∨ ∃ g o c, v = .slice (some ⟨g, o, none⟩) xs.length c ∧ xs.length ≤ c ∧ c ≤ maxLen ∧ B ≤ g ∧ g < w.heap.size ∧ TextsC w g o xs := by
  have hrv := h.rv'
  obtain ⟨css, _, ⟨_, h3⟩, _, _⟩ := h
  rcases h3 with ⟨rfl, h6⟩ | ⟨g, cap, cur, rfl, hg, hh, hn, hm, hc, ht⟩
  · exact .inl ⟨List.eq_nil_of_length_eq_zero h6, rfl⟩
  · have hat : ∀ k (hk : k < xs.length), mem w g (0 + k) = some (.string xs[k]) ∧ xs[k].size ≤ maxLen := fun k hk => by
      obtain ⟨b, o, e, hat, hok⟩ := texts_at hrv hk
      simp only [Option.some.injEq, Addr.mk.injEq] at e
      obtain ⟨rfl, rfl, _⟩ := e
      exact ⟨hat, hok⟩
    refine .inr ⟨g, 0, cap, rfl, hn, hm, hg, (Array.getElem?_eq_some_iff.1 hh).1, ⟨fun k hk => (hat k hk).1, fun j => frozen_cells hh _, fun y hy => ?_⟩⟩
    obtain ⟨k, hk, rfl⟩ := List.mem_iff_getElem.1 hy
    exact (hat k hk).2
theorem TextsC.rv {w : World} {g o c B : Nat} {ys : List ByteArray} (h : TextsC w g o ys) (h1 : ys.length ≤ c) (h2 : c ≤ maxLen) (hg : B ≤ g) : tStrs.rv ((mem w).on (B ≤ ·)) [.slice (some ⟨g, o, none⟩) ys.length c] ys :=
  ⟨some ⟨g, o, none⟩, c, rfl, h1, h2, fun _ => ⟨g, o, rfl, fun k hk => ⟨[.string ys[k]], fun j u hu => by
    refine Mem.on_some ?_ hg
    match j, hu with
    | 0, hu => simp at hu; subst hu; have := h.cell k hk; simpa [tStr, mem] using this, rfl, h.ok _ (List.getElem_mem hk)⟩⟩⟩
theorem srtT_swap {w w5 w8 : World} {g o : Nat} {zs : List ByteArray} {x y : ByteArray} {j : Nat} (e8 : ((w5.setCell ⟨g, o + j, none⟩ (.string y)).setCell ⟨g, o + (j + 1), none⟩ (.string x)).drew = w8) (hg5 : g < w5.heap.size) (HB : Below w.heap.size w w5) (hg : w.heap.size ≤ g)
    (HS : TextsC ((w5.setCell ⟨g, o + j, none⟩ (.string y)).setCell ⟨g, o + (j + 1), none⟩ (.string x)) g o (swapT zs j)) :
    TextsC w8 g o (swapT zs j) ∧ Below w.heap.size w w8 ∧ w5.heap.size ≤ w8.heap.size := by
  have kk : Keeps (· = g) w5 ((w5.setCell ⟨g, o + j, none⟩ (.string y)).setCell ⟨g, o + (j + 1), none⟩ (.string x)) := ((Keeps.refl (· = g) w5).setCell (p := ⟨g, o + j, none⟩) (fun _ => rfl) _).setCell (p := ⟨g, o + (j + 1), none⟩) (fun _ => rfl) _
  generalize (w5.setCell ⟨g, o + j, none⟩ (.string y)).setCell ⟨g, o + (j + 1), none⟩ (.string x) = w7 at kk HS e8
  rw [← e8]
  have hz := kk.size
  refine ⟨HS.below (Nat.lt_of_lt_of_le hg5 hz) (Below.refl _ _).drew, (Keeps.belowStep HB kk (fun k hk => ?_) HB.size).drew, hz⟩
  exact Nat.le_trans hg (Nat.le_of_eq hk.symm)
set_option maxRecDepth 100000 in
set_option maxHeartbeats 8000000 in
theorem sortTexts_any (xs : List ByteArray) (v : Value) (w : World) (hv : tStrs.rv (mem w) [v] xs) (h8 : xs.length ≤ 1000000) :
    Calls Tryz.prog 86 #[v] w fun e w' => ∃ x S, e = .returned x ∧ tStrs.rv ((mem w').on (w.heap.size ≤ ·)) [x] S ∧ S.Perm xs ∧ S.Pairwise (fun a b => strC a b ≤ 0) ∧ Below w.heap.size w w' := by
  have hb0 : ∀ o, Below w.heap.size w (w.alloc o) := fun o => (Below.refl _ _).alloc (Nat.le_refl _) o
  have hown : ∀ T, T = 9 → Owns tStr (w.alloc (.cells #[] T)) w.heap.size 9 (.slice (some ⟨w.heap.size, 0, none⟩) 0 0) [] := fun T hT => by
    subst hT
    exact ⟨[], rfl, World.ownsRow_lit w #[] 0 (Nat.le_refl _) (Nat.zero_le _) (by simp), fun c h => absurd h (by simp), fun k h => absurd h (by simp)⟩
  have hone : ∀ m cs x, tStr.rv m cs x → ∀ u ∈ cs, u.oneCell' = true := fun m cs x h u hu => by
    obtain ⟨rfl, _⟩ := h
    simp at hu
    subst hu; rfl
  obtain ⟨a1, cap1, rfl, hl1, hm1, hv⟩ := slice_form hv
  have HV := Lib.hid (fun o => (tStrs.mono _ _ _ _ (below_mem (hb0 o)) hv : tStrs.rv (mem (w.alloc o)) _ xs))
  clear hm1 hv
  go_enter Tryz.func86, Tryz.ntmps86
  go_wp2_with (at_builtin; refine wpList_append_flat rfl _ _ 71 rfl tStr_flat hone Tryz.underlying71 infoStr rfl (by decide) w.heap.size _ [] xs rfl (hown _ rfl) _ _ _ rfl rfl (HV.out _) ?c1 ?c2 ?c3 ?_)
  case c1 => simp; unfold maxLen; omega
  case c2 => simp; omega
  case c3 => simp
  intro v' w2 hown' hgrow
  have HB := Lib.hid (show Below w.heap.size w w2 from (hb0 _).grown hgrow (by simp) (fun k hk => by simp [Value.ownBlock] at hk; omega))
  clear hown hgrow HV hone
  rcases hown'.textsC with ⟨rfl, rfl⟩ | ⟨g, o, c, rfl, hlc, hcm, hg, hgw, hints⟩
  · clear hown'
    go_wp2
    go_loopw [4] (fun i wr => i = .int .i64 1 ∧ wr = w2) (fun _ _ => 0)
    case atStart => exact ⟨rfl, rfl⟩
    case round =>
      obtain ⟨rfl, rfl⟩ := hrel
      go_wp2
      go_ret
      exact ⟨_, [], rfl, slice_nil _ _, List.Perm.refl _, List.Pairwise.nil, HB.out⟩
  · clear hown'
    skip
    have HM := Lib.hid hcm
    have HI0 := Lib.hid hints
    have hcap : c ≤ 9223372036854775807 := by unfold maxLen at hcm; exact hcm
    clear hcm hints
    go_wp2
    go_loopw [4] (fun i wr => ∃ k : Nat, 1 ≤ k ∧ (k ≤ xs.length ∨ k = 1) ∧ i = .int .i64 k ∧ ∃ ys, Hid (TextsC wr g o ys) ∧ ys.length = xs.length ∧ Hid (ys.Perm xs) ∧ Hid (ToT ys k) ∧ Hid (Below w.heap.size w wr) ∧ w2.heap.size ≤ wr.heap.size) (fun i _ => xs.length - (intOf i).toNat)
    case atStart => exact ⟨1, by omega, .inr rfl, rfl, xs, HI0, rfl, Lib.hid (List.Perm.refl _), Lib.hid (fun a b h1 h2 => by omega), HB, Nat.le_refl _⟩
    case round =>
      clear HI0 HB
      obtain ⟨k, hk1, hk, rfl, ys, HI, hly, HP, HS, HB, hsz⟩ := hrel
      by_cases hlt : k < xs.length
      · go_wp2
        go_loopw [5] (fun i wx => ∃ j : Nat, j ≤ k ∧ i = .int .i64 j ∧ ∃ zs, Hid (TextsC wx g o zs) ∧ zs.length = xs.length ∧ Hid (zs.Perm xs) ∧ Hid (ButT zs k j) ∧ Hid (Below w.heap.size w wx) ∧ w2.heap.size ≤ wx.heap.size) (fun i _ => (intOf i).toNat)
        case atStart => exact ⟨k, by omega, rfl, ys, HI, hly, HP, Lib.hid HS.out.but, HB, hsz⟩
        case round =>
          clear HI HP HS HB hly hsz
          obtain ⟨j, hj, rfl, zs, HI, hlz, HP, HS, HB, hsz⟩ := hrel
          have hgr : g < wr.heap.size := by omega
          cases j with
          | zero =>
            go_wp2_with fail
            go_quiet (fail)
            all_goals
              have hbq : ∀ n, Below wr.heap.size wr (wr.drewN n) := fun n => ⟨rfl, rfl, rfl, Nat.le_refl _, fun _ _ => rfl⟩
              go_wp2
              go_roundw
              case rel => exact ⟨k + 1, by omega, .inl (by omega), by go_num, zs, Lib.hid (HI.out.below hgr (hbq _)), hlz, HP, Lib.hid HS.out.zero, Lib.hid (HB.out.trans ((hbq _).mono HB.out.size)), hsz⟩
              case measure => simp [intOf]; omega
          | succ j =>
            have hjl : j < zs.length := by omega
            have hjl2 : j + 1 < zs.length := by omega
            have c0 : wr.cell? ⟨g, o + j, none⟩ = some (.string zs[j]) := HI.out.cell j hjl
            have c1 : wr.cell? ⟨g, o + (j + 1), none⟩ = some (.string zs[j + 1]) := HI.out.cell (j + 1) hjl2
            have HC0 := Lib.hid (fun (w' : World) (h : TextsC w' g o zs) => h.cell j hjl)
            have HC1 := Lib.hid (fun (w' : World) (h : TextsC w' g o zs) => h.cell (j + 1) hjl2)
            have HE1 := Lib.hid (show zs.getD j default = zs[j] by simp [List.getD, hjl])
            have HE2 := Lib.hid (show zs.getD (j + 1) default = zs[j + 1] by simp [List.getD, hjl2])
            have HO1 := Lib.hid (HI.out.ok _ (List.getElem_mem hjl))
            have HO2 := Lib.hid (HI.out.ok _ (List.getElem_mem hjl2))
            have HSET := Lib.hid (fun (w' : World) (h : TextsC w' g o zs) => (show TextsC ((w'.setCell ⟨g, o + j, none⟩ (.string zs[j + 1])).setCell ⟨g, o + (j + 1), none⟩ (.string zs[j])) g o (swapT zs j) from by
              unfold swapT
              rw [HE1.out, HE2.out]
              exact (h.set hjl HO2.out).set (by rw [List.length_set]; exact hjl2) HO1.out))
            have HSW := Lib.hid (fun (h : 0 < strC zs[j] zs[j + 1]) => (show ButT (swapT zs j) k j from HS.out.swap (by omega) (by omega) (by rw [HE1.out, HE2.out]; exact h)))
            have HDN := Lib.hid (fun (h : strC zs[j] zs[j + 1] ≤ 0) => (show ToT zs (k + 1) from HS.out.done (by omega) (by rw [HE1.out, HE2.out]; exact h)))
            have HGT := Lib.hid (show (!(Op.bytesLess zs[j].toList zs[j + 1].toList || zs[j].toList == zs[j + 1].toList)) = decide (0 < strC zs[j] zs[j + 1]) from bytesGtr_cmp _ _)
            clear HE1 HE2
            generalize strC zs[j] zs[j + 1] = cc at *
            generalize zs[j + 1] = y at *
            generalize zs[j] = x at *
            have hsub : ((j + 1 : Nat) : Int) - 1 = (j : Int) := by omega
            have hwr : IntKind.i64.wrap (((j + 1 : Nat) : Int) - 1) = (j : Int) := by rw [hsub]; exact IntWalk.i64_in _ (by omega)
            have hj0 : (0 : Int) ≤ (j : Int) := by omega
            have hj1 : (j : Int) < (xs.length : Int) := by omega
            have hj2 : (0 : Int) ≤ (j : Int) + 1 := by omega
            have hj3 : (j : Int) + 1 < (xs.length : Int) := by omega
            have hs2 : (j : Int) + 1 - 1 = (j : Int) := by omega
            have hw2' : IntKind.i64.wrap ((j : Int) + 1 - 1) = (j : Int) := by rw [hs2]; exact IntWalk.i64_in _ (by omega)
            have hw3 : IntKind.i64.wrap (j : Int) = (j : Int) := IntWalk.i64_in _ (by omega)
            have HZ := Lib.hid hsz
            have f0 : ∀ n, (wr.drewN n).frozen? ⟨g, o + j, none⟩ = false := fun n => HI.out.free _
            cases hL : Op.bytesLess x.toList y.toList <;> cases hE : (x.toList == y.toList)
            all_goals
              have hgt := HGT.out
              rw [hL, hE] at hgt
              simp only [Bool.or_true, Bool.or_false, Bool.true_or, Bool.false_or, Bool.not_true, Bool.not_false] at hgt
              have HGT2 := Lib.hid hgt
              have HI5' := HI.out.below hgr (Below.refl wr.heap.size wr).drew
              have HB5' := HB.out.trans ((Below.refl wr.heap.size wr).drew.mono HB.out.size)
              have HZ5' : w2.heap.size ≤ wr.drew.heap.size := hsz
              have hg5' : g < wr.drew.heap.size := hgr
              clear hgt HGT
              go_wp2_with fail
              go_region
              clear c0 c1 f0 HI HB
              generalize wr.drew = w5 at HI5' HB5' HZ5' hg5' ⊢
              have HI5 := Lib.hid HI5'
              have HB5 := Lib.hid HB5'
              clear HI5' HB5'
            case succ.false.false =>
              have hcc : 0 < cc := of_decide_eq_true HGT2.out.symm
              have HBU := Lib.hid (HSW.out hcc)
              have HPE := Lib.hid ((swapT_perm (ys := zs) (j := j) (by omega)).trans HP.out)
              have HSE := Lib.hid (HSET.out w5 HI5.out)
              have c0 : w5.cell? ⟨g, o + j, none⟩ = some (.string x) := HC0.out _ HI5.out
              have c1 : w5.cell? ⟨g, o + (j + 1), none⟩ = some (.string y) := HC1.out _ HI5.out
              have f0 : w5.frozen? ⟨g, o + j, none⟩ = false := HI5.out.free _
              have f1 : w5.frozen? ⟨g, o + (j + 1), none⟩ = false := HI5.out.free _
              clear hcc HSW HDN HSET HGT2 HP HS
              go_wp2_with fail
              go_region
              all_goals
                generalize hW8 : ((w5.setCell ⟨g, o + j, none⟩ (.string y)).setCell ⟨g, o + (j + 1), none⟩ (.string x)).drew = w8
                have hF := srtT_swap hW8 hg5' HB5.out hg HSE.out
                have HF := Lib.hid hF
                have HZF := Lib.hid (Nat.le_trans HZ5' hF.2.2)
                clear hF hW8 c0 c1 f0 f1
                go_wp2
                go_roundw
                case rel => exact ⟨j, by omega, by go_num, swapT zs j, Lib.hid HF.out.1, by rw [swapT_len]; exact hlz, HPE, HBU, Lib.hid HF.out.2.1, HZF.out⟩
                case measure => simp [intOf]
            all_goals
              have hcc : cc ≤ 0 := by have := of_decide_eq_false HGT2.out.symm; omega
              have HTE := Lib.hid (HDN.out hcc)
              clear hcc HSW HDN HSET HGT2
              go_wp2
              go_roundw
              case rel => exact ⟨k + 1, by omega, .inl (by omega), by go_num, zs, HI5, hlz, HP, HTE, HB5, HZ5'⟩
              case measure => simp [intOf]; omega
      · have hR := (HI.out.rv (c := c) (B := w.heap.size) (by omega) HM.out hg)
        rw [hly] at hR
        have HR := Lib.hid hR
        clear hR
        go_wp2
        go_ret
        exact ⟨_, ys, rfl, HR.out, HP.out, HS.out.pairwise (by omega), HB.out⟩
end Go.Proofs.YtnfolemblnnejaaGreat
/- The reference of a vault: Names. -/
namespace Go.Proofs.YtnfolemblnnejaaGreat
open Go.RowKit Go.Maps

def isNmd (x : Int × Sn) : Bool := x.2.done && !(x.2.name.toList == [])
theorem names_all (s : VS) : s.names = (s.all.filter isNmd).map (fun x => x.2.name) := by
  unfold VS.names
  rw [List.filter_filter]
  congr 1
  apply List.filter_congr
  intro x _
  unfold isNmd
  rw [Bool.and_comm]
theorem nmd_take (l : List (Int × Sn)) {k : Nat} (hk : k < l.length) :
    (((l.take (k + 1)).filter isNmd).map (fun x => x.2.name)) = if isNmd l[k] = true then (((l.take k).filter isNmd).map (fun x => x.2.name)) ++ [(l[k]).2.name] else (((l.take k).filter isNmd).map (fun x => x.2.name)) := by
  rw [List.take_succ_eq_append_getElem hk, List.filter_append, List.map_append]
  by_cases h : isNmd l[k] = true
  · rw [if_pos h]
    simp only [List.filter_cons, h, if_true, List.filter_nil, List.map_cons, List.map_nil]
  · have h' : isNmd l[k] = false := by simpa using h
    rw [if_neg h]
    simp only [List.filter_cons, h', Bool.false_eq_true, if_false, List.filter_nil, List.map_nil, List.append_nil]
set_option maxRecDepth 100000 in
set_option maxHeartbeats 8000000 in
theorem refNames_any (s : VS) (a : Value) (W : World) (h : RV (mem W) s a) :
    Calls Tryz.prog 66 #[rvV s a] W fun e w' => ∃ v, e = .returned v ∧ tStrs.rv (mem w') [v] (sortTexts s.names) ∧ Below W.heap.size W w' := by
  obtain ⟨aa, ca, rfl, hla, hma, hra⟩ := slice_form h.ha
  have hca : ca ≤ 9223372036854775807 := by unfold maxLen at hma; exact hma
  obtain ⟨HB, HC⟩ := box5 W s (.slice aa s.all.length ca)
  have HAL := Lib.hid (show s.all.length ≤ 1000000 from by have := all_len h.ok; have := h.ok.l; omega)
  have HRA := Lib.hid (tRSns.mono _ _ _ _ (below_mem HB.out) hra)
  have HNM := Lib.hid (names_all s)
  have HST := Lib.hid (fun (S : List ByteArray) (h1 : S.Perm s.names) (h2 : S.Pairwise (fun a b => strC a b ≤ 0)) => sortedT_one (h1.trans (sortTexts_perm s.names).symm) h2 (sortTexts_sorted s.names))
  clear hma hra h
  go_enter Tryz.func66, Tryz.ntmps66
  go_wp2_with fail
  generalize W.alloc (rvB s (.slice aa s.all.length ca)) = X at *
  go_loopw [3, 4] (fun ov iv wr => ∃ j : Nat, j ≤ s.all.length ∧ iv = .int .i64 j ∧ Hid (Owns tStr wr X.heap.size 9 ov (((s.all.take j).filter isNmd).map (fun x => x.2.name))) ∧ Hid (Below X.heap.size X wr)) (fun _ iv _ => s.all.length - (intOf iv).toNat)
  case atStart => exact ⟨0, by omega, rfl, Lib.hid (Owns.nil _ _ _ _), Lib.hid (Below.refl _ _)⟩
  case round =>
    obtain ⟨j, hj, rfl, HO, HBR⟩ := hrel
    obtain ⟨c0, c1, c2, c3, c4⟩ := HC.out _ HBR.out
    by_cases hlt : j < s.all.length
    · obtain ⟨b, o, s1, s2, s3, e, ⟨-, g1, g2, -, -, -⟩, -, hnm, -⟩ := rsn_at (tRSns.mono _ _ _ _ (below_mem HBR.out) HRA.out) hlt
      subst e
      have d1 : wr.cell? ⟨b, o + j * 6 + 1, none⟩ = some (.string s.all[j].2.name) := g1
      have d2 : wr.cell? ⟨b, o + j * 6 + 2, none⟩ = some (.bool s.all[j].2.done) := g2
      have HTK := Lib.hid (nmd_take s.all hlt)
      have HLL := Lib.hid (show (((s.all.take j).filter isNmd).map (fun x => x.2.name)).length ≤ 1000000 from by
        rw [List.length_map]
        exact Nat.le_trans (List.length_filter_le _ _) (by rw [List.length_take]; have := HAL.out; omega))
      have HSZ := Lib.hid HBR.out.size
      have HXS := Lib.hid hnm
      have HIS := Lib.hid (show isNmd s.all[j] = (s.all[j].2.done && !(s.all[j].2.name.toList == [])) from rfl)
      clear g1 g2 hnm
      generalize ((s.all.take j).filter isNmd).map (fun x => x.2.name) = q at *
      generalize s.all[j] = y at *
      obtain ⟨yk, t⟩ := y
      simp only at d1 d2 HIS HTK HXS
      generalize isNmd (yk, t) = is at *
      generalize t.name = yn at *
      generalize t.done = yd at *
      obtain ⟨al, cl, hvl, _⟩ := HO.out.len
      subst hvl
      have hskip : is = false → Owns tStr wr X.heap.size 9 (.slice al q.length cl) (((s.all.take (j + 1)).filter isNmd).map (fun x => x.2.name)) := fun e => by rw [HTK.out, if_neg (by rw [e]; simp)]; exact HO.out
      have HSK := Lib.hid hskip
      clear hskip
      cases yd with
      | false =>
        have HO4 := Lib.hid (HSK.out (by rw [HIS.out]; rfl))
        clear HSK HTK HIS
        go_wp2
        go_roundw
        case rel => exact ⟨j + 1, by omega, by go_num, HO4, HBR⟩
        case measure => simp [intOf]; omega
      | true =>
        cases hq : (yn.toList == []) with
        | true =>
          have HO4 := Lib.hid (HSK.out (by rw [HIS.out, hq]; rfl))
          clear HSK HTK HIS
          go_wp2
          go_roundw
          case rel => exact ⟨j + 1, by omega, by go_num, HO4, HBR⟩
          case measure => simp [intOf]; omega
        | false =>
          have HTL := Lib.hid (show q ++ [yn] = ((s.all.take (j + 1)).filter isNmd).map (fun x => x.2.name) by rw [HTK.out, if_pos (by rw [HIS.out, hq]; rfl)])
          clear HTK HSK HIS
          go_wp2_with (at_builtin; refine wpList_append_one rfl _ _ 71 rfl tStr Tryz.underlying71 infoStr rfl (by decide) X.heap.size _ q rfl (HO.out.alloc _) _ _ yn rfl [.string yn] ?a2 ⟨rfl, HXS.out⟩ ?b2 ?c2 ?d2 ?e2 ?_)
          case a2 => exact fun j u hj => by match j, hj with | 0, hj => simp at hj; subst hj; simp [mem]
          case b2 => intro x hx; simp at hx; subst hx; rfl
          case c2 => have := HLL.out; unfold maxLen; omega
          case d2 => have := HLL.out; omega
          case e2 => have := HSZ.out; simp; omega
          · intro v' w6 own6 hgrow _
            have HB6 := Lib.hid (show Below X.heap.size X w6 from (HBR.out.alloc HBR.out.size _).grown hgrow (by have := HSZ.out; simp; omega) (fun k hk => ((HO.out).lt k hk).1))
            obtain ⟨a6, cap6, rfl, _⟩ := own6.len
            have HO6 := Lib.hid (show Owns tStr w6 X.heap.size 9 (.slice a6 (q ++ [yn]).length cap6) (((s.all.take (j + 1)).filter isNmd).map (fun x => x.2.name)) by
              rw [← HTL.out]
              exact own6)
            clear own6 hgrow HO
            go_wp2
            go_roundw
            case rel => exact ⟨j + 1, by omega, by go_num, HO6, HB6⟩
            case measure => simp [intOf]; omega
    · obtain rfl : j = s.all.length := by omega
      rw [List.take_length, ← HNM.out] at HO
      have hNl : s.names.length ≤ 1000000 := by
        rw [HNM.out, List.length_map]
        have := HAL.out
        exact Nat.le_trans (List.length_filter_le _ _) (by omega)
      have HBW := Lib.hid (HB.out.trans (HBR.out.mono HB.out.size))
      clear HNM
      obtain ⟨a7, c7, hv7, _⟩ := HO.out.len
      subst hv7
      go_wp2_with fail
      refine (sortTexts_any s.names _ wr HO.out.rv' hNl).mono ?_
      rintro e w8 ⟨x, S, rfl, hx, hS, hSp, hb⟩
      obtain rfl := HST.out S hS hSp
      have HX := Lib.hid (tStrs.mono _ _ _ _ (Mem.on_le _ _) hx)
      have HB8 := Lib.hid (HBW.out.trans (hb.mono HBW.out.size))
      clear hx hS hSp hb HO
      go_wp2
      go_ret
      exact ⟨x, rfl, HX.out, HB8.out⟩
end Go.Proofs.YtnfolemblnnejaaGreat
/- share.Part; the reference's Range (chapter 12). -/
namespace Go.Proofs.YtnfolemblnnejaaGreat
open Go.RowKit Go.Maps

def rightP (parts groups : Int) : Bool := decide (1 ≤ parts ∧ parts ≤ 16) && decide (1 ≤ groups ∧ groups ≤ 128)
set_option maxHeartbeats 1000000 in
theorem right_any (parts groups : Int) (w : World) :
    Calls Tryz.prog 83 #[.int .i64 parts, .int .i64 groups] w fun e w' => e = .returned (.bool (rightP parts groups)) ∧ w = w' := by
  have HV := Lib.hid (show rightP parts groups = (decide (1 ≤ parts ∧ parts ≤ 16) && decide (1 ≤ groups ∧ groups ≤ 128)) from rfl)
  generalize rightP parts groups = r at *
  by_cases h1 : 1 ≤ parts <;> by_cases h2 : parts ≤ 16 <;> by_cases h3 : 1 ≤ groups <;> by_cases h4 : groups ≤ 128
  all_goals
    go_enter Tryz.func83, Tryz.ntmps83
    go_wp2
    go_ret
    exact ⟨by rw [HV.out]; simp [*], rfl⟩
def partAns (g parts groups : Int) : Int × Int := if rightP parts groups = true ∧ 0 ≤ g ∧ g < groups then (g * parts / groups, 0) else (0, 7)
set_option maxHeartbeats 2000000 in
theorem part_any (g parts groups : Int) (w : World) :
    Calls Tryz.prog 57 #[.int .i64 g, .int .i64 parts, .int .i64 groups] w fun e w' => e = .returned (.tuple #[.int .i64 (partAns g parts groups).1, .int .i64 (partAns g parts groups).2]) ∧ w = w' := by
  have HR := Lib.hid (fun w => right_any parts groups w)
  have HP := Lib.hid (show partAns g parts groups = if rightP parts groups = true ∧ 0 ≤ g ∧ g < groups then (g * parts / groups, 0) else (0, 7) from rfl)
  generalize partAns g parts groups = pa at *
  cases hr : rightP parts groups with
  | false =>
    have HA := Lib.hid (show pa = (0, 7) from by rw [HP.out, hr]; simp)
    rw [hr] at HR
    clear HP
    obtain rfl := HA.out
    go_enter Tryz.func57, Tryz.ntmps57
    go_wp2_with fail
    refine (HR.out _).mono ?_
    rintro e w1 ⟨rfl, rfl⟩
    go_wp2
    go_ret2
    exact ⟨rfl, rfl⟩
  | true =>
    have hrr := hr
    unfold rightP at hrr
    simp only [Bool.and_eq_true, decide_eq_true_eq] at hrr
    obtain ⟨⟨p1, p2⟩, g1, g2⟩ := hrr
    rw [hr] at HR
    by_cases h0 : 0 ≤ g
    case neg =>
      have HA := Lib.hid (show pa = (0, 7) from by rw [HP.out, if_neg (by omega)])
      clear HP
      obtain rfl := HA.out
      go_enter Tryz.func57, Tryz.ntmps57
      go_wp2_with fail
      refine (HR.out _).mono ?_
      rintro e w1 ⟨rfl, rfl⟩
      go_wp2
      go_ret2
      exact ⟨rfl, rfl⟩
    by_cases h1 : g < groups
    case neg =>
      have HA := Lib.hid (show pa = (0, 7) from by rw [HP.out, if_neg (by omega)])
      clear HP
      obtain rfl := HA.out
      go_enter Tryz.func57, Tryz.ntmps57
      go_wp2_with fail
      refine (HR.out _).mono ?_
      rintro e w1 ⟨rfl, rfl⟩
      go_wp2
      go_ret2
      exact ⟨rfl, rfl⟩
    have HA := Lib.hid (show pa = (g * parts / groups, 0) from by rw [HP.out, if_pos ⟨hr, h0, h1⟩])
    have hmul : 0 ≤ g * parts ∧ g * parts ≤ 2048 := ⟨Int.mul_nonneg h0 (by omega), by
      have := Int.mul_le_mul (show g ≤ 128 by omega) p2 (by omega) (by decide)
      omega⟩
    obtain ⟨m1, m2⟩ := hmul
    have hw : IntKind.i64.wrap (g * parts) = g * parts := IntWalk.i64_in _ (by omega)
    have hg0 : groups ≠ 0 := by omega
    have hq : (g * parts).tdiv groups = g * parts / groups := Int.tdiv_eq_ediv_of_nonneg m1
    have hq1 : 0 ≤ g * parts / groups := Int.ediv_nonneg m1 (by omega)
    have hq2 : g * parts / groups ≤ 2048 := Int.le_trans (Int.ediv_le_self _ m1) m2
    have hw2 : IntKind.i64.wrap (g * parts / groups) = g * parts / groups := IntWalk.i64_in _ (by omega)
    clear HP
    obtain rfl := HA.out
    go_enter Tryz.func57, Tryz.ntmps57
    go_wp2_with fail
    refine (HR.out _).mono ?_
    rintro e w1 ⟨rfl, rfl⟩
    go_wp2
    go_ret2
    exact ⟨by first | rfl | simp [hw, hq, hw2], rfl⟩
end Go.Proofs.YtnfolemblnnejaaGreat
/- The part of a group. -/
namespace Go.Proofs.YtnfolemblnnejaaGreat
open Go.RowKit Go.Maps

def qOf (g parts groups : Int) : Int := g * parts / groups
theorem qOf_mono {a b parts groups : Int} (h : a ≤ b) (hp : 0 ≤ parts) (hg : 0 < groups) : qOf a parts groups ≤ qOf b parts groups :=
  Int.ediv_le_ediv hg (Int.mul_le_mul_of_nonneg_right h hp)
theorem qOf_facts {g parts groups : Int} (h0 : 0 ≤ g) (h1 : g < groups) (hg : groups ≤ 128) (hp : 1 ≤ parts) (hp2 : parts ≤ 16) :
    IntKind.i64.wrap (g * parts) = g * parts ∧ (g * parts).tdiv groups = qOf g parts groups ∧ IntKind.i64.wrap (qOf g parts groups) = qOf g parts groups := by
  have m1 : 0 ≤ g * parts := Int.mul_nonneg h0 (by omega)
  have m2 : g * parts ≤ 2048 := by
    have := Int.mul_le_mul (show g ≤ 128 by omega) hp2 (by omega) (by decide)
    omega
  have q1 : 0 ≤ g * parts / groups := Int.ediv_nonneg m1 (by omega)
  have q2 : g * parts / groups ≤ 2048 := Int.le_trans (Int.ediv_le_self _ m1) m2
  exact ⟨IntWalk.i64_in _ (by omega), Int.tdiv_eq_ediv_of_nonneg m1, IntWalk.i64_in _ (by unfold qOf; omega)⟩
end Go.Proofs.YtnfolemblnnejaaGreat
/- Appends as one step of a region that draws its order. No program in sight. -/
namespace Go.Proofs.YtnfolemblnnejaaGreat
open Go.RowKit
section
variable {P : Program}
/-- APPEND OF ONE ELEMENT to a row of the call's own, as one step of a region that draws its order. -/
theorem step_append_one {α : Type} {ops : Array Oper} {o : Oper} {a : Act} {w : World} {K : Act → World → Prop} {Q : Exit → Act → World → Prop} {E : Prop} (hgd : o.guard = none) (s x : Operand) (T : TypeId)
    (ho : o.op = .call { callee := .builtin .append, args := #[s, x], argTypes := #[T, T] }) (t : Ty α) {e : TypeId} {z : Value} {bytes : Nat} (hT : P.underlying T = some (.slice e))
    (hinf : (P.info? e).map (fun i => (i.zero, i.size, i.bytes)) = some (some z, t.sz, bytes)) (hzs : z.cells.size = t.sz) (hsz : 0 < t.sz) (B : Nat) (v : Value) (xs : List α) (hs : a.eval s = v) (hown : Owns t w B e v xs)
    (nb c : Nat) (y : α) (hx : a.eval x = .slice (some ⟨nb, 0, none⟩) 1 c) (cs : List Value) (hat : At (mem w) nb 0 cs) (hrv : t.rv ((mem w).on (fun b => some b ≠ v.ownBlock)) cs y) (h1 : ∀ u ∈ cs, u.oneCell' = true)
    (h63 : xs.length + 1 ≤ maxLen) (hbytes : (xs.length + 1) * bytes ≤ 140737488355328) (hbase : B ≤ w.heap.size)
    (h : ∀ v' w', Owns t w' B e v' (xs ++ [y]) → w.grownBy w' v.ownBlock → (v'.ownBlock = v.ownBlock ∨ ∀ k, v'.ownBlock = some k → w.heap.size ≤ k) → K (a.put o.dst v') w') :
    if Region.wanted o (yielded ops a.tmps) = true then Oper.wp P o a w K Q else E := by
  have hw : Region.wanted o (yielded ops a.tmps) = true := by simp [Region.wanted, hgd]
  rw [if_pos hw]
  obtain ⟨i, hi, hz, hsize, hby⟩ := info_parts hinf
  have hown' := hown
  obtain ⟨css, g1, g2, g4, g5⟩ := hown
  have hl : cs.length = 1 * t.sz := by rw [t.len _ _ _ hrv, Nat.one_mul]
  have hnews : ∀ j u, cs[j]? = some u → w.cell? ((⟨nb, 0, none⟩ : Addr).add j) = some u := fun j u hj => by rw [Addr.add_lit]; exact hat j u hj
  obtain ⟨v', w', hr, h2, h3, _⟩ := run_append_own (P := P) w B T o.type e i z t.sz bytes hT hi hz hsize hby hzs hsz v xs.length css.flatten g2 ⟨nb, 0, none⟩ 1 c cs hl hnews h1 h63 hbytes hbase
  have hblk := append_block w B T o.type e i z t.sz bytes hT hi hz hsize hby v xs.length css.flatten g2 ⟨nb, 0, none⟩ 1 c cs hl hnews h1 (by omega) h63 hbytes hr
  have key : Owns t w' B e v' (xs ++ [y]) := by
    refine hown'.snoc (fun css' hc' => ?_) h3 hblk hrv
    obtain ⟨v2, w2, hr2, h22, _, _⟩ := run_append_own (P := P) w B T o.type e i z t.sz bytes hT hi hz hsize hby hzs hsz v xs.length css'.flatten hc' ⟨nb, 0, none⟩ 1 c cs hl hnews h1 h63 hbytes hbase
    rw [hr] at hr2
    injection hr2 with ev ew
    subst ev; subst ew
    exact h22
  unfold Oper.wp execOp
  simp only [ho, resolve, invoke, builtin, Sem.run_bind, Sem.run_pure, Result.andThen_ok, List.map_toArray, List.map_cons, List.map_nil, hs, hx, hr]
  exact h v' w' key h3 hblk
end
end Go.Proofs.YtnfolemblnnejaaGreat
/- package vault: Dealt. -/
namespace Go.Proofs.YtnfolemblnnejaaGreat
open Go.RowKit Go.Maps

/-- Rows of the call's own, each in a block of its own. -/
structure RowsOf (w : World) (B O : Nat) (vs : Array Value) (ls : List (List Ent)) : Prop where
  hO : w.heap[O]? = some (.cells vs 34 (0, 0))
  sz : vs.size = ls.length
  ow : ∀ (p : Nat) (v : Value), vs[p]? = some v → Owns tEnt w B 92 v (ls.getD p [])
  ne : ∀ (p : Nat) (v : Value) (b : Nat), vs[p]? = some v → v.ownBlock = some b → b ≠ O
  dj : ∀ (p q : Nat) (v u : Value) (b : Nat), vs[p]? = some v → vs[q]? = some u → v.ownBlock = some b → u.ownBlock = some b → p = q
theorem RowsOf.pure {w w' : World} {B O : Nat} {vs : Array Value} {ls : List (List Ent)} (h : RowsOf w B O vs ls) (hb : Below w.heap.size w w') : RowsOf w' B O vs ls :=
  ⟨(hb.block _ (Array.getElem?_eq_some_iff.1 h.hO).1).trans h.hO, h.sz, fun p v e => (h.ow p v e).keeps hb, h.ne, h.dj⟩
theorem grown_rows {w w' : World} {row : Option Nat} (h : w.grownBy w' row) : Keeps (fun b => row = some b) w w' := ⟨h.os, h.tape, h.output, h.size, fun k hk hn => h.block k hk (fun e => hn e.symm)⟩
theorem RowsOf.put {w w5 : World} {B O p : Nat} {vs : Array Value} {ls : List (List Ent)} {v v' : Value} {x : Ent} (h : RowsOf w B O vs ls) (hv : vs[p]? = some v) (hown : Owns tEnt w5 B 92 v' (ls.getD p [] ++ [x]))
    (hg : w.grownBy w5 v.ownBlock) (hbl : v'.ownBlock = v.ownBlock ∨ ∀ k, v'.ownBlock = some k → w.heap.size ≤ k) :
    w5.heap[O]? = some (.cells vs 34 (0, 0)) ∧ RowsOf (w5.setCell ⟨O, p, none⟩ v') B O (vs.setIfInBounds p v') (ls.set p (ls.getD p [] ++ [x])) := by
  have hOl := (Array.getElem?_eq_some_iff.1 h.hO).1
  have hpl := (Array.getElem?_eq_some_iff.1 hv).1
  have hk := grown_rows hg
  have hO5 : w5.heap[O]? = some (.cells vs 34 (0, 0)) := (hk.block O hOl (fun e => h.ne p v O hv e rfl)).trans h.hO
  have hks : Keeps (· = O) w5 (w5.setCell ⟨O, p, none⟩ v') := (Keeps.refl (· = O) w5).setCell (p := ⟨O, p, none⟩) (fun _ => rfl) v'
  have hne' : ∀ b, v'.ownBlock = some b → b ≠ O := fun b e e2 => by
    rcases hbl with g | g
    · exact h.ne p v b hv (g ▸ e) e2
    · have := g b e; omega
  have hoth : ∀ q u, q ≠ p → vs[q]? = some u → ∀ b, u.ownBlock = some b → v.ownBlock ≠ some b := fun q u hq hu b e e2 => hq (h.dj q p u v b hu hv e e2)
  have hdj' : ∀ q u b, q ≠ p → vs[q]? = some u → v'.ownBlock = some b → u.ownBlock = some b → False := fun q u b hq hu e e2 => by
    rcases hbl with g | g
    · exact hoth q u hq hu b e2 (g ▸ e)
    · have h1 := g b e
      have h2 := ((h.ow q u hu).lt b e2).2
      omega
  have hget : ∀ q u, (vs.setIfInBounds p v')[q]? = some u → (q = p ∧ u = v') ∨ (q ≠ p ∧ vs[q]? = some u) := fun q u e => by
    by_cases hq : q = p
    · subst hq
      rw [Array.getElem?_setIfInBounds_self_of_lt hpl] at e
      exact .inl ⟨rfl, by injection e with e; exact e.symm⟩
    · rw [Array.getElem?_setIfInBounds_ne (Ne.symm hq)] at e
      exact .inr ⟨hq, e⟩
  refine ⟨hO5, ⟨set_block hO5, by rw [Array.size_setIfInBounds, List.length_set]; exact h.sz, fun q u e => ?_, fun q u b e e2 => ?_, fun q1 q2 u1 u2 b e1 e2 f1 f2 => ?_⟩⟩
  · rcases hget q u e with ⟨rfl, rfl⟩ | ⟨hq, hu⟩
    · have : (ls.set q (ls.getD q [] ++ [x])).getD q [] = ls.getD q [] ++ [x] := by
        have : q < ls.length := by rw [← h.sz]; exact hpl
        simp [List.getD, this]
      rw [this]
      exact hown.keepsFlat tEnt_flat hks (fun k e => hne' k e)
    · have : (ls.set p (ls.getD p [] ++ [x])).getD q [] = ls.getD q [] := by simp [List.getD, List.getElem?_set_ne (Ne.symm hq)]
      rw [this]
      exact ((h.ow q u hu).keepsFlat tEnt_flat hk (fun k e => hoth q u hq hu k e)).keepsFlat tEnt_flat hks (fun k e => h.ne q u k hu e)
  · rcases hget q u e with ⟨rfl, rfl⟩ | ⟨hq, hu⟩
    · exact hne' b e2
    · exact h.ne q u b hu e2
  · rcases hget q1 u1 e1 with ⟨rfl, rfl⟩ | ⟨hq1, hu1⟩ <;> rcases hget q2 u2 e2 with ⟨rfl, rfl⟩ | ⟨hq2, hu2⟩
    · rfl
    · exact (hdj' q2 u2 b hq2 hu2 f1 f2).elim
    · exact (hdj' q1 u1 b hq1 hu1 f2 f1).elim
    · exact h.dj q1 q2 u1 u2 b hu1 hu2 f1 f2
/-- Dealt, told plainly. -/
def dealtOf (parts : Nat) (groups : Int) (es : List Ent) : List (List Ent) := (List.range parts).map (fun p => es.filter (fun x => decide (qOf x.g parts groups = (p : Nat))))
theorem dealt_nil (parts : Nat) (groups : Int) : dealtOf parts groups [] = List.replicate parts [] := by
  unfold dealtOf
  apply List.ext_getElem
  · simp
  · intro i h1 h2; simp
theorem dealt_snoc {parts : Nat} {groups : Int} (es : List Ent) (x : Ent) {p : Nat} (hp : qOf x.g parts groups = (p : Nat)) (hpl : p < parts) : dealtOf parts groups (es ++ [x]) = (dealtOf parts groups es).set p ((dealtOf parts groups es).getD p [] ++ [x]) := by
  have hg : (dealtOf parts groups es).getD p [] = es.filter (fun x => decide (qOf x.g parts groups = (p : Nat))) := by
    unfold dealtOf
    simp [List.getD, hpl]
  rw [hg]
  unfold dealtOf
  apply List.ext_getElem
  · simp
  · intro i h1 h2
    have hi : i < parts := by simpa using h1
    rw [List.getElem_map, List.getElem_range, List.getElem_set, List.filter_append, List.filter_cons, List.filter_nil]
    by_cases e : p = i
    · subst e
      rw [if_pos rfl, if_pos (by rw [hp]; simp)]
    · rw [if_neg e, if_neg (by rw [hp, decide_eq_true_eq]; omega), List.append_nil, List.getElem_map, List.getElem_range]
theorem qOf_lt {g groups : Int} {parts : Nat} (h0 : 0 ≤ g) (h1 : g < groups) (hp : 1 ≤ parts) : 0 ≤ qOf g parts groups ∧ qOf g parts groups < parts := by
  refine ⟨Int.ediv_nonneg (Int.mul_nonneg h0 (by omega)) (by omega), Int.ediv_lt_of_lt_mul (by omega) ?_⟩
  rw [Int.mul_comm]
  exact Int.mul_lt_mul_of_pos_left h1 (by omega)
theorem rows_rv {w : World} {B O : Nat} {vs : Array Value} {ls : List (List Ent)} (h : RowsOf w B O vs ls) (hl : ls.length ≤ 1000) {S : Nat → Prop} (hS : ∀ b, B ≤ b → S b) (hO : S O) :
    (tSlice tEnts).rv ((mem w).on S) [.slice (some ⟨O, 0, none⟩) ls.length ls.length] ls := by
  refine ⟨_, _, rfl, Nat.le_refl _, by unfold maxLen; omega, fun _ => ⟨O, 0, rfl, fun k hk => ?_⟩⟩
  have hks : k < vs.size := by rw [h.sz]; exact hk
  have hv := Array.getElem?_eq_getElem hks
  refine ⟨[vs[k]], fun j u hj => ?_, ?_⟩
  · cases j with
    | zero =>
      simp at hj; subst hj
      refine Mem.on_some ?_ hO
      rw [mem_cells h.hO]
      have e1 : (tSlice tEnt).sz = 1 := rfl
      rw [e1]
      simp
    | succ j => simp at hj
  · have ho := h.ow k _ hv
    have e : ls.getD k [] = ls[k] := by simp [List.getD, hk]
    rw [e] at ho
    exact ho.rv hS (fun _ _ _ h => h)
def dealtCode (o : Option Sn) (parts groups : Int) (es : List Ent) : Int :=
  if entsCode o ≠ 0 then entsCode o else if rightP parts groups = false then 7 else if es.any (fun x => decide (groups ≤ x.g)) = true then 7 else 0
def dealtRes (o : Option Sn) (parts groups : Int) (es : List Ent) : List (List Ent) := if dealtCode o parts groups es = 0 then dealtOf parts.toNat groups es else []
def DealtOut (w : World) (o : Option Sn) (parts groups : Int) (e : Ending) (w' : World) : Prop :=
  ∃ es a cap, EntsSay o es ∧ e = .returned (.tuple #[.slice a (dealtRes o parts groups es).length cap, .int .i64 (dealtCode o parts groups es)]) ∧ (tSlice tEnts).rv ((mem w').on (w.heap.size ≤ ·)) [.slice a (dealtRes o parts groups es).length cap] (dealtRes o parts groups es) ∧ Below w.heap.size w w'
theorem any_take {es : List Ent} {groups : Int} {j : Nat} (hj : j < es.length) (h : groups ≤ es[j].g) : es.any (fun x => decide (groups ≤ x.g)) = true := List.any_eq_true.2 ⟨_, List.getElem_mem hj, by simpa using h⟩
theorem made_rows (w : World) (parts : Nat) (_hp : parts ≤ 1000) : RowsOf (w.alloc (.cells (madeCells #[Value.slice none 0 0] parts) 34)) w.heap.size w.heap.size (madeCells #[Value.slice none 0 0] parts) (List.replicate parts []) := by
  have hsz : (madeCells #[Value.slice none 0 0] parts).size = parts := by unfold madeCells; simp
  have hat : ∀ (p : Nat) (v : Value), (madeCells #[Value.slice none 0 0] parts)[p]? = some v → v = .slice none 0 0 := fun p v e => by
    have hl := (Array.getElem?_eq_some_iff.1 e).1
    rw [hsz] at hl
    rw [made_at _ _ _ hl] at e
    injection e with e; exact e.symm
  refine ⟨heap_alloc_new w _, by rw [hsz, List.length_replicate], fun p v e => ?_, fun p v b e e2 => ?_, fun p q v u b e1 e2 e3 e4 => ?_⟩
  · obtain rfl := hat p v e
    have : (List.replicate parts ([] : List Ent)).getD p [] = [] := by
      simp [List.getD, List.getElem?_replicate]
      split <;> rfl
    rw [this]
    exact Owns.nil _ _ _ _
  · obtain rfl := hat p v e; cases e2
  · obtain rfl := hat p v e1; cases e3
set_option maxRecDepth 100000 in
set_option maxHeartbeats 8000000 in
theorem vDealt_any {base p : Nat} {r : HV} (k parts groups : Int) (w : World) (hI : VInv w base p r) (hk : inI64 k) (hle : ∀ t, r.vs.find k = some t → t.ents.length ≤ 100000 ∧ ∀ x ∈ t.ents, 0 ≤ x.g) :
    Calls Tryz.prog 28 #[ptrTo p, .int .i64 k, .int .i64 parts, .int .i64 groups] w (DealtOut w (r.vs.find k) parts groups) := by
  have HW := Lib.hid (vEntries_any k w hI hk (fun t h => (hle t h).1))
  have HPA := Lib.hid (fun g w => part_any g parts groups w)
  have HG := Lib.hid (fun es (h : EntsSay (r.vs.find k) es) => (show entsCode (r.vs.find k) = 0 → es.length ≤ 100000 ∧ ∀ x ∈ es, 0 ≤ x.g from fun h0 => by
    cases hf : r.vs.find k with
    | none => rw [hf] at h0; cases h0
    | some t =>
      rw [hf] at h h0
      unfold EntsSay at h
      unfold entsCode at h0
      simp only at h h0
      by_cases hd : t.done = true
      · rw [if_pos hd] at h
        exact ⟨by rw [h.1.length_eq]; exact (hle t hf).1, fun x hx => (hle t hf).2 x (h.1.mem_iff.1 hx)⟩
      · rw [if_neg hd] at h0; cases h0))
  generalize r.vs.find k = o at *
  clear hI hle
  have HDC := Lib.hid (fun es => (show dealtCode o parts groups es = if entsCode o ≠ 0 then entsCode o else if rightP parts groups = false then 7 else if es.any (fun x => decide (groups ≤ x.g)) = true then 7 else 0 from rfl))
  have HDR := Lib.hid (fun es => (show dealtRes o parts groups es = if dealtCode o parts groups es = 0 then dealtOf parts.toNat groups es else [] from rfl))
  go_enter Tryz.func28, Tryz.ntmps28
  go_wp2_with fail
  refine HW.out.mono ?_
  rintro e w1 ⟨es, ae, ke, rfl, hsay, hrv, hb⟩
  have HSAY := Lib.hid hsay
  have HB1 := Lib.hid hb
  have HE := Lib.hid (fun wq (hq : Below w1.heap.size w1 wq) => (show tEnts.rv (mem wq) [.slice ae es.length ke] es from tEnts.mono _ _ _ _ (Mem.le_trans (Mem.on_le _ _) (below_mem hq)) hrv))
  have HG1 := Lib.hid (HG.out es hsay)
  have hke : ke ≤ 9223372036854775807 := by
    obtain ⟨a', k', e', h2, h3, -⟩ := slice_form hrv
    simp only [Value.slice.injEq] at e'
    unfold maxLen at h3
    rw [e'.2.2]; exact h3
  clear hsay hrv hb HW HG
  by_cases hc0 : entsCode o = 0
  case neg =>
    have HA := Lib.hid (show dealtCode o parts groups es = entsCode o from by rw [HDC.out, if_pos hc0])
    have HR := Lib.hid (show dealtRes o parts groups es = [] from by rw [HDR.out, HA.out, if_neg hc0])
    generalize entsCode o = ec at *
    have hb0 : (ec == 0) = false := by rw [beq_eq_false_iff_ne]; exact hc0
    go_wp2
    go_ret2
    exact ⟨es, none, 0, HSAY.out, by rw [HA.out, HR.out]; rfl, by rw [HR.out]; exact slice_nil _ _, HB1.out⟩
  obtain ⟨hel, heg⟩ := HG1.out hc0
  have HEG := Lib.hid heg
  have HDC0 := Lib.hid (show dealtCode o parts groups es = if rightP parts groups = false then 7 else if es.any (fun x => decide (groups ≤ x.g)) = true then 7 else 0 from by rw [HDC.out, if_neg (by simp [hc0])])
  clear heg HG1 HDC
  generalize entsCode o = ec at *
  subst hc0
  cases hr : rightP parts groups with
  | false =>
    have HA := Lib.hid (show dealtCode o parts groups es = 7 from by rw [HDC0.out, if_pos hr])
    have HR := Lib.hid (show dealtRes o parts groups es = [] from by rw [HDR.out, HA.out]; rfl)
    have HP0 := Lib.hid (fun w => HPA.out 0 w)
    rw [show partAns 0 parts groups = (0, 7) from by unfold partAns; rw [hr]; simp] at HP0
    go_wp2_with fail
    refine (HP0.out _).mono ?_
    rintro e w2 ⟨rfl, rfl⟩
    go_wp2
    go_ret2
    exact ⟨es, none, 0, HSAY.out, by rw [HA.out, HR.out]; rfl, by rw [HR.out]; exact slice_nil _ _, HB1.out⟩
  | true =>
    have hrr := hr
    unfold rightP at hrr
    simp only [Bool.and_eq_true, decide_eq_true_eq] at hrr
    obtain ⟨⟨p1, p2⟩, g1, g2⟩ := hrr
    have HP0 := Lib.hid (fun w => HPA.out 0 w)
    rw [show partAns 0 parts groups = (0, 0) from by unfold partAns; rw [if_pos ⟨hr, by omega, by omega⟩]; simp] at HP0
    have HPX := Lib.hid (fun (g : Int) (h0 : 0 ≤ g) (h1 : g < groups) w => (show Calls Tryz.prog 57 #[.int .i64 g, .int .i64 parts, .int .i64 groups] w fun e w' => e = .returned (.tuple #[.int .i64 (qOf g parts groups), .int .i64 0]) ∧ w = w' from by
      have := HPA.out g w
      rw [show partAns g parts groups = (qOf g parts groups, 0) from by unfold partAns qOf; rw [if_pos ⟨hr, h0, h1⟩]] at this
      exact this))
    have HPY := Lib.hid (fun (g : Int) (h1 : groups ≤ g) w => (show Calls Tryz.prog 57 #[.int .i64 g, .int .i64 parts, .int .i64 groups] w fun e w' => e = .returned (.tuple #[.int .i64 0, .int .i64 7]) ∧ w = w' from by
      have := HPA.out g w
      rw [show partAns g parts groups = (0, 7) from by unfold partAns; rw [if_neg (by omega)]] at this
      exact this))
    rw [hr] at HDC0
    clear HPA hr
    obtain ⟨P, rfl⟩ := Int.eq_ofNat_of_zero_le (show 0 ≤ parts by omega)
    have hmk := make_any (T := 66) (e := 34) rfl infoEs1 rfl (by decide) P (by omega) w1
    have HRO := Lib.hid (made_rows w1 P (by omega))
    have HBX := Lib.hid (box_below w1 (.cells (madeCells #[Value.slice none 0 0] P) 34))
    go_wp2_with fail
    refine (HP0.out _).mono ?_
    rintro e w2 ⟨rfl, rfl⟩
    go_wp2_with fail
    generalize w1.alloc (.cells (madeCells #[Value.slice none 0 0] P) 34) = X at *
    clear hmk HP0
    go_loopw [41] (fun iv wr => ∃ (j : Nat) (vs : Array Value), j ≤ es.length ∧ iv = .int .i64 j ∧ Hid (RowsOf wr w1.heap.size w1.heap.size vs (dealtOf P groups (es.take j))) ∧ Hid (Below w1.heap.size w1 wr) ∧ Hid (∀ x ∈ es.take j, x.g < groups)) (fun iv _ => es.length - (intOf iv).toNat)
    case atStart => exact ⟨0, _, by omega, rfl, Lib.hid (by rw [List.take_zero, dealt_nil]; exact HRO.out), HBX, Lib.hid (by simp)⟩
    case round =>
      clear HRO HBX
      obtain ⟨j, vs, hj, rfl, HR, HB, HT⟩ := hrel
      by_cases hlt : j < es.length
      · obtain ⟨b, o2, rfl, hat, hok⟩ := ents_at (HE.out wr HB.out) hlt
        have c0 : wr.cell? ⟨b, o2 + j * 4, none⟩ = some (.int .i64 es[j].g) := hat 0 _ rfl
        have c1 : wr.cell? ⟨b, o2 + j * 4 + 1, none⟩ = some (.string es[j].nm) := hat 1 _ rfl
        have c2 : wr.cell? ⟨b, o2 + j * 4 + 2, none⟩ = some (.string es[j].key) := hat 2 _ rfl
        have c3 : wr.cell? ⟨b, o2 + j * 4 + 3, none⟩ = some (.string es[j].val) := hat 3 _ rfl
        have HAN := Lib.hid (fun h => any_take (groups := groups) hlt h)
        have h0g := HEG.out _ (List.getElem_mem hlt)
        have HTK := Lib.hid (show es.take (j + 1) = es.take j ++ [es[j]] from List.take_succ_eq_append_getElem hlt)
        have HDL := Lib.hid (show (dealtOf P groups (es.take j)).length = P from by unfold dealtOf; simp)
        have HRL := Lib.hid (show ∀ q : Nat, ((dealtOf P groups (es.take j)).getD q []).length ≤ 100000 from fun q => by
          by_cases hq : q < P
          · have e : (dealtOf P groups (es.take j)).getD q [] = (es.take j).filter (fun x => decide (qOf x.g P groups = (q : Nat))) := by unfold dealtOf; simp [List.getD, hq]
            rw [e]
            exact Nat.le_trans (List.length_filter_le _ _) (by rw [List.length_take]; omega)
          · rw [List.getD, List.getElem?_eq_none (by rw [HDL.out]; omega)]; simp)
        have HOK := Lib.hid hok
        clear hat hok
        generalize es[j] = y at *
        obtain ⟨xg, xn, xk, xv⟩ := y
        simp only at c0 c1 c2 c3 h0g
        by_cases hgg : groups ≤ xg
        · have HA := Lib.hid (show dealtCode o P groups es = 7 from by rw [HDC0.out, if_neg (by simp), if_pos (HAN.out hgg)])
          have HRS := Lib.hid (show dealtRes o P groups es = [] from by rw [HDR.out, HA.out]; rfl)
          have HCY := Lib.hid (HPY.out xg hgg)
          have HB3 := Lib.hid (HB.out.alloc HB.out.size (.cells #[.int .i64 xg, .string xn, .string xk, .string xv] 92))
          go_wp2_with fail
          refine (HCY.out _).mono ?_
          rintro e w3 ⟨rfl, rfl⟩
          go_wp2
          go_ret2
          exact ⟨es, none, 0, HSAY.out, by rw [HA.out, HRS.out]; rfl, by rw [HRS.out]; exact slice_nil _ _, HB1.out.trans (HB3.out.mono HB1.out.size)⟩
        · have HCX := Lib.hid (HPX.out xg h0g (by omega))
          obtain ⟨hq0, hq1⟩ := qOf_lt (parts := P) h0g (show xg < groups by omega) (by omega)
          obtain ⟨q, hq⟩ := Int.eq_ofNat_of_zero_le hq0
          have hqP : q < P := by omega
          have HSN := Lib.hid (show dealtOf P groups (es.take (j + 1)) = (dealtOf P groups (es.take j)).set q ((dealtOf P groups (es.take j)).getD q [] ++ [⟨xg, xn, xk, xv⟩]) from by rw [HTK.out]; exact dealt_snoc _ _ hq hqP)
          have HT2 := Lib.hid (show ∀ x ∈ es.take (j + 1), x.g < groups from fun x hx => by
            rw [HTK.out] at hx
            rcases List.mem_append.1 hx with hx | hx
            · exact HT.out x hx
            · simp at hx; subst hx; show xg < groups; omega)
          rw [hq] at HCX
          clear hq hq0 hq1 HT HTK HAN
          have hsz : vs.size = P := HR.out.sz.trans HDL.out
          obtain ⟨v, hv⟩ : ∃ v, vs[q]? = some v := ⟨vs[q]'(by omega), Array.getElem?_eq_getElem (by omega)⟩
          have hrl := HRL.out q
          have hown := HR.out.ow q v hv
          generalize hl : (dealtOf P groups (es.take j)).getD q [] = l at *
          obtain ⟨al, cl, rfl, -⟩ := hown.len
          have HHO := Lib.hid HR.out.hO
          have d0 : wr.cell? ⟨w1.heap.size, q, none⟩ = some (.slice al l.length cl) := (mem_cells HR.out.hO q).trans hv
          have HBY := Lib.hid (box_below wr (.cells #[.int .i64 xg, .string xn, .string xk, .string xv] 92))
          have HNB := Lib.hid (heap_alloc_new wr (.cells #[.int .i64 xg, .string xn, .string xk, .string xv] 92))
          have HRY := Lib.hid (HR.out.pure HBY.out)
          have HBB := Lib.hid (HB.out.trans (HBY.out.mono HB.out.size))
          have HV := Lib.hid hv
          have HSZB := Lib.hid HB.out.size
          clear HR hown hv d0 HB HHO
          go_wp2_with fail
          refine (HCX.out _).mono ?_
          rintro e w3 ⟨rfl, rfl⟩
          clear HCX c0 c1 c2 c3
          generalize wr.alloc (.cells #[.int .i64 xg, .string xn, .string xk, .string xv] 92) = Y at *
          generalize wr.heap.size = nb at *
          have n0 : Y.cell? ⟨nb, 0, none⟩ = some (.int .i64 xg) := mem_cells HNB.out 0
          have n1 : Y.cell? ⟨nb, 1, none⟩ = some (.string xn) := mem_cells HNB.out 1
          have n2 : Y.cell? ⟨nb, 2, none⟩ = some (.string xk) := mem_cells HNB.out 2
          have n3 : Y.cell? ⟨nb, 3, none⟩ = some (.string xv) := mem_cells HNB.out 3
          have n4 : Y.cell? ⟨w1.heap.size, q, none⟩ = some (.slice al l.length cl) := (mem_cells HRY.out.hO q).trans HV.out
          have LITB := Lib.hid (show Below Y.heap.size Y (Y.alloc (.cells #[.int .i64 xg, .string xn, .string xk, .string xv] 92)).drew from (box_below Y _).drew)
          have n0' : (Y.alloc (.cells #[.int .i64 xg, .string xn, .string xk, .string xv] 92)).cell? ⟨nb, 0, none⟩ = some (.int .i64 xg) := below_mem (box_below Y _) _ _ _ n0
          have n1' : (Y.alloc (.cells #[.int .i64 xg, .string xn, .string xk, .string xv] 92)).cell? ⟨nb, 1, none⟩ = some (.string xn) := below_mem (box_below Y _) _ _ _ n1
          have n2' : (Y.alloc (.cells #[.int .i64 xg, .string xn, .string xk, .string xv] 92)).cell? ⟨nb, 2, none⟩ = some (.string xk) := below_mem (box_below Y _) _ _ _ n2
          have n3' : (Y.alloc (.cells #[.int .i64 xg, .string xn, .string xk, .string xv] 92)).cell? ⟨nb, 3, none⟩ = some (.string xv) := below_mem (box_below Y _) _ _ _ n3
          have n4' : (Y.alloc (.cells #[.int .i64 xg, .string xn, .string xk, .string xv] 92)).cell? ⟨w1.heap.size, q, none⟩ = some (.slice al l.length cl) := below_mem (box_below Y _) _ _ _ n4
          have HRZ := Lib.hid (HRY.out.pure LITB.out)
          have HOX := Lib.hid (by have := HRZ.out.ow q _ HV.out; rw [hl] at this; exact this)
          have HAT := Lib.hid (show At (mem (Y.alloc (.cells #[.int .i64 xg, .string xn, .string xk, .string xv] 92)).drew) Y.heap.size 0 [.int .i64 xg, .string xn, .string xk, .string xv] from fun i u hi => by
            have := mem_cells (heap_alloc_new Y (.cells #[.int .i64 xg, .string xn, .string xk, .string xv] 92)) (0 + i)
            refine (show mem (Y.alloc (.cells #[.int .i64 xg, .string xn, .string xk, .string xv] 92)).drew Y.heap.size (0 + i) = mem (Y.alloc (.cells #[.int .i64 xg, .string xn, .string xk, .string xv] 92)) Y.heap.size (0 + i) from rfl).trans (this.trans ?_)
            rw [Nat.zero_add]; simpa using hi)
          have HRVX := Lib.hid (fun m => (show tEnt.rv m [.int .i64 xg, .string xn, .string xk, .string xv] ⟨xg, xn, xk, xv⟩ from ⟨rfl, HOK.out⟩))
          have HONE := Lib.hid (show ∀ u ∈ [(.int .i64 xg : Value), .string xn, .string xk, .string xv], u.oneCell' = true from fun u hu => by simp at hu; rcases hu with rfl | rfl | rfl | rfl <;> rfl)
          have HC1 := Lib.hid (show l.length + 1 ≤ maxLen from by unfold maxLen; omega)
          have HC2 := Lib.hid (show (l.length + 1) * 56 ≤ 140737488355328 from by omega)
          have HC3 := Lib.hid (show w1.heap.size ≤ (Y.alloc (.cells #[.int .i64 xg, .string xn, .string xk, .string xv] 92)).drew.heap.size from Nat.le_trans HBB.out.size LITB.out.size)
          clear HOK
          go_upto_region 14 with fail
          go_region_law ((refine step_append_one rfl (.tmp 61) (.tmp 63) 34 rfl tEnt Tryz.underlying34 infoEnt rfl (by decide) w1.heap.size (.slice al l.length cl) l rfl HOX.out Y.heap.size 1 ⟨xg, xn, xk, xv⟩ rfl [.int .i64 xg, .string xn, .string xk, .string xv] HAT.out (HRVX.out _) HONE.out HC1.out HC2.out HC3.out ?_; intro v5 w5 own5 hg5 hbl5; have HRP := Lib.hid (HRZ.out.put (p := q) HV.out (by rw [hl]; exact own5) hg5 hbl5); have HBP := Lib.hid (HBB.out.trans ((LITB.out.mono HBB.out.size))); have HGP := Lib.hid hg5; have HOWN5 := Lib.hid own5; have z0 : w5.frozen? ⟨w1.heap.size, q, none⟩ = false := frozen_cells HRP.out.1 q; have z1 : w5.cell? ⟨w1.heap.size, q, none⟩ = some (.slice al l.length cl) := (mem_cells HRP.out.1 q).trans HV.out; obtain ⟨a5, c5, rfl, -⟩ := own5.len; clear own5 hg5 hbl5))
          all_goals
            have HRF := Lib.hid (show RowsOf (w5.setCell ⟨w1.heap.size, q, none⟩ (.slice a5 (l.length + 1) c5)) w1.heap.size w1.heap.size (vs.setIfInBounds q (.slice a5 (l.length + 1) c5)) (dealtOf P groups (es.take (j + 1))) from by
              rw [HSN.out]
              have := HRP.out.2
              rw [hl] at this
              rw [List.length_append, List.length_singleton] at this
              exact this)
            have HBF := Lib.hid (show Below w1.heap.size w1 (w5.setCell ⟨w1.heap.size, q, none⟩ (.slice a5 (l.length + 1) c5)) from (HBP.out.grown HGP.out HC3.out (fun b e => ((HOX.out).lt b e).1)).setCell (p := ⟨w1.heap.size, q, none⟩) (Nat.le_refl _) _)
            clear HRP HOWN5 HGP HOX HAT HRVX HONE HRZ HRY HNB n0 n1 n2 n3 n4 n0' n1' n2' n3' n4' LITB HBY HBB HBP HSN
            go_wp2
            go_roundw
            case rel => exact ⟨j + 1, _, by omega, by go_num, HRF, HBF, HT2⟩
            case measure => simp [intOf]; omega
      · obtain rfl : j = es.length := by omega
        rw [List.take_length] at HR HT
        have HA := Lib.hid (show dealtCode o P groups es = 0 from by
          rw [HDC0.out, if_neg (by simp), if_neg]
          simp only [List.any_eq_true, decide_eq_true_eq, not_exists, not_and]
          intro x hx
          have := HT.out x hx
          omega)
        have HRS := Lib.hid (show dealtRes o P groups es = dealtOf P groups es from by rw [HDR.out, if_pos HA.out, Int.toNat_natCast])
        have hdl : (dealtOf P groups es).length = P := by unfold dealtOf; simp
        have HRV := Lib.hid (rows_rv HR.out (by omega) (S := (w.heap.size ≤ ·)) (fun b h => Nat.le_trans HB1.out.size h) HB1.out.size)
        rw [hdl] at HRV
        clear HR HT
        go_wp2
        go_ret2
        exact ⟨es, _, P, HSAY.out, by rw [HA.out, HRS.out, hdl]; rfl, by rw [HRS.out, hdl]; exact HRV.out, HB1.out.trans (HB.out.mono HB1.out.size)⟩
end Go.Proofs.YtnfolemblnnejaaGreat
/- Plain facts of the law VaultDeals: the states while the tasks tell; what is dealt, put together. -/
namespace Go.Proofs.YtnfolemblnnejaaGreat
open Go.RowKit Go.Maps

def snD (ls : List (List Ent)) (i : Nat) : Sn := ⟨⟨#[]⟩, (ls.take i).map (fun e => some ((⟨#[]⟩ : ByteArray), e)) ++ List.replicate (ls.length - i) none⟩
/-- The vault when i tasks have told. -/
def stD (ls : List (List Ent)) (i : Nat) : VS := ⟨ls.length, 1, 1, 1, [(1, snD ls i)]⟩
theorem empty_list : ((⟨#[]⟩ : ByteArray).toList == []) = true := by kernel_rfl
theorem trig_fresh {ls : List (List Ent)} : trigAns (VS.fresh ls.length 1 1) ⟨#[]⟩ = (1, 0) ∧ (VS.fresh ls.length 1 1).trigged ⟨#[]⟩ = stD ls 0 := by
  have h : trigAns (VS.fresh ls.length 1 1) ⟨#[]⟩ = (1, 0) := by
    unfold trigAns
    rw [empty_list]
    simp [VS.fresh, VS.pend, VS.those]
  refine ⟨h, ?_⟩
  unfold VS.trigged
  rw [h, if_pos rfl]
  unfold VS.trig VS.fresh stD snD Sn.new
  simp
theorem snD_len {ls : List (List Ent)} {i : Nat} (hi : i ≤ ls.length) : (snD ls i).told.length = ls.length := by
  unfold snD
  simp
  omega
theorem snD_tell {ls : List (List Ent)} {i : Nat} (hi : i < ls.length) : (snD ls i).tell i (⟨#[]⟩, ls[i]) = snD ls (i + 1) := by
  unfold Sn.tell snD
  simp only [Sn.mk.injEq, true_and]
  have hl : ((ls.take i).map (fun e => some ((⟨#[]⟩ : ByteArray), e))).length = i := by simp; omega
  rw [List.set_append_right _ _ (by rw [hl]; exact Nat.le_refl _), hl, Nat.sub_self, show ls.length - i = (ls.length - (i + 1)) + 1 by omega, List.replicate_succ, List.set_cons_zero, List.take_succ_eq_append_getElem hi, List.map_append, List.append_assoc]
  rfl
theorem snD_bit {ls : List (List Ent)} {i : Nat} (hi : i < ls.length) : (snD ls i).bits.getD i false = false := by
  unfold Sn.bits snD
  have hl : ((ls.take i).map (fun e => some ((⟨#[]⟩ : ByteArray), e))).length = i := by simp; omega
  rw [List.getD, List.getElem?_map, List.getElem?_append_right (by rw [hl]; exact Nat.le_refl _), hl, Nat.sub_self, show ls.length - i = (ls.length - (i + 1)) + 1 by omega, List.replicate_succ]
  rfl
theorem snD_done {ls : List (List Ent)} {i : Nat} (hi : i ≤ ls.length) : (snD ls i).done = decide (i = ls.length) := by
  unfold Sn.done snD
  rw [List.all_append]
  have h1 : ((ls.take i).map (fun e => some ((⟨#[]⟩ : ByteArray), e))).all Option.isSome = true := List.all_eq_true.2 (fun x hx => by obtain ⟨y, -, rfl⟩ := List.mem_map.1 hx; rfl)
  rw [h1, Bool.true_and, List.all_replicate]
  by_cases e : i = ls.length
  · subst e; simp
  · rw [if_neg (by omega), decide_eq_false e]; rfl
theorem stD_find {ls : List (List Ent)} {i : Nat} : (stD ls i).find 1 = some (snD ls i) := by
  unfold VS.find stD
  simp
theorem stD_told {ls : List (List Ent)} {i : Nat} (hi : i < ls.length) (hv : ls[i].all validE = true) : tellAns (stD ls i) 1 i (⟨#[]⟩, ls[i]) = (decide (i + 1 = ls.length), 0) ∧ (stD ls i).told 1 i (⟨#[]⟩, ls[i]) = stD ls (i + 1) := by
  have ha : tellAns (stD ls i) 1 i (⟨#[]⟩, ls[i]) = (decide (i + 1 = ls.length), 0) := by
    rw [tellAns_some (x := ((⟨#[]⟩ : ByteArray), ls[i])) hv stD_find, if_neg (by rw [snD_len (by omega)]; omega), Int.toNat_natCast, if_neg (by rw [snD_bit hi]; simp), snD_tell hi, snD_done (by omega)]
  refine ⟨ha, ?_⟩
  have hu : (stD ls i).upd 1 (fun t => t.tell (i : Int).toNat (⟨#[]⟩, ls[i])) = stD ls (i + 1) := by
    unfold VS.upd stD
    simp only [List.map_cons, List.map_nil, if_true, Int.toNat_natCast]
    rw [snD_tell hi]
  unfold VS.told
  rw [ha, hu]
  simp only [ne_eq, not_true_eq_false, if_false, decide_eq_true_eq]
  by_cases e : i + 1 = ls.length
  · rw [if_pos e]
    have hd : (snD ls (i + 1)).done = true := by rw [snD_done (by omega), decide_eq_true e]
    have hp : (stD ls (i + 1)).pend = [] := by
      unfold VS.pend VS.those stD
      simp [hd]
    rw [hp, List.filter_nil, dels_nil]
    have ho : (stD ls (i + 1)).old = [] := by
      unfold VS.old VS.those
      have : (stD ls (i + 1)).keep.toNat = 1 := rfl
      rw [this]
      have hl : (List.map Prod.fst (List.filter (fun x : Int × Sn => x.2.done && (x.2.name.toList == [])) (stD ls (i + 1)).all)).length ≤ 1 := by
        rw [List.length_map]
        exact Nat.le_trans (List.length_filter_le _ _) (Nat.le_refl 1)
      rw [show ∀ n : Nat, n ≤ 1 → n - 1 = 0 from fun n hn => by omega]
      · rfl
      · exact hl
    unfold VS.dropped
    rw [ho, dels_nil]
  · rw [if_neg e]
theorem stD_ents {ls : List (List Ent)} : (snD ls ls.length).ents = ls.flatten := by
  unfold Sn.ents Sn.rents snD
  rw [List.take_length, Nat.sub_self, List.replicate_zero, List.append_nil, List.map_map]
  congr 1
  exact (List.map_congr_left (fun x _ => rfl)).trans (List.map_id _)
/-- What is dealt, put together, are the same entries. -/
theorem flatten_set_perm {ls : List (List Ent)} {p : Nat} (hp : p < ls.length) (x : Ent) : (ls.set p (ls.getD p [] ++ [x])).flatten.Perm (ls.flatten ++ [x]) := by
  have e : ls.getD p [] = ls[p] := by simp [List.getD, hp]
  rw [e, List.set_eq_take_append_cons_drop, if_pos hp, List.flatten_append, List.flatten_cons]
  conv => rhs; rw [← List.take_append_drop p ls, List.drop_eq_getElem_cons hp, List.flatten_append, List.flatten_cons]
  rw [List.append_assoc, List.append_assoc, List.append_assoc]
  refine List.Perm.append_left _ (List.Perm.append_left _ ?_)
  exact List.perm_append_comm
theorem dealt_perm_take {parts : Nat} {groups : Int} (hp : 1 ≤ parts) {es : List Ent} (h : ∀ x ∈ es, 0 ≤ x.g ∧ x.g < groups) : ∀ j, j ≤ es.length → (dealtOf parts groups (es.take j)).flatten.Perm (es.take j)
  | 0, _ => by rw [List.take_zero, dealt_nil]; simp
  | j + 1, hj => by
    have hlt : j < es.length := hj
    have hx := h _ (List.getElem_mem hlt)
    obtain ⟨h0, h1⟩ := qOf_lt (parts := parts) hx.1 hx.2 hp
    obtain ⟨q, hq⟩ := Int.eq_ofNat_of_zero_le h0
    have hqp : q < parts := by omega
    rw [List.take_succ_eq_append_getElem hlt, dealt_snoc _ _ hq hqp]
    have hl : (dealtOf parts groups (es.take j)).length = parts := by unfold dealtOf; simp
    refine (flatten_set_perm (by rw [hl]; exact hqp) _).trans ?_
    exact List.Perm.append_right _ (dealt_perm_take hp h j (by omega))
theorem dealt_perm {parts : Nat} {groups : Int} (hp : 1 ≤ parts) {es : List Ent} (h : ∀ x ∈ es, 0 ≤ x.g ∧ x.g < groups) : (dealtOf parts groups es).flatten.Perm es := by
  have := dealt_perm_take hp h es.length (Nat.le_refl _)
  rwa [List.take_length] at this
theorem lex_zero {α : Type} {c1 c2 : α → α → Int} {a b : α} (h : lex c1 c2 a b = 0) : c1 a b = 0 ∧ c2 a b = 0 := by
  unfold lex at h
  by_cases h1 : c1 a b = 0
  · rw [if_neg (by simp [h1])] at h
    exact ⟨h1, h⟩
  · rw [if_pos h1] at h
    exact absurd h h1
theorem entC_zero {a b : Ent} (h : entC a b = 0) : a = b := by
  unfold entC at h
  obtain ⟨h1, h⟩ := lex_zero h
  obtain ⟨h2, h⟩ := lex_zero h
  obtain ⟨h3, h4⟩ := lex_zero h
  obtain ⟨ag, an, ak, av⟩ := a
  obtain ⟨bg, bn, bk, bv⟩ := b
  have e1 := cmpInt_zero.1 h1
  have e2 := tl_inj (cmpBytes_eq h2)
  have e3 := tl_inj (cmpBytes_eq h3)
  have e4 := tl_inj (cmpBytes_eq h4)
  simp only at e1 e2 e3 e4
  subst e1; subst e2; subst e3; subst e4
  rfl
/-- Sorted entries are one list. -/
theorem sorted_one {a b : List Ent} (hp : a.Perm b) (ha : a.Pairwise (fun x y => entC x y ≤ 0)) (hb : b.Pairwise (fun x y => entC x y ≤ 0)) : a = b :=
  List.Perm.eq_of_pairwise (fun x y _ _ h1 h2 => entC_zero (by have := entC_good.anti x y; omega)) ha hb hp
end Go.Proofs.YtnfolemblnnejaaGreat
/- The reference's AllDealt (chapter 12). -/
namespace Go.Proofs.YtnfolemblnnejaaGreat
open Go.RowKit Go.Maps

theorem made_rowsB (w : World) (B parts : Nat) (_hp : parts ≤ 1000) : RowsOf (w.alloc (.cells (madeCells #[Value.slice none 0 0] parts) 34)) B w.heap.size (madeCells #[Value.slice none 0 0] parts) (List.replicate parts []) := by
  have hsz : (madeCells #[Value.slice none 0 0] parts).size = parts := by unfold madeCells; simp
  have hat : ∀ (p : Nat) (v : Value), (madeCells #[Value.slice none 0 0] parts)[p]? = some v → v = .slice none 0 0 := fun p v e => by
    have hl := (Array.getElem?_eq_some_iff.1 e).1
    rw [hsz] at hl
    rw [made_at _ _ _ hl] at e
    injection e with e; exact e.symm
  refine ⟨heap_alloc_new w _, by rw [hsz, List.length_replicate], fun p v e => ?_, fun p v b e e2 => ?_, fun p q v u b e1 e2 e3 e4 => ?_⟩
  · obtain rfl := hat p v e
    have : (List.replicate parts ([] : List Ent)).getD p [] = [] := by
      simp [List.getD, List.getElem?_replicate]
      split <;> rfl
    rw [this]
    exact Owns.nil _ _ _ _
  · obtain rfl := hat p v e; cases e2
  · obtain rfl := hat p v e1; cases e3
theorem Keeps.pureB {F : Nat → Prop} {a w w' : World} (h : Keeps F a w) (hb : Below a.heap.size w w') : Keeps F a w' :=
  ⟨hb.os.trans h.os, hb.tape.trans h.tape, hb.output.trans h.output, Nat.le_trans h.size hb.size, fun k hk hF => (hb.block k hk).trans (h.block k hk hF)⟩
theorem ents_keep {W0 W1 W2 : World} {O : Nat} {v : Value} {S : List Ent} (hO : O < W0.heap.size) (h : tEnts.rv ((mem W1).on (W0.heap.size ≤ ·)) [v] S) (hk : Keeps (· = O) W1 W2) : tEnts.rv (mem W2) [v] S :=
  tEnts.mono _ _ _ _ (fun b o u e => by
    obtain ⟨h1, e⟩ := Mem.of_on e
    exact (mem_of_block (hk.block b (mem_lt e) (fun e2 => by subst e2; omega)) o).trans e) h
set_option maxRecDepth 100000 in
set_option maxHeartbeats 8000000 in
theorem allDealt_any (es : List Ent) (v : Value) (P : Nat) (groups : Int) (w : World) (hv : tEnts.rv (mem w) [v] es) (hes : es.Pairwise (fun a b => entC a b ≤ 0)) (hg : ∀ x ∈ es, 0 ≤ x.g ∧ x.g < groups) (p1 : 1 ≤ P) (p2 : P ≤ 16) (g1 : 1 ≤ groups) (g2 : groups ≤ 128) (h8 : es.length ≤ 100000) :
    Calls Tryz.prog 59 #[v, .int .i64 P, .int .i64 groups] w fun e w' => ∃ a cap, e = .returned (.slice a P cap) ∧ (tSlice tEnts).rv ((mem w').on (w.heap.size ≤ ·)) [.slice a P cap] (dealtOf P groups es) ∧ Below w.heap.size w w' := by
  obtain ⟨a1, cap1, rfl, hl1, hm1, -⟩ := slice_form hv
  have HV := Lib.hid hv
  have HES := Lib.hid hes
  have HEG := Lib.hid hg
  have hmk := make_any (T := 66) (e := 34) rfl infoEs1 rfl (by decide) P (by omega) w
  have HRO0 := Lib.hid (fun B => made_rowsB w B P (by omega))
  have HBX0 := Lib.hid (box_below w (.cells (madeCells #[Value.slice none 0 0] P) 34))
  clear hv hm1 hes hg
  go_enter Tryz.func59, Tryz.ntmps59
  go_wp2_with fail
  generalize w.alloc (.cells (madeCells #[Value.slice none 0 0] P) 34) = X at *
  clear hmk
  refine (sortEnts_any es _ X (tEnts.mono _ _ _ _ (below_mem HBX0.out) HV.out) h8).mono ?_
  rintro e w1 ⟨x, S, rfl, hx, hS, hSp, hb⟩
  obtain rfl := sorted_one hS hSp HES.out
  have hx0 := hx
  obtain ⟨ae, ke, rfl, -, hke0, -⟩ := slice_form hx0
  have hke : ke ≤ 9223372036854775807 := by unfold maxLen at hke0; exact hke0
  have hO0 := (Array.getElem?_eq_some_iff.1 (HRO0.out 0).hO).1
  have HE := Lib.hid (fun wq (hq : Keeps (· = w.heap.size) w1 wq) => (show tEnts.rv (mem wq) [.slice ae S.length ke] S from ents_keep hO0 hx hq))
  have HRO := Lib.hid ((HRO0.out w1.heap.size).pure hb)
  have HSW := Lib.hid (show w.heap.size ≤ w1.heap.size from Nat.le_trans HBX0.out.size hb.size)
  have HB0 := Lib.hid (HBX0.out.trans (hb.mono HBX0.out.size))
  clear hx hx0 hS hSp hb hO0 HES HV HRO0 HBX0 hke0
  go_wp2_with fail
  go_loopw [9] (fun iv wr => ∃ (j : Nat) (vs : Array Value), j ≤ S.length ∧ iv = .int .i64 j ∧ Hid (RowsOf wr w1.heap.size w.heap.size vs (dealtOf P groups (S.take j))) ∧ Hid (Below w.heap.size w wr) ∧ Hid (Keeps (· = w.heap.size) w1 wr)) (fun iv _ => S.length - (intOf iv).toNat)
  case atStart => exact ⟨0, _, by omega, rfl, Lib.hid (by rw [List.take_zero, dealt_nil]; exact HRO.out), HB0, Lib.hid (Keeps.refl _ _)⟩
  case round =>
    clear HRO HB0
    obtain ⟨j, vs, hj, rfl, HR, HB, HK⟩ := hrel
    by_cases hlt : j < S.length
    · obtain ⟨b, o2, rfl, hat, hok⟩ := ents_at (HE.out wr HK.out) hlt
      have c0 : wr.cell? ⟨b, o2 + j * 4, none⟩ = some (.int .i64 S[j].g) := hat 0 _ rfl
      have c1 : wr.cell? ⟨b, o2 + j * 4 + 1, none⟩ = some (.string S[j].nm) := hat 1 _ rfl
      have c2 : wr.cell? ⟨b, o2 + j * 4 + 2, none⟩ = some (.string S[j].key) := hat 2 _ rfl
      have c3 : wr.cell? ⟨b, o2 + j * 4 + 3, none⟩ = some (.string S[j].val) := hat 3 _ rfl
      obtain ⟨h0g, h1g⟩ := HEG.out _ (List.getElem_mem hlt)
      have HTK := Lib.hid (show S.take (j + 1) = S.take j ++ [S[j]] from List.take_succ_eq_append_getElem hlt)
      have HDL := Lib.hid (show (dealtOf P groups (S.take j)).length = P from by unfold dealtOf; simp)
      have HRL := Lib.hid (show ∀ q : Nat, ((dealtOf P groups (S.take j)).getD q []).length ≤ 100000 from fun q => by
        by_cases hq : q < P
        · have e : (dealtOf P groups (S.take j)).getD q [] = (S.take j).filter (fun x => decide (qOf x.g P groups = (q : Nat))) := by unfold dealtOf; simp [List.getD, hq]
          rw [e]
          exact Nat.le_trans (List.length_filter_le _ _) (by rw [List.length_take]; omega)
        · rw [List.getD, List.getElem?_eq_none (by rw [HDL.out]; omega)]; simp)
      have HOK := Lib.hid hok
      clear hat hok
      generalize S[j] = y at *
      obtain ⟨xg, xn, xk, xv⟩ := y
      simp only at c0 c1 c2 c3 h0g h1g
      obtain ⟨hq0, hq1⟩ := qOf_lt (parts := P) h0g h1g (by omega)
      obtain ⟨q, hq⟩ := Int.eq_ofNat_of_zero_le hq0
      have hqP : q < P := by omega
      have HSN := Lib.hid (show dealtOf P groups (S.take (j + 1)) = (dealtOf P groups (S.take j)).set q ((dealtOf P groups (S.take j)).getD q [] ++ [⟨xg, xn, xk, xv⟩]) from by rw [HTK.out]; exact dealt_snoc _ _ hq hqP)
      obtain ⟨hw1, hw2, hw3⟩ := qOf_facts (parts := (P : Int)) h0g h1g g2 (by omega) (by omega)
      rw [hq] at hw2 hw3
      clear hq hq0 hq1 HTK
      have hsz : vs.size = P := HR.out.sz.trans HDL.out
      obtain ⟨v, hv⟩ : ∃ v, vs[q]? = some v := ⟨vs[q]'(by omega), Array.getElem?_eq_getElem (by omega)⟩
      have hrl := HRL.out q
      have hown := HR.out.ow q v hv
      generalize hl : (dealtOf P groups (S.take j)).getD q [] = l at *
      obtain ⟨al, cl, rfl, -⟩ := hown.len
      have d0 : wr.cell? ⟨w.heap.size, q, none⟩ = some (.slice al l.length cl) := (mem_cells HR.out.hO q).trans hv
      have HV := Lib.hid hv
      have HSZB := Lib.hid HB.out.size
      have hgne : groups ≠ 0 := by omega
      clear hown hv
      have LITB := Lib.hid (show Below wr.heap.size wr (wr.alloc (.cells #[.int .i64 xg, .string xn, .string xk, .string xv] 92)).drew from (box_below wr _).drew)
      have n0' : (wr.alloc (.cells #[.int .i64 xg, .string xn, .string xk, .string xv] 92)).cell? ⟨b, o2 + j * 4, none⟩ = some (.int .i64 xg) := below_mem (box_below wr _) _ _ _ c0
      have n1' : (wr.alloc (.cells #[.int .i64 xg, .string xn, .string xk, .string xv] 92)).cell? ⟨b, o2 + j * 4 + 1, none⟩ = some (.string xn) := below_mem (box_below wr _) _ _ _ c1
      have n2' : (wr.alloc (.cells #[.int .i64 xg, .string xn, .string xk, .string xv] 92)).cell? ⟨b, o2 + j * 4 + 2, none⟩ = some (.string xk) := below_mem (box_below wr _) _ _ _ c2
      have n3' : (wr.alloc (.cells #[.int .i64 xg, .string xn, .string xk, .string xv] 92)).cell? ⟨b, o2 + j * 4 + 3, none⟩ = some (.string xv) := below_mem (box_below wr _) _ _ _ c3
      have n4' : (wr.alloc (.cells #[.int .i64 xg, .string xn, .string xk, .string xv] 92)).cell? ⟨w.heap.size, q, none⟩ = some (.slice al l.length cl) := below_mem (box_below wr _) _ _ _ d0
      have HRZ := Lib.hid (HR.out.pure LITB.out)
      have HOX := Lib.hid (by have := HRZ.out.ow q _ HV.out; rw [hl] at this; exact this)
      have HAT := Lib.hid (show At (mem (wr.alloc (.cells #[.int .i64 xg, .string xn, .string xk, .string xv] 92)).drew) wr.heap.size 0 [.int .i64 xg, .string xn, .string xk, .string xv] from fun i u hi => by
        have := mem_cells (heap_alloc_new wr (.cells #[.int .i64 xg, .string xn, .string xk, .string xv] 92)) (0 + i)
        refine (show mem (wr.alloc (.cells #[.int .i64 xg, .string xn, .string xk, .string xv] 92)).drew wr.heap.size (0 + i) = mem (wr.alloc (.cells #[.int .i64 xg, .string xn, .string xk, .string xv] 92)) wr.heap.size (0 + i) from rfl).trans (this.trans ?_)
        rw [Nat.zero_add]; simpa using hi)
      have HRVX := Lib.hid (fun m => (show tEnt.rv m [.int .i64 xg, .string xn, .string xk, .string xv] ⟨xg, xn, xk, xv⟩ from ⟨rfl, HOK.out⟩))
      have HONE := Lib.hid (show ∀ u ∈ [(.int .i64 xg : Value), .string xn, .string xk, .string xv], u.oneCell' = true from fun u hu => by simp at hu; rcases hu with rfl | rfl | rfl | rfl <;> rfl)
      have HC1 := Lib.hid (show l.length + 1 ≤ maxLen from by unfold maxLen; omega)
      have HC2 := Lib.hid (show (l.length + 1) * 56 ≤ 140737488355328 from by omega)
      have HC3 := Lib.hid (show w1.heap.size ≤ (wr.alloc (.cells #[.int .i64 xg, .string xn, .string xk, .string xv] 92)).drew.heap.size from Nat.le_trans HK.out.size LITB.out.size)
      clear HOK
      go_upto_region 7 with fail
      go_region_law ((refine step_append_one rfl (.tmp 35) (.tmp 40) 34 rfl tEnt Tryz.underlying34 infoEnt rfl (by decide) w1.heap.size (.slice al l.length cl) l rfl HOX.out wr.heap.size 1 ⟨xg, xn, xk, xv⟩ rfl [.int .i64 xg, .string xn, .string xk, .string xv] HAT.out (HRVX.out _) HONE.out HC1.out HC2.out HC3.out ?_; intro v5 w5 own5 hg5 hbl5; have HRP := Lib.hid (HRZ.out.put (p := q) HV.out (by rw [hl]; exact own5) hg5 hbl5); have HBP := Lib.hid (HB.out.trans ((LITB.out.mono HB.out.size))); have HGP := Lib.hid hg5; have HOWN5 := Lib.hid own5; have z0 : w5.frozen? ⟨w.heap.size, q, none⟩ = false := frozen_cells HRP.out.1 q; have z1 : w5.cell? ⟨w.heap.size, q, none⟩ = some (.slice al l.length cl) := (mem_cells HRP.out.1 q).trans HV.out; obtain ⟨a5, c5, rfl, -⟩ := own5.len; clear own5 hg5 hbl5))
      all_goals
        have HRF := Lib.hid (show RowsOf (w5.setCell ⟨w.heap.size, q, none⟩ (.slice a5 (l.length + 1) c5)) w1.heap.size w.heap.size (vs.setIfInBounds q (.slice a5 (l.length + 1) c5)) (dealtOf P groups (S.take (j + 1))) from by
          rw [HSN.out]
          have := HRP.out.2
          rw [hl] at this
          rw [List.length_append, List.length_singleton] at this
          exact this)
        have HBF := Lib.hid (show Below w.heap.size w (w5.setCell ⟨w.heap.size, q, none⟩ (.slice a5 (l.length + 1) c5)) from (HBP.out.grown HGP.out (Nat.le_trans HSZB.out LITB.out.size) (fun b e => Nat.le_trans HSW.out ((HOX.out).lt b e).1)).setCell (p := ⟨w.heap.size, q, none⟩) (Nat.le_refl _) _)
        have HKF := Lib.hid (show Keeps (· = w.heap.size) w1 (w5.setCell ⟨w.heap.size, q, none⟩ (.slice a5 (l.length + 1) c5)) from
          (HK.out.pureB ((LITB.out.mono HK.out.size).grown HGP.out HC3.out (fun b e => ((HOX.out).lt b e).1))).setCell (p := ⟨w.heap.size, q, none⟩) (fun _ => rfl) _)
        clear HRP HOWN5 HGP HOX HAT HRVX HONE HRZ n0' n1' n2' n3' n4' LITB HBP HSN
        go_wp2
        go_roundw
        case rel => exact ⟨j + 1, _, by omega, by go_num, HRF, HBF, HKF⟩
        case measure => simp [intOf]; omega
    · obtain rfl : j = S.length := by omega
      rw [List.take_length] at HR
      have hdl : (dealtOf P groups S).length = P := by unfold dealtOf; simp
      have HRV := Lib.hid (rows_rv HR.out (by omega) (S := (w.heap.size ≤ ·)) (fun b h => Nat.le_trans HSW.out h) (Nat.le_refl _))
      rw [hdl] at HRV
      clear HR
      go_wp2
      go_ret
      exact ⟨_, P, rfl, HRV.out, HB.out⟩
end Go.Proofs.YtnfolemblnnejaaGreat
/- The reference of a vault: Dealt. -/
namespace Go.Proofs.YtnfolemblnnejaaGreat
open Go.RowKit Go.Maps

set_option maxRecDepth 100000 in
set_option maxHeartbeats 8000000 in
theorem refDealtV_any (s : VS) (a : Value) (w : World) (h : RV (mem w) s a) (k parts groups : Int) (hle : ∀ t, s.find k = some t → t.ents.length ≤ 100000 ∧ ∀ x ∈ t.ents, 0 ≤ x.g) :
    Calls Tryz.prog 29 #[rvV s a, .int .i64 k, .int .i64 parts, .int .i64 groups] w (DealtOut w (s.find k) parts groups) := by
  have HW := Lib.hid (fun w' (hb : Below w.heap.size w w') => refEntriesV_any s a w' (h.mono (below_mem hb)) k (fun t h => (hle t h).1))
  obtain ⟨HBx, HCx⟩ := box5 w s a
  have HG := Lib.hid (fun es (h : EntsSay (s.find k) es) => (show entsCode (s.find k) = 0 → es.length ≤ 100000 ∧ (∀ x ∈ es, 0 ≤ x.g) ∧ es.Pairwise (fun a b => entC a b ≤ 0) from fun h0 => by
    cases hf : s.find k with
    | none => rw [hf] at h0; cases h0
    | some t =>
      rw [hf] at h h0
      unfold EntsSay at h
      unfold entsCode at h0
      simp only at h h0
      by_cases hd : t.done = true
      · rw [if_pos hd] at h
        exact ⟨by rw [h.1.length_eq]; exact (hle t hf).1, fun x hx => (hle t hf).2 x (h.1.mem_iff.1 hx), h.2⟩
      · rw [if_neg hd] at h0; cases h0))
  obtain ⟨aa, ca, rfl, hla, hma, hra⟩ := slice_form h.ha
  generalize s.find k = o at *
  clear h hla hma hra hle
  have HDC := Lib.hid (fun es => (show dealtCode o parts groups es = if entsCode o ≠ 0 then entsCode o else if rightP parts groups = false then 7 else if es.any (fun x => decide (groups ≤ x.g)) = true then 7 else 0 from rfl))
  have HDR := Lib.hid (fun es => (show dealtRes o parts groups es = if dealtCode o parts groups es = 0 then dealtOf parts.toNat groups es else [] from rfl))
  have H1 := Lib.hid (fun w => refIn_any parts 16 w)
  have H2 := Lib.hid (fun w => refIn_any groups 128 w)
  have HRP := Lib.hid (show rightP parts groups = (decide (1 ≤ parts ∧ parts ≤ 16) && decide (1 ≤ groups ∧ groups ≤ 128)) from rfl)
  go_enter Tryz.func29, Tryz.ntmps29
  obtain ⟨c0, c1, c2, c3, c4⟩ := HCx.out _ (Below.refl _ _)
  go_wp2_with fail
  refine (HW.out _ HBx.out).mono ?_
  rintro e w1 ⟨es, ae, ke, rfl, hsay, hrv0, hb⟩
  have HSAY := Lib.hid hsay
  have HB1 := Lib.hid (HBx.out.trans (hb.mono HBx.out.size))
  have hrv := tEnts.mono _ _ _ _ (Mem.on_le _ _) hrv0
  have HE := Lib.hid hrv
  have HG1 := Lib.hid (HG.out es hsay)
  have hke : ke ≤ 9223372036854775807 := by
    obtain ⟨a', k', e', h2, h3, -⟩ := slice_form hrv
    simp only [Value.slice.injEq] at e'
    unfold maxLen at h3
    rw [e'.2.2]; exact h3
  clear hsay hrv hrv0 hb HW HG c0 c1 c2 c3 c4 HCx
  obtain ⟨ec, hec⟩ : ∃ ec, ec = entsCode o := ⟨_, rfl⟩
  rw [← hec]
  have HEC := Lib.hid hec
  clear hec
  by_cases hc0 : ec = 0
  case neg =>
    have HA := Lib.hid (show dealtCode o parts groups es = ec from by rw [HDC.out, if_pos (by rw [← HEC.out]; exact hc0), HEC.out])
    have HR := Lib.hid (show dealtRes o parts groups es = [] from by rw [HDR.out, HA.out, if_neg hc0])
    have hb0 : (ec == 0) = false := by rw [beq_eq_false_iff_ne]; exact hc0
    go_wp2
    go_ret2
    exact ⟨es, none, 0, HSAY.out, by rw [HA.out, HR.out]; rfl, by rw [HR.out]; exact slice_nil _ _, HB1.out⟩
  subst hc0
  obtain ⟨hel, heg, hpw⟩ := HG1.out HEC.out.symm
  have HEG := Lib.hid heg
  have HPW := Lib.hid hpw
  have HDC0 := Lib.hid (show dealtCode o parts groups es = if rightP parts groups = false then 7 else if es.any (fun x => decide (groups ≤ x.g)) = true then 7 else 0 from by rw [HDC.out, if_neg (by simp [← HEC.out])])
  clear heg hpw HG1 HDC HEC
  have hbad : rightP parts groups = false → dealtCode o parts groups es = 7 ∧ dealtRes o parts groups es = [] := fun e => by
    have h7 : dealtCode o parts groups es = 7 := by rw [HDC0.out, if_pos e]
    exact ⟨h7, by rw [HDR.out, h7]; rfl⟩
  have HBAD := Lib.hid hbad
  clear hbad
  by_cases hp : 1 ≤ parts ∧ parts ≤ 16
  case neg =>
    obtain ⟨ha, hr⟩ := HBAD.out (by rw [HRP.out, decide_eq_false hp]; rfl)
    have HA := Lib.hid ha
    have HR := Lib.hid hr
    have HX := Lib.hid H1.out
    rw [decide_eq_false hp] at HX
    clear ha hr H1 H2 HBAD
    go_wp2_with fail
    refine (HX.out _).mono ?_
    rintro e w2 ⟨rfl, rfl⟩
    go_wp2
    go_ret2
    exact ⟨es, none, 0, HSAY.out, by rw [HA.out, HR.out]; rfl, by rw [HR.out]; exact slice_nil _ _, HB1.out⟩
  have HX := Lib.hid H1.out
  rw [decide_eq_true hp] at HX
  by_cases hg : 1 ≤ groups ∧ groups ≤ 128
  case neg =>
    obtain ⟨ha, hr⟩ := HBAD.out (by rw [HRP.out, decide_eq_false hg, Bool.and_false])
    have HA := Lib.hid ha
    have HR := Lib.hid hr
    have HY := Lib.hid H2.out
    rw [decide_eq_false hg] at HY
    clear ha hr H1 H2 HBAD
    go_wp2_with fail
    refine (HX.out _).mono ?_
    rintro e w2 ⟨rfl, rfl⟩
    go_wp2_with fail
    refine (HY.out _).mono ?_
    rintro e w2 ⟨rfl, rfl⟩
    go_wp2
    go_ret2
    exact ⟨es, none, 0, HSAY.out, by rw [HA.out, HR.out]; rfl, by rw [HR.out]; exact slice_nil _ _, HB1.out⟩
  have HY := Lib.hid H2.out
  rw [decide_eq_true hg] at HY
  have HDC1 := Lib.hid (show dealtCode o parts groups es = if es.any (fun x => decide (groups ≤ x.g)) = true then 7 else 0 from by rw [HDC0.out, if_neg (by rw [HRP.out, decide_eq_true hp, decide_eq_true hg]; simp)])
  obtain ⟨p1, p2⟩ := hp
  obtain ⟨g1, g2⟩ := hg
  obtain ⟨P, rfl⟩ := Int.eq_ofNat_of_zero_le (show 0 ≤ parts by omega)
  clear H1 H2 HBAD HDC0 HRP
  go_wp2_with fail
  refine (HX.out _).mono ?_
  rintro e w2 ⟨rfl, rfl⟩
  go_wp2_with fail
  refine (HY.out _).mono ?_
  rintro e w2 ⟨rfl, rfl⟩
  clear HX HY
  go_wp2_with fail
  go_loopw [12] (fun iv wr => ∃ j : Nat, j ≤ es.length ∧ iv = .int .i64 j ∧ wr = w1 ∧ Hid (∀ x ∈ es.take j, x.g < groups)) (fun iv _ => es.length - (intOf iv).toNat)
  case atStart => exact ⟨0, by omega, rfl, rfl, Lib.hid (by simp)⟩
  case round =>
    obtain ⟨j, hj, rfl, rfl, HT⟩ := hrel
    by_cases hlt : j < es.length
    · obtain ⟨b, o2, rfl, hat, hok⟩ := ents_at HE.out hlt
      have HAN := Lib.hid (fun h => any_take (groups := groups) hlt h)
      have HTK := Lib.hid (show es.take (j + 1) = es.take j ++ [es[j]] from List.take_succ_eq_append_getElem hlt)
      have hat0 := hat 0 _ rfl
      clear hat hok
      rename World => wc
      have c0 : wc.cell? ⟨b, o2 + j * 4, none⟩ = some (.int .i64 es[j].g) := hat0
      clear hat0
      generalize es[j] = y at *
      by_cases hgg : groups ≤ y.g
      · have HA := Lib.hid (show dealtCode o P groups es = 7 from by rw [HDC1.out, if_pos (HAN.out hgg)])
        have HR := Lib.hid (show dealtRes o P groups es = [] from by rw [HDR.out, HA.out]; rfl)
        go_wp2
        go_ret2
        exact ⟨es, none, 0, HSAY.out, by rw [HA.out, HR.out]; rfl, by rw [HR.out]; exact slice_nil _ _, HB1.out⟩
      · have HT2 := Lib.hid (show ∀ x ∈ es.take (j + 1), x.g < groups from fun x hx => by
          rw [HTK.out] at hx
          rcases List.mem_append.1 hx with hx | hx
          · exact HT.out x hx
          · simp at hx; subst hx; omega)
        clear HAN HTK
        go_wp2
        go_roundw
        case rel => exact ⟨j + 1, by omega, by go_num, by first | rfl | trivial, HT2⟩
        case measure => simp [intOf]; omega
    · obtain rfl : j = es.length := by omega
      rw [List.take_length] at HT
      have HA := Lib.hid (show dealtCode o P groups es = 0 from by
        rw [HDC1.out, if_neg]
        simp only [List.any_eq_true, decide_eq_true_eq, not_exists, not_and]
        intro x hx
        have := HT.out x hx
        omega)
      have HRS := Lib.hid (show dealtRes o P groups es = dealtOf P groups es from by rw [HDR.out, if_pos HA.out, Int.toNat_natCast])
      have hdl : (dealtOf P groups es).length = P := by unfold dealtOf; simp
      have HAD := Lib.hid (fun w' (hv : tEnts.rv (mem w') [.slice ae es.length ke] es) => allDealt_any es _ P groups w' hv HPW.out (fun x hx => ⟨HEG.out x hx, HT.out x hx⟩) (by omega) (by omega) g1 g2 hel)
      rename World => wc
      go_wp2_with fail
      refine (HAD.out _ HE.out).mono ?_
      rintro e w3 ⟨a3, c3, rfl, hrv, hb3⟩
      have HRV := Lib.hid (show (tSlice tEnts).rv ((mem w3).on (w.heap.size ≤ ·)) [.slice a3 P c3] (dealtOf P groups es) from (tSlice tEnts).mono _ _ _ _ (fun b o v e => by obtain ⟨h1, h2⟩ := Mem.of_on e; exact Mem.on_some h2 (Nat.le_trans HB1.out.size h1)) hrv)
      have HB3 := Lib.hid (HB1.out.trans (hb3.mono HB1.out.size))
      clear hrv hb3
      go_wp2
      go_ret2
      exact ⟨es, a3, c3, HSAY.out, by rw [HA.out, HRS.out, hdl]; rfl, by rw [HRS.out, hdl]; exact HRV.out, HB3.out⟩
end Go.Proofs.YtnfolemblnnejaaGreat
