/- The statement VaultDealsSaid: for every input the law VaultDeals returns true and leaves its arguments as they were. -/
import Derived.Deep.RegionLaw
import Derived.Test.YtnfolemblnnejaaVd07
set_option linter.unusedVariables false
set_option linter.unusedSimpArgs false
/- Plain facts of the law VaultDeals: the states while the tasks tell; what is dealt, put together. -/
namespace Go.Proofs.Ytnfolemblnnejaa
open Go.RowKit Go.Maps

def snD (ls : List (List Ent)) (i : Nat) : Sn := ⟨⟨#[]⟩, (ls.take i).map (fun e => some ((⟨#[]⟩ : ByteArray), e)) ++ List.replicate (ls.length - i) none⟩
/-- The vault when i tasks have told. -/
def stD (ls : List (List Ent)) (i : Nat) : VS := ⟨ls.length, 1, 1, 1, [(1, snD ls i)]⟩
theorem empty_list : ((⟨#[]⟩ : ByteArray).toList == []) = true := by kernel_rfl
theorem trig_fresh {ls : List (List Ent)} : trigAns (VS.fresh ls.length 1 1) ⟨#[]⟩ = (1, 0) ∧ (VS.fresh ls.length 1 1).trigged ⟨#[]⟩ = stD ls 0 := by
  have h : trigAns (VS.fresh ls.length 1 1) ⟨#[]⟩ = (1, 0) := by
    unfold trigAns
    rw [empty_list]
    simp [VS.fresh, VS.pend, VS.those]
  refine ⟨h, ?_⟩
  unfold VS.trigged
  rw [h, if_pos rfl]
  unfold VS.trig VS.fresh stD snD Sn.new
  simp
theorem snD_len {ls : List (List Ent)} {i : Nat} (hi : i ≤ ls.length) : (snD ls i).told.length = ls.length := by
  unfold snD
  simp
  omega
theorem snD_tell {ls : List (List Ent)} {i : Nat} (hi : i < ls.length) : (snD ls i).tell i (⟨#[]⟩, ls[i]) = snD ls (i + 1) := by
  unfold Sn.tell snD
  simp only [Sn.mk.injEq, true_and]
  have hl : ((ls.take i).map (fun e => some ((⟨#[]⟩ : ByteArray), e))).length = i := by simp; omega
  rw [List.set_append_right _ _ (by rw [hl]; exact Nat.le_refl _), hl, Nat.sub_self, show ls.length - i = (ls.length - (i + 1)) + 1 by omega, List.replicate_succ, List.set_cons_zero, List.take_succ_eq_append_getElem hi, List.map_append, List.append_assoc]
  rfl
theorem snD_bit {ls : List (List Ent)} {i : Nat} (hi : i < ls.length) : (snD ls i).bits.getD i false = false := by
  unfold Sn.bits snD
  have hl : ((ls.take i).map (fun e => some ((⟨#[]⟩ : ByteArray), e))).length = i := by simp; omega
  rw [List.getD, List.getElem?_map, List.getElem?_append_right (by rw [hl]; exact Nat.le_refl _), hl, Nat.sub_self, show ls.length - i = (ls.length - (i + 1)) + 1 by omega, List.replicate_succ]
  rfl
theorem snD_done {ls : List (List Ent)} {i : Nat} (hi : i ≤ ls.length) : (snD ls i).done = decide (i = ls.length) := by
  unfold Sn.done snD
  rw [List.all_append]
  have h1 : ((ls.take i).map (fun e => some ((⟨#[]⟩ : ByteArray), e))).all Option.isSome = true := List.all_eq_true.2 (fun x hx => by obtain ⟨y, -, rfl⟩ := List.mem_map.1 hx; rfl)
  rw [h1, Bool.true_and, List.all_replicate]
  by_cases e : i = ls.length
  · subst e; simp
  · rw [if_neg (by omega), decide_eq_false e]; rfl
theorem stD_find {ls : List (List Ent)} {i : Nat} : (stD ls i).find 1 = some (snD ls i) := by
  unfold VS.find stD
  simp
theorem stD_told {ls : List (List Ent)} {i : Nat} (hi : i < ls.length) (hv : ls[i].all validE = true) : tellAns (stD ls i) 1 i (⟨#[]⟩, ls[i]) = (decide (i + 1 = ls.length), 0) ∧ (stD ls i).told 1 i (⟨#[]⟩, ls[i]) = stD ls (i + 1) := by
  have ha : tellAns (stD ls i) 1 i (⟨#[]⟩, ls[i]) = (decide (i + 1 = ls.length), 0) := by
    rw [tellAns_some (x := ((⟨#[]⟩ : ByteArray), ls[i])) hv stD_find, if_neg (by rw [snD_len (by omega)]; omega), Int.toNat_natCast, if_neg (by rw [snD_bit hi]; simp), snD_tell hi, snD_done (by omega)]
  refine ⟨ha, ?_⟩
  have hu : (stD ls i).upd 1 (fun t => t.tell (i : Int).toNat (⟨#[]⟩, ls[i])) = stD ls (i + 1) := by
    unfold VS.upd stD
    simp only [List.map_cons, List.map_nil, if_true, Int.toNat_natCast]
    rw [snD_tell hi]
  unfold VS.told
  rw [ha, hu]
  simp only [ne_eq, not_true_eq_false, if_false, decide_eq_true_eq]
  by_cases e : i + 1 = ls.length
  · rw [if_pos e]
    have hd : (snD ls (i + 1)).done = true := by rw [snD_done (by omega), decide_eq_true e]
    have hp : (stD ls (i + 1)).pend = [] := by
      unfold VS.pend VS.those stD
      simp [hd]
    rw [hp, List.filter_nil, dels_nil]
    have ho : (stD ls (i + 1)).old = [] := by
      unfold VS.old VS.those
      have : (stD ls (i + 1)).keep.toNat = 1 := rfl
      rw [this]
      have hl : (List.map Prod.fst (List.filter (fun x : Int × Sn => x.2.done && (x.2.name.toList == [])) (stD ls (i + 1)).all)).length ≤ 1 := by
        rw [List.length_map]
        exact Nat.le_trans (List.length_filter_le _ _) (Nat.le_refl 1)
      rw [show ∀ n : Nat, n ≤ 1 → n - 1 = 0 from fun n hn => by omega]
      · rfl
      · exact hl
    unfold VS.dropped
    rw [ho, dels_nil]
  · rw [if_neg e]
theorem stD_ents {ls : List (List Ent)} : (snD ls ls.length).ents = ls.flatten := by
  unfold Sn.ents Sn.rents snD
  rw [List.take_length, Nat.sub_self, List.replicate_zero, List.append_nil, List.map_map]
  congr 1
  exact (List.map_congr_left (fun x _ => rfl)).trans (List.map_id _)
/-- What is dealt, put together, are the same entries. -/
theorem flatten_set_perm {ls : List (List Ent)} {p : Nat} (hp : p < ls.length) (x : Ent) : (ls.set p (ls.getD p [] ++ [x])).flatten.Perm (ls.flatten ++ [x]) := by
  have e : ls.getD p [] = ls[p] := by simp [List.getD, hp]
  rw [e, List.set_eq_take_append_cons_drop, if_pos hp, List.flatten_append, List.flatten_cons]
  conv => rhs; rw [← List.take_append_drop p ls, List.drop_eq_getElem_cons hp, List.flatten_append, List.flatten_cons]
  rw [List.append_assoc, List.append_assoc, List.append_assoc]
  refine List.Perm.append_left _ (List.Perm.append_left _ ?_)
  exact List.perm_append_comm
theorem dealt_perm_take {parts : Nat} {groups : Int} (hp : 1 ≤ parts) {es : List Ent} (h : ∀ x ∈ es, 0 ≤ x.g ∧ x.g < groups) : ∀ j, j ≤ es.length → (dealtOf parts groups (es.take j)).flatten.Perm (es.take j)
  | 0, _ => by rw [List.take_zero, dealt_nil]; simp
  | j + 1, hj => by
    have hlt : j < es.length := hj
    have hx := h _ (List.getElem_mem hlt)
    obtain ⟨h0, h1⟩ := qOf_lt (parts := parts) hx.1 hx.2 hp
    obtain ⟨q, hq⟩ := Int.eq_ofNat_of_zero_le h0
    have hqp : q < parts := by omega
    rw [List.take_succ_eq_append_getElem hlt, dealt_snoc _ _ hq hqp]
    have hl : (dealtOf parts groups (es.take j)).length = parts := by unfold dealtOf; simp
    refine (flatten_set_perm (by rw [hl]; exact hqp) _).trans ?_
    exact List.Perm.append_right _ (dealt_perm_take hp h j (by omega))
theorem dealt_perm {parts : Nat} {groups : Int} (hp : 1 ≤ parts) {es : List Ent} (h : ∀ x ∈ es, 0 ≤ x.g ∧ x.g < groups) : (dealtOf parts groups es).flatten.Perm es := by
  have := dealt_perm_take hp h es.length (Nat.le_refl _)
  rwa [List.take_length] at this
theorem lex_zero {α : Type} {c1 c2 : α → α → Int} {a b : α} (h : lex c1 c2 a b = 0) : c1 a b = 0 ∧ c2 a b = 0 := by
  unfold lex at h
  by_cases h1 : c1 a b = 0
  · rw [if_neg (by simp [h1])] at h
    exact ⟨h1, h⟩
  · rw [if_pos h1] at h
    exact absurd h h1
theorem entC_zero {a b : Ent} (h : entC a b = 0) : a = b := by
  unfold entC at h
  obtain ⟨h1, h⟩ := lex_zero h
  obtain ⟨h2, h⟩ := lex_zero h
  obtain ⟨h3, h4⟩ := lex_zero h
  obtain ⟨ag, an, ak, av⟩ := a
  obtain ⟨bg, bn, bk, bv⟩ := b
  have e1 := cmpInt_zero.1 h1
  have e2 := tl_inj (cmpBytes_eq h2)
  have e3 := tl_inj (cmpBytes_eq h3)
  have e4 := tl_inj (cmpBytes_eq h4)
  simp only at e1 e2 e3 e4
  subst e1; subst e2; subst e3; subst e4
  rfl
/-- Sorted entries are one list. -/
theorem sorted_one {a b : List Ent} (hp : a.Perm b) (ha : a.Pairwise (fun x y => entC x y ≤ 0)) (hb : b.Pairwise (fun x y => entC x y ≤ 0)) : a = b :=
  List.Perm.eq_of_pairwise (fun x y _ _ h1 h2 => entC_zero (by have := entC_good.anti x y; omega)) ha hb hp
end Go.Proofs.Ytnfolemblnnejaa
/- VaultDeals: the walk. -/
namespace Go.Proofs.Ytnfolemblnnejaa
open Go.RowKit Go.Maps

/-- What is looked at. -/
def fitE (groups : Int) (e : List Ent) : Prop := e.length ≤ 20 ∧ e.all validE = true ∧ ∀ x ∈ e, x.g < groups
theorem flat_le {ls : List (List Ent)} {groups : Int} (h : ∀ e ∈ ls, fitE groups e) : ls.flatten.length ≤ 20 * ls.length := by
  induction ls with
  | nil => simp
  | cons e l ih =>
    have h1 := (h e (by simp)).1
    have h2 := ih (fun x hx => h x (by simp [hx]))
    rw [List.flatten_cons, List.length_append, List.length_cons]
    omega
theorem take_flat {ls : List (List Ent)} {i : Nat} (hi : i < ls.length) : (ls.take (i + 1)).flatten = (ls.take i).flatten ++ ls[i] := by
  rw [List.take_succ_eq_append_getElem hi, List.flatten_append]
  simp
theorem take_flat_le (ls : List (List Ent)) (i : Nat) : (ls.take i).flatten.length ≤ ls.flatten.length := by
  conv => rhs; rw [← List.take_append_drop i ls, List.flatten_append, List.length_append]
  omega
theorem valid_g {x : Ent} (h : validE x = true) : 0 ≤ x.g := by
  unfold validE at h
  simp only [Bool.and_eq_true, decide_eq_true_eq] at h
  exact h.1.1
theorem row_at {m : Mem} {ls : List (List Ent)} {a : Option Addr} {n cap : Nat} (h : tEntss.rv m [.slice a n cap] ls) {k : Nat} (hk : k < ls.length) :
    ∃ b o v, a = some ⟨b, o, none⟩ ∧ m b (o + k) = some v ∧ tEnts.rv m [v] ls[k] := by
  obtain ⟨b, o, rfl, cs, hat, hr⟩ := slice_at h hk
  have hl := tEnts.len _ _ _ hr
  have e1 : tEnts.sz = 1 := rfl
  rw [e1] at hl hat
  match cs, hl with
  | [v], _ => exact ⟨b, o, v, rfl, by have := hat 0 v rfl; simpa using this, hr⟩
/-- The loops that look at the entries, the tellings, the dealing: one part each. -/
def dealsPost (w : World) (e : Ending) (w' : World) : Prop := e = .returned (.bool true) ∧ Below w.heap.size w w'
set_option maxRecDepth 100000 in
set_option maxHeartbeats 16000000 in
theorem vaultDeals_walk (l : List (List Ent)) (v : Value) (parts groups : Int) (w : World) (hv : tEntss.rv (mem w) [v] l) (hpi : inI64 parts) (hgi : inI64 groups) :
    Calls Try.prog 4 #[v, .int .i64 parts, .int .i64 groups] w (dealsPost w) := by
  obtain ⟨av, kv, rfl, hlv, hmv, -⟩ := slice_form hv
  have hkv : kv ≤ 9223372036854775807 := by unfold maxLen at hmv; exact hmv
  have HLV := Lib.hid hv
  clear hv hmv
  go_enter Try.func4, Try.ntmps4
  go_wp2_with fail
  refine (awake_any _).mono ?_
  rintro e w1 ⟨rfl, hb⟩
  have HB1 := Lib.hid hb
  clear hb
  by_cases hc1 : (l.length : Int) < 1
  case pos =>
    go_wp2
    go_ret
    exact ⟨rfl, HB1.out⟩
  by_cases hc2 : (10 : Int) < l.length
  case pos =>
    go_wp2
    go_ret
    exact ⟨rfl, HB1.out⟩
  by_cases hc3 : parts < 1
  case pos =>
    go_wp2
    go_ret
    exact ⟨rfl, HB1.out⟩
  by_cases hc4 : 16 < parts
  case pos =>
    go_wp2
    go_ret
    exact ⟨rfl, HB1.out⟩
  by_cases hc5 : groups < 1
  case pos =>
    go_wp2
    go_ret
    exact ⟨rfl, HB1.out⟩
  by_cases hc6 : 128 < groups
  case pos =>
    go_wp2
    go_ret
    exact ⟨rfl, HB1.out⟩
  have HRT := Lib.hid (show rightP parts groups = true from by unfold rightP; simp; omega)
  go_wp2_with fail
  go_loopw [7] (fun iv wr => ∃ i : Nat, i ≤ l.length ∧ iv = .int .i64 i ∧ Hid (Below w.heap.size w wr) ∧ Hid (∀ e ∈ l.take i, fitE groups e)) (fun iv _ => l.length - (intOf iv).toNat)
  case atStart => exact ⟨0, by omega, rfl, HB1, Lib.hid (by simp)⟩
  case round =>
    clear HB1
    obtain ⟨i, hi, rfl, HB, HT⟩ := hrel
    by_cases hlt : i < l.length
    · obtain ⟨b, o, vi, e, q0, hvi⟩ := row_at (tEntss.mono _ _ _ _ (below_mem HB.out) HLV.out) hlt
      subst e
      have d0 : wr.cell? ⟨b, o + i, none⟩ = some vi := q0
      have hvi0 := hvi
      obtain ⟨ai, ki, rfl, -, hki, -⟩ := slice_form hvi0
      have hki' : ki ≤ 9223372036854775807 := by unfold maxLen at hki; exact hki
      have HVI := Lib.hid hvi
      have HD0 := Lib.hid (fun (wq : World) (hq : Below wr.heap.size wr wq) => (show wq.cell? ⟨b, o + i, none⟩ = some (.slice ai l[i].length ki) from below_mem hq _ _ _ d0))
      have HTK := Lib.hid (fun (h : fitE groups l[i]) => (show ∀ e ∈ l.take (i + 1), fitE groups e from fun e he => by
        rw [List.take_succ_eq_append_getElem hlt] at he
        rcases List.mem_append.1 he with he | he
        · exact HT.out e he
        · simp at he; subst he; exact h))
      clear q0 hvi hvi0 hki HT
      generalize l[i] = li at *
      go_wp2_with fail
      refine (heavy_any li _ wr HVI.out).mono ?_
      rintro e w2 ⟨bb, rfl, hb, h20⟩
      have HB2 := Lib.hid (pure_trans HB.out hb)
      have HX2 := Lib.hid hb
      have H20 := Lib.hid h20
      clear hb h20 d0
      cases bb with
      | true =>
        go_wp2
        go_ret
        exact ⟨rfl, HB2.out⟩
      | false =>
        have hli := H20.out rfl
        clear H20
        go_wp2_with fail
        go_loopw [8] (fun kv wx => ∃ k : Nat, k ≤ li.length ∧ kv = .int .i64 k ∧ Hid (Below wr.heap.size wr wx) ∧ Hid (∀ x ∈ li.take k, validE x = true ∧ x.g < groups)) (fun kv _ => li.length - (intOf kv).toNat)
        case atStart => exact ⟨0, by omega, rfl, HX2, Lib.hid (by simp)⟩
        case round =>
          clear HX2 HB2
          obtain ⟨k, hk, rfl, HBX, HTX⟩ := hrel
          have d0 := HD0.out wr HBX.out
          by_cases hlk : k < li.length
          · obtain ⟨bx, ox, e, g0, g1, g2, g3, hok⟩ := ent_cells (tEnts.mono _ _ _ _ (below_mem HBX.out) HVI.out) hlk
            subst e
            have f0 : wr.cell? ⟨bx, ox + k * 4, none⟩ = some (.int .i64 li[k].g) := g0
            have f1 : wr.cell? ⟨bx, ox + k * 4 + 1, none⟩ = some (.string li[k].nm) := g1
            have f2 : wr.cell? ⟨bx, ox + k * 4 + 2, none⟩ = some (.string li[k].key) := g2
            have f3 : wr.cell? ⟨bx, ox + k * 4 + 3, none⟩ = some (.string li[k].val) := g3
            have HNX := Lib.hid (fun (h : validE li[k] = true ∧ li[k].g < groups) => (show ∀ x ∈ li.take (k + 1), validE x = true ∧ x.g < groups from fun x hx => by
              rw [List.take_succ_eq_append_getElem hlk] at hx
              rcases List.mem_append.1 hx with hx | hx
              · exact HTX.out x hx
              · simp at hx; subst hx; exact h))
            have HCV := Lib.hid (refValid_any li[k] wr hok)
            clear g0 g1 g2 g3 hok HTX
            generalize li[k] = y at *
            go_wp2_with fail
            refine HCV.out.mono ?_
            rintro e w3 ⟨rfl, hb3⟩
            have HB3 := Lib.hid (pure_trans HBX.out hb3)
            have HBW := Lib.hid (HB.out.trans (HB3.out.mono HB.out.size))
            have e0 : w3.cell? ⟨bx, ox + k * 4, none⟩ = some (.int .i64 y.g) := below_mem hb3 _ _ _ f0
            have d1 : w3.cell? ⟨b, o + i, none⟩ = some (.slice (some ⟨bx, ox, none⟩) li.length ki) := below_mem hb3 _ _ _ d0
            clear hb3 HCV f0 f1 f2 f3 d0 HBX
            cases hvy : validE y with
            | false =>
              go_wp2
              go_ret
              exact ⟨rfl, HBW.out⟩
            | true =>
              by_cases hgy : groups ≤ y.g
              · go_wp2
                go_ret
                exact ⟨rfl, HBW.out⟩
              · have HNY := Lib.hid (HNX.out ⟨hvy, by omega⟩)
                clear HNX
                go_wp2
                go_roundw
                case rel => exact ⟨k + 1, by omega, by go_num, HB3, HNY⟩
                case measure => simp [intOf]; omega
          · obtain rfl : k = li.length := by omega
            rw [List.take_length] at HTX
            have HBW := Lib.hid (HB.out.trans (HBX.out.mono HB.out.size))
            have HFT := Lib.hid (HTK.out ⟨hli, List.all_eq_true.2 (fun x hx => (HTX.out x hx).1), fun x hx => (HTX.out x hx).2⟩)
            go_wp2
            go_roundw
            case rel => exact ⟨i + 1, by omega, by go_num, HBW, HFT⟩
            case measure => simp [intOf]; omega
    · obtain rfl : i = l.length := by omega
      rw [List.take_length] at HT
      have HFT := Lib.hid HT.out
      have HBW := Lib.hid HB.out.size
      have HNA := Lib.hid (show newAns (l.length : Int) 1 1 = 0 from by unfold newAns; rw [if_pos (by omega)])
      have HFL := Lib.hid (flat_le HT.out)
      clear HT
      go_wp2_with fail
      refine (vNew_any (l.length : Int) 1 1 wr HNA.out (by omega)).mono ?_
      rintro e w3 ⟨p, r, rfl, hI, hvs, hb, hoff⟩
      have HI3 := Lib.hid hI
      have HVS3 := Lib.hid hvs
      have HOF3 := Lib.hid hoff
      have HB3 := Lib.hid (HB.out.trans (hb.mono HB.out.size))
      clear hI hvs hoff hb HB HNA
      generalize wr.heap.size = base at *
      go_wp2_with fail
      refine (vTrigger_any (⟨#[]⟩ : ByteArray) w3 HI3.out (Nat.zero_le _)).mono ?_
      rintro e w4 ⟨he, r4, st4, hv4⟩
      rw [HVS3.out, (trig_fresh (ls := l)).1] at he
      subst he
      have HI4 := Lib.hid st4.inv
      have HV4 := Lib.hid (show r4.vs = stD l 0 from by rw [hv4, HVS3.out]; exact trig_fresh.2)
      have HOF4 := Lib.hid (show ∀ b, ¬ r4.off b from by rw [st4.of]; exact HOF3.out)
      have HB4 := Lib.hid (HB3.out.trans ((st4.below HI3.out).mono HBW.out))
      have HB44 := Lib.hid (show base ≤ w4.heap.size from st4.inv.bw)
      clear st4 hv4 HI3 HVS3 HOF3 HB3
      go_wp2_with fail
      go_loopw [12, 13] (fun alv iv wx => ∃ (i : Nat) (r : HV), i ≤ l.length ∧ iv = .int .i64 i ∧ Hid (VInv wx base p r) ∧ Hid (r.vs = stD l i) ∧ Hid (OwnsO tEnt wx 53 alv (l.take i).flatten) ∧ Hid ((∀ b, alv.ownBlock = some b → r.off b) ∧ ∀ b, r.off b → base ≤ b) ∧ Hid (Below w.heap.size w wx)) (fun _ iv _ => l.length - (intOf iv).toNat)
      case atStart => exact ⟨0, r4, by omega, rfl, HI4, HV4, Lib.hid (OwnsO.nil _ _ _), Lib.hid ⟨fun b e => (by cases e), fun b e => absurd e (HOF4.out b)⟩, HB4⟩
      case round =>
        clear HI4 HV4 HOF4 HB4
        obtain ⟨i, r, hi, rfl, HI, HVS, HO, HOF, HB⟩ := hrel
        by_cases hlt : i < l.length
        · obtain ⟨b, o, vi, e, q0, hvi⟩ := row_at (tEntss.mono _ _ _ _ (below_mem HB.out) HLV.out) hlt
          subst e
          have d0 : wr.cell? ⟨b, o + i, none⟩ = some vi := q0
          have HMS := Lib.hid (show (mem w).le (safeV wr p r) from fun b x v e => by
            have hl := mem_lt e
            refine Mem.on_some (below_mem HB.out _ _ _ e) ⟨fun hm => ?_, fun ho => ?_⟩
            · have := HI.out.ge b hm; have := HBW.out; omega
            · have := HOF.out.2 b ho; have := HBW.out; omega)
          obtain ⟨b2, o2, vi2, e2, q02, hvi2⟩ := row_at HLV.out hlt
          simp only [Option.some.injEq, Addr.mk.injEq, and_true] at e2
          obtain ⟨rfl, rfl⟩ := e2
          have hvv : vi2 = vi := by
            have := below_mem HB.out _ _ _ q02
            rw [q0] at this
            injection this with this; exact this.symm
          subst hvv
          have HQ0 := Lib.hid q02
          obtain ⟨ai, ki, rfl, -, hki, -⟩ := slice_form hvi2
          have HVI := Lib.hid hvi2
          have hfit := HFT.out _ (List.getElem_mem hlt)
          obtain ⟨ha, htd⟩ := stD_told hlt hfit.2.1
          have HTL := Lib.hid (vTell_any 1 (i : Int) ((⟨#[]⟩ : ByteArray), l[i]) _ wr HI.out (by unfold inI64; omega) (by unfold inI64; omega) (Nat.zero_le _) (tEnts.mono _ _ _ _ HMS.out HVI.out) (by have := hfit.1; simp only; omega))
          rw [HVS.out, ha] at HTL
          have HTD := Lib.hid htd
          have HTF := Lib.hid (take_flat hlt)
          have HLL := Lib.hid (show (l.take i).flatten.length + l[i].length ≤ 1000 from by
            have h1 := take_flat_le l (i + 1)
            rw [take_flat hlt, List.length_append] at h1
            have := HFL.out
            omega)
          have hbq : ((i : Int) == (l.length : Int) - 1) = decide (i + 1 = l.length) := by
            by_cases h : i + 1 = l.length
            · rw [decide_eq_true h, beq_iff_eq]; omega
            · rw [decide_eq_false h, beq_eq_false_iff_ne]; omega
          clear q0 q02 hvi hvi2 hki hfit ha htd HMS
          generalize l[i] = li at *
          generalize decide (i + 1 = l.length) = bq at *
          go_wp2_with fail
          refine HTL.out.mono ?_
          rintro e w5 ⟨rfl, r5, st, hv5⟩
          have HST := Lib.hid st
          have HV5 := Lib.hid (show r5.vs = stD l (i + 1) from hv5.trans HTD.out)
          have HO5 := Lib.hid (HO.out.keeps (fun k e => st.kp.block k (HO.out.lt k e) (HI.out.ofs k (HOF.out.1 k e)).2))
          have HB5 := Lib.hid (show Below w.heap.size w w5 from HB.out.trans ((st.below HI.out).mono HBW.out))
          have hof5 := HOF.out
          rw [← st.of] at hof5
          have HOF5 := Lib.hid hof5
          clear hof5
          have d5 : w5.cell? ⟨b, o + i, none⟩ = some (.slice ai li.length ki) := below_mem HB5.out _ _ _ HQ0.out
          have HXS := Lib.hid (tEnts.mono _ _ _ _ (below_mem HB5.out) HVI.out)
          clear st hv5 HTL HTD HVI d0 HO HOF HI HVS
          generalize (l.take i).flatten = fl at *
          obtain ⟨al, cl, rfl, -⟩ := HO5.out.form
          have hbb : (!(bq == bq)) = false := by simp
          cases bq
          all_goals
            go_wp2_with (at_builtin; refine wpList_append_os rfl _ _ 35 rfl tEnt tEnt_flat tEnt_one Try.underlying35 infoEnt rfl (by decide) _ fl li rfl HO5.out _ _ _ rfl rfl HXS.out ?c1 ?c2 ?_)
            case c1 => have := HLL.out; unfold maxLen; omega
            case c2 => have := HLL.out; omega
            intro v6 w6 own6 happ
            have HG6 := Lib.hid (HST.out.inv.offGrow happ.grown HOF5.out.1 happ.block own6.lt)
            have HB6 := Lib.hid (show Below w.heap.size w w6 from HB5.out.grown happ.grown HB5.out.size (fun k e => by have := HOF5.out.2 k (HOF5.out.1 k e); have := HBW.out; omega))
            have HOF6 := Lib.hid (show (∀ b, v6.ownBlock = some b → (r5.off b ∨ v6.ownBlock = some b)) ∧ ∀ b, (r5.off b ∨ v6.ownBlock = some b) → base ≤ b from ⟨fun b e => .inr e, fun b e => by
              rcases e with e | e
              · exact HOF5.out.2 b e
              · rcases happ.block with g | g
                · exact HOF5.out.2 b (HOF5.out.1 b (g ▸ e))
                · have := g b e; have := HST.out.inv.bw; omega⟩)
            have HO6 := Lib.hid (show OwnsO tEnt w6 53 v6 (l.take (i + 1)).flatten from by rw [HTF.out]; exact own6)
            obtain ⟨a6, c6, rfl, -⟩ := own6.form
            clear own6 happ HO5 HST HB5 HOF5
            go_wp2
            go_roundw
            case rel => exact ⟨i + 1, { r5 with off := _ }, by omega, by go_num, HG6, HV5, HO6, HOF6, HB6⟩
            case measure => simp [intOf]; omega
        · obtain rfl : i = l.length := by omega
          rw [List.take_length] at HO
          have HFD := Lib.hid (show r.vs.find 1 = some (snD l l.length) from by rw [HVS.out]; exact stD_find)
          have HEN := Lib.hid (stD_ents (ls := l))
          have HGE := Lib.hid (show ∀ x ∈ l.flatten, 0 ≤ x.g ∧ x.g < groups from fun x hx => by
            obtain ⟨e, he, hxe⟩ := List.mem_flatten.1 hx
            have hf := HFT.out e he
            exact ⟨valid_g (List.all_eq_true.1 hf.2.1 x hxe), hf.2.2 x hxe⟩)
          have HDN := Lib.hid (show (snD l l.length).done = true from by rw [snD_done (Nat.le_refl _)]; simp)
          have HDL := Lib.hid (vDealt_any 1 parts groups wr HI.out (by unfold inI64; omega) (fun t ht => by
            rw [HFD.out] at ht
            injection ht with ht
            subst ht
            rw [HEN.out]
            exact ⟨by have := HFL.out; omega, fun x hx => (HGE.out x hx).1⟩))
          rw [HFD.out] at HDL
          obtain ⟨P, rfl⟩ := Int.eq_ofNat_of_zero_le (show 0 ≤ parts by omega)
          clear HVS HFD
          go_wp2_with fail
          refine HDL.out.mono ?_
          rintro e w8 ⟨es, ad, kd, hsay, he, hrv, hb8⟩
          have HSAY := Lib.hid (show es.Perm l.flatten ∧ es.Pairwise (fun a b => entC a b ≤ 0) from by
            unfold EntsSay at hsay
            simp only at hsay
            rw [if_pos HDN.out, HEN.out] at hsay
            exact hsay)
          have HEG := Lib.hid (show ∀ x ∈ es, 0 ≤ x.g ∧ x.g < groups from fun x hx => HGE.out x (HSAY.out.1.mem_iff.1 hx))
          have hcode : dealtCode (some (snD l l.length)) P groups es = 0 := by
            have h0 : entsCode (some (snD l l.length)) = 0 := if_pos HDN.out
            unfold dealtCode
            rw [h0, if_neg (by simp), if_neg (by rw [HRT.out]; simp), if_neg]
            simp only [List.any_eq_true, decide_eq_true_eq, not_exists, not_and]
            intro x hx
            have := (HEG.out x hx).2
            omega
          have hres : dealtRes (some (snD l l.length)) P groups es = dealtOf P groups es := by unfold dealtRes; rw [if_pos hcode, Int.toNat_natCast]
          rw [hcode, hres] at he
          rw [hres] at hrv
          subst he
          have hdl : (dealtOf P groups es).length = P := by unfold dealtOf; simp
          have HPR := Lib.hid (dealt_perm (parts := P) (groups := groups) (by omega) HEG.out)
          have HDQ := Lib.hid (show ∀ j (h : j < (dealtOf P groups es).length) x, x ∈ (dealtOf P groups es)[j] → qOf x.g P groups = (j : Nat) ∧ 0 ≤ x.g ∧ x.g < groups from fun j h x hx => by
            have e0 : (dealtOf P groups es)[j] = es.filter (fun y => qOf y.g P groups = (j : Nat)) := by simp [dealtOf]
            rw [e0] at hx
            obtain ⟨h1, h2⟩ := List.mem_filter.1 hx
            exact ⟨by simpa using h2, HEG.out x h1⟩)
          have HSL := Lib.hid (show (dealtOf P groups es).flatten.length ≤ 1000 from by
            rw [HPR.out.length_eq, HSAY.out.1.length_eq]
            have := HFL.out
            omega)
          have HRV := Lib.hid hrv
          have HO8 := Lib.hid (HO.out.keeps (fun k e => hb8.block k (HO.out.lt k e)))
          have HB8 := Lib.hid (show Below w.heap.size w w8 from HB.out.trans (hb8.mono HB.out.size))
          have hfl0 : l.flatten.length ≤ 100000 := by have := HFL.out; omega
          clear hsay hrv hb8 hcode hres HO HB HDL HGE HEN HDN HI HOF HEG HFL HFT
          generalize dealtOf P groups es = D at *
          generalize l.flatten = FL at *
          obtain ⟨al, cl, rfl, -⟩ := HO8.out.form
          have hPP : ((D.length : Int) != (P : Int)) = false := by rw [hdl]; simp
          go_wp2_with fail
          go_loopw [17, 18] (fun gv iv wy => ∃ i : Nat, i ≤ D.length ∧ iv = .int .i64 i ∧ Hid (Owns tEnt wy w8.heap.size 53 gv (D.take i).flatten) ∧ Hid (Below w8.heap.size w8 wy)) (fun _ iv _ => D.length - (intOf iv).toNat)
          case atStart => exact ⟨0, by omega, rfl, Lib.hid (Owns.nil _ _ _ _), Lib.hid (Below.refl _ _)⟩
          case round =>
            obtain ⟨i, hi, rfl, HG, HBY⟩ := hrel
            by_cases hlt : i < D.length
            · obtain ⟨b, o, vi, e, q0, hvi⟩ := row_at (tEntss.mono _ _ _ _ (Mem.le_trans (Mem.on_le _ _) (below_mem HBY.out)) HRV.out) hlt
              subst e
              have d0 : wr.cell? ⟨b, o + i, none⟩ = some vi := q0
              obtain ⟨ai, ki, rfl, hlx, hki, -⟩ := slice_form hvi
              have hki' : ki ≤ 9223372036854775807 := by unfold maxLen at hki; exact hki
              have HVI := Lib.hid hvi
              have HQ0 := Lib.hid q0
              have HTF := Lib.hid (take_flat hlt)
              have HLL := Lib.hid (show (D.take i).flatten.length + D[i].length ≤ 1000 from by
                have h1 := take_flat_le D (i + 1)
                rw [take_flat hlt, List.length_append] at h1
                have := HSL.out
                omega)
              have HQI := Lib.hid (fun x hx => HDQ.out i hlt x hx)
              have HSZ := Lib.hid HBY.out.size
              clear q0 hvi hki
              generalize D[i] = xe at *
              generalize (D.take i).flatten = fl at *
              obtain ⟨ag, cg, rfl, _⟩ := HG.out.len
              go_wp2_with fail
              refine (refRange_any (i : Int) (P : Int) groups wr HRT.out (by omega) (by omega)).mono ?_
              rintro e w9 ⟨rfl, fa, ta, rfl, hin⟩
              have HIN := Lib.hid (fun x hx => hin x.g (HQI.out x hx).2.1 (HQI.out x hx).2.2 (HQI.out x hx).1)
              clear hin HQI
              go_wp2_with fail
              go_loopw [22] (fun nv wx => ∃ n : Nat, n ≤ xe.length ∧ nv = .int .i64 n ∧ wx = wr) (fun nv _ => xe.length - (intOf nv).toNat)
              case atStart => exact ⟨0, by omega, rfl, rfl⟩
              case round =>
                obtain ⟨n, hn, rfl, rfl⟩ := hrel
                by_cases hln : n < xe.length
                · obtain ⟨bx, ox, e, g0, g1, g2, g3, hok⟩ := ent_cells HVI.out hln
                  subst e
                  obtain ⟨h1, h2⟩ := HIN.out _ (List.getElem_mem hln)
                  rename World => wc
                  have f0 : wc.cell? ⟨bx, ox + n * 4, none⟩ = some (.int .i64 xe[n].g) := g0
                  clear g0 g1 g2 g3 hok
                  generalize xe[n] = y at *
                  go_wp2
                  go_roundw
                  case rel => exact ⟨n + 1, by omega, by go_num, trivial⟩
                  case measure => simp [intOf]; omega
                · obtain rfl : n = xe.length := by omega
                  go_wp2_with (at_builtin; refine wpList_append_flat rfl _ _ 35 rfl tEnt_flat tEnt_one Try.underlying35 infoEnt rfl (by decide) w8.heap.size _ fl xe rfl HG.out _ _ _ rfl rfl HVI.out ?c1 ?c2 ?c3 ?_)
                  case c1 => have := HLL.out; unfold maxLen; omega
                  case c2 => have := HLL.out; omega
                  case c3 => exact HSZ.out
                  intro v' w6 own6 hgrow
                  have HB6 := Lib.hid (show Below w8.heap.size w8 w6 from HBY.out.grown hgrow HSZ.out (fun k hk => (HG.out.lt k hk).1))
                  obtain ⟨a6, cap6, rfl, _⟩ := own6.len
                  have HO6 := Lib.hid (show Owns tEnt w6 w8.heap.size 53 (.slice a6 (fl ++ xe).length cap6) (D.take (i + 1)).flatten by
                    rw [HTF.out]
                    exact own6)
                  clear own6 hgrow HG
                  go_wp2
                  go_roundw
                  case rel => exact ⟨i + 1, by omega, by go_num, HO6, HB6⟩
                  case measure => simp [intOf]; omega
            · obtain rfl : i = D.length := by omega
              rw [List.take_length] at HG
              have HPF := Lib.hid (HPR.out.trans HSAY.out.1)
              have HOF := Lib.hid (show ∀ wq, Below wr.heap.size wr wq → tEnts.rv (mem wq) [.slice al FL.length cl] FL from fun wq hq =>
                tEnts.mono _ _ _ _ (below_mem (HBY.out.trans (hq.mono HBY.out.size))) (HO8.out.rv' tEnt_flat))
              have HB9 := Lib.hid (show Below w.heap.size w wr from HB8.out.trans (HBY.out.mono HB8.out.size))
              have hsl := HSL.out
              clear HDQ HRV HPR HSAY HSL HBY HB8 HO8 HLV
              generalize D.flatten = G at *
              obtain ⟨ag, cg, rfl, _⟩ := HG.out.len
              go_wp2_with fail
              refine (sortEnts_any G _ wr HG.out.rv' (by omega)).mono ?_
              rintro e w10 ⟨x, S, rfl, hx, hS, hSp, hb⟩
              have HX := Lib.hid hx
              have HS1 := Lib.hid (And.intro hS hSp)
              have HB10 := Lib.hid hb
              have hx0 := hx
              obtain ⟨ax, kx, rfl, -, -, -⟩ := slice_form hx0
              clear hx hx0 hS hSp hb HG
              go_wp2_with fail
              refine (sortEnts_any FL _ w10 (HOF.out _ HB10.out) hfl0).mono ?_
              rintro e w11 ⟨x2, S2, rfl, hx2, hS2, hSp2, hb2⟩
              obtain rfl : S = S2 := sorted_one (HS1.out.1.trans (HPF.out.trans hS2.symm)) HS1.out.2 hSp2
              have HX2 := Lib.hid (tEnts.mono _ _ _ _ (Mem.on_le _ _) hx2)
              have HX1 := Lib.hid (tEnts.mono _ _ _ _ (Mem.le_trans (Mem.on_le _ _) (below_mem hb2)) HX.out)
              have HB11 := Lib.hid (show Below w.heap.size w w11 from HB9.out.trans ((HB10.out.trans (hb2.mono HB10.out.size)).mono HB9.out.size))
              have hx0 := hx2
              obtain ⟨ax2, kx2, rfl, -, -, -⟩ := slice_form hx0
              clear hx0 hx2 hS2 hSp2 hb2 HX HS1 HB10 HPF HOF
              go_wp2_with fail
              refine (sameEnts_any S _ _ w11 HX1.out HX2.out).mono ?_
              rintro e w12 ⟨rfl, hb⟩
              have HB12 := Lib.hid (show Below w.heap.size w w12 from HB11.out.trans (hb.mono HB11.out.size))
              clear hb
              go_wp2
              go_ret
              exact ⟨rfl, HB12.out⟩
theorem vaultDeals_any (l : List (List Ent)) (v : Value) (parts groups : Int) (w : World) (hv : tEntss.rv (mem w) [v] l) (hpi : inI64 parts) (hgi : inI64 groups) :
    Calls Try.prog 4 #[v, .int .i64 parts, .int .i64 groups] w fun e w' => e = .returned (.bool true) ∧ Below w.heap.size w w' :=
  (vaultDeals_walk l v parts groups w hv hpi hgi).mono fun _ _ h => h
end Go.Proofs.Ytnfolemblnnejaa
namespace Go.Proofs.Ytnfolemblnnejaa.lawVaultDeals
open Go.ChangeShapes Go.WideShapes Go.ChangeAt Go.RowKit
set_option maxRecDepth 100000 in
theorem lifted (os : Os) (started : os.Started) (H : Type) (enc : TypeId × Value → H) :
    ReturnsInHanded {} Try.checked os 4 .any (Rows.vaultDealsSpec.pre6 enc Try.prog Try.f4 Rows.vaultDealsRow.domain false) (Rows.vaultDealsSpec.post enc Try.prog Try.f4 false true false false) := by
  refine returnsInHanded_of_change (C := Try.checked) Try.own started (by kernel_rfl) Try.func4
    (ChangeSpec.witness6 (enc := enc) (C := Try.checked) false ⟨#[], #[.slice none 0 0, .int .i64 0, .int .i64 0], []⟩ 8 (by kernel_rfl) (by kernel_rfl) (by kernel_rfl) (by kernel_rfl)) ?_
  intro W base args ds gs before hval0 hW hcnd _
  have hval : ∀ (j : Nat) t v, Try.f4.params[j]? = some t → args[j]? = some v → Value.okWide Try.prog W .any base t v := hval0
  have hW' := hW
  obtain ⟨p, q, hA0, hV, rfl, hfz, hnd⟩ := hW
  have hA : DataW.TrodAll enc Try.prog W 0 (fun _ => true) true Try.f4.params.toList args.toList ds p := hA0
  rw [Try.params4] at hA hval
  obtain ⟨v0, vs0, d0, ds0, p0, q0, hargs, rfl, rfl, h0, r0⟩ := trodAll_cons hA
  obtain ⟨v1, vs1, d1, ds1, p1, q1, rfl, rfl, rfl, h1, r1⟩ := trodAll_cons r0
  obtain ⟨v2, vs2, d2, ds2, p2, q2, rfl, rfl, rfl, h2, r2⟩ := trodAll_cons r1
  obtain ⟨rfl, rfl, rfl⟩ := trodAll_nil r2
  obtain rfl : args = #[v0, v1, v2] := by cases args; simp_all
  obtain ⟨rfl, rfl⟩ := trodVars_none hV
  obtain ⟨x0, w0⟩ := arg_slice (t := tEnts) (reads_slice Try.underlying49 (by kernel_rfl) (by decide) reads_ents) Try.underlying49 (hval 0 49 v0 rfl rfl) h0
  obtain ⟨n1, rfl, w1⟩ := arg_int Try.underlying3 (hval 1 3 v1 rfl rfl) h1
  obtain ⟨n2, rfl, w2⟩ := arg_int Try.underlying3 (hval 2 3 v2 rfl rfl) h2
  clear hA0 hval0
  refine (vaultDeals_any x0 v0 n1 n2 W w0 w1 w2).mono fun e W' ⟨he, bel⟩ => ?_
  subst he
  exact ⟨_, rfl, law_post Try.laidOut rfl (by rw [Try.params4]; intro t ht; have hs : Try.prog.types.size = Try.prog.types.size := rfl; simp only [List.mem_cons, List.not_mem_nil, or_false] at ht; rcases ht with rfl | rfl | rfl <;> exact ⟨by kernel_rfl, of_decide_eq_true (by kernel_rfl)⟩) (by kernel_rfl) Try.underlying4 rfl rfl rfl hW' bel⟩

theorem proved : Rows.VaultDealsSaid :=
  OpenClaim.holds_of_wide 4 Try.f4 rfl rfl rfl rfl rfl rfl rfl ⟨rfl, rfl, rfl, rfl, rfl⟩ rfl rfl rfl rfl rfl (by kernel_rfl) Try.func4 (by kernel_rfl)
    (of_decide_eq_true (by kernel_rfl)) (by unfold Func.isWrapper; first | (rw [if_pos (by decide +kernel)]; kernel_rfl) | (rw [if_neg (by decide +kernel)]; exact ⟨rfl, rfl⟩))
    (fun os started H enc _ => lifted os started H enc)
#print axioms proved
end Go.Proofs.Ytnfolemblnnejaa.lawVaultDeals
