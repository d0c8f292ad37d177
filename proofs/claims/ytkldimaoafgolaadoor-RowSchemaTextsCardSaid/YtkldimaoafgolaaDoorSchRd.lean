/- The reference's ParseSchema, walked. -/
import Derived.Test.YtkldimaoafgolaaDoorSchPlain
namespace Go.Proofs.YtkldimaoafgolaaDoor
open Go.RowKit

def SchOut (t : ByteArray) (w : World) (e : Ending) (w' : World) : Prop :=
  Below w.heap.size w w' ∧
    ((65536 < t.size ∧ e = .returned (.tuple #[.slice none 0 0, .int .i64 3])) ∨
     (t.size ≤ 65536 ∧ (∀ s, ¬ IsSch s t) ∧ e = .returned (.tuple #[.slice none 0 0, .int .i64 2])) ∨
     (t.size ≤ 65536 ∧ ∃ s v, (IsSch s t ∧ ∀ r, IsSch r t → r = s) ∧ e = .returned (.tuple #[v, .int .i64 0]) ∧ tSchema.rv ((mem w').on (w.heap.size ≤ ·)) [v] s))
theorem isSch_text {s : List Col} {t : ByteArray} (h : bl t = schemaText s) (hz : t.size ≠ 0) : IsSch s t := by
  refine ⟨?_, h⟩
  cases hv : validSchema s with
  | true => rfl
  | false =>
    unfold schemaText at h
    rw [hv] at h
    exact absurd (List.length_eq_zero_iff.2 h) hz
theorem okCol_int {wd : ByteArray} (h4 : 4 < wd.size) (ht : bl (wd.extract (wd.size - 4) wd.size) = [32, 105, 110, 116]) : ∀ d, okCol d → bl wd = colL d → (⟨wd.extract 0 (wd.size - 4), 1⟩ : Col) = d := fun d hd h => by
  rcases word_col hd h with ⟨k, _, _, hn⟩ | ⟨_, _, hn, _⟩
  · exact col_eq hn k
  · exact absurd ht hn
theorem okCol_text {wd : ByteArray} (h5 : 5 < wd.size) (hn4 : ¬ bl (wd.extract (wd.size - 4) wd.size) = [32, 105, 110, 116]) : ∀ d, okCol d → bl wd = colL d → (⟨wd.extract 0 (wd.size - 5), 2⟩ : Col) = d := fun d hd h => by
  rcases word_col hd h with ⟨_, _, h1, _⟩ | ⟨k, _, _, _, hn⟩
  · exact absurd h1 hn4
  · exact col_eq hn k
theorem okCol_none {wd : ByteArray} (hn4 : ¬ (4 < wd.size ∧ bl (wd.extract (wd.size - 4) wd.size) = [32, 105, 110, 116])) (hn5 : ¬ (5 < wd.size ∧ bl (wd.extract (wd.size - 5) wd.size) = [32, 116, 101, 120, 116])) : ∀ d, okCol d → bl wd ≠ colL d := fun d hd h => by
  rcases word_col hd h with ⟨_, h4, h1, _⟩ | ⟨_, h5, _, h1, _⟩
  · exact hn4 ⟨h4, h1⟩
  · exact hn5 ⟨h5, h1⟩
theorem bl_snoc (wd t : ByteArray) (k : Nat) (h : k < t.size) : bl (wd ++ t.extract k (k + 1)) = bl wd ++ [t[k]] := by
  show (wd ++ t.extract k (k + 1)).data.toList = _
  rw [ByteArray.data_append, Array.toList_append]
  congr 1
  have := bl_extract t k (k + 1)
  rw [bl_get t k h] at this
  rw [show k + 1 - k = 1 by omega] at this
  exact this
theorem in_one : inI64 1 := by unfold inI64; decide
theorem in_two : inI64 2 := by unfold inI64; decide
theorem infoCol2 : (Tryd.prog.info? 69).map (fun i => (i.zero, i.size, i.bytes)) = some (some (.agg #[.string .empty, .int .i64 0]), tCol.sz, 24) := by kernel_rfl
theorem emptyStr {s : ByteArray} (h : s.size = 0) : s.toList.isEmpty = true := by
  rw [← decide_eq_emptyBytes]
  exact decide_eq_true (bl_inj (List.length_eq_zero_iff.1 h))
theorem fullStr {s : ByteArray} (h : s.size ≠ 0) : s.toList.isEmpty = false := by
  rw [← decide_eq_emptyBytes]
  exact decide_eq_false (fun e => h (by rw [e]; rfl))

set_option maxRecDepth 100000 in
set_option maxHeartbeats 8000000 in
theorem refParseSchema_any (t : ByteArray) (w : World) (hs : t.size ≤ 200000) :
    Calls Tryd.prog 45 #[.string t] w (SchOut t w) := by
  go_enter Tryd.func45, Tryd.ntmps45
  by_cases h64 : 65536 < t.size
  · have h64i : (65536 : Int) < (t.size : Int) := by omega
    go_wp2
    go_ret2
    exact ⟨Below.refl _ _, .inl ⟨h64, rfl⟩⟩
  have h64i : (t.size : Int) ≤ 65536 := by omega
  have H64 := Lib.hid h64
  clear h64
  have HC0 := Lib.hid (SCond.start t)
  go_wp2
  go_loopw [4, 5, 6] (fun ov wv iv wr => ∃ (outs : List Col) (wd : ByteArray) (k : Nat), k ≤ t.size + 1 ∧ iv = .int .i64 k ∧ wv = .string wd ∧ wd.size ≤ k ∧ outs.length ≤ k ∧ (0 < k → t.size < 300) ∧ Owns tCol wr w.heap.size 69 ov outs ∧ Hid (Below w.heap.size w wr) ∧ Hid (SCond t outs (bl wd) k)) (fun _ _ iv _ => t.size + 1 - (intOf iv).toNat)
  case atStart => exact ⟨[], ⟨#[]⟩, 0, by omega, rfl, rfl, by show 0 ≤ _; omega, by simp, fun h => absurd h (by omega), Owns.nil _ _ _ _, Lib.hid (Below.refl _ _), HC0⟩
  case round =>
    clear HC0
    obtain ⟨outs, wd, k, hk, rfl, rfl, hwd, hol, h300, hown, HB, HC⟩ := hrel
    by_cases hgo : k ≤ t.size ∧ t.size < 300
    · obtain ⟨hkt, ht3⟩ := hgo
      clear h300
      have q1 : (k : Int) ≤ (t.size : Int) := by omega
      have q2 : (t.size : Int) < 300 := by omega
      by_cases hch : ∃ h : k < t.size, t[k].toNat ≠ 44
      · obtain ⟨hlt, h44⟩ := hch
        have h44f : ((t[k].toNat : Int) != 44) = true := by simp; omega
        have HCH := Lib.hid (HC.out.char hlt h44)
        have hmc : t[k].toNat < 256 := UInt8.toNat_lt _
        by_cases h32 : t[k].toNat = 32
        · have h32f : ((t[k].toNat : Int) != 32) = false := by simp; omega
          by_cases hwz : wd.size = 0
          · have hem := emptyStr hwz
            have HC2 := Lib.hid ((HCH.out).2 h32 (List.length_eq_zero_iff.1 hwz))
            have HWD := Lib.hid (show bl wd = [] from List.length_eq_zero_iff.1 hwz)
            go_wp2
            go_roundw
            case rel => exact ⟨outs, wd, k + 1, by omega, by go_num, rfl, by omega, by omega, fun _ => ht3, hown, HB, Lib.hid (by rw [HWD.out]; exact HC2.out)⟩
            case measure => simp [intOf]; omega
          · have hem := fullStr hwz
            have HC2 := Lib.hid ((HCH.out).1 (.inr (fun h => hwz (List.length_eq_zero_iff.2 h))))
            have HSN := Lib.hid (bl_snoc wd t k hlt)
            have hsz : (wd ++ t.extract k (k + 1)).size = wd.size + 1 := by rw [ByteArray.size_append, ByteArray.size_extract]; omega
            have HSZ := Lib.hid hsz
            clear hsz
            go_wp2
            go_roundw
            case rel => exact ⟨outs, _, k + 1, by omega, by go_num, rfl, by rw [HSZ.out]; omega, by omega, fun _ => ht3, hown, HB, Lib.hid (by rw [HSN.out]; exact HC2.out)⟩
            case measure => simp [intOf]; omega
        · have h32f : ((t[k].toNat : Int) != 32) = true := by simp; omega
          have HC2 := Lib.hid ((HCH.out).1 (.inl h32))
          have HSN := Lib.hid (bl_snoc wd t k hlt)
          have hsz : (wd ++ t.extract k (k + 1)).size = wd.size + 1 := by rw [ByteArray.size_append, ByteArray.size_extract]; omega
          have HSZ := Lib.hid hsz
          clear hsz
          go_wp2
          go_roundw
          case rel => exact ⟨outs, _, k + 1, by omega, by go_num, rfl, by rw [HSZ.out]; omega, by omega, fun _ => ht3, hown, HB, Lib.hid (by rw [HSN.out]; exact HC2.out)⟩
          case measure => simp [intOf]; omega
      · have hst : k = t.size ∨ ∃ h : k < t.size, t[k].toNat = 44 := by
          by_cases hlt : k < t.size
          · refine .inr ⟨hlt, ?_⟩
            by_cases h : t[k].toNat = 44
            · exact h
            · exact absurd ⟨hlt, h⟩ hch
          · exact .inl (by omega)
        have HST := Lib.hid hst
        clear hch
        have HTL := Lib.hid (show SCond t outs (bl wd) k from HC.out)
        clear HC
        have hwl : wd.size ≤ 300 := by omega
        have hol3 : outs.length ≤ 300 := by omega
        rcases hst with hend | ⟨hlt, h44⟩
        · have q3 : (t.size : Int) ≤ (k : Int) := by omega
          clear hend
          by_cases h4 : 4 < wd.size
          · have q4 : (4 : Int) < (wd.size : Int) := by omega
            by_cases ht4 : bl (wd.extract (wd.size - 4) wd.size) = [32, 105, 110, 116]
            · have e4 : ((wd.extract (wd.size - 4) wd.size).toList == [32, 105, 110, 116]) = true := by rw [Lib.toList_data]; exact beq_iff_eq.2 ht4
              have HT4 := Lib.hid ht4
              clear ht4
              have HCN := Lib.hid (HTL.out.add HST.out (okCol_int h4 HT4.out))
              have hxs : (wd.extract 0 (wd.size - 4)).size ≤ 300 := by rw [ByteArray.size_extract]; omega
              clear HTL
              go_wp2_with (at_builtin; refine wpList_append_one rfl _ _ 23 rfl tCol Tryd.underlying23 infoCol2 rfl (by decide) w.heap.size _ outs rfl (hown.alloc _) _ _ (⟨wd.extract 0 (wd.size - 4), 1⟩ : Col) rfl [.string (wd.extract 0 (wd.size - 4)), .int .i64 1] ?c1 ⟨rfl, by unfold maxLen; show (wd.extract 0 (wd.size - 4)).size ≤ _; omega, in_one⟩ ?c2 ?c3 ?c4 ?c5 ?_)
              case c1 => exact fun j u hj => by match j, hj with | 0, hj => simp at hj; subst hj; simp [mem] | 1, hj => simp at hj; subst hj; simp [mem]
              case c2 => intro u hu; simp at hu; rcases hu with rfl | rfl <;> rfl
              case c3 => unfold maxLen; omega
              case c4 => omega
              case c5 => have := HB.out.size; simp; omega
              intro v' w3 own3 hgrow _
              have HB3 := Lib.hid ((HB.out.alloc HB.out.size _).grown hgrow (by have := HB.out.size; simp; omega) (fun k hk => (hown.lt k hk).1))
              have hl3 : (outs ++ [(⟨wd.extract 0 (wd.size - 4), 1⟩ : Col)]).length ≤ k + 1 := by simp; omega
              generalize outs ++ [(⟨wd.extract 0 (wd.size - 4), 1⟩ : Col)] = outs3 at own3 HCN hl3
              clear hown hgrow hxs
              go_wp2
              go_roundw
              case rel => exact ⟨outs3, ⟨#[]⟩, k + 1, by omega, by go_num, rfl, by show 0 ≤ _; omega, hl3, fun _ => ht3, own3, HB3, HCN⟩
              case measure => simp [intOf]; omega
            · have e4 : ((wd.extract (wd.size - 4) wd.size).toList == [32, 105, 110, 116]) = false := by rw [Lib.toList_data]; exact beq_eq_false_iff_ne.2 ht4
              have HT4 := Lib.hid ht4
              clear ht4
              by_cases h5 : 5 < wd.size
              · have q5 : (5 : Int) < (wd.size : Int) := by omega
                by_cases ht5 : bl (wd.extract (wd.size - 5) wd.size) = [32, 116, 101, 120, 116]
                · have e5 : ((wd.extract (wd.size - 5) wd.size).toList == [32, 116, 101, 120, 116]) = true := by rw [Lib.toList_data]; exact beq_iff_eq.2 ht5
                  clear ht5
                  have HCN := Lib.hid (HTL.out.add HST.out (okCol_text h5 HT4.out))
                  have hxs : (wd.extract 0 (wd.size - 5)).size ≤ 300 := by rw [ByteArray.size_extract]; omega
                  clear HTL
                  go_wp2_with (at_builtin; refine wpList_append_one rfl _ _ 23 rfl tCol Tryd.underlying23 infoCol2 rfl (by decide) w.heap.size _ outs rfl (hown.alloc _) _ _ (⟨wd.extract 0 (wd.size - 5), 2⟩ : Col) rfl [.string (wd.extract 0 (wd.size - 5)), .int .i64 2] ?c1 ⟨rfl, by unfold maxLen; show (wd.extract 0 (wd.size - 5)).size ≤ _; omega, in_two⟩ ?c2 ?c3 ?c4 ?c5 ?_)
                  case c1 => exact fun j u hj => by match j, hj with | 0, hj => simp at hj; subst hj; simp [mem] | 1, hj => simp at hj; subst hj; simp [mem]
                  case c2 => intro u hu; simp at hu; rcases hu with rfl | rfl <;> rfl
                  case c3 => unfold maxLen; omega
                  case c4 => omega
                  case c5 => have := HB.out.size; simp; omega
                  intro v' w3 own3 hgrow _
                  have HB3 := Lib.hid ((HB.out.alloc HB.out.size _).grown hgrow (by have := HB.out.size; simp; omega) (fun k hk => (hown.lt k hk).1))
                  have hl3 : (outs ++ [(⟨wd.extract 0 (wd.size - 5), 2⟩ : Col)]).length ≤ k + 1 := by simp; omega
                  generalize outs ++ [(⟨wd.extract 0 (wd.size - 5), 2⟩ : Col)] = outs3 at own3 HCN hl3
                  clear hown hgrow hxs
                  go_wp2
                  go_roundw
                  case rel => exact ⟨outs3, ⟨#[]⟩, k + 1, by omega, by go_num, rfl, by show 0 ≤ _; omega, hl3, fun _ => ht3, own3, HB3, HCN⟩
                  case measure => simp [intOf]; omega
                · have e5 : ((wd.extract (wd.size - 5) wd.size).toList == [32, 116, 101, 120, 116]) = false := by rw [Lib.toList_data]; exact beq_eq_false_iff_ne.2 ht5
                  have HNN := Lib.hid (okCol_none (fun h => HT4.out h.2) (fun h => ht5 h.2))
                  clear ht5
                  have HCN := Lib.hid (HTL.out.none HST.out HNN.out)
                  clear HTL
                  go_wp2
                  go_roundw
                  case rel => exact ⟨outs, ⟨#[]⟩, k + 1, by omega, by go_num, rfl, by show 0 ≤ _; omega, by omega, fun _ => ht3, hown, HB, HCN⟩
                  case measure => simp [intOf]; omega
              · have q5 : (wd.size : Int) ≤ 5 := by omega
                have HNN := Lib.hid (okCol_none (fun h => HT4.out h.2) (fun h => h5 h.1))
                have HCN := Lib.hid (HTL.out.none HST.out HNN.out)
                clear HTL
                go_wp2
                go_roundw
                case rel => exact ⟨outs, ⟨#[]⟩, k + 1, by omega, by go_num, rfl, by show 0 ≤ _; omega, by omega, fun _ => ht3, hown, HB, HCN⟩
                case measure => simp [intOf]; omega
          · have q4 : (wd.size : Int) ≤ 4 := by omega
            have q5 : (wd.size : Int) ≤ 5 := by omega
            have HNN := Lib.hid (okCol_none (fun h => h4 h.1) (fun h => by omega))
            have HCN := Lib.hid (HTL.out.none HST.out HNN.out)
            clear HTL
            go_wp2
            go_roundw
            case rel => exact ⟨outs, ⟨#[]⟩, k + 1, by omega, by go_num, rfl, by show 0 ≤ _; omega, by omega, fun _ => ht3, hown, HB, HCN⟩
            case measure => simp [intOf]; omega
        · have h44f : ((t[k].toNat : Int) != 44) = false := by simp; omega
          by_cases h4 : 4 < wd.size
          · have q4 : (4 : Int) < (wd.size : Int) := by omega
            by_cases ht4 : bl (wd.extract (wd.size - 4) wd.size) = [32, 105, 110, 116]
            · have e4 : ((wd.extract (wd.size - 4) wd.size).toList == [32, 105, 110, 116]) = true := by rw [Lib.toList_data]; exact beq_iff_eq.2 ht4
              have HT4 := Lib.hid ht4
              clear ht4
              have HCN := Lib.hid (HTL.out.add HST.out (okCol_int h4 HT4.out))
              have hxs : (wd.extract 0 (wd.size - 4)).size ≤ 300 := by rw [ByteArray.size_extract]; omega
              clear HTL
              go_wp2_with (at_builtin; refine wpList_append_one rfl _ _ 23 rfl tCol Tryd.underlying23 infoCol2 rfl (by decide) w.heap.size _ outs rfl (hown.alloc _) _ _ (⟨wd.extract 0 (wd.size - 4), 1⟩ : Col) rfl [.string (wd.extract 0 (wd.size - 4)), .int .i64 1] ?c1 ⟨rfl, by unfold maxLen; show (wd.extract 0 (wd.size - 4)).size ≤ _; omega, in_one⟩ ?c2 ?c3 ?c4 ?c5 ?_)
              case c1 => exact fun j u hj => by match j, hj with | 0, hj => simp at hj; subst hj; simp [mem] | 1, hj => simp at hj; subst hj; simp [mem]
              case c2 => intro u hu; simp at hu; rcases hu with rfl | rfl <;> rfl
              case c3 => unfold maxLen; omega
              case c4 => omega
              case c5 => have := HB.out.size; simp; omega
              intro v' w3 own3 hgrow _
              have HB3 := Lib.hid ((HB.out.alloc HB.out.size _).grown hgrow (by have := HB.out.size; simp; omega) (fun k hk => (hown.lt k hk).1))
              have hl3 : (outs ++ [(⟨wd.extract 0 (wd.size - 4), 1⟩ : Col)]).length ≤ k + 1 := by simp; omega
              generalize outs ++ [(⟨wd.extract 0 (wd.size - 4), 1⟩ : Col)] = outs3 at own3 HCN hl3
              clear hown hgrow hxs
              go_wp2
              go_roundw
              case rel => exact ⟨outs3, ⟨#[]⟩, k + 1, by omega, by go_num, rfl, by show 0 ≤ _; omega, hl3, fun _ => ht3, own3, HB3, HCN⟩
              case measure => simp [intOf]; omega
            · have e4 : ((wd.extract (wd.size - 4) wd.size).toList == [32, 105, 110, 116]) = false := by rw [Lib.toList_data]; exact beq_eq_false_iff_ne.2 ht4
              have HT4 := Lib.hid ht4
              clear ht4
              by_cases h5 : 5 < wd.size
              · have q5 : (5 : Int) < (wd.size : Int) := by omega
                by_cases ht5 : bl (wd.extract (wd.size - 5) wd.size) = [32, 116, 101, 120, 116]
                · have e5 : ((wd.extract (wd.size - 5) wd.size).toList == [32, 116, 101, 120, 116]) = true := by rw [Lib.toList_data]; exact beq_iff_eq.2 ht5
                  clear ht5
                  have HCN := Lib.hid (HTL.out.add HST.out (okCol_text h5 HT4.out))
                  have hxs : (wd.extract 0 (wd.size - 5)).size ≤ 300 := by rw [ByteArray.size_extract]; omega
                  clear HTL
                  go_wp2_with (at_builtin; refine wpList_append_one rfl _ _ 23 rfl tCol Tryd.underlying23 infoCol2 rfl (by decide) w.heap.size _ outs rfl (hown.alloc _) _ _ (⟨wd.extract 0 (wd.size - 5), 2⟩ : Col) rfl [.string (wd.extract 0 (wd.size - 5)), .int .i64 2] ?c1 ⟨rfl, by unfold maxLen; show (wd.extract 0 (wd.size - 5)).size ≤ _; omega, in_two⟩ ?c2 ?c3 ?c4 ?c5 ?_)
                  case c1 => exact fun j u hj => by match j, hj with | 0, hj => simp at hj; subst hj; simp [mem] | 1, hj => simp at hj; subst hj; simp [mem]
                  case c2 => intro u hu; simp at hu; rcases hu with rfl | rfl <;> rfl
                  case c3 => unfold maxLen; omega
                  case c4 => omega
                  case c5 => have := HB.out.size; simp; omega
                  intro v' w3 own3 hgrow _
                  have HB3 := Lib.hid ((HB.out.alloc HB.out.size _).grown hgrow (by have := HB.out.size; simp; omega) (fun k hk => (hown.lt k hk).1))
                  have hl3 : (outs ++ [(⟨wd.extract 0 (wd.size - 5), 2⟩ : Col)]).length ≤ k + 1 := by simp; omega
                  generalize outs ++ [(⟨wd.extract 0 (wd.size - 5), 2⟩ : Col)] = outs3 at own3 HCN hl3
                  clear hown hgrow hxs
                  go_wp2
                  go_roundw
                  case rel => exact ⟨outs3, ⟨#[]⟩, k + 1, by omega, by go_num, rfl, by show 0 ≤ _; omega, hl3, fun _ => ht3, own3, HB3, HCN⟩
                  case measure => simp [intOf]; omega
                · have e5 : ((wd.extract (wd.size - 5) wd.size).toList == [32, 116, 101, 120, 116]) = false := by rw [Lib.toList_data]; exact beq_eq_false_iff_ne.2 ht5
                  have HNN := Lib.hid (okCol_none (fun h => HT4.out h.2) (fun h => ht5 h.2))
                  clear ht5
                  have HCN := Lib.hid (HTL.out.none HST.out HNN.out)
                  clear HTL
                  go_wp2
                  go_roundw
                  case rel => exact ⟨outs, ⟨#[]⟩, k + 1, by omega, by go_num, rfl, by show 0 ≤ _; omega, by omega, fun _ => ht3, hown, HB, HCN⟩
                  case measure => simp [intOf]; omega
              · have q5 : (wd.size : Int) ≤ 5 := by omega
                have HNN := Lib.hid (okCol_none (fun h => HT4.out h.2) (fun h => h5 h.1))
                have HCN := Lib.hid (HTL.out.none HST.out HNN.out)
                clear HTL
                go_wp2
                go_roundw
                case rel => exact ⟨outs, ⟨#[]⟩, k + 1, by omega, by go_num, rfl, by show 0 ≤ _; omega, by omega, fun _ => ht3, hown, HB, HCN⟩
                case measure => simp [intOf]; omega
          · have q4 : (wd.size : Int) ≤ 4 := by omega
            have q5 : (wd.size : Int) ≤ 5 := by omega
            have HNN := Lib.hid (okCol_none (fun h => h4 h.1) (fun h => by omega))
            have HCN := Lib.hid (HTL.out.none HST.out HNN.out)
            clear HTL
            go_wp2
            go_roundw
            case rel => exact ⟨outs, ⟨#[]⟩, k + 1, by omega, by go_num, rfl, by show 0 ≤ _; omega, by omega, fun _ => ht3, hown, HB, HCN⟩
            case measure => simp [intOf]; omega
    · have HD := Lib.hid (HC.out.done (by by_cases h : t.size < k <;> omega))
      have hex : ¬ ((k : Int) ≤ (t.size : Int) ∧ (t.size : Int) < 300) := by omega
      clear HC
      have HO := Lib.hid hown
      obtain ⟨ao, co, rfl, hml⟩ := hown.len
      by_cases hz : t.size = 0
      · have hem := emptyStr hz
        have q1 : (t.size : Int) < (k : Int) := by omega
        have HNO := Lib.hid (show ∀ s, ¬ IsSch s t from fun s hs => by have := hs.small.1; omega)
        go_wp2
        try rw [Exit.noGoto_ret]
        go_ret2
        exact ⟨HB.out, .inr (.inl ⟨by have := H64.out; omega, HNO.out, rfl⟩)⟩
      · have hem := fullStr hz
        have HX := Lib.hid (refFormat_any outs _ _ HO.out.rv')
        have HZ := Lib.hid hz
        clear hz
        have hexit : (t.size : Int) < (k : Int) ∨ ((k : Int) ≤ (t.size : Int) ∧ 300 ≤ (t.size : Int)) := by omega
        clear hex hgo
        rcases hexit with q1 | ⟨q1, q2⟩
        all_goals
          go_wp2_with fail
          refine HX.out.mono ?_
          rintro e w8 ⟨rfl, hb8⟩
          have HB8 := Lib.hid (pure_trans HB.out hb8)
          have HO8 := Lib.hid (HO.out.keeps hb8)
          clear hb8 HX
          by_cases heq : bl t = schemaText outs
          · have HR := Lib.hid (isSch_text heq HZ.out)
            rw [show (⟨(schemaText outs).toArray⟩ : ByteArray) = t from bl_inj heq.symm]
            clear heq
            go_wp2
            go_ret2
            exact ⟨HB8.out, .inr (.inr ⟨by have := H64.out; omega, _, _, ⟨HR.out, fun r hr => (HD.out r hr).symm⟩, rfl, HO8.out.rv (S := fun b => w.heap.size ≤ b) (fun b hb => by omega) (fun _ _ _ h => h)⟩)⟩
          · have HR := Lib.hid (show ∀ s, ¬ IsSch s t from fun s hs => heq (by have := HD.out s hs; subst this; exact hs.2))
            have hne : (schemaText outs == t.toList) = false := by
              rw [Lib.toList_data]
              exact beq_eq_false_iff_ne.2 (fun e => heq e.symm)
            clear heq
            go_wp2
            go_ret2
            exact ⟨HB8.out, .inr (.inl ⟨by have := H64.out; omega, HR.out, rfl⟩)⟩
end Go.Proofs.YtkldimaoafgolaaDoor
