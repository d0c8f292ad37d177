/- The reference's Format. -/
import Derived.Test.YtkldimaoafgolaaDoorFmt
import Derived.Test.YtkldimaoafgolaaDoorReader
namespace Go.Proofs.YtkldimaoafgolaaDoor
open Go.RowKit

theorem join_snoc (l : List (List UInt8)) (x : List UInt8) (sep : List UInt8) : Lib.join (l ++ [x]) sep = if l = [] then x else Lib.join l sep ++ sep ++ x := by
  induction l with
  | nil => simp [Lib.join_cons, Lib.joinTail]
  | cons y l ih =>
    rw [if_neg (by simp)]
    show Lib.join (y :: (l ++ [x])) sep = _
    rw [Lib.join_cons, Lib.join_cons]
    simp [Lib.joinTail]
def partText (xs : List Col) : List UInt8 := Lib.join (xs.map fun c => (colText c).data.toList) [44, 32]
theorem part_next {xs : List Col} {k : Nat} (hk : k < xs.length) (o : ByteArray) (h : bl o = partText (xs.take k)) : (k = 0 → bl (o ++ xs[k].name ++ ⟨#[32]⟩ ++ kindText xs[k].kind) = partText (xs.take (k + 1))) ∧ (k ≠ 0 → bl (o ++ ⟨#[44, 32]⟩ ++ xs[k].name ++ ⟨#[32]⟩ ++ kindText xs[k].kind) = partText (xs.take (k + 1))) := by
  have e : xs.take (k + 1) = xs.take k ++ [xs[k]] := List.take_succ_eq_append_getElem hk
  have hc : (colText xs[k]).data.toList = bl xs[k].name ++ bl ⟨#[32]⟩ ++ bl (kindText xs[k].kind) := by
    unfold colText
    rw [ByteArray.data_append, ByteArray.data_append]; simp [bl]
  have app : ∀ a b : ByteArray, bl (a ++ b) = bl a ++ bl b := fun a b => by
    show (a ++ b).data.toList = _
    rw [ByteArray.data_append]; simp [bl]
  refine ⟨fun h0 => ?_, fun h0 => ?_⟩
  · subst h0
    unfold partText at h ⊢
    rw [e, List.map_append, List.map_cons, List.map_nil, join_snoc, if_pos (by simp), app, app, app, h, hc]
    simp [Lib.join]
  · unfold partText at h ⊢
    rw [e, List.map_append, List.map_cons, List.map_nil, join_snoc, if_neg (fun hn => by have := congrArg List.length hn; rw [List.length_map, List.length_take, List.length_nil] at this; omega), app, app, app, app, h, hc]
    simp [bl]
set_option maxRecDepth 100000 in
set_option maxHeartbeats 4000000 in
theorem refFormat_any (xs : List Col) (v : Value) (w : World) (hv : tSchema.rv (mem w) [v] xs) :
    Calls Tryd.prog 43 #[v] w fun e w' => e = .returned (.string ⟨(schemaText xs).toArray⟩) ∧ Below w.heap.size w w' := by
  have HV := Lib.hid (refValidSchema_any xs v w hv)
  obtain ⟨a, cap, rfl, hl, hm, hv⟩ := slice_form hv
  have hcap : cap ≤ 9223372036854775807 := by unfold maxLen at hm; exact hm
  clear hm
  have HT := Lib.hid (show schemaText xs = if validSchema xs = true then partText xs else [] from rfl)
  have HA := Lib.hid (schema_parts (s := xs))
  generalize validSchema xs = r at HV HT HA
  go_enter Tryd.func43, Tryd.ntmps43
  go_wp2_with fail
  refine HV.out.mono ?_
  rintro e w1 ⟨rfl, hB1⟩
  cases r
  · go_wp2
    go_ret
    exact ⟨by rw [HT.out]; rfl, hB1⟩
  · obtain ⟨h1, h8, hall⟩ := HA.out rfl
    have HALL := Lib.hid hall
    clear hall HA HV
    go_wp2
    go_loopw [3, 4] (fun ov i wr => ∃ (k : Nat) (o : ByteArray), k ≤ xs.length ∧ i = .int .i64 k ∧ ov = .string o ∧ Hid (bl o = partText (xs.take k)) ∧ Below w.heap.size w wr ∧ o.size ≤ 100 * k) (fun _ i _ => xs.length - (intOf i).toNat)
    case atStart => exact ⟨0, ⟨#[]⟩, by omega, rfl, rfl, Lib.hid rfl, hB1, by show 0 ≤ _; omega⟩
    case round =>
      obtain ⟨k, o, hk, rfl, rfl, HO, hB, hos⟩ := hrel
      by_cases hlt : k < xs.length
      · obtain ⟨b, o', rfl, hat⟩ := slice_at hv hlt
        have hat := tCol.at_mono (below_mem hB) hat
        obtain ⟨c0, c1, i0, i1⟩ := col_at hat
        have c0 : wr.cell? ⟨b, o' + k * 2, none⟩ = some (.string xs[k].name) := c0
        have c1 : wr.cell? ⟨b, o' + k * 2 + 1, none⟩ = some (.int .i64 xs[k].kind) := c1
        obtain ⟨hname, hk1, hk2⟩ := HALL.out _ (List.getElem_mem hlt)
        have hsize := (isName_size hname).2
        have HN := Lib.hid (part_next hlt o HO.out)
        clear hat hv hname HO
        generalize xs[k] = x at *
        obtain ⟨nm, xk⟩ := x
        simp only at c0 c1 i0 i1 hk1 hk2 hsize HN
        have hkk : xk = 1 ∨ xk = 2 := by omega
        have z1 : (⟨#[44, 32]⟩ : ByteArray).size = 2 := rfl
        have z2 : (⟨#[32]⟩ : ByteArray).size = 1 := rfl
        have z3 : (⟨#[105, 110, 116]⟩ : ByteArray).size = 3 := rfl
        have z4 : (⟨#[116, 101, 120, 116]⟩ : ByteArray).size = 4 := rfl
        by_cases h0 : k = 0
        · have q0 : ¬ (0 : Int) < (k : Int) := by omega
          have HN0 := Lib.hid (HN.out.1 h0)
          clear HN h0
          rcases hkk with rfl | rfl
          · have e1 : kindText 1 = ⟨#[105, 110, 116]⟩ := rfl
            rw [e1] at HN0
            go_wp2
            go_roundw
            case rel => exact ⟨k + 1, _, by omega, by go_num, rfl, HN0, hB, by simp only [ByteArray.size_append, z1, z2, z3, z4]; omega⟩
            case measure => simp [intOf]; omega
          · have e1 : kindText 2 = ⟨#[116, 101, 120, 116]⟩ := rfl
            rw [e1] at HN0
            go_wp2
            go_roundw
            case rel => exact ⟨k + 1, _, by omega, by go_num, rfl, HN0, hB, by simp only [ByteArray.size_append, z1, z2, z3, z4]; omega⟩
            case measure => simp [intOf]; omega
        · have q0 : (0 : Int) < (k : Int) := by omega
          have HN1 := Lib.hid (HN.out.2 h0)
          clear HN h0
          rcases hkk with rfl | rfl
          · have e1 : kindText 1 = ⟨#[105, 110, 116]⟩ := rfl
            rw [e1] at HN1
            go_wp2
            go_roundw
            case rel => exact ⟨k + 1, _, by omega, by go_num, rfl, HN1, hB, by simp only [ByteArray.size_append, z1, z2, z3, z4]; omega⟩
            case measure => simp [intOf]; omega
          · have e1 : kindText 2 = ⟨#[116, 101, 120, 116]⟩ := rfl
            rw [e1] at HN1
            go_wp2
            go_roundw
            case rel => exact ⟨k + 1, _, by omega, by go_num, rfl, HN1, hB, by simp only [ByteArray.size_append, z1, z2, z3, z4]; omega⟩
            case measure => simp [intOf]; omega
      · obtain rfl : k = xs.length := by omega
        have hD := HO.out
        rw [List.take_length] at hD
        have HD := Lib.hid (show (⟨(partText xs).toArray⟩ : ByteArray) = o from bl_inj hD.symm)
        clear HO hD
        go_wp2
        go_ret
        exact ⟨by rw [HT.out, if_pos trivial, HD.out]; rfl, hB⟩
end Go.Proofs.YtkldimaoafgolaaDoor
