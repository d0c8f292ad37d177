/- Both Format. -/
import Derived.Test.YtkldimaoafgolaaDoorText
import Derived.Test.YtkldimaoafgolaaDoorStep
import Derived.Test.YtkldimaoafgolaaDoorSchemaR
import Derived.Deep.RegionLaw
import Derived.Deep.Cut
import Derived.Deep.RegionHeld3
namespace Go.Proofs.YtkldimaoafgolaaDoor
open Go.RowKit

def kindText (k : Int) : ByteArray := if k = 1 then ⟨#[105, 110, 116]⟩ else ⟨#[116, 101, 120, 116]⟩
def colText (c : Col) : ByteArray := c.name ++ ⟨#[32]⟩ ++ kindText c.kind
def schemaText (s : List Col) : List UInt8 := if validSchema s = true then Lib.join (s.map fun c => (colText c).data.toList) [44, 32] else []
theorem schema_parts {s : List Col} (h : validSchema s = true) : 1 ≤ s.length ∧ s.length ≤ 8 ∧ ∀ c ∈ s, isName c.name = true ∧ 1 ≤ c.kind ∧ c.kind ≤ 2 := by
  refine ⟨(validSchema_len h).1, (validSchema_len h).2, fun c hc => ?_⟩
  obtain ⟨i, hi, rfl⟩ := List.getElem_of_mem hc
  have := validSchema_step h hi
  rw [stepOk_at hi] at this
  simp only [Bool.and_eq_true, decide_eq_true_eq] at this
  exact ⟨this.1.1, this.1.2.1, this.1.2.2⟩
theorem kind_at1 (w : World) : (Instr.index 87 (.agg #[.string ⟨#[]⟩, .string ⟨#[105, 110, 116]⟩, .string ⟨#[116, 101, 120, 116]⟩]) (.int .i64 1)).run Tryd.prog w = .ok (.string ⟨#[105, 110, 116]⟩) w := by kernel_rfl
theorem kind_at2 (w : World) : (Instr.index 87 (.agg #[.string ⟨#[]⟩, .string ⟨#[105, 110, 116]⟩, .string ⟨#[116, 101, 120, 116]⟩]) (.int .i64 2)).run Tryd.prog w = .ok (.string ⟨#[116, 101, 120, 116]⟩) w := by kernel_rfl
theorem colText_size (c : Col) (h : c.name.size ≤ 16) : (colText c).size ≤ 21 := by
  unfold colText
  rw [ByteArray.size_append, ByteArray.size_append]
  have : (kindText c.kind).size ≤ 4 := by unfold kindText; split <;> decide
  show c.name.size + 1 + _ ≤ _
  omega
set_option maxRecDepth 100000 in
set_option maxHeartbeats 4000000 in
theorem rowFormat_any (xs : List Col) (v : Value) (w : World) (hv : tSchema.rv (mem w) [v] xs) :
    Calls Tryd.prog 42 #[v] w fun e w' => e = .returned (.string ⟨(schemaText xs).toArray⟩) ∧ Below w.heap.size w w' := by
  have HV := Lib.hid (rowValidSchema_any xs v w hv)
  obtain ⟨a, cap, rfl, hl, hm, hv⟩ := slice_form hv
  have hcap : cap ≤ 9223372036854775807 := by unfold maxLen at hm; exact hm
  clear hm
  have HT := Lib.hid (show schemaText xs = if validSchema xs = true then Lib.join (xs.map fun c => (colText c).data.toList) [44, 32] else [] from rfl)
  have HA := Lib.hid (schema_parts (s := xs))
  generalize validSchema xs = r at HV HT HA
  go_enter Tryd.func42, Tryd.ntmps42
  go_wp2_with fail
  refine HV.out.mono ?_
  rintro e w1 ⟨rfl, hB1⟩
  cases r
  · go_wp2
    go_ret
    exact ⟨by rw [HT.out]; rfl, hB1⟩
  · obtain ⟨h1, h8, hall⟩ := HA.out rfl
    have HALL := Lib.hid hall
    clear hall HA HV
    go_wp2
    go_loopw [3, 11] (fun ov i wr => ∃ k : Nat, k ≤ xs.length ∧ i = .int .i64 k ∧ Owns tStr wr w.heap.size 9 ov ((xs.take k).map colText) ∧ Below w.heap.size w wr) (fun _ i _ => xs.length - (intOf i).toNat)
    case atStart => exact ⟨0, by omega, rfl, Owns.nil _ _ _ _, hB1⟩
    case round =>
      obtain ⟨k, hk, rfl, hown, hB⟩ := hrel
      by_cases hlt : k < xs.length
      · obtain ⟨b, o, rfl, hat⟩ := slice_at hv hlt
        have hat := tCol.at_mono (below_mem hB) hat
        obtain ⟨c0, c1, i0, i1⟩ := col_at hat
        have c0 : wr.cell? ⟨b, o + k * 2, none⟩ = some (.string xs[k].name) := c0
        have c1 : wr.cell? ⟨b, o + k * 2 + 1, none⟩ = some (.int .i64 xs[k].kind) := c1
        obtain ⟨hname, hk1, hk2⟩ := HALL.out _ (List.getElem_mem hlt)
        have hsize := (isName_size hname).2
        have HSNOC := Lib.hid (show (xs.take (k + 1)).map colText = (xs.take k).map colText ++ [colText xs[k]] by
          rw [List.take_add_one, List.getElem?_eq_getElem hlt, List.map_append]; rfl)
        have HLEN := Lib.hid (show ((xs.take k).map colText).length = k by
          rw [List.length_map, List.length_take]; omega)
        have HVT := Lib.hid (show colText xs[k] = xs[k].name ++ ⟨#[32]⟩ ++ (if xs[k].kind = 1 then ⟨#[105, 110, 116]⟩ else ⟨#[116, 101, 120, 116]⟩) from rfl)
        clear hat hv hname
        generalize (xs.take k).map colText = l at hown HSNOC HLEN
        generalize hL : (xs.take (k + 1)).map colText = l' at HSNOC
        have HL := Lib.hid hL
        clear hL
        generalize xs[k] = x at *
        obtain ⟨nm, xk⟩ := x
        simp only at c0 c1 i0 i1 hk1 hk2 hsize HVT
        have hkk : xk = 1 ∨ xk = 2 := by omega
        rcases hkk with rfl | rfl
        · have hs32 : nm.size + 1 ≤ 100 := by omega
          have q1 : ¬ 9223372036854775807 < nm.size + 1 := by omega
          have q2 : ¬ 9223372036854775807 < nm.size + 1 + 3 := by omega
          have q3 := kind_at1 (wr.alloc (.cells #[.string nm, .int .i64 1] 69)).drew
          go_upto_region 7 with fail
          go_region_law (refine step_append_one rfl (.tmp 15) (.tmp 24) 86 rfl tStr Tryd.underlying86 Tryd.infoStr rfl (by decide) w.heap.size _ l rfl (((hown.alloc _).drew).alloc _) _ _ (nm ++ ⟨#[32]⟩ ++ ⟨#[105, 110, 116]⟩) rfl [.string (nm ++ ⟨#[32]⟩ ++ ⟨#[105, 110, 116]⟩)] (fun j u hj => by
              match j, hj with
              | 0, hj => simp at hj; subst hj; simp [mem]) ⟨rfl, by rw [ByteArray.size_append, ByteArray.size_append]; unfold maxLen; show nm.size + 1 + 3 ≤ _; omega⟩ (fun u hu => by simp at hu; subst hu; rfl) (by rw [HLEN.out]; unfold maxLen; omega) (by rw [HLEN.out]; omega) (by have := hB.size; simp; omega) ?_; intro v' w3 hown' hgrow _)
          all_goals
            have hB3 : Below w.heap.size w w3 := (((hB.alloc hB.size _).drew).alloc (by have := hB.size; simp; omega) _).grown hgrow (by have := hB.size; simp; omega) (fun k hk => (hown.lt k hk).1)
            have hown' : Owns tStr w3 w.heap.size 9 v' l' := by
              rw [HSNOC.out, HVT.out]; exact hown'
            clear hown hgrow c0 c1
            go_wp2
            go_roundw
            case rel => exact ⟨k + 1, by omega, by go_num, by rw [HL.out]; exact hown', hB3⟩
            case measure => simp [intOf]; omega
        · have hs32 : nm.size + 1 ≤ 100 := by omega
          have q1 : ¬ 9223372036854775807 < nm.size + 1 := by omega
          have q2 : ¬ 9223372036854775807 < nm.size + 1 + 4 := by omega
          have q3 := kind_at2 (wr.alloc (.cells #[.string nm, .int .i64 2] 69)).drew
          go_upto_region 7 with fail
          go_region_law (refine step_append_one rfl (.tmp 15) (.tmp 24) 86 rfl tStr Tryd.underlying86 Tryd.infoStr rfl (by decide) w.heap.size _ l rfl (((hown.alloc _).drew).alloc _) _ _ (nm ++ ⟨#[32]⟩ ++ ⟨#[116, 101, 120, 116]⟩) rfl [.string (nm ++ ⟨#[32]⟩ ++ ⟨#[116, 101, 120, 116]⟩)] (fun j u hj => by
              match j, hj with
              | 0, hj => simp at hj; subst hj; simp [mem]) ⟨rfl, by rw [ByteArray.size_append, ByteArray.size_append]; unfold maxLen; show nm.size + 1 + 4 ≤ _; omega⟩ (fun u hu => by simp at hu; subst hu; rfl) (by rw [HLEN.out]; unfold maxLen; omega) (by rw [HLEN.out]; omega) (by have := hB.size; simp; omega) ?_; intro v' w3 hown' hgrow _)
          all_goals
            have hB3 : Below w.heap.size w w3 := (((hB.alloc hB.size _).drew).alloc (by have := hB.size; simp; omega) _).grown hgrow (by have := hB.size; simp; omega) (fun k hk => (hown.lt k hk).1)
            have hown' : Owns tStr w3 w.heap.size 9 v' l' := by
              rw [HSNOC.out, HVT.out]; exact hown'
            clear hown hgrow c0 c1
            go_wp2
            go_roundw
            case rel => exact ⟨k + 1, by omega, by go_num, by rw [HL.out]; exact hown', hB3⟩
            case measure => simp [intOf]; omega
      · obtain rfl : k = xs.length := by omega
        rw [List.take_length] at hown
        have hjl := join_le [44, 32] 21 (xs.map fun c => (colText c).data.toList) (fun y hy => by
          obtain ⟨x, hx, rfl⟩ := List.mem_map.1 hy
          exact colText_size x (isName_size (HALL.out x hx).1).2)
        have hmm : ((xs.map colText).map (·.data.toList)) = xs.map fun c => (colText c).data.toList := by
          rw [List.map_map]; rfl
        obtain ⟨g, cap', rfl, hle, hg, hcells⟩ := owns_cells hown (by rw [List.length_map]; omega)
        have hJ := Tryd.strings_Join g 0 cap' _ ⟨#[44, 32]⟩ wr hcells hg (by rw [List.length_map]; omega) hle (by rw [hmm]; rw [List.length_map] at hjl; show (Lib.join (xs.map fun c => (colText c).data.toList) [44, 32]).length ≤ _; simp only [List.length_cons, List.length_nil] at hjl; omega)
        rw [List.length_map, hmm] at hJ
        have HJ := Lib.hid hJ
        clear hJ hmm hcells hjl hown hle
        go_wp2_with fail
        refine HJ.out.mono ?_
        rintro e w2 ⟨rfl, hb2⟩
        go_wp2
        go_ret
        exact ⟨by rw [HT.out, if_pos trivial]; rfl, hB.trans (hb2.mono hB.size)⟩
end Go.Proofs.YtkldimaoafgolaaDoor
