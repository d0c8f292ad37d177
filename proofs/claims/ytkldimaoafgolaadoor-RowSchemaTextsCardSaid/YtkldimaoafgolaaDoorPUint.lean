/- strconv.Atoi and strconv.ParseUint at two bytes, base 16. -/
import Derived.Test.YtkldimaoafgolaaDoorCanon
import Derived.Deep.RegionHeld3
import Derived.Deep.RegionLaw
import Derived.BigQuiet
import Derived.Deep.LoopGhost
import Derived.Deep.Cut
namespace Go.Proofs.YtkldimaoafgolaaDoor
open Go.RowKit

/-- What the two variables of strconv hold: some error each. -/
structure Tryd.Errs (w : World) : Prop where
  syn : ∃ t p, w.cell? ⟨4, 0, none⟩ = some (.iface t p)
  rng : ∃ t p, w.cell? ⟨5, 0, none⟩ = some (.iface t p)
theorem Tryd.errsStay {w w' : World} (h : Tryd.Errs w) (hb : Below w.heap.size w w') : Tryd.Errs w' :=
  ⟨let ⟨t, p, h⟩ := h.syn; ⟨t, p, below_mem hb _ _ _ h⟩, let ⟨t, p, h⟩ := h.rng; ⟨t, p, below_mem hb _ _ _ h⟩⟩
/-- What Atoi gives: some number; of a numeral its number, and no error. -/
def Atois (l : List UInt8) (w : World) (e : Ending) (w' : World) : Prop :=
  ∃ n ev, e = .returned (.tuple #[.int .i64 n, ev]) ∧ inI64 n ∧ (ev = .nilIface ∨ ∃ t p, ev = .iface t p) ∧ (∀ m, inI64 m → l = Lib.itoa m → n = m ∧ ev = .nilIface) ∧ Below w.heap.size w w'
theorem atoi_any (s : ByteArray) (hs : s.size ≤ 281474976710656) (w : World) (he : Tryd.Errs w) :
    Calls Tryd.prog 104 #[.string s] w (Atois s.data.toList w) := by
  cases h : Lib.atoiAll s.data.toList
  case ok v =>
    refine (Tryd.strconv_Atoi_ok s (by omega) v h w).mono ?_
    rintro e w' ⟨rfl, hw⟩
    have hv := Lib.atoiAll_bounds h
    refine ⟨v, .nilIface, rfl, hv, .inl rfl, fun m hm hl => ⟨?_, rfl⟩, ?_⟩
    · rw [hl, atoi_itoa m hm] at h
      injection h with h
      exact h.symm
    · rcases hw with rfl | ⟨t, rfl⟩
      · exact Below.refl _ _
      · exact Lib.bytesWorld_below _ _ _
  · have h := h
    obtain ⟨t, p, hc⟩ := he.syn
    refine (Tryd.strconv_Atoi_syntax s hs h _ w hc (.inr ⟨_, _, rfl⟩)).mono ?_
    rintro e w' ⟨N, rfl, -, -, hb⟩
    exact ⟨0, _, rfl, ⟨by decide, by decide⟩, .inr ⟨_, _, rfl⟩, fun m hm hl => (by rw [hl, atoi_itoa m hm] at h; cases h), hb⟩
  · have h := h
    obtain ⟨t, p, hc⟩ := he.rng
    refine (Tryd.strconv_Atoi_range s hs h _ w hc (.inr ⟨_, _, rfl⟩)).mono ?_
    rintro e w' ⟨N, rfl, -, -, hb⟩
    refine ⟨_, _, rfl, ?_, .inr ⟨_, _, rfl⟩, fun m hm hl => (by rw [hl, atoi_itoa m hm] at h; cases h), hb⟩
    unfold Lib.atoiSat
    split <;> exact ⟨by decide, by decide⟩

theorem hex_lt (d : Nat) (h : d < 16) : (hexDigit d).toNat < 128 := by
  have : ∀ n : Fin 16, (hexDigit n.val).toNat < 128 := by decide
  exact this ⟨d, h⟩
theorem hex_dig {d : Nat} (h : d < 16) : (d < 10 ∧ (hexDigit d).toNat = 48 + d) ∨ (10 ≤ d ∧ (hexDigit d).toNat = 87 + d) := by
  have : ∀ n : Fin 16, (n.val < 10 ∧ (hexDigit n.val).toNat = 48 + n.val) ∨ (10 ≤ n.val ∧ (hexDigit n.val).toNat = 87 + n.val) := by decide
  exact this ⟨d, h⟩
theorem lower_hex {c : Int} (h : 97 ≤ c ∧ c ≤ 102) : bits .or .u8 c 32 = c := by
  rcases (by omega : c = 97 ∨ c = 98 ∨ c = 99 ∨ c = 100 ∨ c = 101 ∨ c = 102) with rfl | rfl | rfl | rfl | rfl | rfl <;> decide
def digK (b : UInt8) (k : Nat) : Nat := if k = 0 then b.toNat / 16 else b.toNat % 16
def preK (b : UInt8) (k : Nat) : Nat := if k = 0 then 0 else if k = 1 then b.toNat / 16 else b.toNat
theorem preK_step (b : UInt8) {k : Nat} (hk : k < 2) : preK b (k + 1) = preK b k * 16 + digK b k := by
  rcases (by omega : k = 0 ∨ k = 1) with rfl | rfl <;> simp [preK, digK]
  omega
/-- The value so far, of the first k of two digits. -/
def HexAt (h1 h2 : UInt8) (k : Nat) (a : Int) : Prop := (0 ≤ a ∧ a < 16 ^ k) ∧ ∀ b : UInt8, h1 = hexDigit (b.toNat / 16) → h2 = hexDigit (b.toNat % 16) → a = preK b k

set_option maxRecDepth 100000 in
set_option maxHeartbeats 4000000 in
theorem parseUint16 (h1 h2 : UInt8) (w : World) :
    Calls Tryd.prog 120 #[.string ⟨#[h1, h2]⟩, .int .i64 16, .int .i64 8] w fun e w' => Below w.heap.size w w' ∧ ∃ n : Nat, n ≤ 255 ∧ HexIs h1 h2 n ∧ ∃ ev, e = .returned (.tuple #[.int .u64 n, ev]) ∧ (ev = .nilIface ∨ ev = .iface 147 (.int .i64 2)) := by
  have hcv := Lib.run_convert_string_bytes (P := Tryd.prog) w 9 111 5 ⟨#[h1, h2]⟩ (u := .string) Tryd.underlying9 Tryd.underlying111 Tryd.underlying5
  have hB0 := Lib.bytesWorld_cell w 5 ⟨#[h1, h2]⟩ 0 (by show 0 < 2; omega)
  have hB1 := Lib.bytesWorld_cell w 5 ⟨#[h1, h2]⟩ 1 (by show 1 < 2; omega)
  have HBW := Lib.hid (Lib.bytesWorld_below w 5 ⟨#[h1, h2]⟩)
  have hB0 : (Lib.bytesWorld w 5 ⟨#[h1, h2]⟩).cell? ⟨w.heap.size, 0, none⟩ = some (.int .u8 h1.toNat) := hB0
  have hB1 : (Lib.bytesWorld w 5 ⟨#[h1, h2]⟩).cell? ⟨w.heap.size, 1, none⟩ = some (.int .u8 h2.toNat) := hB1
  obtain ⟨W1, hW1⟩ : ∃ W1, W1 = Lib.bytesWorld w 5 ⟨#[h1, h2]⟩ := ⟨_, rfl⟩
  rw [← hW1] at hcv hB0 hB1 HBW
  clear hW1
  go_enter Tryd.func120, Tryd.ntmps120
  go_wp2
  go_loop [12, 13, 101] (fun vu vn vi => ∃ (k : Nat) (a : Int), vu = .bool false ∧ vn = .int .u64 a ∧ vi = .int .i64 k ∧ k ≤ 2 ∧ Hid (HexAt h1 h2 k a)) (fun _ _ vi => 2 - (intOf vi).toNat)
  case atStart => exact ⟨0, 0, rfl, rfl, rfl, by omega, Lib.hid ⟨⟨by omega, by decide⟩, fun b _ _ => rfl⟩⟩
  case round =>
    obtain ⟨k, a, rfl, rfl, rfl, hk, hh⟩ := hrel
    by_cases hkn : k < 2
    · obtain ⟨c, hc, HC⟩ : ∃ c : UInt8, W1.cell? ⟨w.heap.size, k, none⟩ = some (.int .u8 c.toNat) ∧ Hid (∀ b : UInt8, h1 = hexDigit (b.toNat / 16) → h2 = hexDigit (b.toNat % 16) → c = hexDigit (digK b k)) := by
        rcases (by omega : k = 0 ∨ k = 1) with rfl | rfl
        · exact ⟨h1, hB0, Lib.hid (fun b e _ => e)⟩
        · exact ⟨h2, hB1, Lib.hid (fun b _ e => e)⟩
      have ha : 0 ≤ a ∧ a < 16 := by
        have h := hh.out.1
        rcases (by omega : k = 0 ∨ k = 1) with rfl | rfl
        · have : a < 1 := by simpa using h.2
          omega
        · have : a < 16 := by simpa using h.2
          omega
      have HA := Lib.hid hh.out.2
      have HK := Lib.hid hkn
      have HDG := Lib.hid (show ∀ b : UInt8, digK b k < 16 from fun b => by have := b.toNat_lt; unfold digK; split <;> omega)
      have HPW := Lib.hid (show a * 16 + 16 ≤ 16 ^ (k + 1) from by
        have h := hh.out.1
        rcases (by omega : k = 0 ∨ k = 1) with rfl | rfl
        · have : a < 1 := by simpa using h.2
          omega
        · omega)
      clear hB0 hB1 hh hcv
      have hc256 : c.toNat < 256 := c.toNat_lt
      by_cases hdig : 48 ≤ c.toNat ∧ c.toNat ≤ 57
      · have HN := Lib.hid (show HexAt h1 h2 (k + 1) (a * 16 + ((c.toNat : Int) - 48)) from ⟨⟨by omega, by have := HPW.out; omega⟩, fun b e1 e2 => by
          have h := HC.out b e1 e2
          have hd := hex_dig (HDG.out b)
          rw [← h] at hd
          have h3 := HA.out b e1 e2
          rw [preK_step b HK.out, h3]
          push_cast
          omega⟩)
        obtain ⟨hd0, hd1⟩ := hdig
        obtain ⟨ha0, ha1⟩ := ha
        clear HC HA HDG HPW
        go_wp2
        refine ⟨⟨k + 1, a * 16 + ((c.toNat : Int) - 48), rfl, (by first | rfl | (congr 1; omega)), (by first | rfl | (congr 1; omega)), by omega, HN⟩, by simp [intOf]; omega⟩
      · have HCN := Lib.hid (show ∀ b : UInt8, h1 = hexDigit (b.toNat / 16) → h2 = hexDigit (b.toNat % 16) → (97 ≤ (c.toNat : Int) ∧ (c.toNat : Int) ≤ 102) ∧ c.toNat = 87 + digK b k from fun b e1 e2 => by
          have h := HC.out b e1 e2
          have hd := hex_dig (HDG.out b)
          have h16 := HDG.out b
          rw [← h] at hd
          omega)
        obtain ⟨lv, hlv⟩ : ∃ lv, lv = bits .or .u8 (c.toNat : Int) 32 := ⟨_, rfl⟩
        have hl0 : 0 ≤ lv := by rw [hlv]; exact bits_lo_u8 .or (c.toNat : Int) 32
        have hl1 : lv ≤ 255 := by have h := bits_hi_u8 .or (c.toNat : Int) 32; rw [← hlv] at h; omega
        have HLC := Lib.hid (show ∀ b : UInt8, h1 = hexDigit (b.toNat / 16) → h2 = hexDigit (b.toNat % 16) → lv = 87 + (digK b k : Int) ∧ lv ≤ 102 ∧ 97 ≤ lv from fun b e1 e2 => by
          obtain ⟨h, h3⟩ := HCN.out b e1 e2
          rw [hlv, lower_hex h]
          omega)
        have H95 := Lib.hid (show c.toNat = 95 → 122 < lv from fun h => by rw [hlv, h]; decide)
        have HLW := Lib.hid (fun wq => show Calls Tryd.prog 139 #[.int .u8 c.toNat] wq fun e w' => e = .returned (.int .u8 lv) ∧ w' = wq from by rw [hlv]; exact Tryd.internal_strconv_lower c.toNat wq)
        clear hlv HC HCN
        by_cases h95 : c.toNat = 95
        · have h122 := H95.out h95
          have HX := Lib.hid (show HexIs h1 h2 0 from fun b e1 e2 => by have := HLC.out b e1 e2; omega)
          rw [h95] at hc HLW
          clear HA HLC HPW HDG H95 ha hdig h95
          go_wp2_with (go_at_call 139; refine (HLW.out _).mono ?_; rintro e w' ⟨rfl, rfl⟩)
          go_ret2
          exact ⟨HBW.out, 0, by omega, HX.out, _, rfl, .inr rfl⟩
        have h95' : ((c.toNat : Int) == 95) = false := by simp; omega
        clear H95
        by_cases hlt : 97 ≤ lv ∧ lv ≤ 122
        · by_cases h16 : lv ≤ 102
          · have HN := Lib.hid (show HexAt h1 h2 (k + 1) (a * 16 + (lv - 97 + 10)) from ⟨⟨by omega, by have := HPW.out; omega⟩, fun b e1 e2 => by
              have h := HLC.out b e1 e2
              have h3 := HA.out b e1 e2
              rw [preK_step b HK.out, h3]
              push_cast
              omega⟩)
            obtain ⟨hl97, hl122⟩ := hlt
            obtain ⟨ha0, ha1⟩ := ha
            clear HLC HA HDG HPW
            go_wp2_with (go_at_call 139; refine (HLW.out _).mono ?_; rintro e w' ⟨rfl, rfl⟩)
            all_goals refine ⟨⟨k + 1, a * 16 + (lv - 97 + 10), rfl, (by first | rfl | (congr 1; omega)), (by first | rfl | (congr 1; omega)), by omega, HN⟩, by simp [intOf]; omega⟩
          · have HX := Lib.hid (show HexIs h1 h2 0 from fun b e1 e2 => by have := HLC.out b e1 e2; omega)
            obtain ⟨hl97, hl122⟩ := hlt
            clear HA HLC HPW HDG ha
            go_wp2_with (go_at_call 139; refine (HLW.out _).mono ?_; rintro e w' ⟨rfl, rfl⟩)
            all_goals go_ret2
            all_goals exact ⟨HBW.out, 0, by omega, HX.out, _, rfl, .inr rfl⟩
        · have HX := Lib.hid (show HexIs h1 h2 0 from fun b e1 e2 => by have := HLC.out b e1 e2; omega)
          clear HA HLC HPW HDG ha
          by_cases hl97 : 97 ≤ lv
          · have hl122 : ¬ lv ≤ 122 := fun h => hlt ⟨hl97, h⟩
            clear hlt
            go_wp2_with (go_at_call 139; refine (HLW.out _).mono ?_; rintro e w' ⟨rfl, rfl⟩)
            all_goals go_ret2
            all_goals exact ⟨HBW.out, 0, by omega, HX.out, _, rfl, .inr rfl⟩
          · clear hlt
            go_wp2_with (go_at_call 139; refine (HLW.out _).mono ?_; rintro e w' ⟨rfl, rfl⟩)
            all_goals go_ret2
            all_goals exact ⟨HBW.out, 0, by omega, HX.out, _, rfl, .inr rfl⟩
    · obtain rfl : k = 2 := by omega
      have HX := Lib.hid (show HexIs h1 h2 a.toNat ∧ a.toNat ≤ 255 ∧ (a.toNat : Int) = a from by
        have h := hh.out.1
        have h2' : a < 256 := by have := h.2; simpa using this
        refine ⟨fun b e1 e2 => ?_, by omega, by omega⟩
        have := hh.out.2 b e1 e2
        rw [this]; simp [preK])
      clear hh hB0 hB1 hcv
      go_wp2
      go_ret2
      exact ⟨HBW.out, a.toNat, HX.out.2.1, HX.out.1, _, by rw [HX.out.2.2]; rfl, .inl rfl⟩
/-- strconv.ParseUint at two bytes, base 16. -/
theorem puint_any (h1 h2 : UInt8) (w : World) (he : Tryd.Errs w) :
    Calls Tryd.prog 105 #[.string ⟨#[h1, h2]⟩, .int .i64 16, .int .i64 8] w fun e w' => Below w.heap.size w w' ∧ ∃ n : Nat, n ≤ 255 ∧ HexIs h1 h2 n ∧ ∃ ev, e = .returned (.tuple #[.int .u64 n, ev]) := by
  have HP := Lib.hid (parseUint16 h1 h2 w)
  have HE := Lib.hid he
  clear he
  go_enter Tryd.func105, Tryd.ntmps105
  go_wp2_with fail
  refine HP.out.mono ?_
  rintro e w1 ⟨hb, n, hn, hx, ev, rfl, rfl | rfl⟩
  · have HB := Lib.hid hb
    have HX := Lib.hid hx
    clear hb hx
    go_wp2
    go_ret2
    exact ⟨HB.out, n, hn, HX.out, _, rfl⟩
  · have HB := Lib.hid hb
    have HX := Lib.hid hx
    obtain ⟨t, p, hc⟩ := (Tryd.errsStay HE.out hb).syn
    have HT := Lib.hid (Tryd.strconv_toError_syntax ⟨#[80, 97, 114, 115, 101, 85, 105, 110, 116]⟩ ⟨#[h1, h2]⟩ 16 8 _ w1 (by show 2 ≤ _; decide) hc (.inr ⟨_, _, rfl⟩))
    clear hb hx hc
    go_wp2_with fail
    refine HT.out.mono ?_
    rintro e w2 ⟨N, rfl, _, _, hb2⟩
    have HB2 := Lib.hid (pure_trans HB.out hb2)
    clear hb2
    go_wp2
    go_ret2
    exact ⟨HB2.out, n, hn, HX.out, _, rfl⟩
end Go.Proofs.YtkldimaoafgolaaDoor
