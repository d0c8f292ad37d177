/- strconv.Itoa, strconv.Atoi, strings.Cut as contracts at this program. -/
import Derived.Test.YtfoocifhifpbdaaDoorNum
import Derived.Test.YtfoocifhifpbdaaDoorShelf
import Derived.Test.YtfoocifhifpbdaaDoorLib
import Derived.Lib.SmallJoins
namespace Go.Proofs.YtfoocifhifpbdaaDoor
open Go.RowKit

abbrev Tryd.Tab (w : World) : Prop := Lib.TabIs Tryd.prog w "internal/strconv.uint64pow10" .u64 Lib.pow10Tab
theorem Tryd.tabSome : (Tryd.prog.globalNamed "internal/strconv.uint64pow10").isSome = true := by kernel_rfl
theorem Tryd.tabAt : ∃ g, Tryd.prog.globalNamed "internal/strconv.uint64pow10" = some g := Option.isSome_iff_exists.1 Tryd.tabSome
theorem Tryd.tabStays {w w' : World} (h : Tryd.Tab w) (hb : Below w.heap.size w w') : Tryd.Tab w' := by
  obtain ⟨g, hg⟩ := Tryd.tabAt
  exact Joins.tab_stays hg h hb (Nat.le_refl _)
theorem itoa_any (n : Int) (hn : inI64 n) (w : World) (ht : Tryd.Tab w) :
    Calls Tryd.prog 29 #[.int .i64 n] w fun e w' => e = .returned (.string ⟨(Lib.itoa n).toArray⟩) ∧ Below w.heap.size w w' := by
  refine (Tryd.strconv_Itoa n hn.1 hn.2 w ht).mono ?_
  rintro e w' ⟨rfl, k, os, rfl⟩
  exact ⟨rfl, ⟨rfl, rfl, rfl, by simp [Sort.grow], fun i hi => by
    show ((w.drewN k).heap ++ os)[i]? = _
    rw [Array.getElem?_append_left (by show i < w.heap.size; omega)]
    rfl⟩⟩

/-- What the two variables of strconv hold: some error each. -/
structure Tryd.Errs (w : World) : Prop where
  syn : ∃ t p, w.cell? ⟨1, 0, none⟩ = some (.iface t p)
  rng : ∃ t p, w.cell? ⟨2, 0, none⟩ = some (.iface t p)
theorem Tryd.errsStay {w w' : World} (h : Tryd.Errs w) (hb : Below w.heap.size w w') : Tryd.Errs w' :=
  ⟨let ⟨t, p, h⟩ := h.syn; ⟨t, p, below_mem hb _ _ _ h⟩, let ⟨t, p, h⟩ := h.rng; ⟨t, p, below_mem hb _ _ _ h⟩⟩
/-- What Atoi gives: some number; of a numeral its number, and no error. -/
def Atois (l : List UInt8) (w : World) (e : Ending) (w' : World) : Prop :=
  ∃ n ev, e = .returned (.tuple #[.int .i64 n, ev]) ∧ inI64 n ∧ (ev = .nilIface ∨ ∃ t p, ev = .iface t p) ∧ (∀ m, inI64 m → l = Lib.itoa m → n = m ∧ ev = .nilIface) ∧ Below w.heap.size w w'
theorem atoi_any (s : ByteArray) (hs : s.size ≤ 281474976710656) (w : World) (he : Tryd.Errs w) :
    Calls Tryd.prog 24 #[.string s] w (Atois s.data.toList w) := by
  cases h : Lib.atoiAll s.data.toList
  case ok v =>
    refine (Tryd.strconv_Atoi_ok s (by omega) v h w).mono ?_
    rintro e w' ⟨rfl, hw⟩
    have hv := Lib.atoiAll_bounds h
    refine ⟨v, .nilIface, rfl, hv, .inl rfl, fun m hm hl => ⟨?_, rfl⟩, ?_⟩
    · rw [hl, atoi_itoa m hm] at h
      injection h with h
      exact h.symm
    · rcases hw with rfl | ⟨t, rfl⟩
      · exact Below.refl _ _
      · exact Lib.bytesWorld_below _ _ _
  · have h := h
    obtain ⟨t, p, hc⟩ := he.syn
    refine (Tryd.strconv_Atoi_syntax s hs h _ w hc (.inr ⟨_, _, rfl⟩)).mono ?_
    rintro e w' ⟨N, rfl, -, -, hb⟩
    exact ⟨0, _, rfl, ⟨by decide, by decide⟩, .inr ⟨_, _, rfl⟩, fun m hm hl => (by rw [hl, atoi_itoa m hm] at h; cases h), hb⟩
  · have h := h
    obtain ⟨t, p, hc⟩ := he.rng
    refine (Tryd.strconv_Atoi_range s hs h _ w hc (.inr ⟨_, _, rfl⟩)).mono ?_
    rintro e w' ⟨N, rfl, -, -, hb⟩
    refine ⟨_, _, rfl, ?_, .inr ⟨_, _, rfl⟩, fun m hm hl => (by rw [hl, atoi_itoa m hm] at h; cases h), hb⟩
    unfold Lib.atoiSat
    split <;> exact ⟨by decide, by decide⟩

/-- internal/bytealg.MaxLen holds some number. -/
def Tryd.MaxIs (w : World) : Prop := ∃ m, w.cell? ⟨0, 0, none⟩ = some (.int .i64 m)
theorem Tryd.maxStays {w w' : World} (h : Tryd.MaxIs w) (hb : Below w.heap.size w w') : Tryd.MaxIs w' := let ⟨m, h⟩ := h; ⟨m, below_mem hb _ _ _ h⟩
theorem cut_any (s sep : ByteArray) (hs : s.size < 4294967281) (w : World) (hm : Tryd.MaxIs w) :
    Calls Tryd.prog 23 #[.string s, .string sep] w fun e w' => e = .returned (.tuple #[.string ⟨(Lib.cut s.data.toList sep.data.toList).1.toArray⟩, .string ⟨(Lib.cut s.data.toList sep.data.toList).2.1.toArray⟩, .bool (Lib.cut s.data.toList sep.data.toList).2.2]) ∧ Below w.heap.size w w' := by
  obtain ⟨m, hm⟩ := hm
  refine (Tryd.strings_Cut s sep m w hs hm).mono ?_
  rintro e w' ⟨rfl, n, rfl⟩
  exact ⟨rfl, ⟨rfl, rfl, rfl, Nat.le_refl _, fun _ _ => rfl⟩⟩
end Go.Proofs.YtfoocifhifpbdaaDoor
