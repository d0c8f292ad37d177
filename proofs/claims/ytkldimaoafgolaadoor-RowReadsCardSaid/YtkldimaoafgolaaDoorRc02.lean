/- Part 2 of the texts that the law's proof stands on, merged. -/
import Derived.Test.YtkldimaoafgolaaDoorRows
import Derived.Laws.Externs
import Derived.Laws.IdiomCopy
import Derived.Laws.BitsLemmas
import Derived.Lib.AppendStr
import Derived.Lib.ItoaLen
import Derived.Lib.SmallJoins
import Derived.Lib.Join
import Derived.Lib.AtoiAllCases
import Derived.Deep.RegionHeld3
import Derived.Deep.RegionLaw
import Derived.BigQuiet
import Derived.Deep.LoopGhost
import Derived.Deep.Cut
import Derived.Laws.IdiomStrings
import Derived.Laws.BytesArg
import Derived.Test.YtkldimaoafgolaaDoorRc01
set_option linter.unusedVariables false
set_option linter.unusedSimpArgs false
/- Contracts of strings.Builder's writers at this program. -/
namespace Go.Proofs.YtkldimaoafgolaaDoor
open Go.RowKit

theorem Tryd.sizeB : (Tryd.prog.info? 113).map (·.size) = some 2 := by kernel_rfl
theorem Tryd.liesB : liesAt Tryd.prog Tryd.prog.depth 113 (2 / Tryd.prog.cellsOf 113) 0 113 1 = true := by kernel_rfl
theorem Tryd.infoByte : (Tryd.prog.info? 5).map (fun i => (i.zero, i.size, i.bytes)) = some (some (.int .u8 0), 1, 1) := by kernel_rfl
theorem Tryd.callExt : ∀ w x, Sem.run Tryd.prog (callFunc 123 #[x]) w = .ok (.value x) w := fun w x => by
  rw [run_callFunc_extern Tryd.func123 (by kernel_rfl) (by kernel_rfl) (by kernel_rfl) (e := Extern.AbiNoEscape.same) (by kernel_rfl)]
  rw [Lib.run_noEscape]
  rfl

set_option maxRecDepth 100000 in
set_option maxHeartbeats 1000000 in
theorem copyCheck_used (b : Nat) (w : World) (h0 : w.cell? ⟨b, 0, none⟩ = some (.pointer (some ⟨b, 0, none⟩))) :
    Calls Tryd.prog 110 #[.pointer (some ⟨b, 0, none⟩)] w fun e w' => e = .returned (.tuple #[]) ∧ w = w' := by
  obtain ⟨j, hj, _⟩ := Option.map_eq_some_iff.1 Tryd.sizeB
  go_enter Tryd.func110, Tryd.ntmps110
  go_wp2
  rw [Lib.run_neq_ptr_same w _ Tryd.underlying110 hj]
  go_wp2
  go_end0
  exact ⟨rfl, rfl⟩
set_option maxRecDepth 100000 in
set_option maxHeartbeats 1000000 in
theorem copyCheck_fresh (b : Nat) (w : World) (h0 : w.cell? ⟨b, 0, none⟩ = some (.pointer none)) (hsh : w.shape? b = some (113, 2)) (hfz : w.frozen? ⟨b, 0, none⟩ = false) :
    Calls Tryd.prog 110 #[.pointer (some ⟨b, 0, none⟩)] w fun e w' => e = .returned (.tuple #[]) ∧ w' = w.setCell ⟨b, 0, none⟩ (.pointer (some ⟨b, 0, none⟩)) := by
  obtain ⟨j, hj, hjs⟩ := Option.map_eq_some_iff.1 Tryd.sizeB
  go_enter Tryd.func110, Tryd.ntmps110
  go_wp2
  rw [Lib.run_to_unsafe w ⟨b, 0, none⟩ Tryd.underlying110 Tryd.underlying138 hj (by rw [hjs]; decide) hsh (Nat.zero_lt_succ 1)]
  simp only [Result.andThen]
  rw [Oper.upon_value]
  go_wp2
  rw [run_callFunc_extern Tryd.func123 (by kernel_rfl) (by kernel_rfl) (by kernel_rfl) (e := Extern.AbiNoEscape.same) (by kernel_rfl)]
  rw [Lib.run_noEscape]
  simp only [Result.andThen]
  rw [Oper.upon_value]
  go_wp2
  rw [Lib.run_from_unsafe w ⟨b, 0, none⟩ Tryd.underlying138 Tryd.underlying110 hj hsh Tryd.liesB]
  simp only [Result.andThen]
  rw [Oper.upon_value]
  go_wp2
  go_end0
  exact ⟨rfl, rfl⟩
theorem copyCheck_any (B b : Nat) (bs : List Value) (w : World) (h : Lib.IsBuilder 113 5 B b bs w) :
    Calls Tryd.prog 110 #[.pointer (some ⟨b, 0, none⟩)] w fun e w' => e = .returned (.tuple #[]) ∧ (Lib.BuilderAt 113 5 B b (.pointer (some ⟨b, 0, none⟩)) bs w' ∧ Below B w w') := by
  rcases h with h | h
  · refine (copyCheck_fresh b w h.cell0 h.shape h.frozen0).mono ?_
    rintro e w' ⟨rfl, rfl⟩
    exact ⟨rfl, h.used _, (Below.refl B w).setCell (p := ⟨b, 0, none⟩) h.1 _⟩
  · refine (copyCheck_used b w h.cell0).mono ?_
    rintro e w' ⟨rfl, rfl⟩
    exact ⟨rfl, h, Below.refl B _⟩

set_option maxRecDepth 100000 in
set_option maxHeartbeats 2000000 in
theorem writeByte_any (B b : Nat) (bs : List Value) (c : Int) (w : World) (h : Lib.IsBuilder 113 5 B b bs w) (hlen : bs.length + 1 ≤ 140737488355328) (_hBw : B ≤ w.heap.size) :
    Calls Tryd.prog 101 #[.pointer (some ⟨b, 0, none⟩), .int .u8 c] w fun e w' => e = .returned .nilIface ∧ (Lib.BuilderAt 113 5 B b (.pointer (some ⟨b, 0, none⟩)) (bs ++ [.int .u8 c]) w' ∧ Below B w w') := by
  obtain ⟨i0, hi, hz0, hz1, hz2⟩ := info_parts Tryd.infoByte
  go_enter Tryd.func101, Tryd.ntmps101
  go_wp2_with fail
  refine (copyCheck_any B b bs _ h).mono ?_
  rintro e w1 ⟨rfl, h1, hb1⟩
  obtain ⟨hB, v, hbk, hown, hne⟩ := h1
  have c0 : w1.cell? ⟨b, 0, none⟩ = some (.pointer (some ⟨b, 0, none⟩)) := by rw [Lib.cell_of_heap hbk]; rfl
  have c1 : w1.cell? ⟨b, 1, none⟩ = some v := by rw [Lib.cell_of_heap hbk]; rfl
  have HBK := Lib.hid hbk
  clear hbk
  go_wp2_with (at_builtin; refine wpList_append_own _ rfl _ _ 111 rfl B 5 i0 (.int .u8 0) 1 1 Tryd.underlying111 hi hz0 hz1 hz2 rfl (by decide) _ _ _ rfl (hown.alloc _) ⟨w1.heap.size, 0, none⟩ 1 1 [.int .u8 c] rfl rfl ?c1 ?c2 ?c3 ?c4 ?c5 ?_)
  case c1 =>
    intro j u hj
    match j, hj with
    | 0, hj => simp at hj; subst hj; simp [Addr.add]
  case c2 => intro u hu; simp at hu; subst hu; rfl
  case c3 => unfold maxLen; omega
  case c4 => omega
  case c5 => have := hb1.size; simp; omega
  intro v' w2 hown' hgrow _
  have hlt : b < w1.heap.size := lt_of_block HBK.out
  have hb2 : w2.heap[b]? = some (.cells #[.pointer (some ⟨b, 0, none⟩), v] 113 (0, 0)) := by
    rw [hgrow.block b (by simp; omega) (fun e => hne e.symm), Lib.alloc_old w1 _ b hlt]
    exact HBK.out
  have d0 : w2.cell? ⟨b, 0, none⟩ = some (.pointer (some ⟨b, 0, none⟩)) := by rw [Lib.cell_of_heap hb2]; rfl
  have d1 : w2.cell? ⟨b, 1, none⟩ = some v := by rw [Lib.cell_of_heap hb2]; rfl
  have f1 : w2.frozen? ⟨b, 1, none⟩ = false := Lib.frozen_of_heap hb2 1
  obtain ⟨g, cap, rfl⟩ : ∃ g cap, v' = .slice (some ⟨g, 0, none⟩) (bs.length + 1) cap := by
    rcases hown'.2 with ⟨_, h0⟩ | ⟨g, cap, cur, hv, _⟩
    · omega
    · exact ⟨g, cap, hv⟩
  have HB2 := Lib.hid hb2
  clear hb2 c0 c1
  go_wp2
  go_ret
  refine ⟨rfl, ?_, ?_⟩
  · exact Lib.BuilderAt.put (T := 113) (e := 5) hB HB2.out (bs' := bs ++ [.int .u8 c]) (by simpa using hown') (by decide)
  · exact ((hb1.alloc (by have := hb1.size; omega) _).grown hgrow (by have := hb1.size; simp; omega) (fun k hk => (hown.lt k hk).1)).setCell (p := ⟨b, 1, none⟩) hB _
set_option maxRecDepth 100000 in
set_option maxHeartbeats 2000000 in
theorem writeString_any (B b : Nat) (bs : List Value) (s : ByteArray) (w : World) (h : Lib.IsBuilder 113 5 B b bs w) (hlen : bs.length + s.size ≤ 140737488355328) (hs0 : 0 < s.size) (_hBw : B ≤ w.heap.size) :
    Calls Tryd.prog 96 #[.pointer (some ⟨b, 0, none⟩), .string s] w fun e w' => (∃ x, e = .returned x) ∧ (Lib.BuilderAt 113 5 B b (.pointer (some ⟨b, 0, none⟩)) (bs ++ Lib.strCells s) w' ∧ Below B w w') := by
  obtain ⟨i0, hi, hz0, hz1, hz2⟩ := info_parts Tryd.infoByte
  go_enter Tryd.func96, Tryd.ntmps96
  go_wp2_with fail
  refine (copyCheck_any B b bs _ h).mono ?_
  rintro e w1 ⟨rfl, h1, hb1⟩
  obtain ⟨hB, v, hbk, hown, hne⟩ := h1
  have c0 : w1.cell? ⟨b, 0, none⟩ = some (.pointer (some ⟨b, 0, none⟩)) := by rw [Lib.cell_of_heap hbk]; rfl
  have c1 : w1.cell? ⟨b, 1, none⟩ = some v := by rw [Lib.cell_of_heap hbk]; rfl
  have HBK := Lib.hid hbk
  clear hbk
  go_wp2_with (at_builtin; refine Lib.wpList_append_own_string _ rfl _ _ 111 9 rfl B 5 i0 Tryd.underlying111 Tryd.underlying9 hi hz0 hz1 hz2 _ _ _ rfl hown s rfl ?c3 ?c4 ?c5 ?_)
  case c3 => unfold maxLen; omega
  case c4 => omega
  case c5 => have := hb1.size; omega
  intro v' w2 hown' hgrow _
  have hlt : b < w1.heap.size := lt_of_block HBK.out
  have hb2 : w2.heap[b]? = some (.cells #[.pointer (some ⟨b, 0, none⟩), v] 113 (0, 0)) := by
    rw [hgrow.block b hlt (fun e => hne e.symm)]
    exact HBK.out
  have d0 : w2.cell? ⟨b, 0, none⟩ = some (.pointer (some ⟨b, 0, none⟩)) := by rw [Lib.cell_of_heap hb2]; rfl
  have d1 : w2.cell? ⟨b, 1, none⟩ = some v := by rw [Lib.cell_of_heap hb2]; rfl
  have f1 : w2.frozen? ⟨b, 1, none⟩ = false := Lib.frozen_of_heap hb2 1
  have hsl : (Lib.strCells s).length = s.size := by unfold Lib.strCells; rw [List.length_map]; rfl
  obtain ⟨g, cap, rfl⟩ : ∃ g cap, v' = .slice (some ⟨g, 0, none⟩) (bs.length + s.size) cap := by
    rcases hown'.2 with ⟨_, h0⟩ | ⟨g, cap, cur, hv, _⟩
    · omega
    · exact ⟨g, cap, hv⟩
  have HB2 := Lib.hid hb2
  clear hb2 c0 c1
  go_wp2
  go_ret2
  refine ⟨⟨_, rfl⟩, ?_, ?_⟩
  · exact Lib.BuilderAt.put (T := 113) (e := 5) hB HB2.out (bs' := bs ++ Lib.strCells s) (by simpa [hsl] using hown') (by decide)
  · exact (hb1.grown hgrow (by have := hb1.size; omega) (fun k hk => (hown.lt k hk).1)).setCell (p := ⟨b, 1, none⟩) hB _
end Go.Proofs.YtkldimaoafgolaaDoor
/- Values, rows, events as plain data; contracts of package row and its reference: validity. -/
namespace Go.Proofs.YtkldimaoafgolaaDoor
open Go.RowKit

structure Val where
  kind : Int
  n : Int
  s : ByteArray
deriving DecidableEq, Inhabited
abbrev Val.cells (x : Val) : List Value := [.int .i64 x.kind, .int .i64 x.n, .string x.s]
def tVal : Ty Val := ⟨3, fun _ cs x => cs = [.int .i64 x.kind, .int .i64 x.n, .string x.s] ∧ inI64 x.kind ∧ inI64 x.n ∧ x.s.size ≤ maxLen, fun _ _ _ h => by rw [h.1]; rfl, fun _ _ _ _ _ h => h⟩
def tRow : Ty (List Val) := tSlice tVal
theorem tVal_flat : tVal.flat := fun _ _ _ _ h => h
theorem val_at {m : Mem} {b o : Nat} {x : Val} (h : tVal.at m b o x) : m b o = some (.int .i64 x.kind) ∧ m b (o + 1) = some (.int .i64 x.n) ∧ m b (o + 2) = some (.string x.s) ∧ inI64 x.kind ∧ inI64 x.n ∧ x.s.size ≤ maxLen := by
  obtain ⟨cs, h1, rfl, h3⟩ := h
  exact ⟨h1 0 _ rfl, h1 1 _ rfl, h1 2 _ rfl, h3⟩

def validVal (x : Val) : Bool :=
  if x.kind = 0 then decide (x.n = 0 ∧ x.s.size = 0) else if x.kind = 1 then decide (-1000000000000000 ≤ x.n ∧ x.n ≤ 1000000000000000 ∧ x.s.size = 0) else if x.kind = 2 then decide (x.n = 0 ∧ x.s.size ≤ 200) else false
def validRow (r : List Val) : Bool := decide (r.length ≤ 8) && r.all validVal

/-- The number of the first element that a test takes; -1 if there is none. -/
def idxOf {α : Type} (p : α → Bool) (l : List α) : Int := match l.findIdx? p with | none => -1 | some i => i
theorem idxOf_any {α : Type} (p : α → Bool) (l : List α) : decide (0 ≤ idxOf p l) = l.any p := by
  unfold idxOf
  cases h : l.findIdx? p with
  | none =>
    rw [List.findIdx?_eq_none_iff] at h
    have : l.any p = false := by simpa using h
    rw [this]; rfl
  | some i =>
    rw [List.findIdx?_eq_some_iff_getElem] at h
    obtain ⟨h1, h2, _⟩ := h
    have : l.any p = true := List.any_eq_true.2 ⟨l[i], List.getElem_mem h1, h2⟩
    rw [this]; simp
theorem idxOf_none {α : Type} {p : α → Bool} {l : List α} (h : ∀ x ∈ l, p x = false) : idxOf p l = -1 := by
  unfold idxOf
  rw [List.findIdx?_eq_none_iff.2 (by simpa using h)]
theorem idxOf_at {α : Type} {p : α → Bool} {l : List α} {k : Nat} (hk : k < l.length) (hp : p l[k] = true) (h : ∀ x ∈ l.take k, p x = false) : idxOf p l = k := by
  unfold idxOf
  have : l.findIdx? p = some k := by
    rw [List.findIdx?_eq_some_iff_getElem]
    refine ⟨hk, hp, fun j hj => ?_⟩
    have := h l[j] (List.mem_take_iff_getElem.2 ⟨j, by omega, rfl⟩)
    simp [this]
  rw [this]

theorem mem_take_snoc {α : Type} {l : List α} {k : Nat} (hk : k < l.length) {q : α → Prop} (h : ∀ x ∈ l.take k, q x) (hx : q l[k]) : ∀ x ∈ l.take (k + 1), q x := fun x hm => by
  rw [List.take_succ_eq_append_getElem hk] at hm
  rcases List.mem_append.1 hm with hm | hm
  · exact h x hm
  · simp at hm; subst hm; exact hx

def rowWithinF : Nat := 52
set_option maxHeartbeats 400000 in
theorem rowWithin_any (n lo hi : Int) (w : World) :
    Calls Tryd.prog 52 #[.int .i64 n, .int .i64 lo, .int .i64 hi] w fun e w' => e = .returned (.bool (decide (lo ≤ n ∧ n ≤ hi))) ∧ w = w' := by
  by_cases h1 : lo ≤ n <;> by_cases h2 : n ≤ hi
  all_goals
    go_enter Tryd.func52, Tryd.ntmps52
    go_wp2
    go_ret
    exact ⟨by simp [*], rfl⟩
set_option maxHeartbeats 400000 in
theorem refRowWithin_any (n lo hi : Int) (w : World) :
    Calls Tryd.prog 53 #[.int .i64 n, .int .i64 lo, .int .i64 hi] w fun e w' => e = .returned (.bool (decide (lo ≤ n ∧ n ≤ hi))) ∧ w = w' := by
  by_cases h1 : lo ≤ n <;> by_cases h2 : n ≤ hi
  all_goals
    go_enter Tryd.func53, Tryd.ntmps53
    go_wp2
    go_ret
    exact ⟨by simp [*], rfl⟩

/-! GEN -/

theorem empty_iff (s : ByteArray) : s.toList.isEmpty = decide (s.size = 0) := by
  rw [ByteArray.toList_eq]
  obtain ⟨⟨l⟩⟩ := s
  cases l with
  | nil => rfl
  | cons a l => simp [ByteArray.size]
theorem validVal_0 (n : Int) (s : ByteArray) : validVal ⟨0, n, s⟩ = (n == 0 && s.toList.isEmpty) := by
  have : s.toList.isEmpty = decide (s.size = 0) := by rw [empty_iff]
  rw [this]; simp [validVal, Bool.decide_and]; rfl
theorem validVal_1 (n : Int) (s : ByteArray) : validVal ⟨1, n, s⟩ = (decide (-1000000000000000 ≤ n ∧ n ≤ 1000000000000000) && s.toList.isEmpty) := by
  rw [empty_iff]; simp [validVal, Bool.decide_and, Bool.and_assoc]
theorem validVal_2 (n : Int) (s : ByteArray) : validVal ⟨2, n, s⟩ = (n == 0 && decide ((s.size : Int) ≤ 200)) := by
  have : decide ((s.size : Int) ≤ 200) = decide (s.size ≤ 200) := by simp; omega
  rw [this]; simp [validVal, Bool.decide_and]; rfl

set_option maxHeartbeats 1000000 in
theorem validValue_any (x : Val) (w : World) (hs : x.s.size ≤ maxLen) :
    Calls Tryd.prog 13 #[.agg #[.int .i64 x.kind, .int .i64 x.n, .string x.s]] w fun e w' => e = .returned (.bool (validVal x)) ∧ Below w.heap.size w w' := by
  obtain ⟨k, n, s⟩ := x
  simp only at hs ⊢
  unfold maxLen at hs
  have hB : ∀ o, Below w.heap.size w (w.alloc o) := fun o => (Below.refl _ _).alloc (Nat.le_refl _) o
  have HB := Lib.hid hB
  clear hB
  by_cases h0 : k = 0
  · subst h0
    have HV := Lib.hid (show validVal ⟨0, n, s⟩ = (n == 0 && s.toList.isEmpty) from validVal_0 n s)
    have hk0 : ((0 : Int) == 0) = true := by decide
    by_cases hn : n = 0 <;> by_cases hs0 : s.toList = []
    · have e2 : s.toList.isEmpty = true := by simp [hs0]
      have e1 : (n == 0) = true := by simp [hn]
      rw [e1, e2] at HV
      clear hs0 hn
      go_enter Tryd.func13, Tryd.ntmps13
      go_wp2_with (go_at_call 52; refine (rowWithin_any _ _ _ _).mono ?_; rintro e w' ⟨rfl, rfl⟩)
      go_ret
      exact ⟨by rw [HV.out]; rfl, HB.out _⟩
    · have e2 : s.toList.isEmpty = false := by simp [hs0]
      have e1 : (n == 0) = true := by simp [hn]
      rw [e1, e2] at HV
      clear hs0 hn
      go_enter Tryd.func13, Tryd.ntmps13
      go_wp2_with (go_at_call 52; refine (rowWithin_any _ _ _ _).mono ?_; rintro e w' ⟨rfl, rfl⟩)
      go_ret
      exact ⟨by rw [HV.out]; rfl, HB.out _⟩
    · have e2 : s.toList.isEmpty = true := by simp [hs0]
      have e1 : (n == 0) = false := by simp [hn]
      rw [e1, e2] at HV
      clear hs0 hn
      go_enter Tryd.func13, Tryd.ntmps13
      go_wp2_with (go_at_call 52; refine (rowWithin_any _ _ _ _).mono ?_; rintro e w' ⟨rfl, rfl⟩)
      go_ret
      exact ⟨by rw [HV.out]; rfl, HB.out _⟩
    · have e2 : s.toList.isEmpty = false := by simp [hs0]
      have e1 : (n == 0) = false := by simp [hn]
      rw [e1, e2] at HV
      clear hs0 hn
      go_enter Tryd.func13, Tryd.ntmps13
      go_wp2_with (go_at_call 52; refine (rowWithin_any _ _ _ _).mono ?_; rintro e w' ⟨rfl, rfl⟩)
      go_ret
      exact ⟨by rw [HV.out]; rfl, HB.out _⟩
  by_cases h1 : k = 1
  · subst h1
    have HV := Lib.hid (show validVal ⟨1, n, s⟩ = (decide (-1000000000000000 ≤ n ∧ n ≤ 1000000000000000) && s.toList.isEmpty) from validVal_1 n s)
    have hk0 : ((1 : Int) == 0) = false := by decide
    have hk1 : ((1 : Int) == 1) = true := by decide
    by_cases hn : -1000000000000000 ≤ n ∧ n ≤ 1000000000000000 <;> by_cases hs0 : s.toList = []
    · have e2 : s.toList.isEmpty = true := by simp [hs0]
      have e1 : decide (-1000000000000000 ≤ n ∧ n ≤ 1000000000000000) = true := by simpa using hn
      rw [e1, e2] at HV
      clear hs0 hn
      go_enter Tryd.func13, Tryd.ntmps13
      go_wp2_with (go_at_call 52; refine (rowWithin_any _ _ _ _).mono ?_; rintro e w' ⟨rfl, rfl⟩)
      go_ret
      exact ⟨by rw [HV.out]; rfl, HB.out _⟩
    · have e2 : s.toList.isEmpty = false := by simp [hs0]
      have e1 : decide (-1000000000000000 ≤ n ∧ n ≤ 1000000000000000) = true := by simpa using hn
      rw [e1, e2] at HV
      clear hs0 hn
      go_enter Tryd.func13, Tryd.ntmps13
      go_wp2_with (go_at_call 52; refine (rowWithin_any _ _ _ _).mono ?_; rintro e w' ⟨rfl, rfl⟩)
      go_ret
      exact ⟨by rw [HV.out]; rfl, HB.out _⟩
    · have e2 : s.toList.isEmpty = true := by simp [hs0]
      have e1 : decide (-1000000000000000 ≤ n ∧ n ≤ 1000000000000000) = false := by simpa using hn
      rw [e1, e2] at HV
      clear hs0 hn
      go_enter Tryd.func13, Tryd.ntmps13
      go_wp2_with (go_at_call 52; refine (rowWithin_any _ _ _ _).mono ?_; rintro e w' ⟨rfl, rfl⟩)
      go_ret
      exact ⟨by rw [HV.out]; rfl, HB.out _⟩
    · have e2 : s.toList.isEmpty = false := by simp [hs0]
      have e1 : decide (-1000000000000000 ≤ n ∧ n ≤ 1000000000000000) = false := by simpa using hn
      rw [e1, e2] at HV
      clear hs0 hn
      go_enter Tryd.func13, Tryd.ntmps13
      go_wp2_with (go_at_call 52; refine (rowWithin_any _ _ _ _).mono ?_; rintro e w' ⟨rfl, rfl⟩)
      go_ret
      exact ⟨by rw [HV.out]; rfl, HB.out _⟩
  by_cases h2 : k = 2
  · subst h2
    have HV := Lib.hid (show validVal ⟨2, n, s⟩ = (n == 0 && decide ((s.size : Int) ≤ 200)) from validVal_2 n s)
    have hk0 : ((2 : Int) == 0) = false := by decide
    have hk1 : ((2 : Int) == 1) = false := by decide
    have hk2 : ((2 : Int) == 2) = true := by decide
    by_cases hn : n = 0 <;> by_cases hs0 : (s.size : Int) ≤ 200
    · have e2 : decide ((s.size : Int) ≤ 200) = true := by simpa using hs0
      have e1 : (n == 0) = true := by simp [hn]
      rw [e1, e2] at HV
      clear hs0 hn
      go_enter Tryd.func13, Tryd.ntmps13
      go_wp2_with (go_at_call 52; refine (rowWithin_any _ _ _ _).mono ?_; rintro e w' ⟨rfl, rfl⟩)
      go_ret
      exact ⟨by rw [HV.out]; rfl, HB.out _⟩
    · have e2 : decide ((s.size : Int) ≤ 200) = false := by simpa using hs0
      have e1 : (n == 0) = true := by simp [hn]
      rw [e1, e2] at HV
      clear hs0 hn
      go_enter Tryd.func13, Tryd.ntmps13
      go_wp2_with (go_at_call 52; refine (rowWithin_any _ _ _ _).mono ?_; rintro e w' ⟨rfl, rfl⟩)
      go_ret
      exact ⟨by rw [HV.out]; rfl, HB.out _⟩
    · have e2 : decide ((s.size : Int) ≤ 200) = true := by simpa using hs0
      have e1 : (n == 0) = false := by simp [hn]
      rw [e1, e2] at HV
      clear hs0 hn
      go_enter Tryd.func13, Tryd.ntmps13
      go_wp2_with (go_at_call 52; refine (rowWithin_any _ _ _ _).mono ?_; rintro e w' ⟨rfl, rfl⟩)
      go_ret
      exact ⟨by rw [HV.out]; rfl, HB.out _⟩
    · have e2 : decide ((s.size : Int) ≤ 200) = false := by simpa using hs0
      have e1 : (n == 0) = false := by simp [hn]
      rw [e1, e2] at HV
      clear hs0 hn
      go_enter Tryd.func13, Tryd.ntmps13
      go_wp2_with (go_at_call 52; refine (rowWithin_any _ _ _ _).mono ?_; rintro e w' ⟨rfl, rfl⟩)
      go_ret
      exact ⟨by rw [HV.out]; rfl, HB.out _⟩
  have HV := Lib.hid (show validVal ⟨k, n, s⟩ = false by simp [validVal, h0, h1, h2])
  have hk0 : (k == 0) = false := by simp; omega
  have hk1 : (k == 1) = false := by simp; omega
  have hk2 : (k == 2) = false := by simp; omega
  clear h0 h1 h2
  go_enter Tryd.func13, Tryd.ntmps13
  go_wp2
  go_ret
  exact ⟨by rw [HV.out]; rfl, HB.out _⟩

set_option maxHeartbeats 1000000 in
theorem refValidValue_any (x : Val) (w : World) (hs : x.s.size ≤ maxLen) :
    Calls Tryd.prog 14 #[.agg #[.int .i64 x.kind, .int .i64 x.n, .string x.s]] w fun e w' => e = .returned (.bool (validVal x)) ∧ Below w.heap.size w w' := by
  obtain ⟨k, n, s⟩ := x
  simp only at hs ⊢
  unfold maxLen at hs
  have hB : ∀ o, Below w.heap.size w (w.alloc o) := fun o => (Below.refl _ _).alloc (Nat.le_refl _) o
  have HB := Lib.hid hB
  clear hB
  by_cases h0 : k = 0
  · subst h0
    have HV := Lib.hid (show validVal ⟨0, n, s⟩ = (n == 0 && s.toList.isEmpty) from validVal_0 n s)
    have hk0 : ((0 : Int) == 0) = true := by decide
    by_cases hn : n = 0 <;> by_cases hs0 : s.toList = []
    · have e2 : s.toList.isEmpty = true := by simp [hs0]
      have e1 : (n == 0) = true := by simp [hn]
      rw [e1, e2] at HV
      clear hs0 hn
      go_enter Tryd.func14, Tryd.ntmps14
      go_wp2_with (go_at_call 53; refine (refRowWithin_any _ _ _ _).mono ?_; rintro e w' ⟨rfl, rfl⟩)
      go_ret
      exact ⟨by rw [HV.out]; rfl, HB.out _⟩
    · have e2 : s.toList.isEmpty = false := by simp [hs0]
      have e1 : (n == 0) = true := by simp [hn]
      rw [e1, e2] at HV
      clear hs0 hn
      go_enter Tryd.func14, Tryd.ntmps14
      go_wp2_with (go_at_call 53; refine (refRowWithin_any _ _ _ _).mono ?_; rintro e w' ⟨rfl, rfl⟩)
      go_ret
      exact ⟨by rw [HV.out]; rfl, HB.out _⟩
    · have e2 : s.toList.isEmpty = true := by simp [hs0]
      have e1 : (n == 0) = false := by simp [hn]
      rw [e1, e2] at HV
      clear hs0 hn
      go_enter Tryd.func14, Tryd.ntmps14
      go_wp2_with (go_at_call 53; refine (refRowWithin_any _ _ _ _).mono ?_; rintro e w' ⟨rfl, rfl⟩)
      go_ret
      exact ⟨by rw [HV.out]; rfl, HB.out _⟩
    · have e2 : s.toList.isEmpty = false := by simp [hs0]
      have e1 : (n == 0) = false := by simp [hn]
      rw [e1, e2] at HV
      clear hs0 hn
      go_enter Tryd.func14, Tryd.ntmps14
      go_wp2_with (go_at_call 53; refine (refRowWithin_any _ _ _ _).mono ?_; rintro e w' ⟨rfl, rfl⟩)
      go_ret
      exact ⟨by rw [HV.out]; rfl, HB.out _⟩
  by_cases h1 : k = 1
  · subst h1
    have HV := Lib.hid (show validVal ⟨1, n, s⟩ = (decide (-1000000000000000 ≤ n ∧ n ≤ 1000000000000000) && s.toList.isEmpty) from validVal_1 n s)
    have hk0 : ((1 : Int) == 0) = false := by decide
    have hk1 : ((1 : Int) == 1) = true := by decide
    by_cases hn : -1000000000000000 ≤ n ∧ n ≤ 1000000000000000 <;> by_cases hs0 : s.toList = []
    · have e2 : s.toList.isEmpty = true := by simp [hs0]
      have e1 : decide (-1000000000000000 ≤ n ∧ n ≤ 1000000000000000) = true := by simpa using hn
      rw [e1, e2] at HV
      clear hs0 hn
      go_enter Tryd.func14, Tryd.ntmps14
      go_wp2_with (go_at_call 53; refine (refRowWithin_any _ _ _ _).mono ?_; rintro e w' ⟨rfl, rfl⟩)
      go_ret
      exact ⟨by rw [HV.out]; rfl, HB.out _⟩
    · have e2 : s.toList.isEmpty = false := by simp [hs0]
      have e1 : decide (-1000000000000000 ≤ n ∧ n ≤ 1000000000000000) = true := by simpa using hn
      rw [e1, e2] at HV
      clear hs0 hn
      go_enter Tryd.func14, Tryd.ntmps14
      go_wp2_with (go_at_call 53; refine (refRowWithin_any _ _ _ _).mono ?_; rintro e w' ⟨rfl, rfl⟩)
      go_ret
      exact ⟨by rw [HV.out]; rfl, HB.out _⟩
    · have e2 : s.toList.isEmpty = true := by simp [hs0]
      have e1 : decide (-1000000000000000 ≤ n ∧ n ≤ 1000000000000000) = false := by simpa using hn
      rw [e1, e2] at HV
      clear hs0 hn
      go_enter Tryd.func14, Tryd.ntmps14
      go_wp2_with (go_at_call 53; refine (refRowWithin_any _ _ _ _).mono ?_; rintro e w' ⟨rfl, rfl⟩)
      go_ret
      exact ⟨by rw [HV.out]; rfl, HB.out _⟩
    · have e2 : s.toList.isEmpty = false := by simp [hs0]
      have e1 : decide (-1000000000000000 ≤ n ∧ n ≤ 1000000000000000) = false := by simpa using hn
      rw [e1, e2] at HV
      clear hs0 hn
      go_enter Tryd.func14, Tryd.ntmps14
      go_wp2_with (go_at_call 53; refine (refRowWithin_any _ _ _ _).mono ?_; rintro e w' ⟨rfl, rfl⟩)
      go_ret
      exact ⟨by rw [HV.out]; rfl, HB.out _⟩
  by_cases h2 : k = 2
  · subst h2
    have HV := Lib.hid (show validVal ⟨2, n, s⟩ = (n == 0 && decide ((s.size : Int) ≤ 200)) from validVal_2 n s)
    have hk0 : ((2 : Int) == 0) = false := by decide
    have hk1 : ((2 : Int) == 1) = false := by decide
    have hk2 : ((2 : Int) == 2) = true := by decide
    by_cases hn : n = 0 <;> by_cases hs0 : (s.size : Int) ≤ 200
    · have e2 : decide ((s.size : Int) ≤ 200) = true := by simpa using hs0
      have e1 : (n == 0) = true := by simp [hn]
      rw [e1, e2] at HV
      clear hs0 hn
      go_enter Tryd.func14, Tryd.ntmps14
      go_wp2_with (go_at_call 53; refine (refRowWithin_any _ _ _ _).mono ?_; rintro e w' ⟨rfl, rfl⟩)
      go_ret
      exact ⟨by rw [HV.out]; rfl, HB.out _⟩
    · have e2 : decide ((s.size : Int) ≤ 200) = false := by simpa using hs0
      have e1 : (n == 0) = true := by simp [hn]
      rw [e1, e2] at HV
      clear hs0 hn
      go_enter Tryd.func14, Tryd.ntmps14
      go_wp2_with (go_at_call 53; refine (refRowWithin_any _ _ _ _).mono ?_; rintro e w' ⟨rfl, rfl⟩)
      go_ret
      exact ⟨by rw [HV.out]; rfl, HB.out _⟩
    · have e2 : decide ((s.size : Int) ≤ 200) = true := by simpa using hs0
      have e1 : (n == 0) = false := by simp [hn]
      rw [e1, e2] at HV
      clear hs0 hn
      go_enter Tryd.func14, Tryd.ntmps14
      go_wp2_with (go_at_call 53; refine (refRowWithin_any _ _ _ _).mono ?_; rintro e w' ⟨rfl, rfl⟩)
      go_ret
      exact ⟨by rw [HV.out]; rfl, HB.out _⟩
    · have e2 : decide ((s.size : Int) ≤ 200) = false := by simpa using hs0
      have e1 : (n == 0) = false := by simp [hn]
      rw [e1, e2] at HV
      clear hs0 hn
      go_enter Tryd.func14, Tryd.ntmps14
      go_wp2_with (go_at_call 53; refine (refRowWithin_any _ _ _ _).mono ?_; rintro e w' ⟨rfl, rfl⟩)
      go_ret
      exact ⟨by rw [HV.out]; rfl, HB.out _⟩
  have HV := Lib.hid (show validVal ⟨k, n, s⟩ = false by simp [validVal, h0, h1, h2])
  have hk0 : (k == 0) = false := by simp; omega
  have hk1 : (k == 1) = false := by simp; omega
  have hk2 : (k == 2) = false := by simp; omega
  clear h0 h1 h2
  go_enter Tryd.func14, Tryd.ntmps14
  go_wp2
  go_ret
  exact ⟨by rw [HV.out]; rfl, HB.out _⟩

/-! slices.IndexFunc, slices.ContainsFunc at tidewright/api.Row,tidewright/api.Value -/
set_option maxHeartbeats 1000000 in
theorem indexFuncRow (Fn : FuncId) (capt : Array Value) (p : Val → Bool) (xs : List Val) (v : Value) (w : World) (hv : (tSlice tVal).rv (mem w) [v] xs)
    (hcf : ∀ args w, Sem.run Tryd.prog (callFunc Fn args) w = .ok (.enter Fn args) w)
    (hf : ∀ x ∈ xs, ∀ wr, Below w.heap.size w wr → ∀ u, tVal.rv (mem wr) u.cells.toList x → u = .agg #[.int .i64 x.kind, .int .i64 x.n, .string x.s] → Calls Tryd.prog Fn (#[u] ++ capt) wr fun e w' => e = .returned (.bool (p x)) ∧ Below wr.heap.size wr w') :
    Calls Tryd.prog 88 #[v, .func (.func Fn) #[] capt] w fun e w' => e = .returned (.int .i64 (idxOf p xs)) ∧ Below w.heap.size w w' := by
  obtain ⟨a, cap, rfl, hl, hm, hv⟩ := slice_form hv
  have hcap : cap ≤ 9223372036854775807 := by unfold maxLen at hm; exact hm
  clear hm
  have HF := Lib.hid hf
  clear hf
  go_enter Tryd.func88, Tryd.ntmps88
  go_wp2
  go_loopw [8] (fun i wr => ∃ k : Nat, k ≤ xs.length ∧ i = .int .i64 k ∧ Hid (∀ x ∈ xs.take k, p x = false) ∧ Below w.heap.size w wr) (fun i _ => xs.length - (intOf i).toNat)
  case atStart => exact ⟨0, by omega, rfl, Lib.hid (by simp), Below.refl _ _⟩
  case round =>
    obtain ⟨k, hk, rfl, HT, hB⟩ := hrel
    by_cases hlt : k < xs.length
    · obtain ⟨b, o, rfl, hat⟩ := slice_at hv hlt
      have hat := tVal.at_mono (below_mem hB) hat
      obtain ⟨c0, c1, c2, i0, i1, i2⟩ := val_at hat
      have c0 : wr.cell? ⟨b, o + k * 3, none⟩ = some (.int .i64 xs[k].kind) := c0
      have c1 : wr.cell? ⟨b, o + k * 3 + 1, none⟩ = some (.int .i64 xs[k].n) := c1
      have c2 : wr.cell? ⟨b, o + k * 3 + 2, none⟩ = some (.string xs[k].s) := c2
      have hcall := HF.out xs[k] (List.getElem_mem hlt) wr hB (.agg #[.int .i64 xs[k].kind, .int .i64 xs[k].n, .string xs[k].s]) ⟨rfl, i0, i1, i2⟩ rfl
      have HI : p xs[k] = true → idxOf p xs = k := fun h => idxOf_at hlt h HT.out
      have HN : p xs[k] = false → ∀ x ∈ xs.take (k + 1), p x = false := fun h => mem_take_snoc hlt HT.out h
      have HI := Lib.hid HI
      have HN := Lib.hid HN
      clear hat hv HF HT
      generalize xs[k] = x at *
      generalize hpx : p x = r at hcall HI HN
      clear hpx
      have HC := Lib.hid hcall
      clear hcall
      go_wp2_with fail
      refine HC.out.mono ?_
      rintro e w1 ⟨rfl, hB1⟩
      have hB2 := pure_trans hB hB1
      clear HC hB hB1 c0 c1 c2
      cases r
      · go_wp2
        go_roundw
        case rel => exact ⟨k + 1, by omega, by go_num, Lib.hid (HN.out (by trivial)), hB2⟩
        case measure => simp [intOf]; omega
      · go_wp2
        go_ret
        exact ⟨by rw [HI.out (by trivial)]; rfl, hB2⟩
    · obtain rfl : k = xs.length := by omega
      have HX := Lib.hid (idxOf_none (p := p) (l := xs) (fun x hx => HT.out x (by rw [List.take_length]; exact hx)))
      go_wp2
      go_ret
      exact ⟨by rw [HX.out]; rfl, hB⟩
set_option maxHeartbeats 1000000 in
theorem containsFuncRow (Fn : FuncId) (capt : Array Value) (p : Val → Bool) (xs : List Val) (v : Value) (w : World) (hv : (tSlice tVal).rv (mem w) [v] xs)
    (hcf : ∀ args w, Sem.run Tryd.prog (callFunc Fn args) w = .ok (.enter Fn args) w)
    (hf : ∀ x ∈ xs, ∀ wr, Below w.heap.size w wr → ∀ u, tVal.rv (mem wr) u.cells.toList x → u = .agg #[.int .i64 x.kind, .int .i64 x.n, .string x.s] → Calls Tryd.prog Fn (#[u] ++ capt) wr fun e w' => e = .returned (.bool (p x)) ∧ Below wr.heap.size wr w') :
    Calls Tryd.prog 54 #[v, .func (.func Fn) #[] capt] w fun e w' => e = .returned (.bool (xs.any p)) ∧ Below w.heap.size w w' := by
  have H := Lib.hid (indexFuncRow Fn capt p xs v w hv hcf hf)
  have HA := Lib.hid (idxOf_any p xs)
  clear hcf hf hv
  generalize idxOf p xs = i at H HA
  go_enter Tryd.func54, Tryd.ntmps54
  go_wp2_with fail
  refine H.out.mono ?_
  rintro e w1 ⟨rfl, hB⟩
  go_wp2
  go_ret
  exact ⟨by rw [← HA.out]; rfl, hB⟩

set_option maxHeartbeats 400000 in
theorem valid1_any (x : Val) (w : World) (hs : x.s.size ≤ maxLen) :
    Calls Tryd.prog 55 #[.agg #[.int .i64 x.kind, .int .i64 x.n, .string x.s]] w fun e w' => e = .returned (.bool (!validVal x)) ∧ Below w.heap.size w w' := by
  have H := fun o => validValue_any x (w.alloc o) hs
  have HH := Lib.hid H
  clear H
  generalize validVal x = r at HH
  go_enter Tryd.func55, Tryd.ntmps55
  go_wp2_with fail
  refine (HH.out _).mono ?_
  rintro e w1 ⟨rfl, hB⟩
  go_wp2
  go_ret
  exact ⟨rfl, ((Below.refl _ _).alloc (Nat.le_refl _) _).trans (hB.mono (by simp))⟩
theorem not_any (l : List Val) : (!l.any fun x => !validVal x) = l.all validVal := by simp [List.all_eq_not_any_not]
set_option maxRecDepth 100000 in
set_option maxHeartbeats 400000 in
theorem rowValid_any (xs : List Val) (v : Value) (w : World) (hv : tRow.rv (mem w) [v] xs) :
    Calls Tryd.prog 15 #[v] w fun e w' => e = .returned (.bool (validRow xs)) ∧ Below w.heap.size w w' := by
  have HC := Lib.hid (containsFuncRow 55 #[] (fun x => !validVal x) xs v w hv (fun _ _ => rfl) (fun x hx wr hB u hu e => by subst e; exact valid1_any x wr hu.2.2.2))
  obtain ⟨a, cap, rfl, hl, hm, _⟩ := slice_form hv
  have hcap : cap ≤ 9223372036854775807 := by unfold maxLen at hm; exact hm
  have HV := Lib.hid (show validRow xs = (decide (xs.length ≤ 8) && !xs.any fun x => !validVal x) by unfold validRow; rw [not_any])
  clear hm hv
  generalize (xs.any fun x => !validVal x) = r at HC HV
  by_cases h8 : xs.length ≤ 8
  · have hd : decide (xs.length ≤ 8) = true := by simpa using h8
    rw [hd] at HV
    go_enter Tryd.func15, Tryd.ntmps15
    go_wp2_with (go_at_call 54; refine HC.out.mono ?_; rintro e w1 ⟨rfl, hB⟩)
    go_ret
    exact ⟨by rw [HV.out]; rfl, hB⟩
  · have hd : decide (xs.length ≤ 8) = false := by simpa using h8
    rw [hd] at HV
    go_enter Tryd.func15, Tryd.ntmps15
    go_wp2_with fail
    go_ret
    exact ⟨by rw [HV.out]; rfl, Below.refl _ _⟩

set_option maxHeartbeats 1000000 in
theorem refValid_any (xs : List Val) (v : Value) (w : World) (hv : tRow.rv (mem w) [v] xs) :
    Calls Tryd.prog 16 #[v] w fun e w' => e = .returned (.bool (validRow xs)) ∧ Below w.heap.size w w' := by
  obtain ⟨a, cap, rfl, hl, hm, hv⟩ := slice_form hv
  have hcap : cap ≤ 9223372036854775807 := by unfold maxLen at hm; exact hm
  clear hm
  go_enter Tryd.func16, Tryd.ntmps16
  go_wp2
  go_loopw [3] (fun i wr => ∃ k : Nat, k ≤ xs.length ∧ i = .int .i64 k ∧ Hid (∀ x ∈ xs.take k, validVal x = true) ∧ Below w.heap.size w wr) (fun i _ => xs.length - (intOf i).toNat)
  case atStart => exact ⟨0, by omega, rfl, Lib.hid (by simp), Below.refl _ _⟩
  case round =>
    obtain ⟨k, hk, rfl, HT, hB⟩ := hrel
    by_cases hlt : k < xs.length
    · obtain ⟨b, o, rfl, hat⟩ := slice_at hv hlt
      have hat := tVal.at_mono (below_mem hB) hat
      obtain ⟨c0, c1, c2, i0, i1, i2⟩ := val_at hat
      have c0 : wr.cell? ⟨b, o + k * 3, none⟩ = some (.int .i64 xs[k].kind) := c0
      have c1 : wr.cell? ⟨b, o + k * 3 + 1, none⟩ = some (.int .i64 xs[k].n) := c1
      have c2 : wr.cell? ⟨b, o + k * 3 + 2, none⟩ = some (.string xs[k].s) := c2
      have hcall := refValidValue_any xs[k] wr i2
      have HI := Lib.hid (show validVal xs[k] = false → validRow xs = false from fun h => by
        unfold validRow
        have : xs.all validVal = false := by
          rw [List.all_eq_false]
          exact ⟨xs[k], List.getElem_mem hlt, by simp [h]⟩
        rw [this]; simp)
      have HN := Lib.hid (show validVal xs[k] = true → ∀ x ∈ xs.take (k + 1), validVal x = true from fun h => mem_take_snoc hlt HT.out h)
      clear hat hv HT
      generalize xs[k] = x at *
      generalize validVal x = r at hcall HI HN
      have HC := Lib.hid hcall
      clear hcall i0 i1 i2
      go_wp2_with fail
      refine HC.out.mono ?_
      rintro e w1 ⟨rfl, hB1⟩
      have hB2 := pure_trans hB hB1
      clear HC hB hB1 c0 c1 c2
      cases r
      · go_wp2
        go_ret
        exact ⟨by rw [HI.out (by trivial)]; rfl, hB2⟩
      · go_wp2
        go_roundw
        case rel => exact ⟨k + 1, by omega, by go_num, Lib.hid (HN.out (by trivial)), hB2⟩
        case measure => simp [intOf]; omega
    · obtain rfl : k = xs.length := by omega
      have HX := Lib.hid (show validRow xs = decide ((xs.length : Int) ≤ 8) from by
        unfold validRow
        have : xs.all validVal = true := by
          rw [List.all_eq_true]
          exact fun x hx => HT.out x (by rw [List.take_length]; exact hx)
        rw [this]; simp; omega)
      go_wp2
      go_ret
      exact ⟨by rw [HX.out]; rfl, hB⟩
end Go.Proofs.YtkldimaoafgolaaDoor
/- row.quoted at this program. -/
namespace Go.Proofs.YtkldimaoafgolaaDoor
open Go.RowKit

def hexDigit (n : Nat) : UInt8 := if n < 10 then UInt8.ofNat (48 + n) else UInt8.ofNat (87 + n)
def quoteByte (c : UInt8) : List UInt8 :=
  if c.toNat = 34 ∨ c.toNat = 92 then [92, c] else if c.toNat = 10 then [92, 110]
  else if c.toNat < 32 ∨ 126 < c.toNat then [92, 120, hexDigit (c.toNat / 16), hexDigit (c.toNat % 16)] else [c]
def quoteList (l : List UInt8) : List UInt8 := 34 :: (l.flatMap quoteByte ++ [34])
theorem quoteByte_length (c : UInt8) : 1 ≤ (quoteByte c).length ∧ (quoteByte c).length ≤ 4 := by
  unfold quoteByte
  repeat' split
  all_goals simp
theorem quoteFlat_length (l : List UInt8) : (l.flatMap quoteByte).length ≤ 4 * l.length := by
  induction l with
  | nil => simp
  | cons c l ih => have := (quoteByte_length c).2; simp only [List.flatMap_cons, List.length_append, List.length_cons]; omega
theorem quoteList_length (l : List UInt8) : (quoteList l).length ≤ 4 * l.length + 2 := by
  have := quoteFlat_length l
  unfold quoteList
  simp only [List.length_append, List.length_cons, List.length_nil]
  omega
theorem flat_snoc {l : List UInt8} {k : Nat} (h : k < l.length) : (l.take (k + 1)).flatMap quoteByte = (l.take k).flatMap quoteByte ++ quoteByte l[k] := by
  rw [List.take_add_one, List.getElem?_eq_getElem h, List.flatMap_append]
  simp
theorem byteCells_append (a b : List UInt8) : Lib.byteCells (a ++ b) = Lib.byteCells a ++ Lib.byteCells b := by simp [Lib.byteCells]
/-- The builder's cells after one byte more. -/
theorem cells_one (a : List UInt8) (c : UInt8) : Lib.byteCells a ++ [.int .u8 c.toNat] = Lib.byteCells (a ++ [c]) := by simp [Lib.byteCells]
theorem cells_str (a : List UInt8) (l : List UInt8) : Lib.byteCells a ++ Lib.strCells ⟨l.toArray⟩ = Lib.byteCells (a ++ l) := by simp [Lib.byteCells, Lib.strCells]

def hexText : ByteArray := ⟨#[48, 49, 50, 51, 52, 53, 54, 55, 56, 57, 97, 98, 99, 100, 101, 102]⟩
theorem hexFin : ∀ n : Fin 16, hexText[n.val]'(by show n.val < 16; exact n.isLt) = hexDigit n.val := by decide
theorem hexAt (n : Nat) (h : n < hexText.size) : hexText[n].toNat = (hexDigit n).toNat := by
  rw [hexFin ⟨n, h⟩]
/-- A builder of the call's own that holds these bytes. -/
def Bld (B b : Nat) (l : List UInt8) (w : World) : Prop := Lib.IsBuilder 113 5 B b (Lib.byteCells l) w
theorem putByte (B b : Nat) (l : List UInt8) (c : UInt8) (w : World) (h : Bld B b l w) (hl : l.length + 1 ≤ 140737488355328) (hB : B ≤ w.heap.size) :
    Calls Tryd.prog 101 #[.pointer (some ⟨b, 0, none⟩), .int .u8 c.toNat] w fun e w' => e = .returned .nilIface ∧ Bld B b (l ++ [c]) w' ∧ Below B w w' := by
  refine (writeByte_any B b (Lib.byteCells l) c.toNat w h (by rw [Lib.byteCells_length]; exact hl) hB).mono ?_
  rintro e w' ⟨rfl, h1, h2⟩
  rw [cells_one] at h1
  exact ⟨rfl, .inr h1, h2⟩
theorem putStr (B b : Nat) (l m : List UInt8) (w : World) (h : Bld B b l w) (hm : 0 < m.length) (hl : l.length + m.length ≤ 140737488355328) (hB : B ≤ w.heap.size) :
    Calls Tryd.prog 96 #[.pointer (some ⟨b, 0, none⟩), .string ⟨m.toArray⟩] w fun e w' => (∃ x, e = .returned x) ∧ Bld B b (l ++ m) w' ∧ Below B w w' := by
  have hs : (ByteArray.mk m.toArray).size = m.length := by simp [ByteArray.size]
  refine (writeString_any B b (Lib.byteCells l) ⟨m.toArray⟩ w h (by rw [Lib.byteCells_length, hs]; exact hl) (by rw [hs]; exact hm) hB).mono ?_
  rintro e w' ⟨hx, h1, h2⟩
  rw [cells_str] at h1
  exact ⟨hx, .inr h1, h2⟩
theorem putVal (B b : Nat) (l : List UInt8) (c : UInt8) (v : Int) (hv : v = (c.toNat : Int)) (w : World) (h : Bld B b l w) (hl : l.length + 1 ≤ 140737488355328) (hB : B ≤ w.heap.size) :
    Calls Tryd.prog 101 #[.pointer (some ⟨b, 0, none⟩), .int .u8 v] w fun e w' => e = .returned .nilIface ∧ Bld B b (l ++ [c]) w' ∧ Below B w w' := by
  subst hv
  exact putByte B b l c w h hl hB

set_option maxRecDepth 100000 in
set_option maxHeartbeats 4000000 in
theorem quoted_any (s : ByteArray) (w : World) (hs : s.size ≤ 1000000000) :
    Calls Tryd.prog 82 #[.string s] w fun e w' => e = .returned (.string ⟨(quoteList s.data.toList).toArray⟩) ∧ Below w.heap.size w w' := by
  go_enter Tryd.func82, Tryd.ntmps82
  go_wp2_with fail
  refine (putByte w.heap.size w.heap.size [] 34 _ (Lib.fresh_isBuilder _ _ w) (by decide) (by simp)).mono ?_
  rintro e w1 ⟨rfl, h1, hb1⟩
  have hb1 := ((Below.refl w.heap.size w).alloc (Nat.le_refl _) _).trans hb1
  go_wp2
  go_loopw [9] (fun i wr => ∃ k : Nat, k ≤ s.data.toList.length ∧ i = .int .i64 k ∧ Bld w.heap.size w.heap.size (34 :: (s.data.toList.take k).flatMap quoteByte) wr ∧ Below w.heap.size w wr) (fun i _ => s.size - (intOf i).toNat)
  case atStart => exact ⟨0, by omega, rfl, h1, hb1⟩
  case round =>
    obtain ⟨k, hk, rfl, hB, hW⟩ := hrel
    have hlen : s.data.toList.length = s.size := rfl
    by_cases hlt : k < s.size
    · have hq := flat_snoc (l := s.data.toList) (k := k) hlt
      have hc : s.data.toList[k] = s[k] := rfl
      rw [hc] at hq
      have hc2 : s[k].toNat < 256 := UInt8.toNat_lt _
      have hql := quoteFlat_length (s.data.toList.take k)
      rw [List.length_take] at hql
      have HQ := Lib.hid hq
      clear hq hc h1
      by_cases h34 : s[k].toNat = 34
      · have HQB := Lib.hid (show quoteByte s[k] = [92, s[k]] from by unfold quoteByte; rw [if_pos (.inl h34)])
        go_wp2_with fail
        refine (putByte w.heap.size w.heap.size _ 92 _ hB (by simp only [List.length_cons, List.length_append, List.length_nil]; omega) (by have := hW.size; omega)).mono ?_
        rintro e w2 ⟨rfl, hB2, hb2⟩
        have hW2 := hW.trans hb2
        go_wp2_with fail
        refine (putVal w.heap.size w.heap.size _ s[k] _ (by omega) _ hB2 (by simp only [List.length_cons, List.length_append, List.length_nil]; omega) (by have := hW2.size; omega)).mono ?_
        rintro e w3 ⟨rfl, hB3, hb3⟩
        have hW3 := hW2.trans hb3
        have HB3 := Lib.hid (show Bld w.heap.size w.heap.size (34 :: (s.data.toList.take (k + 1)).flatMap quoteByte) w3 by
          rw [HQ.out, HQB.out]; simpa using hB3)
        clear hB hB2 hB3 hb2 hb3
        go_wp2
        go_roundw
        case rel => exact ⟨k + 1, by omega, by go_num, HB3.out, hW3⟩
        case measure => simp [intOf]; omega
      by_cases h92 : s[k].toNat = 92
      · have HQB := Lib.hid (show quoteByte s[k] = [92, s[k]] from by unfold quoteByte; rw [if_pos (.inr h92)])
        go_wp2_with fail
        refine (putByte w.heap.size w.heap.size _ 92 _ hB (by simp only [List.length_cons, List.length_append, List.length_nil]; omega) (by have := hW.size; omega)).mono ?_
        rintro e w2 ⟨rfl, hB2, hb2⟩
        have hW2 := hW.trans hb2
        go_wp2_with fail
        refine (putVal w.heap.size w.heap.size _ s[k] _ (by omega) _ hB2 (by simp only [List.length_cons, List.length_append, List.length_nil]; omega) (by have := hW2.size; omega)).mono ?_
        rintro e w3 ⟨rfl, hB3, hb3⟩
        have hW3 := hW2.trans hb3
        have HB3 := Lib.hid (show Bld w.heap.size w.heap.size (34 :: (s.data.toList.take (k + 1)).flatMap quoteByte) w3 by
          rw [HQ.out, HQB.out]; simpa using hB3)
        clear hB hB2 hB3 hb2 hb3
        go_wp2
        go_roundw
        case rel => exact ⟨k + 1, by omega, by go_num, HB3.out, hW3⟩
        case measure => simp [intOf]; omega
      by_cases h10 : s[k].toNat = 10
      · have HQB := Lib.hid (show quoteByte s[k] = [92, 110] by unfold quoteByte; rw [if_neg (by omega), if_pos h10])
        go_wp2_with fail
        all_goals try (exfalso; simp only [beq_iff_eq, beq_eq_false_iff_ne] at *; omega)
        refine (putStr w.heap.size w.heap.size _ [92, 110] _ hB (by decide) (by simp only [List.length_cons, List.length_append, List.length_nil]; omega) (by have := hW.size; omega)).mono ?_
        rintro e w2 ⟨⟨x, rfl⟩, hB2, hb2⟩
        have hW2 := hW.trans hb2
        have HB3 := Lib.hid (show Bld w.heap.size w.heap.size (34 :: (s.data.toList.take (k + 1)).flatMap quoteByte) w2 by
          rw [HQ.out, HQB.out]; simpa using hB2)
        clear hB hB2 hb2
        go_wp2
        go_roundw
        case rel => exact ⟨k + 1, by omega, by go_num, HB3.out, hW2⟩
        case measure => simp [intOf]; omega
      by_cases hin : 32 ≤ s[k].toNat ∧ s[k].toNat ≤ 126
      · have HQB := Lib.hid (show quoteByte s[k] = [s[k]] by unfold quoteByte; rw [if_neg (by omega), if_neg h10, if_neg (by omega)])
        obtain ⟨hi1, hi2⟩ := hin
        go_wp2_with fail
        all_goals try (exfalso; simp only [beq_iff_eq, beq_eq_false_iff_ne] at *; omega)
        refine (putVal w.heap.size w.heap.size _ s[k] _ (by omega) _ hB (by simp only [List.length_cons, List.length_append, List.length_nil]; omega) (by have := hW.size; omega)).mono ?_
        rintro e w2 ⟨rfl, hB2, hb2⟩
        have hW2 := hW.trans hb2
        have HB3 := Lib.hid (show Bld w.heap.size w.heap.size (34 :: (s.data.toList.take (k + 1)).flatMap quoteByte) w2 by
          rw [HQ.out, HQB.out]; simpa using hB2)
        clear hB hB2 hb2
        go_wp2
        go_roundw
        case rel => exact ⟨k + 1, by omega, by go_num, HB3.out, hW2⟩
        case measure => simp [intOf]; omega
      · have HQB := Lib.hid (show quoteByte s[k] = [92, 120, hexDigit (s[k].toNat / 16), hexDigit (s[k].toNat % 16)] by unfold quoteByte; rw [if_neg (by omega), if_neg h10, if_pos (by omega)])
        go_wp2_with fail
        all_goals try (exfalso; simp only [beq_iff_eq, beq_eq_false_iff_ne] at *; omega)
        all_goals
          refine (putStr w.heap.size w.heap.size _ [92, 120] _ hB (by decide) (by simp only [List.length_cons, List.length_append, List.length_nil]; omega) (by have := hW.size; omega)).mono ?_
          rintro e w2 ⟨⟨x, rfl⟩, hB2, hb2⟩
          have hW2 := hW.trans hb2
          go_wp2_with fail
        all_goals
          refine (putVal w.heap.size w.heap.size _ (hexDigit (s[k].toNat / 16)) _ (congrArg Nat.cast (hexAt _ _)) _ hB2 (by simp only [List.length_cons, List.length_append, List.length_nil]; omega) (by have := hW2.size; omega)).mono ?_
          rintro e w3 ⟨rfl, hB3, hb3⟩
          have hW3 := hW2.trans hb3
          clear hb3 hB2 hb2 hB
          go_wp2_with fail
        all_goals
          refine (putVal w.heap.size w.heap.size _ (hexDigit (s[k].toNat % 16)) _ (congrArg Nat.cast (hexAt _ _)) _ hB3 (by simp only [List.length_cons, List.length_append, List.length_nil]; omega) (by have := hW3.size; omega)).mono ?_
          rintro e w4 ⟨rfl, hB4, hb4⟩
          have hW4 := hW3.trans hb4
          have HB4 := Lib.hid (show Bld w.heap.size w.heap.size (34 :: (s.data.toList.take (k + 1)).flatMap quoteByte) w4 by
            rw [HQ.out, HQB.out]; simpa using hB4)
          clear hb4 hB3 hB4
          go_wp2
          go_roundw
          case rel => exact ⟨k + 1, by omega, by go_num, HB4.out, hW4⟩
          case measure => simp [intOf]; omega
    · obtain rfl : k = s.size := by omega
      have HF := Lib.hid (show (34 :: (s.data.toList.take s.size).flatMap quoteByte) ++ [34] = quoteList s.data.toList by
        rw [← hlen, List.take_length]; rfl)
      have hql := quoteFlat_length (s.data.toList.take s.size)
      rw [List.length_take] at hql
      clear h1
      go_wp2_with fail
      refine (putByte w.heap.size w.heap.size _ 34 _ hB (by simp only [List.length_cons, List.length_append, List.length_nil]; omega) (by have := hW.size; omega)).mono ?_
      rintro e w2 ⟨rfl, hB2, hb2⟩
      have hW2 := hW.trans hb2
      rw [HF.out] at hB2
      clear hB hb2 HF
      go_wp2_with fail
      refine (Tryd.Builder_String_any w.heap.size w.heap.size _ w2 hB2 (by have := hW2.size; omega)).mono ?_
      rintro e w3 ⟨rfl, hb3⟩
      go_wp2
      go_ret
      exact ⟨rfl, hW2.trans hb3⟩
end Go.Proofs.YtkldimaoafgolaaDoor
/- row.Text at this program, and chapter 2's example. -/
namespace Go.Proofs.YtkldimaoafgolaaDoor
open Go.RowKit

def valText (x : Val) : List UInt8 := if x.kind = 1 then Lib.itoa x.n else if x.kind = 2 then quoteList x.s.data.toList else [126]
def rowText (xs : List Val) : List UInt8 := if validRow xs = true then Lib.join (xs.map valText) [44] else []
theorem joinTail_le (sep : List UInt8) (N : Nat) (l : List (List UInt8)) (h : ∀ x ∈ l, x.length ≤ N) : (Lib.joinTail sep l).length ≤ l.length * (N + sep.length) := by
  induction l with
  | nil => simp [Lib.joinTail]
  | cons x l ih =>
    have h1 := ih (fun y hy => h y (List.mem_cons_of_mem _ hy))
    have h2 := h x List.mem_cons_self
    unfold Lib.joinTail at h1 ⊢
    rw [List.map_cons, List.flatten_cons, List.length_append, List.length_append, List.length_cons, Nat.add_mul]
    omega
theorem join_le (sep : List UInt8) (N : Nat) (l : List (List UInt8)) (h : ∀ x ∈ l, x.length ≤ N) : (Lib.join l sep).length ≤ l.length * (N + sep.length) := by
  cases l with
  | nil => simp [Lib.join_nil]
  | cons x l =>
    have h1 := joinTail_le sep N l (fun y hy => h y (List.mem_cons_of_mem _ hy))
    have h2 := h x List.mem_cons_self
    rw [Lib.join_cons, List.length_append, List.length_cons, Nat.add_mul]
    omega
theorem validVal_kinds {x : Val} (h : validVal x = true) : x.kind = 0 ∨ x.kind = 1 ∨ x.kind = 2 := by
  unfold validVal at h
  by_cases h0 : x.kind = 0
  · exact .inl h0
  by_cases h1 : x.kind = 1
  · exact .inr (.inl h1)
  by_cases h2 : x.kind = 2
  · exact .inr (.inr h2)
  simp [h0, h1, h2] at h
theorem validVal_size {x : Val} (h : validVal x = true) : x.s.size ≤ 200 := by
  obtain ⟨k, n, s⟩ := x
  rcases validVal_kinds h with h0 | h0 | h0 <;> simp only at h0 <;> subst h0
  · rw [validVal_0, empty_iff] at h; simp only [Bool.and_eq_true, decide_eq_true_eq] at h; show s.size ≤ 200; omega
  · rw [validVal_1, empty_iff] at h; simp only [Bool.and_eq_true, decide_eq_true_eq] at h; show s.size ≤ 200; omega
  · rw [validVal_2] at h; simp at h; show s.size ≤ 200; omega
theorem valText_length {x : Val} (h : validVal x = true) (hn : inI64 x.n) : (valText x).length ≤ 802 := by
  have h1 := Lib.itoa_length_le x.n hn.1 hn.2
  have h2 := quoteList_length x.s.data.toList
  have h3 := validVal_size h
  have h4 : x.s.data.toList.length = x.s.size := rfl
  unfold valText
  split
  · omega
  · split
    · omega
    · simp

abbrev Tryd.Tab (w : World) : Prop := Lib.TabIs Tryd.prog w "internal/strconv.uint64pow10" .u64 Lib.pow10Tab
theorem Tryd.tabSome : (Tryd.prog.globalNamed "internal/strconv.uint64pow10").isSome = true := by kernel_rfl
theorem Tryd.tabAt : ∃ g, Tryd.prog.globalNamed "internal/strconv.uint64pow10" = some g := Option.isSome_iff_exists.1 Tryd.tabSome
theorem Tryd.tabStays {w w' : World} (h : Tryd.Tab w) (hb : Below w.heap.size w w') : Tryd.Tab w' := by
  obtain ⟨g, hg⟩ := Tryd.tabAt
  exact Joins.tab_stays hg h hb (Nat.le_refl _)
theorem itoa_any (n : Int) (hn : inI64 n) (w : World) (ht : Tryd.Tab w) :
    Calls Tryd.prog 81 #[.int .i64 n] w fun e w' => e = .returned (.string ⟨(Lib.itoa n).toArray⟩) ∧ Below w.heap.size w w' := by
  refine (Tryd.strconv_Itoa n hn.1 hn.2 w ht).mono ?_
  rintro e w' ⟨rfl, k, os, rfl⟩
  exact ⟨rfl, ⟨rfl, rfl, rfl, by simp [Sort.grow], fun i hi => by
    show ((w.drewN k).heap ++ os)[i]? = _
    rw [Array.getElem?_append_left (by show i < w.heap.size; omega)]
    rfl⟩⟩
theorem Tryd.infoStr : (Tryd.prog.info? 9).map (fun i => (i.zero, i.size, i.bytes)) = some (some (.string ⟨#[]⟩), tStr.sz, 16) := by kernel_rfl

theorem owns_cells {w : World} {B : Nat} {e : TypeId} {v : Value} {l : List ByteArray} (h : Owns tStr w B e v l) (hpos : 0 < l.length) :
    ∃ g cap, v = .slice (some ⟨g, 0, none⟩) l.length cap ∧ l.length ≤ cap ∧ g < w.heap.size ∧ ∀ (j : Nat) x, l[j]? = some x → w.cell? ⟨g, 0 + j, none⟩ = some (.string x) := by
  have hr := h.rv'
  obtain ⟨a, cap, rfl, hl, hm, hr⟩ := slice_form hr
  obtain ⟨b, o, rfl, hat⟩ := slice_at hr hpos
  rcases h with ⟨css, h1, h2, h4, h5⟩
  rcases h2.2 with ⟨_, h6⟩ | ⟨g, cap', cur, hv, hg, hh, _⟩
  · omega
  · injection hv with hv1 hv2 hv3
    injection hv1 with hv1
    injection hv1 with hb ho
    subst hb; subst ho
    refine ⟨b, cap, rfl, hl, lt_of_block hh, fun j x hj => ?_⟩
    obtain ⟨hj1, hj2⟩ := List.getElem?_eq_some_iff.1 hj
    obtain ⟨b', o', hb', hat'⟩ := slice_at hr hj1
    injection hb' with hb'
    injection hb' with e1 e2
    subst e1; subst e2
    have := (str_at hat').1
    rw [hj2] at this
    have e : j * tStr.sz = j := Nat.mul_one j
    rw [e] at this
    exact this

/-- Append of one text. -/
theorem wpList_append_str {P : Program} {ops : Array Oper} {rest : List Oper} {o : Oper} {a : Act} {Q : Exit → Act → World → Prop} {w : World} (hgd : o.guard = none) (s x : Operand) (T : TypeId)
    (ho : o.op = .call { callee := .builtin .append, args := #[s, x], argTypes := #[T, T] }) {e : TypeId} (hT : P.underlying T = some (.slice e))
    (hinf : (P.info? e).map (fun i => (i.zero, i.size, i.bytes)) = some (some (.string ⟨#[]⟩), tStr.sz, 16)) (B : Nat) (v : Value) (xs : List ByteArray) (hs : a.eval s = v) (hown : Owns tStr w B e v xs)
    (nb c : Nat) (y : ByteArray) (hx : a.eval x = .slice (some ⟨nb, 0, none⟩) 1 c) (hc : w.cell? ⟨nb, 0, none⟩ = some (.string y)) (hin : y.size ≤ maxLen) (hlen : xs.length ≤ 1000000000) (hbase : B ≤ w.heap.size)
    (h : ∀ v' w', Owns tStr w' B e v' (xs ++ [y]) → w.grownBy w' v.ownBlock → (v'.ownBlock = v.ownBlock ∨ ∀ k, v'.ownBlock = some k → w.heap.size ≤ k) → wpList P ops Q rest (a.put o.dst v') w') : wpList P ops Q (o :: rest) a w :=
  wpList_append_one hgd s x T ho tStr hT hinf rfl (by decide) B v xs hs hown nb c y hx [.string y] (fun j u hj => by match j, hj with | 0, hj => simp at hj; subst hj; exact hc) ⟨rfl, hin⟩ (fun u hu => by simp at hu; subst hu; rfl) (by unfold maxLen; omega) (by omega) hbase h

set_option maxRecDepth 100000 in
set_option maxHeartbeats 2000000 in
theorem rowText_any (xs : List Val) (v : Value) (w : World) (hv : tRow.rv (mem w) [v] xs) (ht : Tryd.Tab w) :
    Calls Tryd.prog 46 #[v] w fun e w' => e = .returned (.string ⟨(rowText xs).toArray⟩) ∧ Below w.heap.size w w' := by
  have HV := Lib.hid (rowValid_any xs v w hv)
  obtain ⟨a, cap, rfl, hl, hm, hv⟩ := slice_form hv
  have hcap : cap ≤ 9223372036854775807 := by unfold maxLen at hm; exact hm
  clear hm
  have HT := Lib.hid (show rowText xs = if validRow xs = true then Lib.join (xs.map valText) [44] else [] from rfl)
  have HIN := Lib.hid (show ∀ x ∈ xs, inI64 x.n from fun x hx => by
    obtain ⟨k, hk, rfl⟩ := List.getElem_of_mem hx
    obtain ⟨b, o, rfl, hat⟩ := slice_at hv hk
    exact (val_at hat).2.2.2.2.1)
  have HA := Lib.hid (show validRow xs = true → xs.length ≤ 8 ∧ ∀ x ∈ xs, validVal x = true from fun h => by
    unfold validRow at h
    simpa using h)
  generalize validRow xs = r at HV HT HA
  go_enter Tryd.func46, Tryd.ntmps46
  go_wp2_with fail
  refine HV.out.mono ?_
  rintro e w1 ⟨rfl, hB1⟩
  cases r
  · go_wp2
    go_ret
    exact ⟨by rw [HT.out]; rfl, hB1⟩
  · obtain ⟨h8, hall⟩ := HA.out rfl
    have HALL := Lib.hid hall
    clear hall HA HV
    go_wp2
    go_loopw [3, 11] (fun ov i wr => ∃ k : Nat, k ≤ xs.length ∧ i = .int .i64 k ∧ Owns tStr wr w.heap.size 9 ov ((xs.take k).map fun x => ⟨(valText x).toArray⟩) ∧ Below w.heap.size w wr) (fun _ i _ => xs.length - (intOf i).toNat)
    case atStart => exact ⟨0, by omega, rfl, Owns.nil _ _ _ _, hB1⟩
    case round =>
      obtain ⟨k, hk, rfl, hown, hB⟩ := hrel
      by_cases hlt : k < xs.length
      · obtain ⟨b, o, rfl, hat⟩ := slice_at hv hlt
        have hat := tVal.at_mono (below_mem hB) hat
        obtain ⟨c0, c1, c2, i0, i1, i2⟩ := val_at hat
        have c0 : wr.cell? ⟨b, o + k * 3, none⟩ = some (.int .i64 xs[k].kind) := c0
        have c1 : wr.cell? ⟨b, o + k * 3 + 1, none⟩ = some (.int .i64 xs[k].n) := c1
        have c2 : wr.cell? ⟨b, o + k * 3 + 2, none⟩ = some (.string xs[k].s) := c2
        have hkind := validVal_kinds (HALL.out _ (List.getElem_mem hlt))
        have hsize := validVal_size (HALL.out _ (List.getElem_mem hlt))
        have HSNOC := Lib.hid (show ((xs.take (k + 1)).map fun x => (⟨(valText x).toArray⟩ : ByteArray)) = ((xs.take k).map fun x => (⟨(valText x).toArray⟩ : ByteArray)) ++ [⟨(valText xs[k]).toArray⟩] by
          rw [List.take_add_one, List.getElem?_eq_getElem hlt, List.map_append]; rfl)
        have HLEN := Lib.hid (show ((xs.take k).map fun x => (⟨(valText x).toArray⟩ : ByteArray)).length = k by
          rw [List.length_map, List.length_take]; omega)
        have HVT := Lib.hid (show valText xs[k] = if xs[k].kind = 1 then Lib.itoa xs[k].n else if xs[k].kind = 2 then quoteList xs[k].s.data.toList else [126] from rfl)
        clear hat hv
        generalize ((xs.take k).map fun x => (⟨(valText x).toArray⟩ : ByteArray)) = l at hown HSNOC HLEN
        generalize hL : ((xs.take (k + 1)).map fun x => (⟨(valText x).toArray⟩ : ByteArray)) = l' at HSNOC
        have HL := Lib.hid hL
        clear hL
        generalize xs[k] = x at *
        obtain ⟨xk, xn, xs'⟩ := x
        simp only at c0 c1 c2 i0 i1 i2 hkind hsize HVT
        have hBa : ∀ ob, Below w.heap.size w (wr.alloc ob) := fun ob => hB.alloc hB.size _
        rcases hkind with rfl | rfl | rfl
        · go_wp2_with (at_builtin; refine wpList_append_str rfl _ _ 86 rfl Tryd.underlying86 Tryd.infoStr w.heap.size _ l rfl ((hown.alloc _).alloc _) _ _ ⟨#[126]⟩ rfl ?c1 ?c2 ?c3 ?c4 ?_)
          case c2 => decide
          case c3 => rw [HLEN.out]; omega
          case c4 => have := hB.size; simp; omega
          intro v' w3 hown' hgrow _
          have hB3 : Below w.heap.size w w3 := ((hB.alloc hB.size _).alloc (by have := hB.size; simp; omega) _).grown hgrow (by have := hB.size; simp; omega) (fun k hk => (hown.lt k hk).1)
          have hown' : Owns tStr w3 w.heap.size 9 v' l' := by
            rw [HSNOC.out, HVT.out]; exact hown'
          clear hown hgrow c0 c1 c2
          go_wp2
          go_roundw
          case rel => exact ⟨k + 1, by omega, by go_num, by rw [HL.out]; exact hown', hB3⟩
          case measure => simp [intOf]; omega

        · go_wp2_with fail
          refine (itoa_any xn i1 _ (Tryd.tabStays ht (hBa _))).mono ?_
          rintro e w2 ⟨rfl, hb2⟩
          have hB2 := (hBa _).trans (hb2.mono (by have := hB.size; simp; omega))
          have hown := (hown.alloc _).keeps hb2
          have hlen := Lib.itoa_length_le xn i1.1 i1.2
          go_wp2_with (at_builtin; refine wpList_append_str rfl _ _ 86 rfl Tryd.underlying86 Tryd.infoStr w.heap.size _ l rfl (hown.alloc _) _ _ ⟨(Lib.itoa xn).toArray⟩ rfl ?d1 ?d2 ?d3 ?d4 ?_)
          case d1 => simp
          case d2 => simp [ByteArray.size]; unfold maxLen; omega
          case d3 => rw [HLEN.out]; omega
          case d4 => have := hB2.size; simp; omega
          intro v' w3 hown' hgrow _
          have hB3 : Below w.heap.size w w3 := (hB2.alloc hB2.size _).grown hgrow (by have := hB2.size; simp; omega) (fun k hk => (hown.lt k hk).1)
          have hown' : Owns tStr w3 w.heap.size 9 v' l' := by
            rw [HSNOC.out, HVT.out]; exact hown'
          clear hown hgrow c0 c1 c2
          go_wp2
          go_roundw
          case rel => exact ⟨k + 1, by omega, by go_num, by rw [HL.out]; exact hown', hB3⟩
          case measure => simp [intOf]; omega

        · go_wp2_with fail
          refine (quoted_any xs' _ (by omega)).mono ?_
          rintro e w2 ⟨rfl, hb2⟩
          have hB2 := (hBa _).trans (hb2.mono (by have := hB.size; simp; omega))
          have hown := (hown.alloc _).keeps hb2
          have hlen := quoteList_length xs'.data.toList
          have hlen2 : xs'.data.toList.length = xs'.size := rfl
          go_wp2_with (at_builtin; refine wpList_append_str rfl _ _ 86 rfl Tryd.underlying86 Tryd.infoStr w.heap.size _ l rfl (hown.alloc _) _ _ ⟨(quoteList xs'.data.toList).toArray⟩ rfl ?e1 ?e2 ?e3 ?e4 ?_)
          case e1 => simp
          case e2 => simp [ByteArray.size]; unfold maxLen; omega
          case e3 => rw [HLEN.out]; omega
          case e4 => have := hB2.size; simp; omega
          intro v' w3 hown' hgrow _
          have hB3 : Below w.heap.size w w3 := (hB2.alloc hB2.size _).grown hgrow (by have := hB2.size; simp; omega) (fun k hk => (hown.lt k hk).1)
          have hown' : Owns tStr w3 w.heap.size 9 v' l' := by
            rw [HSNOC.out, HVT.out]; exact hown'
          clear hown hgrow c0 c1 c2
          go_wp2
          go_roundw
          case rel => exact ⟨k + 1, by omega, by go_num, by rw [HL.out]; exact hown', hB3⟩
          case measure => simp [intOf]; omega

      · obtain rfl : k = xs.length := by omega
        rw [List.take_length] at hown
        rcases Nat.eq_zero_or_pos xs.length with h0 | hpos
        · obtain rfl : xs = [] := List.length_eq_zero_iff.1 h0
          obtain ⟨a', cap', rfl, _⟩ := hown.len
          go_wp2_with fail
          refine (Tryd.strings_Join_none _ _ _ _).mono ?_
          rintro e w2 ⟨rfl, rfl⟩
          go_wp2
          go_ret
          exact ⟨by rw [HT.out]; rfl, hB⟩
        · have hjl := join_le [44] 802 (xs.map valText) (fun y hy => by
            obtain ⟨x, hx, rfl⟩ := List.mem_map.1 hy
            exact valText_length (HALL.out x hx) (HIN.out x hx))
          have hmm : ((xs.map fun x => (⟨(valText x).toArray⟩ : ByteArray)).map (·.data.toList)) = xs.map valText := by
            rw [List.map_map]; exact List.map_congr_left (fun x _ => by simp)
          obtain ⟨g, cap', rfl, hle, hg, hcells⟩ := owns_cells hown (by simpa using hpos)
          have hJ := Tryd.strings_Join g 0 cap' _ ⟨#[44]⟩ wr hcells hg (by rw [List.length_map]; omega) hle (by rw [hmm]; rw [List.length_map] at hjl; show (Lib.join (xs.map valText) [44]).length ≤ _; simp only [List.length_cons, List.length_nil] at hjl; omega)
          rw [List.length_map, hmm] at hJ
          have HJ := Lib.hid hJ
          clear hJ hmm hcells hjl hown hle
          go_wp2_with fail
          refine HJ.out.mono ?_
          rintro e w2 ⟨rfl, hb2⟩
          go_wp2
          go_ret
          exact ⟨by rw [HT.out, if_pos trivial]; rfl, hB.trans (hb2.mono hB.size)⟩
end Go.Proofs.YtkldimaoafgolaaDoor
/- Decimal numerals: what is written is read. No program in sight. -/
namespace Go.Proofs.YtkldimaoafgolaaDoor
open Go.RowKit Go.Lib

def isDig (c : UInt8) : Bool := decide (48 ≤ c.toNat ∧ c.toNat ≤ 57)
def dval (acc : Nat) : List UInt8 → Nat
  | [] => acc
  | c :: r => dval (acc * 10 + (c.toNat - 48)) r
theorem dval_snoc (acc : Nat) (l : List UInt8) (c : UInt8) : dval acc (l ++ [c]) = dval acc l * 10 + (c.toNat - 48) := by
  induction l generalizing acc with
  | nil => rfl
  | cons a l ih => exact ih _
theorem dval_lt (l : List UInt8) : ∀ (acc k : Nat), acc < 10 ^ k → (∀ c ∈ l, isDig c = true) → dval acc l < 10 ^ (k + l.length) := by
  induction l with
  | nil =>
    intro acc k h _
    exact h
  | cons c r ih =>
    intro acc k h hd
    have hc := hd c (by simp)
    unfold isDig at hc
    have hc := of_decide_eq_true hc
    have h2 : acc * 10 + (c.toNat - 48) < 10 ^ (k + 1) := by rw [Nat.pow_succ]; omega
    have := ih (acc * 10 + (c.toNat - 48)) (k + 1) h2 (fun x hx => hd x (by simp [hx]))
    have e : k + (c :: r).length = k + 1 + r.length := by rw [List.length_cons]; omega
    rw [e]
    exact this
theorem ofNat_dig (d : Nat) (h : d < 10) : (UInt8.ofNat (48 + d)).toNat = 48 + d := by
  rw [UInt8.toNat_ofNat']
  omega
theorem decDigits_dig (u : Nat) : ∀ c ∈ decDigits u, isDig c = true := by
  induction u using Nat.strongRecOn with
  | _ u ih =>
    intro c hc
    rw [decDigits] at hc
    split at hc
    · simp only [List.mem_singleton] at hc
      subst hc
      unfold isDig
      rw [ofNat_dig u (by omega)]
      simp; omega
    · rcases List.mem_append.1 hc with hc | hc
      · exact ih (u / 10) (by omega) c hc
      · simp only [List.mem_singleton] at hc
        subst hc
        unfold isDig
        rw [ofNat_dig (u % 10) (by omega)]
        simp; omega
theorem decDigits_val (u : Nat) : dval 0 (decDigits u) = u := by
  induction u using Nat.strongRecOn with
  | _ u ih =>
    rw [decDigits]
    split
    · show 0 * 10 + ((UInt8.ofNat (48 + u)).toNat - 48) = u
      rw [ofNat_dig u (by omega)]
      omega
    · rw [dval_snoc, ih (u / 10) (by omega), ofNat_dig (u % 10) (by omega)]
      omega
theorem decDigits_ne (u : Nat) : decDigits u ≠ [] := fun e => by
  have h1 := decDigits_length u
  have h2 := nDigits_pos u
  rw [e] at h1
  simp at h1
  omega
theorem parseUint10_dval : ∀ (l : List UInt8) (acc : Nat), (∀ c ∈ l, isDig c = true) → dval acc l < 18446744073709551616 → parseUint10 acc l = .ok (dval acc l)
  | [], _, _, _ => rfl
  | c :: r, acc, hd, hb => by
    have hc := hd c (by simp)
    unfold isDig at hc
    have hc := of_decide_eq_true hc
    have hmono : ∀ (l : List UInt8) (a : Nat), a ≤ dval a l := fun l => by
      induction l with
      | nil => exact fun a => Nat.le_refl a
      | cons x l ih => exact fun a => Nat.le_trans (by omega) (ih (a * 10 + (x.toNat - 48)))
    have h1 := hmono r (acc * 10 + (c.toNat - 48))
    have hb' : dval (acc * 10 + (c.toNat - 48)) r < 18446744073709551616 := hb
    simp only [parseUint10, if_pos hc]
    rw [if_neg (by omega), if_neg (by omega)]
    exact parseUint10_dval r _ (fun x hx => hd x (by simp [hx])) hb'
theorem parseMag_digits (u : Nat) (h : u < 18446744073709551616) : parseMag (decDigits u) = .ok u := by
  unfold parseMag
  rw [if_neg (decDigits_ne u), parseUint10_dval _ 0 (decDigits_dig u) (by rw [decDigits_val]; exact h), decDigits_val]
theorem atoi_itoa (n : Int) (h : inI64 n) : atoiAll (itoa n) = .ok n := by
  obtain ⟨h1, h2⟩ := h
  unfold itoa
  by_cases hn : n < 0
  · rw [if_pos hn, atoiAll_minus, parseMag_digits _ (by omega)]
    simp only [signed]
    rw [if_neg (by omega)]
    congr 1
    omega
  · rw [if_neg hn]
    have hm := parseMag_digits n.toNat (by omega)
    have hd := decDigits_dig n.toNat
    have hne := decDigits_ne n.toNat
    cases hl : decDigits n.toNat with
    | nil => exact absurd hl hne
    | cons c r =>
      rw [hl] at hm hd
      have hc := hd c (by simp)
      unfold isDig at hc
      have hc := of_decide_eq_true hc
      rw [atoiAll_plain c r (by omega) (by omega), hm]
      simp only [signless]
      rw [if_neg (by omega)]
      congr 1
      omega
theorem itoa_inj {a b : Int} (ha : inI64 a) (hb : inI64 b) (h : itoa a = itoa b) : a = b := by
  have h1 := atoi_itoa a ha
  rw [h, atoi_itoa b hb] at h1
  injection h1 with h1
  exact h1.symm
/-- The bytes of a numeral: digits, and a minus ahead. -/
theorem itoa_bytes (n : Int) : ∀ c ∈ itoa n, c.toNat = 45 ∨ (48 ≤ c.toNat ∧ c.toNat ≤ 57) := by
  intro c hc
  unfold itoa at hc
  have key : ∀ u, c ∈ decDigits u → 48 ≤ c.toNat ∧ c.toNat ≤ 57 := fun u hu => by
    have := decDigits_dig u c hu
    unfold isDig at this
    exact of_decide_eq_true this
  split at hc
  · rcases List.mem_cons.1 hc with rfl | hc
    · exact .inl rfl
    · exact .inr (key _ hc)
  · exact .inr (key _ hc)
theorem itoa_ne (n : Int) : itoa n ≠ [] := by
  unfold itoa
  split
  · simp
  · exact decDigits_ne _
theorem nDigits_le {u k : Nat} (hk : 1 ≤ k) (h : u < 10 ^ k) : nDigits u ≤ k := by
  induction k generalizing u with
  | zero => omega
  | succ k ih =>
    by_cases hu : u < 10
    · rw [nDigits_small hu]; omega
    · rw [nDigits_big hu]
      have hk' : 1 ≤ k := by
        rcases Nat.eq_zero_or_pos k with rfl | h0
        · simp at h; omega
        · exact h0
      have := ih hk' (u := u / 10) (by rw [Nat.pow_succ] at h; omega)
      omega

/-- The reference's Number. -/
def numTail (l : List UInt8) : List UInt8 := match l with | c :: r => if c = 45 then r else c :: r | [] => []
def numNeg (l : List UInt8) : Bool := match l with | c :: _ => c == 45 | [] => false
def numberOf (l : List UInt8) : Int × Bool :=
  if (numTail l).all isDig = true ∧ (numTail l).length ≤ 18 then (if numNeg l = true then -(dval 0 (numTail l) : Int) else (dval 0 (numTail l) : Int), decide (0 < (numTail l).length)) else (0, false)
theorem numberOf_itoa (n : Int) (h1 : -1000000000000000000 < n) (h2 : n < 1000000000000000000) : numberOf (itoa n) = (n, true) := by
  have key : ∀ u : Nat, u < 1000000000000000000 → (decDigits u).all isDig = true ∧ (decDigits u).length ≤ 18 ∧ 0 < (decDigits u).length := fun u hu => by
    refine ⟨List.all_eq_true.2 (decDigits_dig u), ?_, ?_⟩
    · rw [decDigits_length]
      exact nDigits_le (by decide) (by simpa using hu)
    · rw [decDigits_length]
      exact nDigits_pos u
  by_cases hn : n < 0
  · have hi : itoa n = 45 :: decDigits n.natAbs := by unfold itoa; rw [if_pos hn]
    obtain ⟨k1, k2, k3⟩ := key n.natAbs (by omega)
    have ht : numTail (45 :: decDigits n.natAbs) = decDigits n.natAbs := by simp [numTail]
    have hg : numNeg (45 :: decDigits n.natAbs) = true := by simp [numNeg]
    rw [hi]
    unfold numberOf
    rw [ht, hg, if_pos ⟨k1, k2⟩, if_pos rfl, decDigits_val]
    simp only [k3, decide_true, Prod.mk.injEq, and_true]
    omega
  · have hi : itoa n = decDigits n.toNat := by unfold itoa; rw [if_neg hn]
    obtain ⟨k1, k2, k3⟩ := key n.toNat (by omega)
    have hd := decDigits_dig n.toNat
    have hv := decDigits_val n.toNat
    rw [hi]
    generalize decDigits n.toNat = l at *
    cases l with
    | nil => simp at k3
    | cons c r =>
      have hc := hd c (by simp)
      unfold isDig at hc
      have hc := of_decide_eq_true hc
      have hne : ¬ c = 45 := fun e => by subst e; revert hc; decide
      have ht : numTail (c :: r) = c :: r := by simp [numTail, hne]
      have hg : numNeg (c :: r) = false := by simp [numNeg, hne]
      unfold numberOf
      rw [ht, hg, if_pos ⟨k1, k2⟩, if_neg Bool.false_ne_true, hv]
      simp only [k3, decide_true, Prod.mk.injEq, and_true]
      omega
end Go.Proofs.YtkldimaoafgolaaDoor
/- Canonical texts of rows: what a reader meets. -/
namespace Go.Proofs.YtkldimaoafgolaaDoor
open Go.RowKit

def leftText (l : List Val) : List UInt8 := Lib.join (l.map valText) [44]
theorem left_one (x : Val) : leftText [x] = valText x := by simp [leftText, Lib.join_cons, Lib.joinTail]
theorem left_more (x y : Val) (l : List Val) : leftText (x :: y :: l) = valText x ++ 44 :: leftText (y :: l) := by
  simp [leftText, Lib.join_cons, Lib.joinTail]
theorem left_row {r : List Val} (h : validRow r = true) : rowText r = leftText r := by unfold rowText leftText; rw [if_pos h]

/-- A quoted text behind its first byte, and what is behind it. -/
def qrest (q rest : List UInt8) : List UInt8 := q.flatMap quoteByte ++ 34 :: rest
theorem quote_rest (q rest : List UInt8) : quoteList q ++ rest = 34 :: qrest q rest := by simp [quoteList, qrest]
theorem q_cons (c : UInt8) (q rest : List UInt8) : qrest (c :: q) rest = quoteByte c ++ qrest q rest := by simp [qrest]
theorem quote_cases (c : UInt8) : ((c.toNat = 34 ∨ c.toNat = 92) ∧ quoteByte c = [92, c]) ∨ (c.toNat = 10 ∧ quoteByte c = [92, 110]) ∨ (c.toNat ≠ 34 ∧ c.toNat ≠ 92 ∧ quoteByte c = [92, 120, hexDigit (c.toNat / 16), hexDigit (c.toNat % 16)]) ∨ (c.toNat ≠ 34 ∧ c.toNat ≠ 92 ∧ quoteByte c = [c]) := by
  by_cases h1 : c.toNat = 34 ∨ c.toNat = 92
  · exact .inl ⟨h1, by unfold quoteByte; rw [if_pos h1]⟩
  · by_cases h2 : c.toNat = 10
    · exact .inr (.inl ⟨h2, by unfold quoteByte; rw [if_neg h1, if_pos h2]⟩)
    · by_cases h3 : c.toNat < 32 ∨ 126 < c.toNat
      · exact .inr (.inr (.inl ⟨by omega, by omega, by unfold quoteByte; rw [if_neg h1, if_neg h2, if_pos h3]⟩))
      · exact .inr (.inr (.inr ⟨by omega, by omega, by unfold quoteByte; rw [if_neg h1, if_neg h2, if_neg h3]⟩))
/-- What a reader of a quoted text has read, and what is left, if the text is canonical. -/
def QCond (all b s : List UInt8) : Prop := ∀ q rest, all = 34 :: qrest q rest → ∃ i, i ≤ q.length ∧ b = q.take i ∧ s = qrest (q.drop i) rest
theorem QCond.start (all s : List UInt8) (h : all = 34 :: s) : QCond all [] s := fun q rest e => ⟨0, by omega, rfl, by rw [h] at e; injection e⟩
theorem QCond.next {all b s : List UInt8} (h : QCond all b s) {q rest : List UInt8} (e : all = 34 :: qrest q rest) : (b = q ∧ s = 34 :: rest) ∨ ∃ i, ∃ hi : i < q.length, b = q.take i ∧ s = quoteByte q[i] ++ qrest (q.drop (i + 1)) rest := by
  obtain ⟨i, hi, hb, hs⟩ := h q rest e
  by_cases hl : i < q.length
  · exact .inr ⟨i, hl, hb, by rw [hs, List.drop_eq_getElem_cons hl, q_cons]⟩
  · obtain rfl : i = q.length := by omega
    exact .inl ⟨by rw [hb, List.take_length], by rw [hs, List.drop_length]; rfl⟩
theorem q_snoc {q : List UInt8} {i : Nat} (hi : i < q.length) {b : List UInt8} (hb : b = q.take i) : b ++ [q[i]] = q.take (i + 1) := by rw [hb, List.take_succ_eq_append_getElem hi]
theorem QCond.plain {all b s : List UInt8} {c : UInt8} (h : QCond all b (c :: s)) (h1 : c.toNat ≠ 34) (h2 : c.toNat ≠ 92) : QCond all (b ++ [c]) s := fun q rest e => by
  rcases h.next e with ⟨_, hs⟩ | ⟨i, hi, hb, hs⟩
  · injection hs with hs _; exact absurd (by rw [hs]; rfl) h1
  · rcases quote_cases q[i] with ⟨_, g⟩ | ⟨_, g⟩ | ⟨_, _, g⟩ | ⟨_, _, g⟩ <;> rw [g] at hs <;> injection hs with hs1 hs2
    · exact absurd (by rw [hs1]; rfl) h2
    · exact absurd (by rw [hs1]; rfl) h2
    · exact absurd (by rw [hs1]; rfl) h2
    · exact ⟨i + 1, hi, by rw [hs1]; exact q_snoc hi hb, hs2⟩
theorem QCond.nl {all b s : List UInt8} (h : QCond all b (92 :: 110 :: s)) : QCond all (b ++ [10]) s := fun q rest e => by
  rcases h.next e with ⟨_, hs⟩ | ⟨i, hi, hb, hs⟩
  · injection hs with hs _; cases hs
  · rcases quote_cases q[i] with ⟨k, g⟩ | ⟨k, g⟩ | ⟨_, _, g⟩ | ⟨_, k, g⟩ <;> rw [g] at hs <;> injection hs with hs1 hs2
    · injection hs2 with hs2 hs3
      rw [← hs2] at k; rcases k with k | k <;> cases k
    · injection hs2 with hs2 hs3
      have hq : q[i] = 10 := UInt8.toNat_inj.1 k
      exact ⟨i + 1, hi, by rw [← hq]; exact q_snoc hi hb, hs3⟩
    · injection hs2 with hs2 hs3; cases hs2
    · rw [← hs1] at k; exact absurd rfl k
/-- The two digits of a byte, as a reader of numbers tells it. -/
def HexIs (h1 h2 : UInt8) (n : Nat) : Prop := ∀ c : UInt8, h1 = hexDigit (c.toNat / 16) → h2 = hexDigit (c.toNat % 16) → n = c.toNat
theorem QCond.hex {all b s : List UInt8} {h1 h2 : UInt8} {n : Nat} (h : QCond all b (92 :: 120 :: h1 :: h2 :: s)) (hn : HexIs h1 h2 n) : QCond all (b ++ [UInt8.ofNat n]) s := fun q rest e => by
  rcases h.next e with ⟨_, hs⟩ | ⟨i, hi, hb, hs⟩
  · injection hs with hs _; cases hs
  · rcases quote_cases q[i] with ⟨k, g⟩ | ⟨k, g⟩ | ⟨_, _, g⟩ | ⟨_, k, g⟩ <;> rw [g] at hs <;> injection hs with hs1 hs2
    · injection hs2 with hs2 hs3
      rw [← hs2] at k; rcases k with k | k <;> cases k
    · injection hs2 with hs2 hs3; cases hs2
    · injection hs2 with hs2 hs3; injection hs3 with hs3 hs4; injection hs4 with hs4 hs5
      have := hn q[i] hs3 hs4
      exact ⟨i + 1, hi, by rw [this, UInt8.ofNat_toNat]; exact q_snoc hi hb, hs5⟩
    · rw [← hs1] at k; exact absurd rfl k
theorem QCond.esc {all b s : List UInt8} {c : UInt8} (h : QCond all b (92 :: c :: s)) (h1 : c.toNat ≠ 110) (h2 : c.toNat = 120 → s.length < 2) : QCond all (b ++ [c]) s := fun q rest e => by
  rcases h.next e with ⟨_, hs⟩ | ⟨i, hi, hb, hs⟩
  · injection hs with hs _; cases hs
  · rcases quote_cases q[i] with ⟨k, g⟩ | ⟨k, g⟩ | ⟨_, _, g⟩ | ⟨_, k, g⟩ <;> rw [g] at hs <;> injection hs with hs1 hs2
    · injection hs2 with hs2 hs3
      exact ⟨i + 1, hi, by rw [hs2]; exact q_snoc hi hb, hs3⟩
    · injection hs2 with hs2 hs3; exact absurd (by rw [hs2]; rfl) h1
    · injection hs2 with hs2 hs3
      have := h2 (by rw [hs2]; rfl)
      rw [hs3] at this
      simp at this
      omega
    · rw [← hs1] at k; exact absurd rfl k
theorem QCond.short {all b b' : List UInt8} (h : QCond all b [92]) : QCond all b' [] := fun q rest e => by
  rcases h.next e with ⟨_, hs⟩ | ⟨i, hi, hb, hs⟩
  · injection hs with hs _; cases hs
  · rcases quote_cases q[i] with ⟨k, g⟩ | ⟨k, g⟩ | ⟨_, _, g⟩ | ⟨_, k, g⟩ <;> rw [g] at hs <;> injection hs with hs1 hs2
    · cases hs2
    · cases hs2
    · cases hs2
    · rw [← hs1] at k; exact absurd rfl k
theorem QCond.done {all b s : List UInt8} (h : QCond all b (34 :: s)) {q rest : List UInt8} (e : all = 34 :: qrest q rest) : b = q ∧ s = rest := by
  rcases h.next e with ⟨hb, hs⟩ | ⟨i, hi, hb, hs⟩
  · injection hs with _ hs; exact ⟨hb, hs⟩
  · rcases quote_cases q[i] with ⟨k, g⟩ | ⟨k, g⟩ | ⟨_, _, g⟩ | ⟨k, _, g⟩ <;> rw [g] at hs <;> injection hs with hs1 hs2
    · cases hs1
    · cases hs1
    · cases hs1
    · rw [← hs1] at k; exact absurd rfl k
theorem QCond.none {all b : List UInt8} (h : QCond all b []) {q rest : List UInt8} (e : all = 34 :: qrest q rest) : False := by
  rcases h.next e with ⟨_, hs⟩ | ⟨i, hi, hb, hs⟩
  · cases hs
  · rcases quote_cases q[i] with ⟨k, g⟩ | ⟨k, g⟩ | ⟨_, _, g⟩ | ⟨_, k, g⟩ <;> rw [g] at hs <;> cases hs
/-- The first byte of a value's text. -/
theorem val_head {x : Val} (h : validVal x = true) : (x.kind = 0 ∧ valText x = [126]) ∨ (x.kind = 1 ∧ valText x = Lib.itoa x.n) ∨ (x.kind = 2 ∧ valText x = quoteList x.s.data.toList) := by
  rcases validVal_kinds h with k | k | k <;> unfold valText
  · exact .inl ⟨k, by rw [if_neg (by omega), if_neg (by omega)]⟩
  · exact .inr (.inl ⟨k, by rw [if_pos k]⟩)
  · exact .inr (.inr ⟨k, by rw [if_neg (by omega), if_pos k]⟩)
end Go.Proofs.YtkldimaoafgolaaDoor
/- strconv.Atoi and strconv.ParseUint at two bytes, base 16. -/
namespace Go.Proofs.YtkldimaoafgolaaDoor
open Go.RowKit

/-- What the two variables of strconv hold: some error each. -/
structure Tryd.Errs (w : World) : Prop where
  syn : ∃ t p, w.cell? ⟨4, 0, none⟩ = some (.iface t p)
  rng : ∃ t p, w.cell? ⟨5, 0, none⟩ = some (.iface t p)
theorem Tryd.errsStay {w w' : World} (h : Tryd.Errs w) (hb : Below w.heap.size w w') : Tryd.Errs w' :=
  ⟨let ⟨t, p, h⟩ := h.syn; ⟨t, p, below_mem hb _ _ _ h⟩, let ⟨t, p, h⟩ := h.rng; ⟨t, p, below_mem hb _ _ _ h⟩⟩
/-- What Atoi gives: some number; of a numeral its number, and no error. -/
def Atois (l : List UInt8) (w : World) (e : Ending) (w' : World) : Prop :=
  ∃ n ev, e = .returned (.tuple #[.int .i64 n, ev]) ∧ inI64 n ∧ (ev = .nilIface ∨ ∃ t p, ev = .iface t p) ∧ (∀ m, inI64 m → l = Lib.itoa m → n = m ∧ ev = .nilIface) ∧ Below w.heap.size w w'
theorem atoi_any (s : ByteArray) (hs : s.size ≤ 281474976710656) (w : World) (he : Tryd.Errs w) :
    Calls Tryd.prog 104 #[.string s] w (Atois s.data.toList w) := by
  cases h : Lib.atoiAll s.data.toList
  case ok v =>
    refine (Tryd.strconv_Atoi_ok s (by omega) v h w).mono ?_
    rintro e w' ⟨rfl, hw⟩
    have hv := Lib.atoiAll_bounds h
    refine ⟨v, .nilIface, rfl, hv, .inl rfl, fun m hm hl => ⟨?_, rfl⟩, ?_⟩
    · rw [hl, atoi_itoa m hm] at h
      injection h with h
      exact h.symm
    · rcases hw with rfl | ⟨t, rfl⟩
      · exact Below.refl _ _
      · exact Lib.bytesWorld_below _ _ _
  · have h := h
    obtain ⟨t, p, hc⟩ := he.syn
    refine (Tryd.strconv_Atoi_syntax s hs h _ w hc (.inr ⟨_, _, rfl⟩)).mono ?_
    rintro e w' ⟨N, rfl, -, -, hb⟩
    exact ⟨0, _, rfl, ⟨by decide, by decide⟩, .inr ⟨_, _, rfl⟩, fun m hm hl => (by rw [hl, atoi_itoa m hm] at h; cases h), hb⟩
  · have h := h
    obtain ⟨t, p, hc⟩ := he.rng
    refine (Tryd.strconv_Atoi_range s hs h _ w hc (.inr ⟨_, _, rfl⟩)).mono ?_
    rintro e w' ⟨N, rfl, -, -, hb⟩
    refine ⟨_, _, rfl, ?_, .inr ⟨_, _, rfl⟩, fun m hm hl => (by rw [hl, atoi_itoa m hm] at h; cases h), hb⟩
    unfold Lib.atoiSat
    split <;> exact ⟨by decide, by decide⟩

theorem hex_lt (d : Nat) (h : d < 16) : (hexDigit d).toNat < 128 := by
  have : ∀ n : Fin 16, (hexDigit n.val).toNat < 128 := by decide
  exact this ⟨d, h⟩
theorem hex_dig {d : Nat} (h : d < 16) : (d < 10 ∧ (hexDigit d).toNat = 48 + d) ∨ (10 ≤ d ∧ (hexDigit d).toNat = 87 + d) := by
  have : ∀ n : Fin 16, (n.val < 10 ∧ (hexDigit n.val).toNat = 48 + n.val) ∨ (10 ≤ n.val ∧ (hexDigit n.val).toNat = 87 + n.val) := by decide
  exact this ⟨d, h⟩
theorem lower_hex {c : Int} (h : 97 ≤ c ∧ c ≤ 102) : bits .or .u8 c 32 = c := by
  rcases (by omega : c = 97 ∨ c = 98 ∨ c = 99 ∨ c = 100 ∨ c = 101 ∨ c = 102) with rfl | rfl | rfl | rfl | rfl | rfl <;> decide
def digK (b : UInt8) (k : Nat) : Nat := if k = 0 then b.toNat / 16 else b.toNat % 16
def preK (b : UInt8) (k : Nat) : Nat := if k = 0 then 0 else if k = 1 then b.toNat / 16 else b.toNat
theorem preK_step (b : UInt8) {k : Nat} (hk : k < 2) : preK b (k + 1) = preK b k * 16 + digK b k := by
  rcases (by omega : k = 0 ∨ k = 1) with rfl | rfl <;> simp [preK, digK]
  omega
/-- The value so far, of the first k of two digits. -/
def HexAt (h1 h2 : UInt8) (k : Nat) (a : Int) : Prop := (0 ≤ a ∧ a < 16 ^ k) ∧ ∀ b : UInt8, h1 = hexDigit (b.toNat / 16) → h2 = hexDigit (b.toNat % 16) → a = preK b k

set_option maxRecDepth 100000 in
set_option maxHeartbeats 4000000 in
theorem parseUint16 (h1 h2 : UInt8) (w : World) :
    Calls Tryd.prog 120 #[.string ⟨#[h1, h2]⟩, .int .i64 16, .int .i64 8] w fun e w' => Below w.heap.size w w' ∧ ∃ n : Nat, n ≤ 255 ∧ HexIs h1 h2 n ∧ ∃ ev, e = .returned (.tuple #[.int .u64 n, ev]) ∧ (ev = .nilIface ∨ ev = .iface 147 (.int .i64 2)) := by
  have hcv := Lib.run_convert_string_bytes (P := Tryd.prog) w 9 111 5 ⟨#[h1, h2]⟩ (u := .string) Tryd.underlying9 Tryd.underlying111 Tryd.underlying5
  have hB0 := Lib.bytesWorld_cell w 5 ⟨#[h1, h2]⟩ 0 (by show 0 < 2; omega)
  have hB1 := Lib.bytesWorld_cell w 5 ⟨#[h1, h2]⟩ 1 (by show 1 < 2; omega)
  have HBW := Lib.hid (Lib.bytesWorld_below w 5 ⟨#[h1, h2]⟩)
  have hB0 : (Lib.bytesWorld w 5 ⟨#[h1, h2]⟩).cell? ⟨w.heap.size, 0, none⟩ = some (.int .u8 h1.toNat) := hB0
  have hB1 : (Lib.bytesWorld w 5 ⟨#[h1, h2]⟩).cell? ⟨w.heap.size, 1, none⟩ = some (.int .u8 h2.toNat) := hB1
  obtain ⟨W1, hW1⟩ : ∃ W1, W1 = Lib.bytesWorld w 5 ⟨#[h1, h2]⟩ := ⟨_, rfl⟩
  rw [← hW1] at hcv hB0 hB1 HBW
  clear hW1
  go_enter Tryd.func120, Tryd.ntmps120
  go_wp2
  go_loop [12, 13, 101] (fun vu vn vi => ∃ (k : Nat) (a : Int), vu = .bool false ∧ vn = .int .u64 a ∧ vi = .int .i64 k ∧ k ≤ 2 ∧ Hid (HexAt h1 h2 k a)) (fun _ _ vi => 2 - (intOf vi).toNat)
  case atStart => exact ⟨0, 0, rfl, rfl, rfl, by omega, Lib.hid ⟨⟨by omega, by decide⟩, fun b _ _ => rfl⟩⟩
  case round =>
    obtain ⟨k, a, rfl, rfl, rfl, hk, hh⟩ := hrel
    by_cases hkn : k < 2
    · obtain ⟨c, hc, HC⟩ : ∃ c : UInt8, W1.cell? ⟨w.heap.size, k, none⟩ = some (.int .u8 c.toNat) ∧ Hid (∀ b : UInt8, h1 = hexDigit (b.toNat / 16) → h2 = hexDigit (b.toNat % 16) → c = hexDigit (digK b k)) := by
        rcases (by omega : k = 0 ∨ k = 1) with rfl | rfl
        · exact ⟨h1, hB0, Lib.hid (fun b e _ => e)⟩
        · exact ⟨h2, hB1, Lib.hid (fun b _ e => e)⟩
      have ha : 0 ≤ a ∧ a < 16 := by
        have h := hh.out.1
        rcases (by omega : k = 0 ∨ k = 1) with rfl | rfl
        · have : a < 1 := by simpa using h.2
          omega
        · have : a < 16 := by simpa using h.2
          omega
      have HA := Lib.hid hh.out.2
      have HK := Lib.hid hkn
      have HDG := Lib.hid (show ∀ b : UInt8, digK b k < 16 from fun b => by have := b.toNat_lt; unfold digK; split <;> omega)
      have HPW := Lib.hid (show a * 16 + 16 ≤ 16 ^ (k + 1) from by
        have h := hh.out.1
        rcases (by omega : k = 0 ∨ k = 1) with rfl | rfl
        · have : a < 1 := by simpa using h.2
          omega
        · omega)
      clear hB0 hB1 hh hcv
      have hc256 : c.toNat < 256 := c.toNat_lt
      by_cases hdig : 48 ≤ c.toNat ∧ c.toNat ≤ 57
      · have HN := Lib.hid (show HexAt h1 h2 (k + 1) (a * 16 + ((c.toNat : Int) - 48)) from ⟨⟨by omega, by have := HPW.out; omega⟩, fun b e1 e2 => by
          have h := HC.out b e1 e2
          have hd := hex_dig (HDG.out b)
          rw [← h] at hd
          have h3 := HA.out b e1 e2
          rw [preK_step b HK.out, h3]
          push_cast
          omega⟩)
        obtain ⟨hd0, hd1⟩ := hdig
        obtain ⟨ha0, ha1⟩ := ha
        clear HC HA HDG HPW
        go_wp2
        refine ⟨⟨k + 1, a * 16 + ((c.toNat : Int) - 48), rfl, (by first | rfl | (congr 1; omega)), (by first | rfl | (congr 1; omega)), by omega, HN⟩, by simp [intOf]; omega⟩
      · have HCN := Lib.hid (show ∀ b : UInt8, h1 = hexDigit (b.toNat / 16) → h2 = hexDigit (b.toNat % 16) → (97 ≤ (c.toNat : Int) ∧ (c.toNat : Int) ≤ 102) ∧ c.toNat = 87 + digK b k from fun b e1 e2 => by
          have h := HC.out b e1 e2
          have hd := hex_dig (HDG.out b)
          have h16 := HDG.out b
          rw [← h] at hd
          omega)
        obtain ⟨lv, hlv⟩ : ∃ lv, lv = bits .or .u8 (c.toNat : Int) 32 := ⟨_, rfl⟩
        have hl0 : 0 ≤ lv := by rw [hlv]; exact bits_lo_u8 .or (c.toNat : Int) 32
        have hl1 : lv ≤ 255 := by have h := bits_hi_u8 .or (c.toNat : Int) 32; rw [← hlv] at h; omega
        have HLC := Lib.hid (show ∀ b : UInt8, h1 = hexDigit (b.toNat / 16) → h2 = hexDigit (b.toNat % 16) → lv = 87 + (digK b k : Int) ∧ lv ≤ 102 ∧ 97 ≤ lv from fun b e1 e2 => by
          obtain ⟨h, h3⟩ := HCN.out b e1 e2
          rw [hlv, lower_hex h]
          omega)
        have H95 := Lib.hid (show c.toNat = 95 → 122 < lv from fun h => by rw [hlv, h]; decide)
        have HLW := Lib.hid (fun wq => show Calls Tryd.prog 139 #[.int .u8 c.toNat] wq fun e w' => e = .returned (.int .u8 lv) ∧ w' = wq from by rw [hlv]; exact Tryd.internal_strconv_lower c.toNat wq)
        clear hlv HC HCN
        by_cases h95 : c.toNat = 95
        · have h122 := H95.out h95
          have HX := Lib.hid (show HexIs h1 h2 0 from fun b e1 e2 => by have := HLC.out b e1 e2; omega)
          rw [h95] at hc HLW
          clear HA HLC HPW HDG H95 ha hdig h95
          go_wp2_with (go_at_call 139; refine (HLW.out _).mono ?_; rintro e w' ⟨rfl, rfl⟩)
          go_ret2
          exact ⟨HBW.out, 0, by omega, HX.out, _, rfl, .inr rfl⟩
        have h95' : ((c.toNat : Int) == 95) = false := by simp; omega
        clear H95
        by_cases hlt : 97 ≤ lv ∧ lv ≤ 122
        · by_cases h16 : lv ≤ 102
          · have HN := Lib.hid (show HexAt h1 h2 (k + 1) (a * 16 + (lv - 97 + 10)) from ⟨⟨by omega, by have := HPW.out; omega⟩, fun b e1 e2 => by
              have h := HLC.out b e1 e2
              have h3 := HA.out b e1 e2
              rw [preK_step b HK.out, h3]
              push_cast
              omega⟩)
            obtain ⟨hl97, hl122⟩ := hlt
            obtain ⟨ha0, ha1⟩ := ha
            clear HLC HA HDG HPW
            go_wp2_with (go_at_call 139; refine (HLW.out _).mono ?_; rintro e w' ⟨rfl, rfl⟩)
            all_goals refine ⟨⟨k + 1, a * 16 + (lv - 97 + 10), rfl, (by first | rfl | (congr 1; omega)), (by first | rfl | (congr 1; omega)), by omega, HN⟩, by simp [intOf]; omega⟩
          · have HX := Lib.hid (show HexIs h1 h2 0 from fun b e1 e2 => by have := HLC.out b e1 e2; omega)
            obtain ⟨hl97, hl122⟩ := hlt
            clear HA HLC HPW HDG ha
            go_wp2_with (go_at_call 139; refine (HLW.out _).mono ?_; rintro e w' ⟨rfl, rfl⟩)
            all_goals go_ret2
            all_goals exact ⟨HBW.out, 0, by omega, HX.out, _, rfl, .inr rfl⟩
        · have HX := Lib.hid (show HexIs h1 h2 0 from fun b e1 e2 => by have := HLC.out b e1 e2; omega)
          clear HA HLC HPW HDG ha
          by_cases hl97 : 97 ≤ lv
          · have hl122 : ¬ lv ≤ 122 := fun h => hlt ⟨hl97, h⟩
            clear hlt
            go_wp2_with (go_at_call 139; refine (HLW.out _).mono ?_; rintro e w' ⟨rfl, rfl⟩)
            all_goals go_ret2
            all_goals exact ⟨HBW.out, 0, by omega, HX.out, _, rfl, .inr rfl⟩
          · clear hlt
            go_wp2_with (go_at_call 139; refine (HLW.out _).mono ?_; rintro e w' ⟨rfl, rfl⟩)
            all_goals go_ret2
            all_goals exact ⟨HBW.out, 0, by omega, HX.out, _, rfl, .inr rfl⟩
    · obtain rfl : k = 2 := by omega
      have HX := Lib.hid (show HexIs h1 h2 a.toNat ∧ a.toNat ≤ 255 ∧ (a.toNat : Int) = a from by
        have h := hh.out.1
        have h2' : a < 256 := by have := h.2; simpa using this
        refine ⟨fun b e1 e2 => ?_, by omega, by omega⟩
        have := hh.out.2 b e1 e2
        rw [this]; simp [preK])
      clear hh hB0 hB1 hcv
      go_wp2
      go_ret2
      exact ⟨HBW.out, a.toNat, HX.out.2.1, HX.out.1, _, by rw [HX.out.2.2]; rfl, .inl rfl⟩
/-- strconv.ParseUint at two bytes, base 16. -/
theorem puint_any (h1 h2 : UInt8) (w : World) (he : Tryd.Errs w) :
    Calls Tryd.prog 105 #[.string ⟨#[h1, h2]⟩, .int .i64 16, .int .i64 8] w fun e w' => Below w.heap.size w w' ∧ ∃ n : Nat, n ≤ 255 ∧ HexIs h1 h2 n ∧ ∃ ev, e = .returned (.tuple #[.int .u64 n, ev]) := by
  have HP := Lib.hid (parseUint16 h1 h2 w)
  have HE := Lib.hid he
  clear he
  go_enter Tryd.func105, Tryd.ntmps105
  go_wp2_with fail
  refine HP.out.mono ?_
  rintro e w1 ⟨hb, n, hn, hx, ev, rfl, rfl | rfl⟩
  · have HB := Lib.hid hb
    have HX := Lib.hid hx
    clear hb hx
    go_wp2
    go_ret2
    exact ⟨HB.out, n, hn, HX.out, _, rfl⟩
  · have HB := Lib.hid hb
    have HX := Lib.hid hx
    obtain ⟨t, p, hc⟩ := (Tryd.errsStay HE.out hb).syn
    have HT := Lib.hid (Tryd.strconv_toError_syntax ⟨#[80, 97, 114, 115, 101, 85, 105, 110, 116]⟩ ⟨#[h1, h2]⟩ 16 8 _ w1 (by show 2 ≤ _; decide) hc (.inr ⟨_, _, rfl⟩))
    clear hb hx hc
    go_wp2_with fail
    refine HT.out.mono ?_
    rintro e w2 ⟨N, rfl, _, _, hb2⟩
    have HB2 := Lib.hid (pure_trans HB.out hb2)
    clear hb2
    go_wp2
    go_ret2
    exact ⟨HB2.out, n, hn, HX.out, _, rfl⟩
end Go.Proofs.YtkldimaoafgolaaDoor
/- The readers of package row: text, number, null. -/
namespace Go.Proofs.YtkldimaoafgolaaDoor
open Go.RowKit

def bl (s : ByteArray) : List UInt8 := s.data.toList
theorem bl_len (s : ByteArray) : (bl s).length = s.size := rfl
theorem bl_mk (l : List UInt8) : bl ⟨l.toArray⟩ = l := rfl
theorem bl_inj {s t : ByteArray} (h : bl s = bl t) : s = t := by
  obtain ⟨s⟩ := s; obtain ⟨t⟩ := t
  congr 1
  exact Array.ext' h
theorem bl_extract (s : ByteArray) (a b : Nat) : bl (s.extract a b) = ((bl s).drop a).take (b - a) := Lib.extract_data s a b
theorem bl_tail (s : ByteArray) (a : Nat) : bl (s.extract a s.size) = (bl s).drop a := by
  rw [bl_extract, List.take_of_length_le]
  rw [List.length_drop, bl_len]; omega
theorem bl_get (s : ByteArray) (k : Nat) (h : k < s.size) : (bl s).drop k = s[k] :: (bl s).drop (k + 1) := List.drop_eq_getElem_cons (l := bl s) h
def tByte : Ty UInt8 := ⟨1, fun _ cs x => cs = [.int .u8 x.toNat], fun _ _ _ h => by rw [h]; rfl, fun _ _ _ _ _ h => h⟩
theorem infoU8 : (Tryd.prog.info? 5).map (fun i => (i.zero, i.size, i.bytes)) = some (some (.int .u8 0), tByte.sz, 1) := by kernel_rfl
theorem wpList_append_byte {ops : Array Oper} {rest : List Oper} {o : Oper} {a : Act} {Q : Exit → Act → World → Prop} {w : World} (hgd : o.guard = none) (s x : Operand) (T : TypeId)
    (ho : o.op = .call { callee := .builtin .append, args := #[s, x], argTypes := #[T, T] }) (hT : Tryd.prog.underlying T = some (.slice 5)) (B : Nat) (v : Value) (xs : List UInt8) (hs : a.eval s = v) (hown : Owns tByte w B 5 v xs)
    (nb c : Nat) (y : UInt8) (hx : a.eval x = .slice (some ⟨nb, 0, none⟩) 1 c) (hc : w.cell? ⟨nb, 0, none⟩ = some (.int .u8 y.toNat)) (hlen : xs.length ≤ 1000000000) (hbase : B ≤ w.heap.size)
    (h : ∀ v' w', Owns tByte w' B 5 v' (xs ++ [y]) → w.grownBy w' v.ownBlock → (v'.ownBlock = v.ownBlock ∨ ∀ k, v'.ownBlock = some k → w.heap.size ≤ k) → wpList Tryd.prog ops Q rest (a.put o.dst v') w') : wpList Tryd.prog ops Q (o :: rest) a w :=
  wpList_append_one hgd s x T ho tByte hT infoU8 rfl (by decide) B v xs hs hown nb c y hx [.int .u8 y.toNat] (fun j u hj => by match j, hj with | 0, hj => simp at hj; subst hj; exact hc) rfl (fun u hu => by simp at hu; subst hu; rfl) (by unfold maxLen; omega) (by omega) hbase h
theorem bytes_str {w : World} {B : Nat} {v : Value} {bs : List UInt8} (h : Owns tByte w B 5 v bs) : (convert 111 9 v).run Tryd.prog w = .ok (.string ⟨bs.toArray⟩) w := by
  have hr := h.rv'
  obtain ⟨a, cap, rfl, hl, hm, hr⟩ := slice_form hr
  cases a with
  | none =>
    have : bs = [] := by
      rcases Nat.eq_zero_or_pos bs.length with e | e
      · exact List.length_eq_zero_iff.1 e
      · obtain ⟨_, _, e2, _⟩ := slice_at hr (k := 0) e
        cases e2
    subst this
    exact run_convert_bytes_nil w 111 5 Tryd.underlying111 Tryd.underlying5 _ _ _ Tryd.underlying9
  | some ad =>
    refine run_convert_bytes_back w 111 9 5 ad cap bs Tryd.underlying111 Tryd.underlying5 Tryd.underlying9 (fun j hj => ?_)
    obtain ⟨b, o, e, hat⟩ := slice_at hr hj
    injection e with e
    subst e
    obtain ⟨cs, hc, hcs⟩ := hat
    rw [hcs] at hc
    have := hc 0 _ rfl
    rw [Addr.add_lit]
    have e2 : o + j * tByte.sz + 0 = o + j := by show o + j * 1 + 0 = o + j; omega
    rw [e2] at this
    exact this
def Rd (w : World) (b : Nat) (s : ByteArray) : Prop := w.heap[b]? = some (.cells #[.string s] 99 (0, 0))
@[reducible] def valV (x : Val) : Value := .agg #[.int .i64 x.kind, .int .i64 x.n, .string x.s]
def set3 (w : World) (b : Nat) (v0 v1 v2 : Value) : World := ((w.setCell ⟨b, 0, none⟩ v0).setCell ⟨b, 1, none⟩ v1).setCell ⟨b, 2, none⟩ v2
theorem setC_block {w : World} {g o : Nat} {v : Value} {cur : Array Value} {t : TypeId} {f : Nat × Nat} (h : w.heap[g]? = some (.cells cur t f)) : (w.setCell ⟨g, o, none⟩ v).heap[g]? = some (.cells (cur.setIfInBounds o v) t f) := by
  simp [World.setCell, Array.getElem?_modify, h]
theorem set3_block {w : World} {b : Nat} {T : TypeId} {a0 a1 a2 : Value} (h : w.heap[b]? = some (.cells #[a0, a1, a2] T (0, 0))) (v0 v1 v2 : Value) : (set3 w b v0 v1 v2).heap[b]? = some (.cells #[v0, v1, v2] T (0, 0)) := by
  have h0 : (w.setCell ⟨b, 0, none⟩ v0).heap[b]? = some (.cells #[v0, a1, a2] T (0, 0)) := setC_block h
  have h1 : ((w.setCell ⟨b, 0, none⟩ v0).setCell ⟨b, 1, none⟩ v1).heap[b]? = some (.cells #[v0, v1, a2] T (0, 0)) := setC_block h0
  exact setC_block h1
theorem keepC {w w1 : World} {F : Nat → Prop} (h : Keeps F w w1) {b : Nat} (hb : F b) (i : Nat) (v : Value) : Keeps F w (w1.setCell ⟨b, i, none⟩ v) := h.setCell (p := ⟨b, i, none⟩) (fun _ => hb) v
theorem set3_keeps (w : World) (b : Nat) (v0 v1 v2 : Value) : Keeps (fun k => k = b) w (set3 w b v0 v1 v2) := keepC (F := fun k => k = b) (keepC (F := fun k => k = b) (keepC (F := fun k => k = b) (Keeps.refl _ w) rfl 0 v0) rfl 1 v1) rfl 2 v2
theorem tByte_flat : tByte.flat := fun _ _ _ _ h => h
/-- Behind a walk that made its result in the block next to come: the reader's block may have been written. -/
theorem keeps_out {w Y wr X : World} {b : Nat} (h1 : Below w.heap.size w Y) (h2 : Below (w.heap.size + 1) Y wr) (h3 : Keeps (fun k => k = b ∨ w.heap.size ≤ k) wr X) : Keeps (fun k => k = b) w X :=
  ⟨h3.os.trans (h2.os.trans h1.os), h3.tape.trans (h2.tape.trans h1.tape), h3.output.trans (h2.output.trans h1.output), Nat.le_trans h1.size (Nat.le_trans h2.size h3.size), fun k hk hn => by
    have ha := h1.size; have hb := h2.size
    exact (h3.block k (by omega) (fun e => e.elim hn (by omega))).trans ((h2.block k (by omega)).trans (h1.block k hk))⟩
def vlen : Value → Nat | .string s => s.size | _ => 0

set_option maxRecDepth 100000 in
set_option maxHeartbeats 4000000 in
theorem readText_any (b : Nat) (s : ByteArray) (w : World) (h : Rd w b s) (hs : s.size ≤ 100000) (h0 : 0 < s.size) (hq : bl s = 34 :: bl (s.extract 1 s.size)) (he : Tryd.Errs w) :
    Calls Tryd.prog 85 #[.pointer (some ⟨b, 0, none⟩)] w fun e W' => ∃ (ok : Bool) (x : Val) (s' : ByteArray), e = .returned (.tuple #[valV x, .bool ok]) ∧ Rd W' b s' ∧ Keeps (fun k => k = b) w W' ∧ s'.size ≤ s.size ∧ (inI64 x.kind ∧ inI64 x.n ∧ x.s.size ≤ 100000) ∧
      ∀ q rest, bl s = 34 :: qrest q rest → ok = true ∧ x = ⟨2, 0, ⟨q.toArray⟩⟩ ∧ bl s' = rest := by
  have c0 : w.cell? ⟨b, 0, none⟩ = some (.string s) := mem_cells h 0
  have hlt : b < w.heap.size := lt_of_block h
  go_enter Tryd.func85, Tryd.ntmps85
  go_upto_region 3 with fail
  have HY := Lib.hid (And.intro ((Below.refl w.heap.size w).alloc (Nat.le_refl _) (.cells #[.int .i64 0, .int .i64 0, .string ⟨#[]⟩] 30)) (heap_alloc_new w (.cells #[.int .i64 0, .int .i64 0, .string ⟨#[]⟩] 30)))
  have hszY : (w.alloc (.cells #[.int .i64 0, .int .i64 0, .string ⟨#[]⟩] 30)).heap.size = w.heap.size + 1 := by simp
  generalize w.alloc (.cells #[.int .i64 0, .int .i64 0, .string ⟨#[]⟩] 30) = Y at HY hszY ⊢
  have HQ0 := Lib.hid (QCond.start (bl s) _ hq)
  have hes : (s.extract 1 s.size).size + 1 ≤ s.size := by rw [ByteArray.size_extract]; omega
  have HH := Lib.hid h
  have HE := Lib.hid he
  clear h c0 hq he
  go_loopw [4, 5] (fun bv sv wr => ∃ (bs : List UInt8) (sl : ByteArray), sv = .string sl ∧ Owns tByte wr (w.heap.size + 1) 5 bv bs ∧ Hid (QCond (bl s) bs (bl sl)) ∧ Hid (Below (w.heap.size + 1) Y wr) ∧ bs.length + sl.size + 1 ≤ s.size) (fun _ sv _ => vlen sv)
  case atStart => exact ⟨[], _, rfl, Owns.nil _ _ _ _, HQ0, Lib.hid (Below.refl _ _), by simpa using hes⟩
  case round =>
    clear HQ0 hes
    obtain ⟨bs, sl, rfl, hown, HQ, HB, hlen⟩ := hrel
    have HYB := Lib.hid (show wr.heap[b]? = some (.cells #[.string s] 99 (0, 0)) from (HB.out.block b (by omega)).trans ((HY.out.1.block b hlt).trans HH.out))
    have HYR := Lib.hid (show wr.heap[w.heap.size]? = some (.cells #[.int .i64 0, .int .i64 0, .string ⟨#[]⟩] 30 (0, 0)) from (HB.out.block w.heap.size (by omega)).trans HY.out.2)
    by_cases hz : sl.size = 0
    · have hsl : sl = ⟨#[]⟩ := bl_inj (List.length_eq_zero_iff.1 hz)
      have hem : sl.toList.isEmpty = true := by
        rw [← decide_eq_emptyBytes]
        exact decide_eq_true (by rw [hsl]; rfl)
      have HN := Lib.hid (show ∀ q rest, bl s = 34 :: qrest q rest → False from fun q rest e => by
        have h := HQ.out
        rw [hsl] at h
        exact h.none e)
      have m0 : wr.cell? ⟨w.heap.size, 0, none⟩ = some (.int .i64 0) := mem_cells HYR.out 0
      have m1 : wr.cell? ⟨w.heap.size, 1, none⟩ = some (.int .i64 0) := mem_cells HYR.out 1
      have m2 : wr.cell? ⟨w.heap.size, 2, none⟩ = some (.string ⟨#[]⟩) := mem_cells HYR.out 2
      have fR : ∀ o, wr.frozen? ⟨w.heap.size, o, none⟩ = false := frozen_cells HYR.out
      have yR := HYR.out
      have HRD := Lib.hid (show Rd wr b s from HYB.out)
      have HKX := Lib.hid (show Keeps (fun k => k = b ∨ w.heap.size ≤ k) wr wr from Keeps.refl _ _)
      clear hown HQ HYR HYB hsl hz
      go_wp2
      have r1 := set3_block yR (.int .i64 0) (.int .i64 0) (.string ⟨#[]⟩)
      have hk3 := set3_keeps wr w.heap.size (.int .i64 0) (.int .i64 0) (.string ⟨#[]⟩)
      show bodyPost _ _ _ _ _ (set3 wr w.heap.size (.int .i64 0) (.int .i64 0) (.string ⟨#[]⟩))
      generalize set3 wr w.heap.size (.int .i64 0) (.int .i64 0) (.string ⟨#[]⟩) = w9 at r1 hk3 ⊢
      have hrd : Rd w9 b s := (hk3.block b (lt_of_block HRD.out) (by omega)).trans HRD.out
      have hK9 : Keeps (fun k => k = b) w w9 := keeps_out HY.out.1 HB.out (HKX.out.trans (hk3.wide (fun k _ e => .inr (by omega))))
      have g0 : w9.cell? ⟨w.heap.size, 0, none⟩ = some (.int .i64 0) := mem_cells r1 0
      have g1 : w9.cell? ⟨w.heap.size, 1, none⟩ = some (.int .i64 0) := mem_cells r1 1
      have g2 : w9.cell? ⟨w.heap.size, 2, none⟩ = some (.string ⟨#[]⟩) := mem_cells r1 2
      exact bodyPost_ret (v := .tuple #[.agg #[.int .i64 0, .int .i64 0, .string ⟨#[]⟩], .bool false]) (by simp [results, Tryd.results85, go_sem, g0, g1, g2]) rfl ⟨false, ⟨0, 0, ⟨#[]⟩⟩, s, rfl, hrd, hK9, Nat.le_refl _, ⟨by unfold inI64; simp, by unfold inI64; simp, by show 0 ≤ 100000; omega⟩, fun q rest e => (HN.out q rest e).elim⟩
    · have hpos : (0 : Int) < (sl.size : Int) := by omega
      have hemp : sl.toList.isEmpty = false := by
        rw [← decide_eq_emptyBytes]
        exact decide_eq_false (fun h => hz (by rw [h]; rfl))
      have hb0 : bl sl = sl[0] :: bl (sl.extract 1 sl.size) := by rw [bl_tail]; exact bl_get sl 0 (by omega)
      have hc256 : sl[0].toNat < 256 := UInt8.toNat_lt _
      by_cases h34 : sl[0].toNat = 34
      · have h34f : ((sl[0].toNat : Int) != 34) = false := by simp; omega
        have HQN := Lib.hid (show ∀ q rest, bl s = 34 :: qrest q rest → bs = q ∧ bl (sl.extract 1 sl.size) = rest from fun q rest e => by
          have h := HQ.out
          rw [hb0, show sl[0] = 34 from UInt8.toNat_inj.1 h34] at h
          exact h.done e)
        have mb : wr.cell? ⟨b, 0, none⟩ = some (.string s) := mem_cells HYB.out 0
        have fb : ∀ o, wr.frozen? ⟨b, o, none⟩ = false := frozen_cells HYB.out
        go_upto_region 19 with fail
        have hkX : Keeps (fun k => k = b) wr (wr.setCell ⟨b, 0, none⟩ (.string (sl.extract 1 sl.size))) := keepC (F := fun k => k = b) (Keeps.refl _ wr) rfl 0 _
        have HRD := Lib.hid (show Rd (wr.setCell ⟨b, 0, none⟩ (.string (sl.extract 1 sl.size))) b (sl.extract 1 sl.size) from setC_block HYB.out)
        have yR := (hkX.block w.heap.size (lt_of_block HYR.out) (by omega)).trans HYR.out
        have HKX := Lib.hid (hkX.wide (G := fun k => k = b ∨ w.heap.size ≤ k) (fun k _ e => .inl e))
        have ownX := hown.keepsFlat tByte_flat hkX (fun k e => by have := (hown.lt k e).1; omega)
        generalize wr.setCell ⟨b, 0, none⟩ (.string (sl.extract 1 sl.size)) = X at hkX HRD yR HKX ownX ⊢
        have hconv := bytes_str ownX
        have m0 : X.cell? ⟨w.heap.size, 0, none⟩ = some (.int .i64 0) := mem_cells yR 0
        have m1 : X.cell? ⟨w.heap.size, 1, none⟩ = some (.int .i64 0) := mem_cells yR 1
        have m2 : X.cell? ⟨w.heap.size, 2, none⟩ = some (.string ⟨#[]⟩) := mem_cells yR 2
        have fR : ∀ o, X.frozen? ⟨w.heap.size, o, none⟩ = false := frozen_cells yR
        clear hown HQ HYR HYB hkX hb0 ownX mb fb
        go_wp2
        have r1 := set3_block yR (.int .i64 2) (.int .i64 0) (.string ⟨bs.toArray⟩)
        have hk3 := set3_keeps X w.heap.size (.int .i64 2) (.int .i64 0) (.string ⟨bs.toArray⟩)
        show bodyPost _ _ _ _ _ (set3 X w.heap.size (.int .i64 2) (.int .i64 0) (.string ⟨bs.toArray⟩))
        generalize set3 X w.heap.size (.int .i64 2) (.int .i64 0) (.string ⟨bs.toArray⟩) = w9 at r1 hk3 ⊢
        have hrd : Rd w9 b (sl.extract 1 sl.size) := (hk3.block b (lt_of_block HRD.out) (by omega)).trans HRD.out
        have hK9 : Keeps (fun k => k = b) w w9 := keeps_out HY.out.1 HB.out (HKX.out.trans (hk3.wide (fun k _ e => .inr (by omega))))
        have g0 : w9.cell? ⟨w.heap.size, 0, none⟩ = some (.int .i64 2) := mem_cells r1 0
        have g1 : w9.cell? ⟨w.heap.size, 1, none⟩ = some (.int .i64 0) := mem_cells r1 1
        have g2 : w9.cell? ⟨w.heap.size, 2, none⟩ = some (.string ⟨bs.toArray⟩) := mem_cells r1 2
        exact bodyPost_ret (v := .tuple #[.agg #[.int .i64 2, .int .i64 0, .string ⟨bs.toArray⟩], .bool true]) (by simp [results, Tryd.results85, go_sem, g0, g1, g2]) rfl ⟨true, ⟨2, 0, ⟨bs.toArray⟩⟩, sl.extract 1 sl.size, rfl, hrd, hK9, by rw [ByteArray.size_extract]; omega, ⟨by unfold inI64; simp, by unfold inI64; simp, by show bs.length ≤ 100000; omega⟩, fun q rest e => by obtain ⟨e1, e2⟩ := HQN.out q rest e; exact ⟨rfl, by rw [e1], e2⟩⟩
      · have h34f : ((sl[0].toNat : Int) != 34) = true := by simp; omega
        by_cases h92 : sl[0].toNat = 92
        · have h92f : ((sl[0].toNat : Int) != 92) = false := by simp; omega
          by_cases h2 : sl.size < 2
          · have h2f : decide ((sl.size : Int) < 2) = true := by simp; omega
            have HQN := Lib.hid (show QCond (bl s) (bs ++ [sl[0]]) (bl (sl.extract 1 sl.size)) from by
              have e1 : bl (sl.extract 1 sl.size) = [] := by rw [bl_tail]; exact List.drop_eq_nil_of_le (by rw [bl_len]; omega)
              have h := HQ.out
              rw [hb0, e1, show sl[0] = 92 from UInt8.toNat_inj.1 h92] at h
              rw [e1]
              exact h.short)
            clear HQ hb0 HYB HYR
            go_wp2_with (at_builtin; refine wpList_append_byte rfl _ _ 111 rfl Tryd.underlying111 (w.heap.size + 1) _ bs rfl (hown.alloc _) _ _ sl[0] rfl ?c1 ?c2 ?c3 ?_)
            case c1 => simp [h92]
            case c2 => omega
            case c3 => have := HB.out.size; simp; omega
            intro v' w3 hown' hgrow _
            have HB3 := Lib.hid ((HB.out.alloc (by have := HB.out.size; omega) _).grown hgrow (by have := HB.out.size; simp; omega) (fun k hk => (hown.lt k hk).1))
            clear hown hgrow
            go_wp2
            go_roundw
            case rel => exact ⟨bs ++ [sl[0]], _, rfl, hown', HQN, HB3, by simp [ByteArray.size_extract]; omega⟩
            case measure => simp [vlen, ByteArray.size_extract]; omega
          have h2f : decide ((sl.size : Int) < 2) = false := by simp; omega
          have hpos1 : (1 : Int) < (sl.size : Int) := by omega
          have hb1 : bl sl = (92 : UInt8) :: sl[1] :: bl (sl.extract 2 sl.size) := by
            have e1 := bl_get sl 0 (by omega)
            have e2 := bl_get sl 1 (by omega)
            rw [bl_tail]
            rw [e2, show sl[0] = 92 from UInt8.toNat_inj.1 h92] at e1
            exact e1
          have hc256b : sl[1].toNat < 256 := UInt8.toNat_lt _
          have hle2 : (2 : Int) ≤ (sl.size : Int) := by omega
          by_cases h110 : sl[1].toNat = 110
          · have h110f : ((sl[1].toNat : Int) == 110) = true := by simp; omega
            have HQN := Lib.hid (show QCond (bl s) (bs ++ [10]) (bl (sl.extract 2 sl.size)) from by
              have h := HQ.out
              rw [hb1, show sl[1] = 110 from UInt8.toNat_inj.1 h110] at h
              exact h.nl)
            clear HQ hb0 hb1 HYB HYR
            go_wp2_with (at_builtin; refine wpList_append_byte rfl _ _ 111 rfl Tryd.underlying111 (w.heap.size + 1) _ bs rfl (hown.alloc _) _ _ 10 rfl ?c1 ?c2 ?c3 ?_)
            case c1 => simp
            case c2 => omega
            case c3 => have := HB.out.size; simp; omega
            intro v' w3 hown' hgrow _
            have HB3 := Lib.hid ((HB.out.alloc (by have := HB.out.size; omega) _).grown hgrow (by have := HB.out.size; simp; omega) (fun k hk => (hown.lt k hk).1))
            clear hown hgrow
            go_wp2
            go_roundw
            case rel => exact ⟨bs ++ [10], _, rfl, hown', HQN, HB3, by simp [ByteArray.size_extract]; omega⟩
            case measure => simp [vlen, ByteArray.size_extract]; omega
          have h110f : ((sl[1].toNat : Int) == 110) = false := by simp; omega
          by_cases h120 : sl[1].toNat = 120
          · have h120f : ((sl[1].toNat : Int) == 120) = true := by simp; omega
            by_cases h4 : 4 ≤ sl.size
            · have h4f : decide ((4 : Int) ≤ (sl.size : Int)) = true := by simp; omega
              have hle4 : (4 : Int) ≤ (sl.size : Int) := by omega
              have hb3 : bl (sl.extract 2 sl.size) = sl[2] :: sl[3] :: bl ((sl.extract 2 sl.size).extract 2 (sl.size - 2)) := by
                have hz2 : (sl.extract 2 sl.size).size = sl.size - 2 := by rw [ByteArray.size_extract]; omega
                have e1 := bl_get sl 2 (by omega)
                have e2 := bl_get sl 3 (by omega)
                rw [← hz2, bl_tail (sl.extract 2 sl.size), bl_tail, List.drop_drop, e1, e2]
              have HXX := Lib.hid (fun (n : Nat) (hn : HexIs sl[2] sl[3] n) => show QCond (bl s) (bs ++ [UInt8.ofNat n]) (bl ((sl.extract 2 sl.size).extract 2 (sl.size - 2))) from by
                have h := HQ.out
                rw [hb1, hb3, show sl[1] = 120 from UInt8.toNat_inj.1 h120] at h
                exact h.hex hn)
              have hx4 : sl.extract 2 4 = ⟨#[sl[2], sl[3]]⟩ := bl_inj (by
                have e1 := bl_get sl 2 (by omega)
                have e2 := bl_get sl 3 (by omega)
                rw [bl_extract, e1, e2]; rfl)
              have HP := Lib.hid (puint_any sl[2] sl[3] wr (Tryd.errsStay HE.out (HY.out.1.trans (HB.out.mono (by omega)))))
              rw [← hx4] at HP
              clear HQ hb0 hb1 hb3 hx4 HYB HYR
              go_wp2_with fail
              refine HP.out.mono ?_
              rintro e w2 ⟨hb2, n, hn, hx, ev, rfl⟩
              have hown2 := hown.keeps hb2
              have HB2 := Lib.hid (HB.out.trans (hb2.mono (by have := HB.out.size; omega)))
              have HQN := Lib.hid (HXX.out n hx)
              have hwr : IntKind.u8.wrap (n : Int) = n := by rw [IntKind.wrap_u8]; omega
              have hun : (UInt8.ofNat n).toNat = n := by simp; omega
              clear hb2 hx HXX HP hown
              go_wp2_with (at_builtin; refine wpList_append_byte rfl _ _ 111 rfl Tryd.underlying111 (w.heap.size + 1) _ bs rfl (hown2.alloc _) _ _ (UInt8.ofNat n) rfl ?c1 ?c2 ?c3 ?_)
              case c1 => simp [hun]
              case c2 => omega
              case c3 => have := HB2.out.size; simp; omega
              intro v' w3 hown' hgrow _
              have HB3 := Lib.hid ((HB2.out.alloc (by have := HB2.out.size; omega) _).grown hgrow (by have := HB2.out.size; simp; omega) (fun k hk => (hown2.lt k hk).1))
              clear hown2 hgrow
              go_wp2
              go_roundw
              case rel => exact ⟨bs ++ [(UInt8.ofNat n)], _, rfl, hown', HQN, HB3, by simp [ByteArray.size_extract]; omega⟩
              case measure => simp [vlen, ByteArray.size_extract]; omega
            have h4f : decide ((4 : Int) ≤ (sl.size : Int)) = false := by simp; omega
            have HQN := Lib.hid (show QCond (bl s) (bs ++ [sl[1]]) (bl (sl.extract 2 sl.size)) from by
              have h := HQ.out
              rw [hb1] at h
              exact h.esc h110 (fun _ => by rw [bl_len, ByteArray.size_extract]; omega))
            clear HQ hb0 hb1 HYB HYR
            go_wp2_with (at_builtin; refine wpList_append_byte rfl _ _ 111 rfl Tryd.underlying111 (w.heap.size + 1) _ bs rfl (hown.alloc _) _ _ sl[1] rfl ?c1 ?c2 ?c3 ?_)
            case c1 => simp [h120]
            case c2 => omega
            case c3 => have := HB.out.size; simp; omega
            intro v' w3 hown' hgrow _
            have HB3 := Lib.hid ((HB.out.alloc (by have := HB.out.size; omega) _).grown hgrow (by have := HB.out.size; simp; omega) (fun k hk => (hown.lt k hk).1))
            clear hown hgrow
            go_wp2
            go_roundw
            case rel => exact ⟨bs ++ [sl[1]], _, rfl, hown', HQN, HB3, by simp [ByteArray.size_extract]; omega⟩
            case measure => simp [vlen, ByteArray.size_extract]; omega
          have h120f : ((sl[1].toNat : Int) == 120) = false := by simp; omega
          have HQN := Lib.hid (show QCond (bl s) (bs ++ [sl[1]]) (bl (sl.extract 2 sl.size)) from by
            have h := HQ.out
            rw [hb1] at h
            exact h.esc h110 (fun e => absurd e h120))
          clear HQ hb0 hb1 HYB HYR
          go_wp2_with (at_builtin; refine wpList_append_byte rfl _ _ 111 rfl Tryd.underlying111 (w.heap.size + 1) _ bs rfl (hown.alloc _) _ _ sl[1] rfl ?c1 ?c2 ?c3 ?_)
          case c1 => simp
          case c2 => omega
          case c3 => have := HB.out.size; simp; omega
          intro v' w3 hown' hgrow _
          have HB3 := Lib.hid ((HB.out.alloc (by have := HB.out.size; omega) _).grown hgrow (by have := HB.out.size; simp; omega) (fun k hk => (hown.lt k hk).1))
          clear hown hgrow
          go_wp2
          go_roundw
          case rel => exact ⟨bs ++ [sl[1]], _, rfl, hown', HQN, HB3, by simp [ByteArray.size_extract]; omega⟩
          case measure => simp [vlen, ByteArray.size_extract]; omega
        · have h92f : ((sl[0].toNat : Int) != 92) = true := by simp; omega
          have HQN := Lib.hid (show QCond (bl s) (bs ++ [sl[0]]) (bl (sl.extract 1 sl.size)) from (hb0 ▸ HQ.out : QCond (bl s) bs (sl[0] :: bl (sl.extract 1 sl.size))).plain h34 h92)
          clear HQ hb0 HYB HYR
          go_wp2_with (at_builtin; refine wpList_append_byte rfl _ _ 111 rfl Tryd.underlying111 (w.heap.size + 1) _ bs rfl (hown.alloc _) _ _ sl[0] rfl ?c1 ?c2 ?c3 ?_)
          case c1 => simp
          case c2 => omega
          case c3 => have := HB.out.size; simp; omega
          intro v' w3 hown' hgrow _
          have HB3 := Lib.hid ((HB.out.alloc (by have := HB.out.size; omega) _).grown hgrow (by have := HB.out.size; simp; omega) (fun k hk => (hown.lt k hk).1))
          clear hown hgrow
          go_wp2
          go_roundw
          case rel => exact ⟨bs ++ [sl[0]], _, rfl, hown', HQN, HB3, by simp [ByteArray.size_extract]; omega⟩
          case measure => simp [vlen, ByteArray.size_extract]; omega
end Go.Proofs.YtkldimaoafgolaaDoor
