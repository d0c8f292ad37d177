/- Part 5 of the texts that the law's proof stands on, merged. -/
import Derived.Shelf.Abstract
import Derived.WalkKit
import Derived.OwnWalkIn
import Derived.TacticsInMore
import Derived.LoopNIn
import Derived.LoopIn
import Derived.RegionIn
import Derived.Deep.AppendSrc
import Derived.Deep.RegionLaw
import Derived.RegionTactic
import Derived.Test.YtafeaeaildfohaaGreatDoorRt04
set_option linter.unusedVariables false
set_option linter.unusedSimpArgs false
/- Splitting at three bytes ("), "); the iterator of strings.SplitSeq there. -/
namespace Go.Proofs.YtafeaeaildfohaaGreatDoor
open Go.RowKit Go.Shelf
attribute [local go_sem] Oper.semAt_some

theorem bl_extr (s : ByteArray) (i j : Nat) : bl (s.extract i j) = ((bl s).drop i).take (j - i) := by
  unfold bl
  rw [Lib.extract_data]
def splitB : Nat → ByteArray → List ByteArray
  | 0, s => [s]
  | n + 1, s => if 0 ≤ Lib.index (bl s) [41, 44, 32] then s.extract 0 (Lib.index (bl s) [41, 44, 32]).toNat :: splitB n (s.extract ((Lib.index (bl s) [41, 44, 32]).toNat + 3) s.size) else [s]
theorem splitB_stop {g : Nat} {s : ByteArray} (h : Lib.index (bl s) [41, 44, 32] < 0) : splitB g s = [s] := by
  cases g with
  | zero => rfl
  | succ g => unfold splitB; rw [if_neg (by omega)]
theorem splitB_go {g : Nat} {s : ByteArray} (h : 0 ≤ Lib.index (bl s) [41, 44, 32]) (hg : s.size ≤ g) : ∃ i g' : Nat, Lib.index (bl s) [41, 44, 32] = i ∧ g = g' + 1 ∧ i + 3 ≤ s.size ∧ (s.extract (i + 3) s.size).size ≤ g' ∧
    splitB g s = s.extract 0 i :: splitB g' (s.extract (i + 3) s.size) := by
  have hr := Lib.index_room (bl s) [41, 44, 32] h
  rw [show (bl s).length = s.size from rfl] at hr
  simp only [List.length_cons, List.length_nil] at hr
  obtain ⟨i, hi⟩ := Int.eq_ofNat_of_zero_le h
  have hi2 : i + 3 ≤ s.size := by omega
  cases g with
  | zero => omega
  | succ g =>
    refine ⟨i, g, hi, rfl, hi2, by rw [ByteArray.size_extract]; omega, ?_⟩
    conv => lhs; unfold splitB
    rw [if_pos h, hi]
    rfl
theorem splitB_len : ∀ (g : Nat) (s : ByteArray), (splitB g s).length ≤ g + 1
  | 0, s => by simp [splitB]
  | g + 1, s => by
    unfold splitB
    split
    · simp only [List.length_cons]; have := splitB_len g (s.extract ((Lib.index (bl s) [41, 44, 32]).toNat + 3) s.size); omega
    · simp
theorem splitB_size : ∀ (g : Nat) (s : ByteArray), ∀ p ∈ splitB g s, p.size ≤ s.size
  | 0, s, p, hp => by simp [splitB] at hp; rw [hp]; exact Nat.le_refl _
  | g + 1, s, p, hp => by
    unfold splitB at hp
    split at hp
    · rcases List.mem_cons.1 hp with rfl | h
      · rw [ByteArray.size_extract]; omega
      · have := splitB_size g _ p h
        rw [ByteArray.size_extract] at this; omega
    · rw [List.mem_singleton.1 hp]; exact Nat.le_refl _
theorem splitB_list : ∀ (g : Nat) (s : ByteArray), (splitB g s).map bl = splitL g (bl s)
  | 0, s => rfl
  | g + 1, s => by
    unfold splitB splitL
    split
    · next h =>
      rw [List.map_cons, splitB_list g, bl_extr, bl_extr]
      have e : ∀ n : Nat, ((bl s).drop n).take (s.size - n) = (bl s).drop n := fun n => List.take_of_length_le (by rw [List.length_drop, show (bl s).length = s.size from rfl]; omega)
      rw [e]
      simp
    · rfl

theorem splitSeq_any (s sep : ByteArray) (w : World) :
    Calls Tryz.prog 25 #[.string s, .string sep] w fun e w' =>
      e = .returned (.func (.func 66) #[] #[.pointer (some ⟨w.heap.size + 1, 0, none⟩), .pointer (some ⟨w.heap.size, 0, none⟩), .pointer (some ⟨w.heap.size + 2, 0, none⟩)]) ∧
      w' = ((w.alloc (.cells #[.string s] 9)).alloc (.cells #[.string sep] 9)).alloc (.cells #[.int .i64 0] 3) := by
  go_enter Tryz.func25, Tryz.ntmps25
  go_wp2
  go_ret
  exact ⟨rfl, rfl⟩

def EncS (p : ByteArray) (vs : Array Value) (n : Nat) (W : World) : Prop := vs = #[.string p] ∧ n ≤ W.heap.size
def strIn (w : World) (b : Nat) : Nat := match w.cell? ⟨b, 0, none⟩ with | some (.string s) => s.size | _ => 0
theorem strIn_at {w : World} {b : Nat} {s : ByteArray} (h : w.cell? ⟨b, 0, none⟩ = some (.string s)) : strIn w b = s.size := by
  unfold strIn; rw [h]
def sepS : ByteArray := ⟨#[41, 44, 32]⟩
/-- What the iterator's variables hold. -/
structure SplAt (W : World) (bs bp bv : Nat) (m : Int) (s : ByteArray) : Prop where
  cs : W.heap[bs]? = some (.cells #[.string s] 9 (0, 0))
  cp : W.heap[bp]? = some (.cells #[.string sepS] 9 (0, 0))
  cv : W.heap[bv]? = some (.cells #[.int .i64 0] 3 (0, 0))
  cm : W.cell? ⟨0, 0, none⟩ = some (.int .i64 m)
theorem SplAt.keeps {W W' : World} {bs bp bv : Nat} {m : Int} {s : ByteArray} {F : Nat → Prop} (h : SplAt W bs bp bv m s) (hk : Keeps F W W') (h1 : ¬ F bs) (h2 : ¬ F bp) (h3 : ¬ F bv) (h4 : ¬ F 0) : SplAt W' bs bp bv m s :=
  ⟨(hk.block _ (Array.getElem?_eq_some_iff.1 h.cs).1 h1).trans h.cs, (hk.block _ (Array.getElem?_eq_some_iff.1 h.cp).1 h2).trans h.cp, (hk.block _ (Array.getElem?_eq_some_iff.1 h.cv).1 h3).trans h.cv,
    (mem_of_block (hk.block 0 (mem_lt h.cm) h4) 0).trans h.cm⟩
theorem SplAt.set {W : World} {bs bp bv : Nat} {m : Int} {s t : ByteArray} (h : SplAt W bs bp bv m s) (hne : bs ≠ bp ∧ bs ≠ bv ∧ bs ≠ 0) : SplAt (W.setCell ⟨bs, 0, none⟩ (.string t)) bs bp bv m t := by
  obtain ⟨h1, h2, h3⟩ := hne
  refine ⟨setC_block h.cs, (Below.heap_setCell _ _ _ _ (fun e => h1 e.symm)).trans h.cp, (Below.heap_setCell _ _ _ _ (fun e => h2 e.symm)).trans h.cv, ?_⟩
  exact (mem_of_block (w := W) (Below.heap_setCell _ _ _ _ (fun e => h3 e.symm)) 0).trans h.cm

set_option maxRecDepth 100000 in
set_option maxHeartbeats 4000000 in
theorem split1_gives (s0 : ByteArray) (bs bp bv : Nat) (m : Int) (w : World) (H : Nat → Prop) (hx : SplAt w bs bp bv m s0) (h64 : s0.size ≤ 65536)
    (hHs : ¬ H bs) (hHp : ¬ H bp) (hHv : ¬ H bv) (hH0 : ¬ H 0) (hne : bs ≠ bp ∧ bs ≠ bv ∧ bs ≠ 0) :
    GivesAll Tryz.prog 66 #[.pointer (some ⟨bp, 0, none⟩), .pointer (some ⟨bs, 0, none⟩), .pointer (some ⟨bv, 0, none⟩)] EncS (fun k => k = bs) H (splitB s0.size s0) w := by
  intro l J W hW hJ hY h0
  have hx1 : SplAt W bs bp bv m s0 := hx.keeps (F := fun _ => False) ⟨hW.os, hW.tape, hW.output, hW.size, fun k hk _ => hW.block k hk⟩ (fun h => h) (fun h => h) (fun h => h) (fun h => h)
  have HY := Lib.hid hY
  have HJ := Lib.hid hJ
  have HX := Lib.hid hx1
  have H0 := Lib.hid h0
  clear hY hJ hx hx1 h0
  have cp0 : W.cell? ⟨bp, 0, none⟩ = some (.string sepS) := mem_cells HX.out.cp 0
  have hsep : ((sepS.size : Int) == 0) = false := by decide
  refine callsIn_of_wp Tryz.func66 rfl trivial ?_ rfl
  simp only [Tryz.ntmps66, List.size_toArray, List.length_cons, List.length_nil, Nat.reduceAdd, Nat.reduceSub, Array.replicate_succ, Array.replicate_zero, List.push_toArray, List.append_toArray, List.nil_append, List.cons_append]
  gi_wp2
  gi_loopw [7, 8] (fun _ _ wr => ∃ (g : Nat) (s : ByteArray) (pre : List ByteArray), s.size ≤ g ∧ s.size ≤ 65536 ∧ Hid (splitB s0.size s0 = pre ++ splitB g s) ∧ Hid (J pre wr) ∧ Hid (SplAt wr bs bp bv m s) ∧ w.heap.size ≤ wr.heap.size) (fun _ _ wr => strIn wr bs)
  case atStart => exact ⟨s0.size, s0, [], Nat.le_refl _, h64, Lib.hid rfl, H0, HX, hW.size⟩
  case round =>
    clear HX H0 cp0
    obtain ⟨g, s, pre, hg, hs64, HR, HJP, HXS, hsz⟩ := hrel
    have cs0 : wr.cell? ⟨bs, 0, none⟩ = some (.string s) := mem_cells HXS.out.cs 0
    have cp0 : wr.cell? ⟨bp, 0, none⟩ = some (.string sepS) := mem_cells HXS.out.cp 0
    have cv0 : wr.cell? ⟨bv, 0, none⟩ = some (.int .i64 0) := mem_cells HXS.out.cv 0
    have hlim : s.size < 4294967281 := by omega
    have HIX := Lib.hid (Tryz.strings_Index s sepS m wr hlim HXS.out.cm)
    have HSI := Lib.hid (strIn_at cs0)
    clear hlim
    gi_wp2
    refine ⟨trivial, rfl, ((callsIn_wide (n := 0)).2 HIX.out).mono ?_⟩
    rintro e w5 ⟨rfl, rfl⟩
    have HI := Lib.hid (show Lib.index s.data.toList sepS.data.toList = Lib.index (bl s) [41, 44, 32] from rfl)
    generalize Lib.index s.data.toList sepS.data.toList = ix at HI ⊢
    by_cases hix : ix < 0
    · have HS := Lib.hid (splitB_stop (g := g) (s := s) (by rw [← HI.out]; exact hix))
      clear HIX HI
      obtain ⟨fn, tmps, assign, body, hy, hR⟩ := HY.out pre s [] w5 w5 #[.string s] (by rw [HR.out, HS.out]) HJP.out (Keeps.refl _ _) ⟨rfl, Nat.le_refl _⟩
      gi_wp2
      refine ⟨rfl, hR.mono ?_⟩
      rintro e w6 ⟨rfl, hJ6, hk6⟩
      have HFin := Lib.hid (show J (splitB s0.size s0) w6 by rw [HR.out, HS.out]; exact hJ6)
      clear hJ6 hy hR
      gi_wp2
      go_end0
      exact ⟨⟨_, rfl⟩, HFin.out⟩
    · have hix0 : 0 ≤ ix := by omega
      obtain ⟨i, g', h2, rfl, h3, h4, h5⟩ := splitB_go (g := g) (s := s) (by rw [← HI.out]; exact hix0) hg
      obtain rfl : ix = (i : Int) := by rw [HI.out]; exact h2
      clear HI h2 HIX hix hix0
      have hi1 : (i : Int) ≤ 65536 := by omega
      have hi2 : (i : Int) + 3 ≤ (s.size : Int) := by omega
      have hi3 : i ≤ s.size := by omega
      have HPC := Lib.hid h5
      have hsl : (sepS.size : Int) = 3 := by decide
      obtain ⟨fn, tmps, assign, body, hy, hR⟩ := HY.out pre (s.extract 0 i) (splitB g' (s.extract (i + 3) s.size)) w5 w5 #[.string (s.extract 0 i)] (by rw [HR.out, HPC.out]) HJP.out (Keeps.refl _ _) ⟨rfl, Nat.le_refl _⟩
      clear h5
      gi_wp2
      refine ⟨rfl, hR.mono ?_⟩
      rintro e w6 ⟨rfl, hJ6, hk6⟩
      have HX6 := Lib.hid (HXS.out.keeps hk6 hHs hHp hHv hH0)
      have HX7 := Lib.hid (HX6.out.set (t := s.extract (i + 3) s.size) hne)
      have HJ7 := Lib.hid (HJ.out _ _ _ hJ6 ((Keeps.refl (fun k => k = bs) w6).setCell (p := ⟨bs, 0, none⟩) (fun _ => rfl) (.string (s.extract (i + 3) s.size))))
      have hsz6 : w.heap.size ≤ (w6.setCell ⟨bs, 0, none⟩ (.string (s.extract (i + 3) s.size))).heap.size := by
        have := hk6.size
        have h2 : (w6.setCell ⟨bs, 0, none⟩ (.string (s.extract (i + 3) s.size))).heap.size = w6.heap.size := by simp [World.setCell]
        omega
      have f6 : w6.frozen? ⟨bs, 0, none⟩ = false := frozen_cells HX6.out.cs 0
      have HR7 := Lib.hid (show splitB s0.size s0 = (pre ++ [s.extract 0 i]) ++ splitB g' (s.extract (i + 3) s.size) by rw [HR.out, HPC.out]; simp)
      have hs7 : (s.extract (i + 3) s.size).size ≤ 65536 := by rw [ByteArray.size_extract]; omega
      have HM7 := Lib.hid (show (s.extract (i + 3) s.size).size < s.size by rw [ByteArray.size_extract]; omega)
      have d0 : w6.cell? ⟨bs, 0, none⟩ = some (.string s) := mem_cells HX6.out.cs 0
      have d1 : w6.cell? ⟨bp, 0, none⟩ = some (.string sepS) := mem_cells HX6.out.cp 0
      clear cs0 cp0 cv0 hJ6 hk6 hy hR HJP HXS HR HPC
      gi_wp2
      go_roundw
      case rel =>
        repeat apply Exists.intro
        exact ⟨⟨g', _, _, h4, hs7, HR7, HJ7, HX7, hsz6⟩, rfl⟩
      case measure =>
        have e1 := strIn_at (mem_cells HX7.out.cs 0 : (w6.setCell ⟨bs, 0, none⟩ (.string (s.extract (i + 3) s.size))).cell? ⟨bs, 0, none⟩ = some (.string (s.extract (i + 3) s.size)))
        rw [e1, HSI.out]; exact HM7.out
end Go.Proofs.YtafeaeaildfohaaGreatDoor
/- The marks of ranges that have ended: in this seat they stand in XRgFst. -/
namespace Go.Proofs.YtafeaeaildfohaaGreatDoor
open Go.RowKit Go.Maps
end Go.Proofs.YtafeaeaildfohaaGreatDoor
/- Readings whose deep parts lie in a memory that is known; slices of the call's own at whatever offset, and appends to them. No program in sight. -/
namespace Go.Proofs.YtafeaeaildfohaaGreatDoor
open Go.RowKit

def noMem : Mem := fun _ _ => none
def tIn {α : Type} (M : Mem) (t : Ty α) : Ty α := ⟨t.sz, fun _ cs x => t.rv M cs x, fun _ _ _ h => t.len _ _ _ h, fun _ _ _ _ _ h => h⟩
theorem tIn_flat {α : Type} (M : Mem) (t : Ty α) : (tIn M t).flat := fun _ _ _ _ h => h
theorem slice_in {α : Type} {M m : Mem} {t : Ty α} {v : Value} {xs : List α} (h : (tSlice (tIn M t)).rv m [v] xs) (hM : M.le m) : (tSlice t).rv m [v] xs := by
  obtain ⟨a, cap, h1, h2, h3, h4⟩ := h
  refine ⟨a, cap, h1, h2, h3, fun hp => ?_⟩
  obtain ⟨b, o, ha, hat⟩ := h4 hp
  refine ⟨b, o, ha, fun k hk => ?_⟩
  obtain ⟨cs, hc, hr⟩ := hat k hk
  exact ⟨cs, hc, t.mono _ _ _ _ hM hr⟩

/-- A slice whose block is the call's own; it need not begin at the block's first cell. -/
def OwnsO {α : Type} (t : Ty α) (w : World) (e : TypeId) (v : Value) (xs : List α) : Prop :=
  ∃ css : List (List Value), css.length = xs.length ∧ (∀ k, (h : k < css.length) → (h' : k < xs.length) → t.rv noMem css[k] xs[k]) ∧
   ((v = .slice none 0 0 ∧ xs = []) ∨ ∃ g off cap cur, v = .slice (some ⟨g, off, none⟩) xs.length cap ∧ w.heap[g]? = some (.cells cur e (0, 0)) ∧ xs.length ≤ cap ∧ cap ≤ maxLen ∧ off + cap * t.sz ≤ cur.size ∧ (cur.toList.drop off).take (xs.length * t.sz) = css.flatten)

theorem OwnsO.nil {α : Type} (t : Ty α) (w : World) (e : TypeId) : OwnsO t w e (.slice none 0 0) [] := ⟨[], rfl, fun k h => absurd h (by simp), .inl ⟨rfl, rfl⟩⟩
theorem OwnsO.form {α : Type} {t : Ty α} {w : World} {e : TypeId} {v : Value} {xs : List α} (h : OwnsO t w e v xs) : ∃ a cap, v = .slice a xs.length cap ∧ xs.length ≤ cap ∧ cap ≤ maxLen := by
  obtain ⟨css, _, _, h | ⟨g, off, cap, cur, h1, _, h3, h4, _⟩⟩ := h
  · obtain ⟨rfl, rfl⟩ := h; exact ⟨none, 0, rfl, Nat.le_refl _, Nat.zero_le _⟩
  · exact ⟨_, _, h1, h3, h4⟩
theorem OwnsO.keeps {α : Type} {t : Ty α} {w w' : World} {e : TypeId} {v : Value} {xs : List α} (h : OwnsO t w e v xs) (hk : ∀ k, v.ownBlock = some k → w'.heap[k]? = w.heap[k]?) : OwnsO t w' e v xs := by
  obtain ⟨css, g1, g2, h | ⟨g, off, cap, cur, rfl, h2, r⟩⟩ := h
  · exact ⟨css, g1, g2, .inl h⟩
  · exact ⟨css, g1, g2, .inr ⟨g, off, cap, cur, rfl, by rw [hk g rfl]; exact h2, r⟩⟩
theorem OwnsO.lt {α : Type} {t : Ty α} {w : World} {e : TypeId} {v : Value} {xs : List α} (h : OwnsO t w e v xs) : ∀ k, v.ownBlock = some k → k < w.heap.size := by
  obtain ⟨css, g1, g2, h | ⟨g, off, cap, cur, rfl, h2, r⟩⟩ := h
  · obtain ⟨rfl, _⟩ := h; intro k hk; cases hk
  · intro k hk; cases hk; exact (Array.getElem?_eq_some_iff.1 h2).1
theorem OwnsO.cells {α : Type} {t : Ty α} {w : World} {e : TypeId} {v : Value} {xs : List α} (h : OwnsO t w e v xs) : ∀ k, v.ownBlock = some k → ∃ cur, w.heap[k]? = some (.cells cur e (0, 0)) := by
  obtain ⟨css, g1, g2, h | ⟨g, off, cap, cur, rfl, h2, r⟩⟩ := h
  · obtain ⟨rfl, _⟩ := h; intro k hk; cases hk
  · intro k hk; cases hk; exact ⟨cur, h2⟩
theorem OwnsO.re {α : Type} {M M' : Mem} {t : Ty α} {w : World} {e : TypeId} {v : Value} {xs : List α} (h : OwnsO (tIn M t) w e v xs) (hM : M.le M') : OwnsO (tIn M' t) w e v xs := by
  obtain ⟨css, g1, g2, r⟩ := h
  exact ⟨css, g1, fun k h h' => t.mono _ _ _ _ hM (g2 k h h'), r⟩

theorem take_cell {cur : List Value} {off n k s j : Nat} {css : List (List Value)} {v : Value} (h : (cur.drop off).take (n * s) = css.flatten) (hl : css.length = n) (hs : ∀ c ∈ css, c.length = s) (hk : k < css.length) (e : css[k][j]? = some v) : cur[off + (k * s + j)]? = some v := by
  have hf := flatten_get css hs k hk j v e
  rw [← h, List.getElem?_take] at hf
  split at hf
  · rw [List.getElem?_drop] at hf; exact hf
  · cases hf

theorem OwnsO.lens {α : Type} {t : Ty α} {css : List (List Value)} {xs : List α} (h1 : css.length = xs.length) (h2 : ∀ k, (h : k < css.length) → (h' : k < xs.length) → t.rv noMem css[k] xs[k]) : ∀ c ∈ css, c.length = t.sz := fun c hc => by
  obtain ⟨k, hk, rfl⟩ := List.getElem_of_mem hc
  exact t.len _ _ _ (h2 k hk (by omega))

/-- Its elements, as a reading. -/
theorem OwnsO.rv {α : Type} {t : Ty α} (hf : t.flat) {w : World} {e : TypeId} {v : Value} {xs : List α} (h : OwnsO t w e v xs) {S : Nat → Prop} (hS : ∀ k, v.ownBlock = some k → S k) : (tSlice t).rv ((mem w).on S) [v] xs := by
  obtain ⟨css, g1, g2, h | ⟨g, off, cap, cur, rfl, h2, h3, h4, h5, h6⟩⟩ := h
  · obtain ⟨rfl, rfl⟩ := h; exact slice_nil _ _
  · refine ⟨some ⟨g, off, none⟩, cap, rfl, h3, h4, fun _ => ⟨g, off, rfl, fun k hk => ⟨css[k], fun j u hu => ?_, hf _ _ _ _ (g2 k (by omega) hk)⟩⟩⟩
    have hc := take_cell h6 g1 (OwnsO.lens g1 g2) (by omega) hu
    refine Mem.on_some ?_ (hS g rfl)
    rw [mem_cells h2]
    rw [Nat.add_assoc]
    simpa using hc
theorem OwnsO.rv' {α : Type} {t : Ty α} (hf : t.flat) {w : World} {e : TypeId} {v : Value} {xs : List α} (h : OwnsO t w e v xs) : (tSlice t).rv (mem w) [v] xs :=
  (tSlice t).mono _ _ _ _ (Mem.on_le _ (fun _ => True)) (h.rv hf (fun _ _ => trivial))

/-- What stands at an element's place; the block is not frozen. -/
theorem OwnsO.at {α : Type} {t : Ty α} {w : World} {e : TypeId} {v : Value} {xs : List α} (h : OwnsO t w e v xs) {k : Nat} (hk : k < xs.length) :
    ∃ g off cap cs, v = .slice (some ⟨g, off, none⟩) xs.length cap ∧ xs.length ≤ cap ∧ cap ≤ maxLen ∧ t.rv noMem cs xs[k] ∧ At (mem w) g (off + k * t.sz) cs := by
  obtain ⟨css, g1, g2, h | ⟨g, off, cap, cur, rfl, h2, h3, h4, h5, h6⟩⟩ := h
  · obtain ⟨_, rfl⟩ := h; simp at hk
  · refine ⟨g, off, cap, css[k]'(by omega), rfl, h3, h4, g2 k (by omega) hk, fun j u hu => ?_⟩
    have hc := take_cell h6 g1 (OwnsO.lens g1 g2) (by omega) hu
    rw [mem_cells h2, Nat.add_assoc]
    simpa using hc

theorem drop_take_succ {cur : List Value} {off n s : Nat} {c : List Value} {css : List (List Value)} (h : (cur.drop off).take ((n + 1) * s) = (c :: css).flatten) (hc : c.length = s) : (cur.drop (off + s)).take (n * s) = css.flatten := by
  rw [List.flatten_cons] at h
  have e : (cur.drop (off + s)).take (n * s) = ((cur.drop off).take ((n + 1) * s)).drop s := by
    rw [List.drop_take, List.drop_drop, Nat.succ_mul, Nat.add_sub_cancel]
  rw [e, h, ← hc, List.drop_left]

theorem flatten_length {β : Type} {s : Nat} : ∀ (css : List (List β)), (∀ c ∈ css, c.length = s) → css.flatten.length = css.length * s
  | [], _ => by simp
  | c :: css, h => by rw [List.flatten_cons, List.length_append, h c (by simp), flatten_length css (fun c hc => h c (by simp [hc])), List.length_cons, Nat.succ_mul]; omega

/-- The slice without its first element: 'x[1:]'. -/
theorem OwnsO.tail {α : Type} {P : Program} {t : Ty α} {w : World} {e T : TypeId} {v : Value} {x : α} {xs : List α} (h : OwnsO t w e v (x :: xs)) (hT : P.underlying T = some (.slice e)) (hs : (P.info? e).map (·.size) = some t.sz) :
    ∃ v', (∀ w2, (Instr.slice T v (some (.int .i64 1)) none none).run P w2 = .ok v' w2) ∧ OwnsO t w e v' xs ∧ v'.ownBlock = v.ownBlock ∧ ∃ a c, v' = .slice a xs.length c := by
  obtain ⟨css, g1, g2, h | ⟨g, off, cap, cur, rfl, h2, h3, h4, h5, h6⟩⟩ := h
  · obtain ⟨_, h⟩ := h; cases h
  · have hl := OwnsO.lens g1 g2
    cases css with
    | nil => simp at g1
    | cons c css =>
      have hc : c.length = t.sz := hl c (by simp)
      have hcl : css.length = xs.length := by simpa using g1
      simp only [List.length_cons] at h3 h6
      have h7 := drop_take_succ h6 hc
      have he : P.elem T = e := by simp [Program.elem, hT]
      have hsz : ∀ w2, (sizeOf e).run P w2 = .ok t.sz w2 := fun w2 => by
        cases hq : P.info? e with
        | none => simp [hq] at hs
        | some i => simp only [hq, Option.map_some, Option.some.injEq] at hs; simp [sizeOf, typeInfo, hq, hs]
      refine ⟨.slice (some (if cap = 1 then ⟨g, off, none⟩ else ⟨g, off + t.sz, none⟩)) xs.length (cap - 1), fun w2 => ?_, ⟨css, hcl, fun k h h' => by have := g2 (k + 1) (by simp; omega) (by simp; omega); simpa using this, .inr ?_⟩, ?_, _, _, rfl⟩
      · rw [run_slice_l w2 T _ _ cap (by rw [he]; exact hT) .i64 1 (by omega) (by simp; omega)]
        rw [he, hsz]
        simp only [Result.andThen, sliced, List.length_cons]
        by_cases h1 : cap = 1
        · simp [h1]
        · simp [h1, Addr.add]
      · by_cases h1 : cap = 1
        · have h0 : xs = [] := List.eq_nil_of_length_eq_zero (by omega)
          subst h0
          refine ⟨g, off, cap - 1, cur, by simp [h1], h2, by omega, by omega, by rw [h1] at h5 ⊢; omega, ?_⟩
          have : css = [] := List.eq_nil_of_length_eq_zero (by simpa using hcl)
          subst this; simp
        · refine ⟨g, off + t.sz, cap - 1, cur, by simp [h1], h2, by omega, by omega, ?_, h7⟩
          have e2 : cap * t.sz = (cap - 1) * t.sz + t.sz := by rw [← Nat.succ_mul]; congr 1; omega
          omega
      · by_cases h1 : cap = 1 <;> simp [h1, Value.ownBlock]

section
variable {P : Program}
theorem run_append_room_at (w : World) (t tx ty e : TypeId) (i : TypeInfo) (ht : P.underlying t = some (.slice e)) (hi : P.info? e = some i)
    (g off sLen sCap : Nat) (cur : Array Value) (hg : w.heap[g]? = some (.cells cur e (0, 0))) (x : Value) (n : Nat) (news : List Value) (hs : Src P i.size tx x n news w)
    (hroom : sLen + n ≤ sCap) (hfit : off + sLen * i.size + news.length ≤ cur.size) :
    (Builtin.append_ #[t, tx] ty #[.slice (some ⟨g, off, none⟩) sLen sCap, x]).run P w =
      .ok (.slice (some ⟨g, off, none⟩) (sLen + n) sCap) (w.setRow g (cur.toList.take (off + sLen * i.size) ++ news ++ cur.toList.drop (off + sLen * i.size + news.length)).toArray) := by
  have hst := run_storeCells_at P g (off + sLen * i.size) e news 0 cur w hg (by simpa using hfit) hs.one
  simp only [Nat.add_zero] at hst
  rcases hs.kind with ⟨e', hk⟩ | hk <;> simp [Builtin.append_, run_underlying ht, run_underlying hk, sizeOf, typeInfo, hi, hs.len, hroom, hs.cells, Addr.add_lit, hst]

theorem nextcap_fits {need old bytes : Nat} (h : old < need) (hb : need * bytes ≤ 140737488355328) : Builtin.nextslicecap need old * bytes ≤ 281474976710656 := growslice_fits h hb

theorem run_append_new {α : Type} {t : Ty α} (w : World) (T tx ty : TypeId) {e : TypeId} {z : Value} {bytes : Nat} (hT : P.underlying T = some (.slice e))
    (hinf : (P.info? e).map (fun i => (i.zero, i.size, i.bytes)) = some (some z, t.sz, bytes)) (hzs : z.cells.size = t.sz) (a : Option Addr) (cap : Nat) (xs ys : List α) (css : List (List Value))
    (hold : (Builtin.firstCells t.sz xs.length (.slice a xs.length cap)).run P w.drew = .ok css.flatten.toArray w.drew) (hcl : css.length = xs.length) (hcr : ∀ k, (h : k < css.length) → (h' : k < xs.length) → t.rv noMem css[k] xs[k])
    (x : Value) (dss : List (List Value)) (hs : Src P t.sz tx x ys.length dss.flatten w) (hl : dss.length = ys.length) (hr : ∀ k, (h : k < dss.length) → (h' : k < ys.length) → t.rv noMem dss[k] ys[k])
    (hn : cap < xs.length + ys.length) (h63 : xs.length + ys.length ≤ maxLen) (hbytes : (xs.length + ys.length) * bytes ≤ 140737488355328) :
    ∃ v' w', (Builtin.append_ #[T, tx] ty #[.slice a xs.length cap, x]).run P w = .ok v' w' ∧ OwnsO t w' e v' (xs ++ ys) ∧ Below w.heap.size w w' ∧ v'.ownBlock = some w.heap.size := by
  obtain ⟨i, hi, hz, hsize, hby⟩ := info_parts hinf
  have hsmall : xs.length + ys.length ≤ 9223372036854775807 := by simp only [maxLen] at h63; omega
  rw [← hsize] at hs hold
  rw [← hby] at hbytes
  have hrun := run_append_grow_src (P := P) w T tx ty e i z hT hi hz a xs.length cap css.flatten hold x ys.length dss.flatten hs hn (by omega) (growslice_fits hn hbytes)
  refine ⟨_, _, hrun, ⟨css ++ dss, by simp [hcl, hl], fun k h h' => ?_, .inr ⟨w.heap.size, 0, grownCap w (xs.length + ys.length) cap e, _, ?_, heap_alloc_new w.drew _, ?_, grownCap_le_maxLen w _ _ e h63, ?_, ?_⟩⟩, (Below.refl _ _).drew.alloc (Nat.le_refl _) _, rfl⟩
  · by_cases hk : k < css.length
    · rw [List.getElem_append_left hk, List.getElem_append_left (by omega)]
      exact hcr k hk (by omega)
    · have e1 : (css ++ dss)[k] = dss[k - css.length]'(by simp at h; omega) := List.getElem_append_right (by omega)
      have e2 : (xs ++ ys)[k] = ys[k - css.length]'(by simp at h'; omega) := by rw [List.getElem_append_right (by omega)]; congr 1; omega
      rw [e1, e2]
      exact hr _ _ _
  · rw [List.length_append]
  · rw [List.length_append]; exact grownCap_ge w _ _ e
  · have hge := grownCap_ge w (xs.length + ys.length) cap e
    have h1 : css.flatten.length = xs.length * t.sz := by rw [flatten_length css (OwnsO.lens hcl hcr), hcl]
    have h2 : dss.flatten.length = ys.length * t.sz := by rw [flatten_length dss (OwnsO.lens hl hr), hl]
    simp only [Array.size_append, List.size_toArray, size_zeroCells, hzs, List.length_append, h1, h2, ← Nat.add_mul]
    rw [Nat.zero_add]
    exact Nat.le_of_eq (by congr 1; omega)
  · have h1 : css.flatten.length = xs.length * t.sz := by rw [flatten_length css (OwnsO.lens hcl hcr), hcl]
    have h2 : dss.flatten.length = ys.length * t.sz := by rw [flatten_length dss (OwnsO.lens hl hr), hl]
    simp only [Array.toList_append, List.drop_zero, List.length_append, List.flatten_append]
    rw [Nat.add_mul, ← h1, ← h2, ← List.length_append, List.take_left]

/-- Where an append has put its elements: behind the old ones, where there was room, or all into a new block. -/
def AppAt (w w' : World) (v : Value) (n m : Nat) (v' : Value) : Prop :=
  (v'.ownBlock = v.ownBlock ∧ w.grownBy w' v.ownBlock ∧ ∃ a cap, v = .slice a n cap ∧ n + m ≤ cap) ∨ (Below w.heap.size w w' ∧ v'.ownBlock = some w.heap.size)
theorem AppAt.grown {w w' : World} {v v' : Value} {n m : Nat} (h : AppAt w w' v n m v') : w.grownBy w' v.ownBlock := by
  rcases h with ⟨_, h, _⟩ | ⟨hb, _⟩
  · exact h
  · exact ⟨hb.os, hb.tape, hb.output, hb.size, fun k hk _ => hb.block k hk⟩
theorem AppAt.block {w w' : World} {v v' : Value} {n m : Nat} (h : AppAt w w' v n m v') : v'.ownBlock = v.ownBlock ∨ ∀ k, v'.ownBlock = some k → w.heap.size ≤ k := by
  rcases h with ⟨h, _⟩ | ⟨_, h⟩
  · exact .inl h
  · exact .inr fun k hk => by rw [h] at hk; cases hk; exact Nat.le_refl _

/-- APPEND to a slice of the call's own, of any number of elements. -/
theorem run_append_o {α : Type} {t : Ty α} (w : World) (T tx ty : TypeId) {e : TypeId} {z : Value} {bytes : Nat} (hT : P.underlying T = some (.slice e))
    (hinf : (P.info? e).map (fun i => (i.zero, i.size, i.bytes)) = some (some z, t.sz, bytes)) (hzs : z.cells.size = t.sz) (v : Value) (xs ys : List α) (hown : OwnsO t w e v xs)
    (x : Value) (dss : List (List Value)) (hs : Src P t.sz tx x ys.length dss.flatten w) (hl : dss.length = ys.length) (hr : ∀ k, (h : k < dss.length) → (h' : k < ys.length) → t.rv noMem dss[k] ys[k])
    (h63 : xs.length + ys.length ≤ maxLen) (hbytes : (xs.length + ys.length) * bytes ≤ 140737488355328) :
    ∃ v' w', (Builtin.append_ #[T, tx] ty #[v, x]).run P w = .ok v' w' ∧ OwnsO t w' e v' (xs ++ ys) ∧ AppAt w w' v xs.length ys.length v' := by
  have h2 : dss.flatten.length = ys.length * t.sz := by rw [flatten_length dss (OwnsO.lens hl hr), hl]
  obtain ⟨css, g1, g2, h | ⟨g, off, cap, cur, rfl, hg, h3, h4, h5, h6⟩⟩ := hown
  · obtain ⟨rfl, rfl⟩ := h
    by_cases h0 : ys.length = 0
    · have hy : ys = [] := List.eq_nil_of_length_eq_zero h0
      subst hy
      have hd : dss = [] := List.eq_nil_of_length_eq_zero (by simpa using hl)
      subst hd
      obtain ⟨i, hi, hz, hsize, hby⟩ := info_parts hinf
      refine ⟨.slice none 0 0, w, ?_, OwnsO.nil _ _ _, .inl ⟨rfl, ⟨rfl, rfl, rfl, Nat.le_refl _, fun _ _ _ => rfl⟩, _, _, rfl, Nat.le_refl _⟩⟩
      rw [← hsize] at hs
      rcases hs.kind with ⟨e', hk⟩ | hk <;> (have hc := hs.cells; have hle := hs.len; simp only [List.length_nil] at hc hle; simp [Builtin.append_, run_underlying hT, run_underlying hk, sizeOf, typeInfo, hi, hle, hc])
    · obtain ⟨v', w', hrun, ho, hb, hblk⟩ := run_append_new (P := P) w T tx ty hT hinf hzs none 0 [] ys [] (run_firstCells_none w.drew t.sz 0 0 0) rfl (fun k h => absurd h (by simp)) x dss hs hl hr (by simp; omega) h63 hbytes
      exact ⟨v', w', hrun, ho, .inr ⟨hb, hblk⟩⟩
  · by_cases hroom : xs.length + ys.length ≤ cap
    · obtain ⟨i, hi, hz, hsize, hby⟩ := info_parts hinf
      have hfit : off + xs.length * t.sz + dss.flatten.length ≤ cur.size := by
        have := Nat.mul_le_mul_right t.sz hroom
        rw [Nat.add_mul] at this; omega
      rw [← hsize] at hs
      have hrun := run_append_room_at (P := P) w T tx ty e i hT hi g off xs.length cap cur hg x ys.length dss.flatten hs hroom (by rw [hsize]; exact hfit)
      rw [hsize] at hrun
      refine ⟨_, _, hrun, ⟨css ++ dss, by simp [g1, hl], fun k h h' => ?_, .inr ⟨g, off, cap, _, by rw [List.length_append], setRow_heap w g cur _ e _ hg, by rw [List.length_append]; exact hroom, h4, ?_, ?_⟩⟩, .inl ⟨rfl, ⟨rfl, rfl, rfl, by simp [World.setRow], fun k _ hk => setRow_other w g k _ (fun e => hk (by simp [Value.ownBlock, e]))⟩, _, _, rfl, hroom⟩⟩
      · by_cases hk : k < css.length
        · rw [List.getElem_append_left hk, List.getElem_append_left (by omega)]
          exact g2 k hk (by omega)
        · have e1 : (css ++ dss)[k] = dss[k - css.length]'(by simp at h; omega) := List.getElem_append_right (by omega)
          have e2 : (xs ++ ys)[k] = ys[k - css.length]'(by simp at h'; omega) := by rw [List.getElem_append_right (by omega)]; congr 1; omega
          rw [e1, e2]
          exact hr _ _ _
      · simp only [List.size_toArray, List.length_append, List.length_take, List.length_drop, Array.length_toList]
        omega
      · have h1 : css.flatten.length = xs.length * t.sz := by rw [flatten_length css (OwnsO.lens g1 g2), g1]
        simp only [List.length_append, List.flatten_append]
        have e0 : (cur.toList.take (off + xs.length * t.sz)).drop off = css.flatten := by rw [List.drop_take, ← h6]; congr 1; omega
        have el : off ≤ (cur.toList.take (off + xs.length * t.sz)).length := by simp; omega
        rw [List.append_assoc, List.drop_append_of_le_length el, e0, Nat.add_mul, ← h1, ← h2, ← List.append_assoc, ← List.length_append, List.take_left]
    · have hold : (Builtin.firstCells t.sz xs.length (.slice (some ⟨g, off, none⟩) xs.length cap)).run P w.drew = .ok css.flatten.toArray w.drew := by
        refine run_firstCells_some (P := P) w.drew t.sz xs.length ⟨g, off, none⟩ xs.length cap css.flatten (by rw [flatten_length css (OwnsO.lens g1 g2), g1]) (fun j u hj => ?_)
        rw [Addr.add_lit]
        show w.cell? ⟨g, off + j, none⟩ = some u
        rw [cell_of_row w g (off + j) cur e (0, 0) hg]
        rw [← h6, List.getElem?_take] at hj
        split at hj
        · rw [List.getElem?_drop] at hj; simpa using hj
        · cases hj
      obtain ⟨v', w', hrun, ho, hb, hblk⟩ := run_append_new (P := P) w T tx ty hT hinf hzs (some ⟨g, off, none⟩) cap xs ys css hold g1 g2 x dss hs hl hr (by omega) h63 hbytes
      exact ⟨v', w', hrun, ho, .inr ⟨hb, hblk⟩⟩

theorem run_append_o1 {α : Type} {t : Ty α} (w : World) (T ty : TypeId) {e : TypeId} {z : Value} {bytes : Nat} (hT : P.underlying T = some (.slice e))
    (hinf : (P.info? e).map (fun i => (i.zero, i.size, i.bytes)) = some (some z, t.sz, bytes)) (hzs : z.cells.size = t.sz) (v : Value) (xs : List α) (hown : OwnsO t w e v xs)
    (nb c : Nat) (y : α) (cs : List Value) (hat : At (mem w) nb 0 cs) (hrv : t.rv noMem cs y) (h1 : ∀ u ∈ cs, u.oneCell' = true)
    (h63 : xs.length + 1 ≤ maxLen) (hbytes : (xs.length + 1) * bytes ≤ 140737488355328) :
    ∃ v' w', (Builtin.append_ #[T, T] ty #[v, .slice (some ⟨nb, 0, none⟩) 1 c]).run P w = .ok v' w' ∧ OwnsO t w' e v' (xs ++ [y]) ∧ AppAt w w' v xs.length 1 v' := by
  have hl := t.len _ _ _ hrv
  refine run_append_o (P := P) w T T ty hT hinf hzs v xs [y] hown _ [cs] (Src.ofSlice w hT ⟨nb, 0, none⟩ 1 c _ (by simp [hl]) (fun j u hj => ?_) (by simpa using h1)) rfl (fun k h h' => ?_) h63 hbytes
  · rw [Addr.add_lit]
    exact hat j u (by simpa using hj)
  · have : k = 0 := by simp at h; omega
    subst this; exact hrv

/-- APPEND OF ONE ELEMENT. -/
theorem wpList_append_o1 {α : Type} {ops : Array Oper} {rest : List Oper} {o : Oper} {a : Act} {Q : Exit → Act → World → Prop} {w : World} (hgd : o.guard = none) (s x : Operand) (T : TypeId)
    (ho : o.op = .call { callee := .builtin .append, args := #[s, x], argTypes := #[T, T] }) (t : Ty α) {e : TypeId} {z : Value} {bytes : Nat} (hT : P.underlying T = some (.slice e))
    (hinf : (P.info? e).map (fun i => (i.zero, i.size, i.bytes)) = some (some z, t.sz, bytes)) (hzs : z.cells.size = t.sz) (v : Value) (xs : List α) (hs : a.eval s = v) (hown : OwnsO t w e v xs)
    (nb c : Nat) (y : α) (hx : a.eval x = .slice (some ⟨nb, 0, none⟩) 1 c) (cs : List Value) (hat : At (mem w) nb 0 cs) (hrv : t.rv noMem cs y) (h1 : ∀ u ∈ cs, u.oneCell' = true)
    (h63 : xs.length + 1 ≤ maxLen) (hbytes : (xs.length + 1) * bytes ≤ 140737488355328)
    (h : ∀ v' w', OwnsO t w' e v' (xs ++ [y]) → AppAt w w' v xs.length 1 v' → wpList P ops Q rest (a.put o.dst v') w') : wpList P ops Q (o :: rest) a w := by
  refine wpList_plain hgd fun K hK => ?_
  obtain ⟨v', w', hr, h2, h3⟩ := run_append_o1 (P := P) w T o.type hT hinf hzs v xs hown nb c y cs hat hrv h1 h63 hbytes
  unfold Oper.wp execOp
  simp only [ho, resolve, invoke, builtin, Sem.run_bind, Sem.run_pure, Result.andThen_ok, List.map_toArray, List.map_cons, List.map_nil, hs, hx, hr]
  exact hK _ _ (h v' w' h2 h3)
/-- The same as one step of a region that draws its order. -/
theorem step_append_o1 {α : Type} {ops : Array Oper} {o : Oper} {a : Act} {w : World} {K : Act → World → Prop} {Q : Exit → Act → World → Prop} {E : Prop} (hgd : o.guard = none) (s x : Operand) (T : TypeId)
    (ho : o.op = .call { callee := .builtin .append, args := #[s, x], argTypes := #[T, T] }) (t : Ty α) {e : TypeId} {z : Value} {bytes : Nat} (hT : P.underlying T = some (.slice e))
    (hinf : (P.info? e).map (fun i => (i.zero, i.size, i.bytes)) = some (some z, t.sz, bytes)) (hzs : z.cells.size = t.sz) (v : Value) (xs : List α) (hs : a.eval s = v) (hown : OwnsO t w e v xs)
    (nb c : Nat) (y : α) (hx : a.eval x = .slice (some ⟨nb, 0, none⟩) 1 c) (cs : List Value) (hat : At (mem w) nb 0 cs) (hrv : t.rv noMem cs y) (h1 : ∀ u ∈ cs, u.oneCell' = true)
    (h63 : xs.length + 1 ≤ maxLen) (hbytes : (xs.length + 1) * bytes ≤ 140737488355328)
    (h : ∀ v' w', OwnsO t w' e v' (xs ++ [y]) → AppAt w w' v xs.length 1 v' → K (a.put o.dst v') w') :
    if Region.wanted o (yielded ops a.tmps) = true then Oper.wp P o a w K Q else E := by
  have hw : Region.wanted o (yielded ops a.tmps) = true := by simp [Region.wanted, hgd]
  rw [if_pos hw]
  obtain ⟨v', w', hr, h2, h3⟩ := run_append_o1 (P := P) w T o.type hT hinf hzs v xs hown nb c y cs hat hrv h1 h63 hbytes
  unfold Oper.wp execOp
  simp only [ho, resolve, invoke, builtin, Sem.run_bind, Sem.run_pure, Result.andThen_ok, List.map_toArray, List.map_cons, List.map_nil, hs, hx, hr]
  exact h v' w' h2 h3
end
end Go.Proofs.YtafeaeaildfohaaGreatDoor
/- Appends to slices of the call's own at whatever offset; cuts of slices (chapter 24's XVFr, its seat-free part). -/
namespace Go.Proofs.YtafeaeaildfohaaGreatDoor
open Go.RowKit Go.Maps

section
variable {P : Program}
theorem run_append_os {α : Type} {t : Ty α} (hf : t.flat) (hone : ∀ m cs x, t.rv m cs x → ∀ u ∈ cs, u.oneCell' = true) (w : World) (T ty : TypeId) {e : TypeId} {z : Value} {bytes : Nat} (hT : P.underlying T = some (.slice e))
    (hinf : (P.info? e).map (fun i => (i.zero, i.size, i.bytes)) = some (some z, t.sz, bytes)) (hzs : z.cells.size = t.sz) (hsz : 0 < t.sz) (v : Value) (xs ys : List α) (hown : OwnsO t w e v xs)
    (a : Option Addr) (c : Nat) (hy : (tSlice t).rv (mem w) [.slice a ys.length c] ys) (h63 : xs.length + ys.length ≤ maxLen) (hbytes : (xs.length + ys.length) * bytes ≤ 140737488355328) :
    ∃ v' w', (Builtin.append_ #[T, T] ty #[v, .slice a ys.length c]).run P w = .ok v' w' ∧ OwnsO t w' e v' (xs ++ ys) ∧ AppAt w w' v xs.length ys.length v' := by
  by_cases h0 : ys.length = 0
  · obtain rfl := List.length_eq_zero_iff.1 h0
    refine run_append_o (P := P) w T T ty hT hinf hzs v xs [] hown _ [] ?_ rfl (fun k h => absurd h (by simp)) h63 hbytes
    cases a with
    | none => exact Src.ofNil w hT c
    | some ad => exact Src.ofSlice w hT ad 0 c [] (by simp) (fun j u h => by simp at h) (fun u h => by cases h)
  · obtain ⟨b, o, rfl, _⟩ := slice_at hy (k := 0) (by omega)
    obtain ⟨dss, d1, d2, d3⟩ := slice_css hy
    have hl : dss.flatten.length = ys.length * t.sz := by rw [flatten_len dss d2, d1]
    refine run_append_o (P := P) w T T ty hT hinf hzs v xs ys hown _ dss ?_ d1 (fun k h h' => hf _ _ _ _ (d3 k h h').2) h63 hbytes
    refine Src.ofSlice w hT ⟨b, o, none⟩ ys.length c _ hl (fun j u hj => ?_) (fun u hu => ?_)
    · obtain ⟨k, hk, r, rfl, hv⟩ := flatten_split hsz dss d2 j u hj
      have := (d3 k hk (by omega)).1 r u hv
      rw [Addr.add_lit, ← Nat.add_assoc]
      exact this
    · obtain ⟨l, hl, hu⟩ := List.mem_flatten.1 hu
      obtain ⟨k, hk, rfl⟩ := List.getElem_of_mem hl
      exact hone _ _ _ (d3 k hk (by omega)).2 u hu
theorem step_append_os {α : Type} {ops : Array Oper} {o : Oper} {a : Act} {w : World} {K : Act → World → Prop} {Q : Exit → Act → World → Prop} {E : Prop} (hgd : o.guard = none) (s x : Operand) (T : TypeId)
    (ho : o.op = .call { callee := .builtin .append, args := #[s, x], argTypes := #[T, T] }) (t : Ty α) (hf : t.flat) (hone : ∀ m cs x, t.rv m cs x → ∀ u ∈ cs, u.oneCell' = true) {e : TypeId} {z : Value} {bytes : Nat} (hT : P.underlying T = some (.slice e))
    (hinf : (P.info? e).map (fun i => (i.zero, i.size, i.bytes)) = some (some z, t.sz, bytes)) (hzs : z.cells.size = t.sz) (hsz : 0 < t.sz) (v : Value) (xs ys : List α) (hs : a.eval s = v) (hown : OwnsO t w e v xs)
    (ad : Option Addr) (n c : Nat) (hx : a.eval x = .slice ad n c) (hn : n = ys.length) (hy : (tSlice t).rv (mem w) [.slice ad n c] ys) (h63 : xs.length + ys.length ≤ maxLen) (hbytes : (xs.length + ys.length) * bytes ≤ 140737488355328)
    (h : ∀ v' w', OwnsO t w' e v' (xs ++ ys) → AppAt w w' v xs.length ys.length v' → K (a.put o.dst v') w') :
    if Region.wanted o (yielded ops a.tmps) = true then Oper.wp P o a w K Q else E := by
  have hw : Region.wanted o (yielded ops a.tmps) = true := by simp [Region.wanted, hgd]
  rw [if_pos hw]
  subst hn
  obtain ⟨v', w', hr, h2, h3⟩ := run_append_os (P := P) hf hone w T o.type hT hinf hzs hsz v xs ys hown ad c hy h63 hbytes
  unfold Oper.wp execOp
  simp only [ho, resolve, invoke, builtin, Sem.run_bind, Sem.run_pure, Result.andThen_ok, List.map_toArray, List.map_cons, List.map_nil, hs, hx, hr]
  exact h v' w' h2 h3
theorem size_run {e : TypeId} {sz : Nat} (hs : (P.info? e).map (·.size) = some sz) (w : World) : (sizeOf e).run P w = .ok sz w := by
  cases hq : P.info? e with
  | none => simp [hq] at hs
  | some i => simp only [hq, Option.map_some, Option.some.injEq] at hs; simp [sizeOf, typeInfo, hq, hs]
/-- The first elements of a slice. -/
theorem cut_lo {α : Type} {t : Ty α} {m : Mem} {a : Option Addr} {len cap n : Nat} {xs : List α} (h : (tSlice t).rv m [.slice a len cap] xs) (hn : n ≤ xs.length) {T e : TypeId} (hT : P.underlying T = some (.slice e)) (hs : (P.info? e).map (·.size) = some t.sz) :
    ∃ a' c', (∀ w2, (Instr.slice T (.slice a len cap) none (some (.int .i64 n)) none).run P w2 = .ok (.slice a' n c') w2) ∧ (tSlice t).rv m [.slice a' n c'] (xs.take n) := by
  obtain ⟨rfl, h1, h2⟩ := slice_len h
  obtain ⟨a', cap', eq, _, _, h4⟩ := h
  simp only [List.cons.injEq, Value.slice.injEq, and_true] at eq
  obtain ⟨rfl, _, rfl⟩ := eq
  have hl : (xs.take n).length = n := by simp; omega
  have he : P.elem T = e := by simp [Program.elem, hT]
  refine ⟨a, cap, fun w2 => ?_, a, cap, by rw [hl], by rw [hl]; omega, h2, fun h0 => ?_⟩
  · rw [run_slice_h w2 T _ xs.length cap (by rw [he]; exact hT) .i64 n (by omega) (by omega), he, size_run hs]
    have e0 : a.map (fun x => x.add (0 * t.sz)) = a := by
      cases a with
      | none => rfl
      | some x => simp [Addr.add]
    simp only [Result.andThen_ok, sliced, Int.toNat_natCast, Nat.sub_zero]
    by_cases hc : cap = 0 <;> simp [hc] <;> (cases a <;> simp [Addr.add])
  · rw [hl] at h0
    obtain ⟨b, o, ha, hat⟩ := h4 (by omega)
    exact ⟨b, o, ha, fun k hk => by rw [List.getElem_take]; exact hat k (by omega)⟩
/-- The last elements of a slice. -/
theorem cut_hi {α : Type} {t : Ty α} {m : Mem} {a : Option Addr} {len cap n : Nat} {xs : List α} (h : (tSlice t).rv m [.slice a len cap] xs) (hn : n ≤ xs.length) {T e : TypeId} (hT : P.underlying T = some (.slice e)) (hs : (P.info? e).map (·.size) = some t.sz) :
    ∃ a' c', (∀ w2, (Instr.slice T (.slice a len cap) (some (.int .i64 n)) none none).run P w2 = .ok (.slice a' (len - n) c') w2) ∧ (tSlice t).rv m [.slice a' (len - n) c'] (xs.drop n) := by
  obtain ⟨rfl, h1, h2⟩ := slice_len h
  obtain ⟨a', cap', eq, _, _, h4⟩ := h
  simp only [List.cons.injEq, Value.slice.injEq, and_true] at eq
  obtain ⟨rfl, _, rfl⟩ := eq
  have he : P.elem T = e := by simp [Program.elem, hT]
  refine ⟨if cap = n then a else a.map (·.add (n * t.sz)), cap - n, fun w2 => ?_, _, _, by rw [List.length_drop], by rw [List.length_drop]; omega, by omega, fun h0 => ?_⟩
  · rw [run_slice_l w2 T _ xs.length cap (by rw [he]; exact hT) .i64 n (by omega) (by omega), he, size_run hs]
    simp only [Result.andThen_ok, sliced, Int.toNat_natCast]
  · rw [List.length_drop] at h0
    obtain ⟨b, o, ha, hat⟩ := h4 (by omega)
    subst ha
    refine ⟨b, o + n * t.sz, by rw [if_neg (by omega)]; simp [Addr.add], fun k hk => ?_⟩
    rw [List.length_drop] at hk
    have h := hat (n + k) (by omega)
    rw [List.getElem_drop]
    have e : o + (n + k) * t.sz = o + n * t.sz + k * t.sz := by rw [Nat.add_mul]; omega
    rw [e] at h; exact h
end
theorem lit0_of {α : Type} (t : Ty α) {w : World} {b : Nat} {T : TypeId} (h : w.heap[b]? = some (.cells #[] T (0, 0))) : OwnsO t w T (.slice (some ⟨b, 0, none⟩) 0 0) [] :=
  ⟨[], rfl, fun k h => absurd h (by simp), .inr ⟨b, 0, 0, #[], rfl, h, by simp, by simp, by simp, by simp⟩⟩
theorem app_below {Z wA w5 : World} {n m B : Nat} {v v5 : Value} (hZ : Below B Z wA) (hB : B ≤ wA.heap.size) (happ : AppAt wA w5 v n m v5) (hv : ∀ k, v.ownBlock = some k → B ≤ k) : Below B Z w5 ∧ ∀ k, v5.ownBlock = some k → B ≤ k :=
  ⟨hZ.grown happ.grown hB (fun k e => hv k e), fun k e => by
    rcases happ.block with g | g
    · exact hv k (g ▸ e)
    · exact Nat.le_trans hB (g k e)⟩
theorem OwnsO.formN {α : Type} {t : Ty α} {w : World} {e : TypeId} {v : Value} {xs : List α} (h : OwnsO t w e v xs) : ∃ a n cap, v = .slice a n cap ∧ n = xs.length := by
  obtain ⟨a, cap, rfl, _⟩ := h.form
  exact ⟨a, _, cap, rfl, rfl⟩
theorem slice_to {α : Type} {M m : Mem} {t : Ty α} {v : Value} {xs : List α} (h : (tSlice t).rv M [v] xs) (hM : M.le m) : (tSlice (tIn M t)).rv m [v] xs := by
  obtain ⟨a, cap, h1, h2, h3, h4⟩ := h
  refine ⟨a, cap, h1, h2, h3, fun hp => ?_⟩
  obtain ⟨b, o, ha, hat⟩ := h4 hp
  refine ⟨b, o, ha, fun k hk => ?_⟩
  obtain ⟨cs, hc, hr⟩ := hat k hk
  exact ⟨cs, fun j v hj => hM _ _ _ (hc j v hj), hr⟩
def store5 (w : World) (b : Nat) (v0 v1 v2 v3 v4 : Value) : World := ((((w.setCell ⟨b, 0, none⟩ v0).setCell ⟨b, 1, none⟩ v1).setCell ⟨b, 2, none⟩ v2).setCell ⟨b, 3, none⟩ v3).setCell ⟨b, 4, none⟩ v4
theorem own_lit0 {α : Type} (t : Ty α) (w : World) (e : TypeId) : Owns t (w.alloc (.cells #[] e)) w.heap.size e (.slice (some ⟨w.heap.size, 0, none⟩) 0 0) [] :=
  ⟨[], rfl, World.ownsRow_lit w #[] 0 (Nat.le_refl _) (Nat.zero_le _) (by simp), fun c h => absurd h (by simp), fun k h => absurd h (by simp)⟩
theorem below_onS {w w' : World} (h : Below w.heap.size w w') (S : Nat → Prop) : ((mem w).on S).le ((mem w').on (fun k => S k ∨ w.heap.size ≤ k)) := fun b o u e => by
  obtain ⟨hs, e⟩ := Mem.of_on e
  exact Mem.on_some (below_mem h _ _ _ e) (.inl hs)
end Go.Proofs.YtafeaeaildfohaaGreatDoor
/- Slices of the call's own whose elements are deep (XRgWayT's seat-free part). -/
namespace Go.Proofs.YtafeaeaildfohaaGreatDoor
open Go.RowKit Go.Maps

/-- A slice of the call's own with deep elements: their parts lie in S and not in the slice's block. -/
def OwnsD {α : Type} (t : Ty α) (S : Nat → Prop) (w : World) (B : Nat) (e : TypeId) (v : Value) (xs : List α) : Prop :=
  ∃ M : Mem, M.le ((mem w).on (fun b => S b ∧ some b ≠ v.ownBlock)) ∧ OwnsO (tIn M t) w e v xs ∧ ∀ k, v.ownBlock = some k → B ≤ k
section
variable {α : Type} {t : Ty α} {S : Nat → Prop} {w : World} {B : Nat} {e : TypeId} {v : Value} {xs : List α}
theorem OwnsD.nil (t : Ty α) (S : Nat → Prop) (w : World) (B : Nat) (e : TypeId) : OwnsD t S w B e (.slice none 0 0) [] := ⟨noMem, (fun b o v h => by cases h), OwnsO.nil _ _ _, (fun k h => by cases h)⟩
theorem OwnsD.keeps (h : OwnsD t S w B e v xs) {w' : World} (hb : Below w.heap.size w w') : OwnsD t S w' B e v xs := by
  obtain ⟨M, h1, h2, h3⟩ := h
  refine ⟨M, Mem.le_trans h1 (fun b o u e => ?_), h2.keeps (fun k hk => hb.block k (h2.lt k hk)), h3⟩
  obtain ⟨hs, e⟩ := Mem.of_on e
  exact Mem.on_some (below_mem hb _ _ _ e) hs
theorem OwnsD.rv (h : OwnsD t S w B e v xs) {S' : Nat → Prop} (hS : ∀ b, S b → S' b) (hB : ∀ b, B ≤ b → S' b) : (tSlice t).rv ((mem w).on S') [v] xs := by
  obtain ⟨M, h1, h2, h3⟩ := h
  exact slice_in (h2.rv (tIn_flat M t) (fun k hk => hB k (h3 k hk))) (Mem.le_trans h1 (Mem.on_mono _ (fun b hb => hS b hb.1)))
theorem OwnsD.len (h : OwnsD t S w B e v xs) : ∃ a cap, v = .slice a xs.length cap ∧ xs.length ≤ maxLen := by
  obtain ⟨M, h1, h2, h3⟩ := h
  obtain ⟨a, cap, h4, h5, h6⟩ := h2.form
  exact ⟨a, cap, h4, Nat.le_trans h5 h6⟩
theorem OwnsD.lt (h : OwnsD t S w B e v xs) : ∀ k, v.ownBlock = some k → B ≤ k ∧ k < w.heap.size := by
  obtain ⟨M, h1, h2, h3⟩ := h
  exact fun k hk => ⟨h3 k hk, h2.lt k hk⟩
variable {P : Program}
theorem run_append_d (hone : ∀ m cs x, t.rv m cs x → ∀ u ∈ cs, u.oneCell' = true) (w : World) (T ty : TypeId) {z : Value} {bytes : Nat} (hT : P.underlying T = some (.slice e))
    (hinf : (P.info? e).map (fun i => (i.zero, i.size, i.bytes)) = some (some z, t.sz, bytes)) (hzs : z.cells.size = t.sz) (hsz : 0 < t.sz) (v : Value) (xs ys : List α) (hown : OwnsD t S w B e v xs)
    (a : Option Addr) (c : Nat) (hy : (tSlice t).rv ((mem w).on (fun b => S b ∧ some b ≠ v.ownBlock)) [.slice a ys.length c] ys) (h63 : xs.length + ys.length ≤ maxLen) (hbytes : (xs.length + ys.length) * bytes ≤ 140737488355328) (hbase : B ≤ w.heap.size) :
    ∃ v' w', (Builtin.append_ #[T, T] ty #[v, .slice a ys.length c]).run P w = .ok v' w' ∧ OwnsD t S w' B e v' (xs ++ ys) ∧ w.grownBy w' v.ownBlock ∧ (v'.ownBlock = v.ownBlock ∨ ∀ k, v'.ownBlock = some k → w.heap.size ≤ k) := by
  obtain ⟨M, h1, h2, h3⟩ := hown
  obtain ⟨v', w', hr, ho, ha⟩ := run_append_os (P := P) (t := tIn ((mem w).on (fun b => S b ∧ some b ≠ v.ownBlock)) t) (tIn_flat _ _) (fun m cs x h => hone _ cs x h) w T ty hT hinf hzs hsz v xs ys (h2.re h1) a c (slice_to hy (Mem.on_le _ _)) h63 hbytes
  refine ⟨v', w', hr, ⟨_, fun b o u e => ?_, ho, fun k hk => ?_⟩, ha.grown, ha.block⟩
  · obtain ⟨⟨hs, hne⟩, e⟩ := Mem.of_on e
    refine Mem.on_some ((mem_of_block (ha.grown.block b (mem_lt e) hne) o).trans e) ⟨hs, ?_⟩
    rcases ha.block with g | g
    · rw [g]; exact hne
    · intro hk
      have := g b hk.symm
      have := mem_lt e
      omega
  · rcases ha.block with g | g
    · exact h3 k (g ▸ hk)
    · exact Nat.le_trans hbase (g k hk)
theorem wpList_append_d {ops : Array Oper} {rest : List Oper} {o : Oper} {a : Act} {Q : Exit → Act → World → Prop} {w : World} (hgd : o.guard = none) (s x : Operand) (T : TypeId)
    (ho : o.op = .call { callee := .builtin .append, args := #[s, x], argTypes := #[T, T] }) (t : Ty α) (hone : ∀ m cs x, t.rv m cs x → ∀ u ∈ cs, u.oneCell' = true) {e : TypeId} {z : Value} {bytes : Nat} (hT : P.underlying T = some (.slice e))
    (hinf : (P.info? e).map (fun i => (i.zero, i.size, i.bytes)) = some (some z, t.sz, bytes)) (hzs : z.cells.size = t.sz) (hsz : 0 < t.sz) (S : Nat → Prop) (B : Nat) (v : Value) (xs ys : List α) (hs : a.eval s = v) (hown : OwnsD t S w B e v xs)
    (ad : Option Addr) (n c : Nat) (hx : a.eval x = .slice ad n c) (hn : n = ys.length) (hy : (tSlice t).rv ((mem w).on (fun b => S b ∧ some b ≠ v.ownBlock)) [.slice ad n c] ys) (h63 : xs.length + ys.length ≤ maxLen) (hbytes : (xs.length + ys.length) * bytes ≤ 140737488355328) (hbase : B ≤ w.heap.size)
    (h : ∀ v' w', OwnsD t S w' B e v' (xs ++ ys) → w.grownBy w' v.ownBlock → (v'.ownBlock = v.ownBlock ∨ ∀ k, v'.ownBlock = some k → w.heap.size ≤ k) → wpList P ops Q rest (a.put o.dst v') w') : wpList P ops Q (o :: rest) a w := by
  subst hn
  refine wpList_plain hgd fun K hK => ?_
  obtain ⟨v', w', hr, h2, h3, h4⟩ := run_append_d (P := P) hone w T o.type hT hinf hzs hsz v xs ys hown ad c hy h63 hbytes hbase
  unfold Oper.wp execOp
  simp only [ho, resolve, invoke, builtin, Sem.run_bind, Sem.run_pure, Result.andThen_ok, List.map_toArray, List.map_cons, List.map_nil, hs, hx, hr]
  exact hK _ _ (h v' w' h2 h3 h4)
end
/-- One element in a block of its own, as a slice. -/
theorem slice_one {α : Type} {t : Ty α} {m : Mem} {b : Nat} {cs : List Value} {x : α} (h : At m b 0 cs) (hr : t.rv m cs x) : (tSlice t).rv m [.slice (some ⟨b, 0, none⟩) 1 1] [x] :=
  ⟨some ⟨b, 0, none⟩, 1, rfl, Nat.le_refl _, by unfold maxLen; decide, fun _ => ⟨b, 0, rfl, fun k hk => by
    have : k = 0 := by simp at hk; omega
    subst this
    exact ⟨cs, by simpa using h, hr⟩⟩⟩
end Go.Proofs.YtafeaeaildfohaaGreatDoor
/- A region that draws its order, by an invariant over what has come up. No program in sight. -/
namespace Go.Proofs.YtafeaeaildfohaaGreatDoor
open Go.RowKit
section
variable {P : Program} {ops : Array Oper} {Q : Exit → Act → World → Prop} {md : Region.Mode}
def depsOf (md : Region.Mode) (ops : Array Oper) (i : Nat) : List Nat := match ops[i]? with | some o => (o.after.toList.filter (Region.binds md)).map (·.on) | none => []
def dstOf (ops : Array Oper) (i : Nat) : Option Tmp := (ops[i]?).bind (·.dst)
def dstsOk (ops : Array Oper) (n : Nat) : Bool := (List.range ops.size).all fun i => match dstOf ops i with
  | none => true
  | some d => decide (d < n) && (List.range ops.size).all fun j => j == i || !(dstOf ops j == some d)
def depsBack (md : Region.Mode) (ops : Array Oper) : Bool := (List.range ops.size).all fun i => (depsOf md ops i).all (fun j => decide (j < i))
def putAll : List Oper → (Nat → Value) → Nat → Act → Act
  | [], _, _, a => a
  | o :: os, f, k, a => putAll os f (k + 1) (a.put o.dst (f k))
def setL (L : Nat → Bool) (i : Nat) : Nat → Bool := fun j => if j = i then true else L j
def setV (f : Nat → Value) (i : Nat) (v : Value) : Nat → Value := fun j => if j = i then v else f j
theorem dst_lt {i : Nat} {d : Tmp} (h : dstOf ops i = some d) : i < ops.size := by
  unfold dstOf at h
  rcases Nat.lt_or_ge i ops.size with h' | h'
  · exact h'
  · rw [Array.getElem?_eq_none h'] at h; cases h
theorem dsts_spec {n : Nat} (h : dstsOk ops n = true) {i : Nat} {d : Tmp} (hi : dstOf ops i = some d) : d < n ∧ ∀ j, dstOf ops j = some d → j = i := by
  have h1 := List.all_eq_true.1 h i (List.mem_range.2 (dst_lt hi))
  rw [hi] at h1
  simp only [Bool.and_eq_true, decide_eq_true_eq] at h1
  refine ⟨h1.1, fun j hj => ?_⟩
  have h2 := List.all_eq_true.1 h1.2 j (List.mem_range.2 (dst_lt hj))
  rw [hj] at h2
  simpa using h2
structure FRel (ops : Array Oper) (A0 : Act) (L : Nat → Bool) (f : Nat → Value) (a : Act) : Prop where
  df : a.defers = A0.defers
  sz : a.tmps.size = A0.tmps.size
  at_ : ∀ i d, dstOf ops i = some d → L i = true → a.tmps[d]? = some (f i)
  old : ∀ d : Nat, (∀ i, L i = true → dstOf ops i ≠ some d) → a.tmps[d]? = A0.tmps[d]?
theorem FRel.put {A0 a : Act} {L : Nat → Bool} {f : Nat → Value} (h : FRel ops A0 L f a) (hd : dstsOk ops A0.tmps.size = true) {i : Nat} {o : Oper} (ho : ops[i]? = some o) (v : Value) : FRel ops A0 (setL L i) (setV f i v) (a.put o.dst v) := by
  have hdi : dstOf ops i = o.dst := by unfold dstOf; rw [ho]; rfl
  cases he : o.dst with
  | none =>
    refine ⟨h.df, h.sz, fun j d hj hl => ?_, fun d hn => h.old d (fun j hj => hn j (by unfold setL; split <;> simp [*]))⟩
    have hji : j ≠ i := fun e => by subst e; rw [hdi, he] at hj; cases hj
    simp only [setL, setV, if_neg hji] at hl ⊢
    exact h.at_ j d hj hl
  | some e =>
    rw [he] at hdi
    have hlt := (dsts_spec hd hdi).1
    refine ⟨h.df, by simp [Act.put, h.sz], fun j d hj hl => ?_, fun d hn => ?_⟩
    · by_cases hji : j = i
      · subst hji
        rw [hdi] at hj; cases hj
        simp only [Act.put, setV, if_pos]
        rw [Array.getElem?_setIfInBounds_self_of_lt (by rw [h.sz]; exact hlt)]
      · simp only [setL, setV, if_neg hji] at hl ⊢
        have hne : e ≠ d := fun e2 => by subst e2; exact hji ((dsts_spec hd hdi).2 j hj)
        simp only [Act.put]
        rw [Array.getElem?_setIfInBounds_ne hne]
        exact h.at_ j d hj hl
    · have hne : e ≠ d := fun e2 => by subst e2; exact hn i (by unfold setL; rw [if_pos rfl]) hdi
      simp only [Act.put]
      rw [Array.getElem?_setIfInBounds_ne hne]
      exact h.old d (fun j hj => hn j (by unfold setL; split <;> simp [*]))
theorem FRel.start (A0 : Act) (f : Nat → Value) {L : Nat → Bool} (hL : ∀ i, L i = false) : FRel ops A0 L f A0 := ⟨rfl, rfl, fun i d _ h => absurd h (by rw [hL i]; simp), fun _ _ => rfl⟩
theorem FRel.uniq {A0 a b : Act} {L : Nat → Bool} {f : Nat → Value} (ha : FRel ops A0 L f a) (hb : FRel ops A0 L f b) : a = b := by
  obtain ⟨at1, ad⟩ := a
  obtain ⟨bt, bd⟩ := b
  have hd : ad = bd := ha.df.trans hb.df.symm
  have ht : at1 = bt := by
    apply Array.ext_getElem?
    intro d
    by_cases h : ∃ i, L i = true ∧ dstOf ops i = some d
    · obtain ⟨i, h1, h2⟩ := h
      exact (ha.at_ i d h2 h1).trans (hb.at_ i d h2 h1).symm
    · have hn : ∀ i, L i = true → dstOf ops i ≠ some d := fun i h1 h2 => h ⟨i, h1, h2⟩
      exact (ha.old d hn).trans (hb.old d hn).symm
  rw [hd, ht]
theorem FRel.all {A0 : Act} (hd : dstsOk ops A0.tmps.size = true) (f : Nat → Value) : ∀ (os : List Oper) (k : Nat) (a : Act), (∀ j : Nat, os[j]? = ops[k + j]?) → FRel ops A0 (fun i => decide (i < k)) f a →
    ∃ n, ops.size ≤ n ∧ FRel ops A0 (fun i => decide (i < n)) f (putAll os f k a)
  | [], k, a, ho, h => ⟨k, by have := ho 0; simp at this; exact this, h⟩
  | o :: os, k, a, ho, h => by
    have h0 : ops[k]? = some o := by simpa using (ho 0).symm
    refine FRel.all hd f os (k + 1) _ (fun j => by have := ho (j + 1); simpa [Nat.add_assoc, Nat.add_comm 1 j] using this) ?_
    have h1 := h.put hd h0 (f k)
    have e1 : setV f k (f k) = f := by funext j; unfold setV; split <;> simp [*]
    have e2 : setL (fun i => decide (i < k)) k = fun i => decide (i < k + 1) := by
      funext j
      unfold setL
      split
      · subst_vars; simp
      · rw [decide_eq_decide]; omega
    rw [e1, e2] at h1
    exact h1
theorem FRel.done {A0 a : Act} (hd : dstsOk ops A0.tmps.size = true) {L : Nat → Bool} {f : Nat → Value} (h : FRel ops A0 L f a) (hL : ∀ i, i < ops.size → L i = true) : a = putAll ops.toList f 0 A0 := by
  obtain ⟨n, hn, h2⟩ := FRel.all (ops := ops) hd f ops.toList 0 A0 (fun j => by simp) (FRel.start A0 f (fun i => by simp))
  refine FRel.uniq (L := fun i => decide (i < ops.size)) (f := f) ⟨h.df, h.sz, fun i d hi hl => h.at_ i d hi (hL i (by simpa using hl)), fun d hx => h.old d (fun i _ e => hx i (by simpa using dst_lt e) e)⟩
    ⟨h2.df, h2.sz, fun i d hi hl => h2.at_ i d hi (by have := dst_lt hi; simp; omega), fun d hx => h2.old d (fun i _ e => hx i (by simpa using dst_lt e) e)⟩
def unl (n : Nat) (L : Nat → Bool) : List Nat := (List.range n).filter (fun i => !L i)
theorem unl_set {n : Nat} {L : Nat → Bool} {i : Nat} (hi : i < n) (h : L i = false) : (unl n (setL L i)).length < (unl n L).length := by
  have e : unl n (setL L i) = (unl n L).filter (fun j => decide (j ≠ i)) := by
    unfold unl
    rw [List.filter_filter]
    congr 1
    funext j
    unfold setL
    by_cases hj : j = i <;> simp [hj]
  rw [e]
  refine List.length_filter_lt_length_iff_exists.2 ⟨i, List.mem_filter.2 ⟨List.mem_range.2 hi, by rw [h]; rfl⟩, by simp⟩
theorem first_of {n : Nat} {L : Nat → Bool} (h : ¬ ∀ i, i < n → L i = true) : ∃ i, i < n ∧ L i = false ∧ ∀ j, j < i → L j = true := by
  induction n with
  | zero => exact absurd (fun i hi => absurd hi (by omega)) h
  | succ n ih =>
    by_cases h1 : ∀ i, i < n → L i = true
    · refine ⟨n, by omega, ?_, h1⟩
      cases hn : L n with
      | false => rfl
      | true => exact absurd (fun i hi => by by_cases e : i = n; · rw [e]; exact hn
                                             · exact h1 i (by omega)) h
    · obtain ⟨i, h2, h3⟩ := ih h1
      exact ⟨i, by omega, h3⟩
/-- A REGION THAT DRAWS ITS ORDER, BY AN INVARIANT: J tells what holds once the operations of L have come up and yielded f. -/
theorem wpAny_inv {A0 : Act} (hd : dstsOk ops A0.tmps.size = true) (hb : depsBack md ops = true) (J : (Nat → Bool) → (Nat → Value) → World → Prop)
    (hstep : ∀ i o, ops[i]? = some o → ∀ L f a w, J L f w → L i = false → (∀ j ∈ depsOf md ops i, L j = true) → (∀ j d, dstOf ops j = some d → L j = true → a.eval (.tmp d) = f j) →
      (∀ d, (∀ j, L j = true → dstOf ops j ≠ some d) → a.eval (.tmp d) = A0.eval (.tmp d)) → ∀ K : Act → World → Prop, (∀ v w', J (setL L i) (setV f i v) w' → K (a.put o.dst v) w') →
      if Region.wanted o (yielded ops a.tmps) = true then Oper.wp P o a w K Q else K (a.put o.dst undef) w)
    (hend : ∀ L f w, J L f w → (∀ i, i < ops.size → L i = true) → Q .normal (putAll ops.toList f 0 A0) w) :
    ∀ (fuel : Nat) (listed : Array Bool) (L : Nat → Bool) (f : Nat → Value) (a : Act) (w : World), listed.size = ops.size → (∀ i, i < ops.size → listed.getD i false = L i) → (unl ops.size L).length ≤ fuel → FRel ops A0 L f a → J L f w →
      wpAny P md ops Q fuel listed a w := by
  have hall : ∀ (listed : Array Bool) (L : Nat → Bool), listed.size = ops.size → (∀ i, i < ops.size → listed.getD i false = L i) → Region.ready md ops listed = [] → ∀ i, i < ops.size → L i = true := by
    intro listed L hs hl hr
    refine Classical.byContradiction (fun hn => ?_)
    obtain ⟨i, h1, h2, h3⟩ := first_of hn
    have hm : i ∈ Region.ready md ops listed := by
      rw [mem_ready]
      refine ⟨?_, ops[i], by simp [h1], fun e he hbi => ?_⟩
      · have := hl i h1
        rw [h2] at this
        have hi : i < listed.size := by omega
        simp [Array.getD, hi] at this ⊢
        exact this
      · have hje : e.on < i := by
          have := List.all_eq_true.1 hb i (List.mem_range.2 h1)
          have := List.all_eq_true.1 this e.on (by unfold depsOf; simp [h1]; exact ⟨e, ⟨by simpa using he, hbi⟩, rfl⟩)
          simpa using this
        rw [hl e.on (by omega)]
        exact h3 _ hje
    rw [hr] at hm; cases hm
  intro fuel
  induction fuel with
  | zero =>
    intro listed L f a w hs hl hu hF hJ
    have h1 : ∀ i, i < ops.size → L i = true := by
      intro i hi
      cases h : L i with
      | true => rfl
      | false =>
        have : i ∈ unl ops.size L := List.mem_filter.2 ⟨List.mem_range.2 hi, by rw [h]; rfl⟩
        have := List.length_pos_iff.2 (List.ne_nil_of_mem this)
        omega
    refine ⟨?_, by rw [hF.done hd h1]; exact hend L f w hJ h1⟩
    refine List.eq_nil_iff_forall_not_mem.2 (fun i hi => ?_)
    obtain ⟨g1, o, g2, -⟩ := mem_ready.1 hi
    have hi2 : i < ops.size := (Array.getElem?_eq_some_iff.1 g2).1
    have := hl i hi2
    rw [h1 i hi2] at this
    have hi3 : i < listed.size := by omega
    simp [Array.getD, hi3] at this g1
    rw [g1] at this; cases this
  | succ fuel ih =>
    intro listed L f a w hs hl hu hF hJ
    refine ⟨fun hr => by rw [hF.done hd (hall listed L hs hl hr)]; exact hend L f w hJ (hall listed L hs hl hr), fun i hi => ?_⟩
    obtain ⟨g1, o, g2, g3⟩ := mem_ready.1 hi
    have hi2 : i < ops.size := (Array.getElem?_eq_some_iff.1 g2).1
    have hi3 : i < listed.size := by omega
    have hLi : L i = false := by
      rw [← hl i hi2]
      simp [Array.getD, hi3] at g1 ⊢
      exact g1
    refine wpOp_step g2 (fun K' hK => hstep i o g2 L f a w hJ hLi (fun j hj => ?_) (fun j d hj hLj => ?_) (fun d hn => ?_) K' (fun v w' hJ' => ?_))
    · unfold depsOf at hj
      rw [g2] at hj
      obtain ⟨e, he, rfl⟩ := List.mem_map.1 hj
      obtain ⟨he1, he2⟩ := List.mem_filter.1 he
      have h1 := g3 e (by simpa using he1) he2
      by_cases hlt : e.on < ops.size
      · rw [← hl _ hlt]; exact h1
      · have : ¬ e.on < listed.size := by omega
        simp [Array.getD, this] at h1
    · have := hF.at_ j d hj hLj
      simp [Act.eval, Array.getD_eq_getD_getElem?, this]
    · have := hF.old d hn
      simp [Act.eval, Array.getD_eq_getD_getElem?, this]
    · refine hK _ _ (ih (listed.setIfInBounds i true) (setL L i) (setV f i v) _ w' (by simp [hs]) (fun j hj => ?_) ?_ (hF.put hd g2 v) hJ')
      · unfold setL
        by_cases hji : j = i
        · subst hji; simp [hi3]
        · rw [if_neg hji, getD_set_ne false (fun e => hji e.symm)]; exact hl j hj
      · have := unl_set hi2 hLi
        omega
/-- The same for a region. -/
theorem wp_region_inv2 {id : Nat} {A0 : Act} {w : World} (hm : P.follows .mixedOrders = true) (hd : dstsOk ops A0.tmps.size = true) (hb : depsBack .any ops = true) (J : (Nat → Bool) → (Nat → Value) → World → Prop)
    (hstart : J (fun _ => false) (fun _ => undef) w.drew)
    (hstep : ∀ i o, ops[i]? = some o → ∀ L f a w, J L f w → L i = false → (∀ j ∈ depsOf .any ops i, L j = true) → (∀ j d, dstOf ops j = some d → L j = true → a.eval (.tmp d) = f j) →
      (∀ d, (∀ j, L j = true → dstOf ops j ≠ some d) → a.eval (.tmp d) = A0.eval (.tmp d)) → ∀ K : Act → World → Prop, (∀ v w', J (setL L i) (setV f i v) w' → K (a.put o.dst v) w') →
      if Region.wanted o (yielded ops a.tmps) = true then Oper.wp P o a w K Q else K (a.put o.dst undef) w)
    (hend : ∀ L f w, J L f w → (∀ i, i < ops.size → L i = true) → Q .normal (putAll ops.toList f 0 A0) w) : (Code.region id ops true).wp P Q A0 w :=
  wp_region_any hm (wpAny_inv hd hb J hstep hend ops.size _ (fun _ => false) (fun _ => undef) A0 _ (by simp) (fun i hi => by simp [hi]) (by unfold unl; exact Nat.le_trans (List.length_filter_le _ _) (by simp)) (FRel.start A0 _ (fun _ => rfl)) hstart)
/-- The same for a region. -/
theorem wp_region_inv {id : Nat} {A0 : Act} {w : World} (hm : P.follows .mixedOrders = true) (hd : dstsOk ops A0.tmps.size = true) (hb : depsBack .any ops = true) (J : (Nat → Bool) → (Nat → Value) → World → Prop)
    (hstart : J (fun _ => false) (fun _ => undef) w.drew)
    (hstep : ∀ i o, ops[i]? = some o → ∀ L f a w, J L f w → L i = false → (∀ j ∈ depsOf .any ops i, L j = true) → (∀ j d, dstOf ops j = some d → L j = true → a.eval (.tmp d) = f j) →
      (∀ d, (∀ j, dstOf ops j ≠ some d) → a.eval (.tmp d) = A0.eval (.tmp d)) → ∀ K : Act → World → Prop, (∀ v w', J (setL L i) (setV f i v) w' → K (a.put o.dst v) w') →
      if Region.wanted o (yielded ops a.tmps) = true then Oper.wp P o a w K Q else K (a.put o.dst undef) w)
    (hend : ∀ L f w, J L f w → (∀ i, i < ops.size → L i = true) → Q .normal (putAll ops.toList f 0 A0) w) : (Code.region id ops true).wp P Q A0 w :=
  wp_region_inv2 hm hd hb J hstart (fun i o ho L f a w hJ hL hdep hv h0 K hK => hstep i o ho L f a w hJ hL hdep hv (fun d hn => h0 d (fun j _ => hn j)) K hK) hend
def AllAt (R : Nat → Oper → Prop) : List Oper → Nat → Prop
  | [], _ => True
  | o :: os, k => R k o ∧ AllAt R os (k + 1)
theorem AllAt.nil {R : Nat → Oper → Prop} {k : Nat} : AllAt R [] k := trivial
theorem AllAt.cons {R : Nat → Oper → Prop} {o : Oper} {os : List Oper} {k : Nat} (k' : Nat) (h : R k o) (h2 : AllAt R os k') (hk : k' = k + 1) : AllAt R (o :: os) k := ⟨h, hk ▸ h2⟩
theorem AllAt.get {R : Nat → Oper → Prop} : ∀ {os : List Oper} {k : Nat}, AllAt R os k → ∀ i o, os[i]? = some o → R (k + i) o
  | [], _, _, i, o, h => by simp at h
  | o' :: os, k, h, 0, o, e => by simp at e; subst e; exact h.1
  | o' :: os, k, h, i + 1, o, e => by
    have := AllAt.get h.2 i o (by simpa using e)
    rw [show k + (i + 1) = k + 1 + i by omega]; exact this
theorem AllAt.all {R : Nat → Oper → Prop} (h : AllAt R ops.toList 0) : ∀ i o, ops[i]? = some o → R i o := fun i o e => by
  have := h.get i o (by rw [Array.getElem?_toList]; exact e)
  rwa [Nat.zero_add] at this
def noDst (ops : Array Oper) (d : Nat) : Bool := (List.range ops.size).all fun j => !(dstOf ops j == some d)
theorem noDst_spec {d : Nat} (h : noDst ops d = true) : ∀ j, dstOf ops j ≠ some d := fun j e => by
  have := List.all_eq_true.1 h j (List.mem_range.2 (dst_lt e))
  rw [e] at this
  simp at this
def onlyDst (ops : Array Oper) (d i : Nat) : Bool := (List.range ops.size).all fun j => !(dstOf ops j == some d) || j == i
theorem onlyDst_spec {d i : Nat} (h : onlyDst ops d i = true) {j : Nat} (e : dstOf ops j = some d) : j = i := by
  have := List.all_eq_true.1 h j (List.mem_range.2 (dst_lt e))
  rw [e] at this
  simpa using this
/-- An operation that yields a value, as one step. -/
theorem step_val {o : Oper} {a : Act} {w w' : World} {K : Act → World → Prop} {E : Prop} {v : Value} (hg : o.guard = none) (hr : (execOp a.eval o).run P w = .ok (.value v) w') (h : K (a.put o.dst v) w') :
    if Region.wanted o (yielded ops a.tmps) = true then Oper.wp P o a w K Q else E := by
  rw [if_pos (by simp [Region.wanted, hg])]
  unfold Oper.wp
  rw [hr]
  exact h
/-- An operation that yields nothing (a store), as one step. -/
theorem step_skip {o : Oper} {a : Act} {w w' : World} {K : Act → World → Prop} {E : Prop} (hg : o.guard = none) (hr : (execOp a.eval o).run P w = .ok .skip w') (h : K (a.put o.dst undef) w') :
    if Region.wanted o (yielded ops a.tmps) = true then Oper.wp P o a w K Q else E := by
  rw [if_pos (by simp [Region.wanted, hg])]
  unfold Oper.wp
  rw [hr]
  exact h
end
end Go.Proofs.YtafeaeaildfohaaGreatDoor
/- A region that draws its order within a round of a range over a function, by an invariant: out of the plain one. No program in sight. -/
namespace Go.Proofs.YtafeaeaildfohaaGreatDoor
open Go.RowKit
section
variable {P : Program} {ops : Array Oper} {Q : Exit → Act → World → Prop} {md : Region.Mode}
theorem upon_inRound {l n : Nat} {o : Oper} {a : Act} {w : World} {K : Act → World → Prop} (hd : ∀ c, o.op ≠ .defer c) (h : Oper.wp P o a w K Q) : Oper.wpIn (Fence.wide.inRound l) n P o a w K Q := by
  unfold Oper.wpIn
  refine ⟨fun f _ => trivial, ?_⟩
  rw [Oper.semAt_plain _ _ _ hd]
  unfold Oper.wp at h
  generalize (execOp a.eval o).run P w = res at h ⊢
  cases res with
  | ok nx w' =>
    cases nx with
    | value v => exact h
    | skip => exact h
    | defer d => exact h
    | enter f args => exact ⟨fun e => by simp [Fence.inRound, Fence.wide] at e, (callsIn_wide (n := n - 1)).2 h⟩
    | row row args =>
      refine ⟨fun e => by simp [Fence.inRound, Fence.wide] at e, fun c cs _ => ?_⟩
      obtain ⟨v, w'', r, s⟩ := h c cs
      exact ⟨v, w'', r, stepsIn_wide.2 s⟩
    | round l' f tmps assign body => exact h.elim
    | _ => exact h.elim
  | halt hh w' =>
    cases hh with
    | panic v => exact h
    | _ => exact h.elim
theorem wpAny_inRound {l n : Nat} (hd : ∀ (i : Nat) o, ops[i]? = some o → ∀ c, o.op ≠ .defer c) (hnl : ¬ LetsOut Q) : ∀ (fuel : Nat) (listed : Array Bool) (a : Act) (w : World), wpAny P md ops Q fuel listed a w → wpAnyIn (Fence.wide.inRound l) n P md ops Q fuel listed a w
  | 0, listed, a, w, h => h
  | fuel + 1, listed, a, w, h => by
    refine ⟨h.1, fun i hi => ?_⟩
    obtain ⟨g1, o, g2, g3⟩ := mem_ready.1 hi
    have h2 := h.2 i hi
    unfold wpOp at h2
    unfold wpOpIn
    rw [g2] at h2 ⊢
    simp only at h2 ⊢
    split
    · next hw =>
      rw [if_pos hw] at h2
      rcases h2 with h2 | ⟨_, h2⟩
      · exact upon_inRound (hd i o g2) (Oper.wp_mono (fun a w h => wpAny_inRound hd hnl fuel _ a w h) h2)
      · exact absurd h2 hnl
    · next hw =>
      rw [if_neg hw] at h2
      exact ⟨fun f _ => trivial, wpAny_inRound hd hnl fuel _ _ _ h2⟩
def noDefer (ops : Array Oper) : Bool := ops.toList.all fun o => match o.op with | .defer _ => false | _ => true
theorem noDefer_spec (h : noDefer ops = true) : ∀ (i : Nat) o, ops[i]? = some o → ∀ c, o.op ≠ .defer c := fun i o ho c e => by
  have := List.all_eq_true.1 h o (by
    have : ops.toList[i]? = some o := by simpa using ho
    exact List.mem_of_getElem? this)
  rw [e] at this
  cases this
/-- A region that draws its order, in a round, by an invariant. -/
theorem wpIn_region_inv {id l n : Nat} {A0 : Act} {w : World} (hm : P.follows .mixedOrders = true) (hnd : noDefer ops = true) (hnl : ¬ LetsOut Q) (hd : dstsOk ops A0.tmps.size = true) (hb : depsBack .any ops = true) (J : (Nat → Bool) → (Nat → Value) → World → Prop)
    (hstart : J (fun _ => false) (fun _ => undef) w.drew)
    (hstep : ∀ i o, ops[i]? = some o → ∀ L f a w, J L f w → L i = false → (∀ j ∈ depsOf .any ops i, L j = true) → (∀ j d, dstOf ops j = some d → L j = true → a.eval (.tmp d) = f j) →
      (∀ d, (∀ j, dstOf ops j ≠ some d) → a.eval (.tmp d) = A0.eval (.tmp d)) → ∀ K : Act → World → Prop, (∀ v w', J (setL L i) (setV f i v) w' → K (a.put o.dst v) w') →
      if Region.wanted o (yielded ops a.tmps) = true then Oper.wp P o a w K Q else K (a.put o.dst undef) w)
    (hend : ∀ L f w, J L f w → (∀ i, i < ops.size → L i = true) → Q .normal (putAll ops.toList f 0 A0) w) : (Code.region id ops true).wpIn (Fence.wide.inRound l) n P Q A0 w :=
  wpIn_region_any hm (wpAny_inRound (noDefer_spec hnd) hnl _ _ _ _ (wpAny_inv hd hb J (fun i o ho L f a w hJ hL hdep hv h0 K hK => hstep i o ho L f a w hJ hL hdep hv (fun d hn => h0 d (fun j _ => hn j)) K hK) hend ops.size _ (fun _ => false) (fun _ => undef) A0 _ (by simp) (fun i hi => by simp [hi]) (by unfold unl; exact Nat.le_trans (List.length_filter_le _ _) (by simp)) (FRel.start A0 _ (fun _ => rfl)) hstart))
/-- A call, as one step. -/
theorem step_call {o : Oper} {a : Act} {w w' : World} {K : Act → World → Prop} {E : Prop} {fn : FuncId} {args : Array Value} {R : Value → World → Prop} (hg : o.guard = none) (hr : (execOp a.eval o).run P w = .ok (.enter fn args) w') (hc : Calls P fn args w' fun e w'' => ∃ v, e = .returned v ∧ R v w'') (h : ∀ v w'', R v w'' → K (a.put o.dst v) w'') :
    if Region.wanted o (yielded ops a.tmps) = true then Oper.wp P o a w K Q else E := by
  rw [if_pos (by simp [Region.wanted, hg])]
  unfold Oper.wp
  rw [hr]
  exact hc.mono (fun e w'' ⟨v, he, hR⟩ => by subst he; exact h v w'' hR)
end
end Go.Proofs.YtafeaeaildfohaaGreatDoor
