/- The iterator of strings.SplitSeq at ", ". -/
import Derived.Test.YtkldimaoafgolaaDoorRangeG
import Derived.Test.YtkldimaoafgolaaDoorSplitB
import Derived.Shelf.Abstract
import Derived.WalkKit
import Derived.OwnWalkIn
import Derived.TacticsInMore
import Derived.LoopNIn
import Derived.LoopIn
import Derived.RegionIn
namespace Go.Proofs.YtkldimaoafgolaaDoor
open Go.RowKit Go.Shelf
attribute [local go_sem] Oper.semAt_some

theorem splitSeq_any (s sep : ByteArray) (w : World) :
    Calls Tryd.prog 79 #[.string s, .string sep] w fun e w' =>
      e = .returned (.func (.func 112) #[] #[.pointer (some ⟨w.heap.size + 1, 0, none⟩), .pointer (some ⟨w.heap.size, 0, none⟩), .pointer (some ⟨w.heap.size + 2, 0, none⟩)]) ∧
      w' = ((w.alloc (.cells #[.string s] 9)).alloc (.cells #[.string sep] 9)).alloc (.cells #[.int .i64 0] 3) := by
  go_enter Tryd.func79, Tryd.ntmps79
  go_wp2
  go_ret
  exact ⟨rfl, rfl⟩

def EncS (p : ByteArray) (vs : Array Value) (n : Nat) (W : World) : Prop := vs = #[.string p] ∧ n ≤ W.heap.size
def strIn (w : World) (b : Nat) : Nat := match w.cell? ⟨b, 0, none⟩ with | some (.string s) => s.size | _ => 0
theorem strIn_at {w : World} {b : Nat} {s : ByteArray} (h : w.cell? ⟨b, 0, none⟩ = some (.string s)) : strIn w b = s.size := by
  unfold strIn; rw [h]
def sepS : ByteArray := ⟨#[44, 32]⟩
/-- What the iterator's variables hold. -/
structure SplAt (W : World) (bs bp bv : Nat) (m : Int) (s : ByteArray) : Prop where
  cs : W.heap[bs]? = some (.cells #[.string s] 9 (0, 0))
  cp : W.heap[bp]? = some (.cells #[.string sepS] 9 (0, 0))
  cv : W.heap[bv]? = some (.cells #[.int .i64 0] 3 (0, 0))
  cm : W.cell? ⟨0, 0, none⟩ = some (.int .i64 m)
theorem SplAt.keeps {W W' : World} {bs bp bv : Nat} {m : Int} {s : ByteArray} {F : Nat → Prop} (h : SplAt W bs bp bv m s) (hk : Keeps F W W') (h1 : ¬ F bs) (h2 : ¬ F bp) (h3 : ¬ F bv) (h4 : ¬ F 0) : SplAt W' bs bp bv m s :=
  ⟨(hk.block _ (Array.getElem?_eq_some_iff.1 h.cs).1 h1).trans h.cs, (hk.block _ (Array.getElem?_eq_some_iff.1 h.cp).1 h2).trans h.cp, (hk.block _ (Array.getElem?_eq_some_iff.1 h.cv).1 h3).trans h.cv,
    (mem_of_block (hk.block 0 (mem_lt h.cm) h4) 0).trans h.cm⟩
theorem SplAt.set {W : World} {bs bp bv : Nat} {m : Int} {s t : ByteArray} (h : SplAt W bs bp bv m s) (hne : bs ≠ bp ∧ bs ≠ bv ∧ bs ≠ 0) : SplAt (W.setCell ⟨bs, 0, none⟩ (.string t)) bs bp bv m t := by
  obtain ⟨h1, h2, h3⟩ := hne
  refine ⟨setC_block h.cs, (Below.heap_setCell _ _ _ _ (fun e => h1 e.symm)).trans h.cp, (Below.heap_setCell _ _ _ _ (fun e => h2 e.symm)).trans h.cv, ?_⟩
  exact (mem_of_block (w := W) (Below.heap_setCell _ _ _ _ (fun e => h3 e.symm)) 0).trans h.cm

set_option maxRecDepth 100000 in
set_option maxHeartbeats 4000000 in
theorem split1_gives (s0 : ByteArray) (bs bp bv : Nat) (m : Int) (w : World) (H : Nat → Prop) (hx : SplAt w bs bp bv m s0) (h64 : s0.size ≤ 65536)
    (hHs : ¬ H bs) (hHp : ¬ H bp) (hHv : ¬ H bv) (hH0 : ¬ H 0) (hne : bs ≠ bp ∧ bs ≠ bv ∧ bs ≠ 0) :
    GivesAll Tryd.prog 112 #[.pointer (some ⟨bp, 0, none⟩), .pointer (some ⟨bs, 0, none⟩), .pointer (some ⟨bv, 0, none⟩)] EncS (fun k => k = bs) H (splitB s0.size s0) w := by
  intro l J W hW hJ hY h0
  have hx1 : SplAt W bs bp bv m s0 := hx.keeps (F := fun _ => False) ⟨hW.os, hW.tape, hW.output, hW.size, fun k hk _ => hW.block k hk⟩ (fun h => h) (fun h => h) (fun h => h) (fun h => h)
  have HY := Lib.hid hY
  have HJ := Lib.hid hJ
  have HX := Lib.hid hx1
  have H0 := Lib.hid h0
  clear hY hJ hx hx1 h0
  have cp0 : W.cell? ⟨bp, 0, none⟩ = some (.string sepS) := mem_cells HX.out.cp 0
  have hsep : ((sepS.size : Int) == 0) = false := by decide
  refine callsIn_of_wp Tryd.func112 rfl trivial ?_ rfl
  simp only [Tryd.ntmps112, List.size_toArray, List.length_cons, List.length_nil, Nat.reduceAdd, Nat.reduceSub, Array.replicate_succ, Array.replicate_zero, List.push_toArray, List.append_toArray, List.nil_append, List.cons_append]
  gi_wp2
  gi_loopw [7, 8] (fun _ _ wr => ∃ (g : Nat) (s : ByteArray) (pre : List ByteArray), s.size ≤ g ∧ s.size ≤ 65536 ∧ Hid (splitB s0.size s0 = pre ++ splitB g s) ∧ Hid (J pre wr) ∧ Hid (SplAt wr bs bp bv m s) ∧ w.heap.size ≤ wr.heap.size) (fun _ _ wr => strIn wr bs)
  case atStart => exact ⟨s0.size, s0, [], Nat.le_refl _, h64, Lib.hid rfl, H0, HX, hW.size⟩
  case round =>
    clear HX H0 cp0
    obtain ⟨g, s, pre, hg, hs64, HR, HJP, HXS, hsz⟩ := hrel
    have cs0 : wr.cell? ⟨bs, 0, none⟩ = some (.string s) := mem_cells HXS.out.cs 0
    have cp0 : wr.cell? ⟨bp, 0, none⟩ = some (.string sepS) := mem_cells HXS.out.cp 0
    have cv0 : wr.cell? ⟨bv, 0, none⟩ = some (.int .i64 0) := mem_cells HXS.out.cv 0
    have hlim : s.size < 4294967281 := by omega
    have HIX := Lib.hid (Tryd.strings_Index s sepS m wr hlim HXS.out.cm)
    have HSI := Lib.hid (strIn_at cs0)
    clear hlim
    gi_wp2
    refine ⟨trivial, rfl, ((callsIn_wide (n := 0)).2 HIX.out).mono ?_⟩
    rintro e w5 ⟨rfl, rfl⟩
    have HI := Lib.hid (show Lib.index s.data.toList sepS.data.toList = Lib.index (bl s) [44, 32] from rfl)
    generalize Lib.index s.data.toList sepS.data.toList = ix at HI ⊢
    by_cases hix : ix < 0
    · have HS := Lib.hid (splitB_stop (g := g) (s := s) (by rw [← HI.out]; exact hix))
      clear HIX HI
      obtain ⟨fn, tmps, assign, body, hy, hR⟩ := HY.out pre s [] w5 w5 #[.string s] (by rw [HR.out, HS.out]) HJP.out (Keeps.refl _ _) ⟨rfl, Nat.le_refl _⟩
      gi_wp2
      refine ⟨rfl, hR.mono ?_⟩
      rintro e w6 ⟨rfl, hJ6, hk6⟩
      have HFin := Lib.hid (show J (splitB s0.size s0) w6 by rw [HR.out, HS.out]; exact hJ6)
      clear hJ6 hy hR
      gi_wp2
      go_end0
      exact ⟨⟨_, rfl⟩, HFin.out⟩
    · have hix0 : 0 ≤ ix := by omega
      obtain ⟨i, g', h2, rfl, h3, h4, h5⟩ := splitB_go (g := g) (s := s) (by rw [← HI.out]; exact hix0) hg
      obtain rfl : ix = (i : Int) := by rw [HI.out]; exact h2
      clear HI h2 HIX hix hix0
      have hi1 : (i : Int) ≤ 65536 := by omega
      have hi2 : (i : Int) + 2 ≤ (s.size : Int) := by omega
      have hi3 : i ≤ s.size := by omega
      have HPC := Lib.hid h5
      have hsl : (sepS.size : Int) = 2 := by decide
      obtain ⟨fn, tmps, assign, body, hy, hR⟩ := HY.out pre (s.extract 0 i) (splitB g' (s.extract (i + 2) s.size)) w5 w5 #[.string (s.extract 0 i)] (by rw [HR.out, HPC.out]) HJP.out (Keeps.refl _ _) ⟨rfl, Nat.le_refl _⟩
      clear h5
      gi_wp2
      refine ⟨rfl, hR.mono ?_⟩
      rintro e w6 ⟨rfl, hJ6, hk6⟩
      have HX6 := Lib.hid (HXS.out.keeps hk6 hHs hHp hHv hH0)
      have HX7 := Lib.hid (HX6.out.set (t := s.extract (i + 2) s.size) hne)
      have HJ7 := Lib.hid (HJ.out _ _ _ hJ6 ((Keeps.refl (fun k => k = bs) w6).setCell (p := ⟨bs, 0, none⟩) (fun _ => rfl) (.string (s.extract (i + 2) s.size))))
      have hsz6 : w.heap.size ≤ (w6.setCell ⟨bs, 0, none⟩ (.string (s.extract (i + 2) s.size))).heap.size := by
        have := hk6.size
        have h2 : (w6.setCell ⟨bs, 0, none⟩ (.string (s.extract (i + 2) s.size))).heap.size = w6.heap.size := by simp [World.setCell]
        omega
      have f6 : w6.frozen? ⟨bs, 0, none⟩ = false := frozen_cells HX6.out.cs 0
      have HR7 := Lib.hid (show splitB s0.size s0 = (pre ++ [s.extract 0 i]) ++ splitB g' (s.extract (i + 2) s.size) by rw [HR.out, HPC.out]; simp)
      have hs7 : (s.extract (i + 2) s.size).size ≤ 65536 := by rw [ByteArray.size_extract]; omega
      have HM7 := Lib.hid (show (s.extract (i + 2) s.size).size < s.size by rw [ByteArray.size_extract]; omega)
      have d0 : w6.cell? ⟨bs, 0, none⟩ = some (.string s) := mem_cells HX6.out.cs 0
      have d1 : w6.cell? ⟨bp, 0, none⟩ = some (.string sepS) := mem_cells HX6.out.cp 0
      clear cs0 cp0 cv0 hJ6 hk6 hy hR HJP HXS HR HPC
      gi_wp2
      go_roundw
      case rel =>
        repeat apply Exists.intro
        exact ⟨⟨g', _, _, h4, hs7, HR7, HJ7, HX7, hsz6⟩, rfl⟩
      case measure =>
        have e1 := strIn_at (mem_cells HX7.out.cs 0 : (w6.setCell ⟨bs, 0, none⟩ (.string (s.extract (i + 2) s.size))).cell? ⟨bs, 0, none⟩ = some (.string (s.extract (i + 2) s.size)))
        rw [e1, HSI.out]; exact HM7.out
end Go.Proofs.YtkldimaoafgolaaDoor
