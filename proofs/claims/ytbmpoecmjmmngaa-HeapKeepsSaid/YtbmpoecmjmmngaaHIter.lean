/- package heap: the iterator over a group's entries. -/
import Derived.Test.YtbmpoecmjmmngaaHSort
import Derived.Test.YtbmpoecmjmmngaaHMapOps
import Derived.Test.YtbmpoecmjmmngaaRangeB
import Derived.Test.YtbmpoecmjmmngaaOrdIn
import Derived.Test.YtbmpoecmjmmngaaFence
namespace Go.Proofs.Ytbmpoecmjmmngaa
open Go.RowKit Go.Shelf Go.Maps Go.Sort
attribute [local go_sem] Oper.semAt_some

/-- An entry. -/
structure Ent where
  g : Int
  nm : ByteArray
  key : ByteArray
  val : ByteArray
deriving Inhabited
def Ent.okE (x : Ent) : Prop := inI64 x.g ∧ x.nm.size ≤ maxLen ∧ x.key.size ≤ maxLen ∧ x.val.size ≤ maxLen
def tEnt : Ty Ent := ⟨4, fun _ cs x => cs = [.int .i64 x.g, .string x.nm, .string x.key, .string x.val] ∧ x.okE, fun _ _ _ h => by rw [h.1]; rfl, fun _ _ _ _ _ h => h⟩
theorem tEnt_flat : tEnt.flat := fun _ _ _ _ h => h
abbrev tEnts : Ty (List Ent) := tSlice tEnt
abbrev Ent.v (x : Ent) : Value := .agg #[.int .i64 x.g, .string x.nm, .string x.key, .string x.val]
/-- A group's entries. -/
def entsOf (n : Int) (ss : List Spot) (f : FMap) : List Ent := ss.map fun k => ⟨n, k.1, k.2, strOr (f k)⟩
/-- Blocks that no round changes: those but the entries' and their rows' own. -/
def okB : Obj → Bool
  | .cells _ t _ => t != 22 && t != 24
  | .map .. => true
  | _ => false
theorem okB_loop (r : Loop) : okB (.loop r) = false := rfl
theorem keysCall_any (b : Nat) (w : World) :
    Calls Try.prog 74 #[.map (some b)] w fun e w' =>
      e = .returned (.func (.func 85) #[] #[.pointer (some ⟨w.heap.size, 0, none⟩)]) ∧ w' = w.alloc (.cells #[.map (some b)] 73) := by
  go_enter Try.func74, Try.ntmps74
  go_wp2
  go_ret
  exact ⟨rfl, rfl⟩
/-- What the iterator reads stands in blocks of the kinds ok. -/
structure ItAt (W : World) (bg bn a mb n : Nat) (sh : Bool) (num : Int) (f : FMap) : Prop where
  bg : W.heap[bg]? = some (.cells #[ptrTo a] 76 (0, 0))
  bn : W.heap[bn]? = some (.cells #[.int .i64 num] 3 (0, 0))
  ba : W.heap[a]? = some (.cells #[.map (some mb), .bool sh] 75 (0, 0))
  gm : GMap W mb n f
theorem ItAt.keeps {W W' : World} {bg bn a mb n : Nat} {sh : Bool} {num : Int} {f : FMap} (h : ItAt W bg bn a mb n sh num f) (hk : KeepsB okB W W') : ItAt W' bg bn a mb n sh num f := by
  obtain ⟨es, c, hm⟩ := h.gm.obj
  exact ⟨hk.same _ _ h.bg rfl, hk.same _ _ h.bn rfl, hk.same _ _ h.ba rfl, h.gm.at ((hk.same _ _ hm rfl).trans hm.symm)⟩
theorem keepsB_below {W W' : World} (h : Below W.heap.size W W') : KeepsB okB W W' := ⟨h.size, fun k o e _ => (h.block k (Array.getElem?_eq_some_iff.1 e).1).trans e⟩

set_option maxRecDepth 100000 in
set_option maxHeartbeats 8000000 in
theorem sorted1_gives (bg bn a mb n : Nat) (sh : Bool) (num : Int) (f : FMap) (w : World) (hI : ItAt w bg bn a mb n sh num f) (hn : n ≤ 1000000000) (hnum : inI64 num) :
    GivesB okB Try.prog 72 #[.pointer (some ⟨bg, 0, none⟩), .pointer (some ⟨bn, 0, none⟩)] (fun x => #[x.v])
      (fun pre x => (∃ ss post, Keysof f ss ∧ entsOf num ss f = pre ++ x :: post) ∧ pre.length < n ∧ x.okE) (fun ys => ∃ ss, Keysof f ss ∧ ys = entsOf num ss f) w := by
  intro l J W hW hJ hY h0
  have hI := hI.keeps (keepsB_below hW)
  have HY := Lib.hid hY
  have HJ := Lib.hid hJ
  have H0 := Lib.hid h0
  have HI := Lib.hid hI
  have c1 : W.cell? ⟨bg, 0, none⟩ = some (ptrTo a) := mem_cells hI.bg 0
  have c2 : W.cell? ⟨a, 0, none⟩ = some (.map (some mb)) := mem_cells hI.ba 0
  have HS := Lib.hid (fun (o : Obj) (hc : (W.alloc o).cell? ⟨W.heap.size, 0, none⟩ = some (.map (some mb))) => sortedSpots_any W.heap.size mb n f (W.alloc o) hc (hI.gm.alloc o) hn)
  clear hY hJ h0 hI
  refine callsIn_of_wp Try.func72 rfl trivial ?_ rfl
  simp only [Try.ntmps72, List.size_toArray, List.length_cons, List.length_nil, Nat.reduceAdd, Nat.reduceSub, Array.replicate_succ, Array.replicate_zero, List.push_toArray, List.append_toArray, List.nil_append, List.cons_append]
  gi_wp2
  refine ⟨trivial, rfl, ((callsIn_wide (n := 0)).2 (keysCall_any _ _)).mono ?_⟩
  rintro e w1 ⟨rfl, rfl⟩
  gi_wp2
  refine ⟨trivial, rfl, ((callsIn_wide (n := 0)).2 (HS.out _ (mem_cells_new W _ _ (0, 0) 0))).mono ?_⟩
  rintro e w2 ⟨v, ss, rfl, hks, hok, hsl, hrv, hb2, hty⟩
  have HB2 := Lib.hid (((Below.refl W.heap.size W).alloc (Nat.le_refl _) _).trans (hb2.mono (by simp)))
  have HKS := Lib.hid hks
  have HOK := Lib.hid hok
  have HRV := Lib.hid (tSpots.mono _ _ _ _ (Mem.on_le _ _) hrv)
  obtain ⟨au, cu, rfl, hlc, hmc, _⟩ := slice_form hrv
  have HTY := Lib.hid hty
  have hcu : cu ≤ 9223372036854775807 := by unfold maxLen at hmc; exact hmc
  clear hks hok hrv hb2 hty hmc HS c1 c2
  gi_wp2
  gi_loopw [15] (fun iv wr => ∃ k : Nat, k ≤ ss.length ∧ iv = .int .i64 k ∧ Hid (J ((entsOf num ss f).take k) wr) ∧ Hid (KeepsB okB w2 wr)) (fun iv _ => ss.length - (intOf iv).toNat)
  case atStart => exact ⟨0, Nat.zero_le _, rfl, Lib.hid (by rw [List.take_zero]; exact HJ.out _ _ _ H0.out HB2.out), Lib.hid (KeepsB.refl _ _)⟩
  case round =>
    obtain ⟨k, hk, rfl, HJk, HK⟩ := hrel
    by_cases hlt : k < ss.length
    · obtain ⟨b, o, rfl, cs, hat, hcs⟩ := slice_at HRV.out hlt
      have hcs : cs = [.string ss[k].1, .string ss[k].2] := hcs
      subst hcs
      obtain ⟨cur, hbk⟩ := HTY.out b rfl
      have hbk' : wr.heap[b]? = w2.heap[b]? := (HK.out.same b _ hbk rfl).trans hbk.symm
      have s0 : wr.cell? ⟨b, o + k * 2, none⟩ = some (.string ss[k].1) := (mem_of_block hbk' _).trans (hat 0 _ rfl)
      have s1 : wr.cell? ⟨b, o + k * 2 + 1, none⟩ = some (.string ss[k].2) := (mem_of_block hbk' _).trans (hat 1 _ rfl)
      have HIr := Lib.hid (HI.out.keeps (((keepsB_below HB2.out)).trans HK.out))
      have hokk := HOK.out ss[k] (List.getElem_mem hlt)
      clear hat hbk hbk'
      generalize hx : ss[k] = x at *
      obtain ⟨x1, x2⟩ := x
      have HX := Lib.hid hx
      clear hx
      gi_wp2
      generalize hW3 : wr.alloc (.cells #[.string x1, .string x2] 71) = W3
      have HV := Lib.hid (show W3.heap[wr.heap.size]? = some (.cells #[.string x1, .string x2] 71 (0, 0)) by rw [← hW3]; exact heap_alloc_new wr _)
      have HB3 := Lib.hid (show Below wr.heap.size wr W3 by rw [← hW3]; exact (Below.refl _ _).alloc (Nat.le_refl _) _)
      generalize hvb : wr.heap.size = vb at HV
      clear hW3
      have HS1 := Lib.hid (show ∀ w' : World, ItAt w' bg bn a mb n sh num f → w'.heap[vb]? = some (.cells #[.string x1, .string x2] 71 (0, 0)) →
        (fun w' : World => w'.cell? ⟨bn, 0, none⟩ = some (.int .i64 num) ∧ w'.cell? ⟨vb, 0, none⟩ = some (.string x1) ∧ w'.cell? ⟨vb, 1, none⟩ = some (.string x2) ∧ w'.cell? ⟨bg, 0, none⟩ = some (ptrTo a) ∧ w'.cell? ⟨a, 0, none⟩ = some (.map (some mb)) ∧
          (Instr.lookup 73 (.map (some mb)) (.agg #[.string x1, .string x2]) false).run Try.prog w' = .ok (.string (strOr (f (x1, x2)))) w') w' from fun w' h hv =>
        ⟨mem_cells h.bn 0, mem_cells hv 0, mem_cells hv 1, mem_cells h.bg 0, mem_cells h.ba 0, h.gm.look hokk⟩)
      refine wpIn_regionS (fun w' : World => w'.cell? ⟨bn, 0, none⟩ = some (.int .i64 num) ∧ w'.cell? ⟨vb, 0, none⟩ = some (.string x1) ∧ w'.cell? ⟨vb, 1, none⟩ = some (.string x2) ∧ w'.cell? ⟨bg, 0, none⟩ = some (ptrTo a) ∧ w'.cell? ⟨a, 0, none⟩ = some (.map (some mb)) ∧
          (Instr.lookup 73 (.map (some mb)) (.agg #[.string x1, .string x2]) false).run Try.prog w' = .ok (.string (strOr (f (x1, x2)))) w') (by kernel_rfl) ?_
      have HI3 := Lib.hid (HIr.out.keeps (keepsB_below HB3.out))
      have HS0 := HS1.out W3.drew (HI3.out.keeps ⟨Nat.le_refl _, fun _ _ h _ => h⟩) HV.out
      refine wpAnyS_take 0 19 (v := .func (.yield l) #[] #[]) rfl rfl rfl (by kernel_rfl) (by kernel_rfl) (by kernel_rfl) (fun _ _ _ h => h) ⟨.inl ⟨by rfl, ?r0⟩, fun _ => rfl⟩ HS0 ?n0
      case r0 => intro w' hS; obtain ⟨q1, q2, q3, q4, q5, q6⟩ := hS; go_simp
      simp only [List.setIfInBounds_toArray, List.set_cons_zero, List.set_cons_succ]
      refine wpAnyS_take 1 20 (v := .int .i64 num) rfl rfl rfl (by kernel_rfl) (by kernel_rfl) (by kernel_rfl) (fun _ _ _ h => h) ⟨.inl ⟨by rfl, ?r1⟩, fun _ => rfl⟩ HS0 ?n1
      case r1 => intro w' hS; obtain ⟨q1, q2, q3, q4, q5, q6⟩ := hS; go_simp
      simp only [List.setIfInBounds_toArray, List.set_cons_zero, List.set_cons_succ]
      refine wpAnyS_take 2 21 (v := .pointer (some ⟨vb, 0, none⟩)) rfl rfl rfl (by kernel_rfl) (by kernel_rfl) (by kernel_rfl) (fun _ _ _ h => h) ⟨.inl ⟨by rfl, ?r2⟩, fun _ => rfl⟩ HS0 ?n2
      case r2 => intro w' hS; obtain ⟨q1, q2, q3, q4, q5, q6⟩ := hS; go_simp
      simp only [List.setIfInBounds_toArray, List.set_cons_zero, List.set_cons_succ]
      refine wpAnyS_take 3 22 (v := .string x1) rfl rfl rfl (by kernel_rfl) (by kernel_rfl) (by kernel_rfl) (fun _ _ _ h => h) ⟨.inl ⟨by rfl, ?r3⟩, fun _ => rfl⟩ HS0 ?n3
      case r3 => intro w' hS; obtain ⟨q1, q2, q3, q4, q5, q6⟩ := hS; go_simp
      simp only [List.setIfInBounds_toArray, List.set_cons_zero, List.set_cons_succ]
      refine wpAnyS_take 4 23 (v := .pointer (some ⟨vb, 1, none⟩)) rfl rfl rfl (by kernel_rfl) (by kernel_rfl) (by kernel_rfl) (fun _ _ _ h => h) ⟨.inl ⟨by rfl, ?r4⟩, fun _ => rfl⟩ HS0 ?n4
      case r4 => intro w' hS; obtain ⟨q1, q2, q3, q4, q5, q6⟩ := hS; go_simp
      simp only [List.setIfInBounds_toArray, List.set_cons_zero, List.set_cons_succ]
      refine wpAnyS_take 5 24 (v := .string x2) rfl rfl rfl (by kernel_rfl) (by kernel_rfl) (by kernel_rfl) (fun _ _ _ h => h) ⟨.inl ⟨by rfl, ?r5⟩, fun _ => rfl⟩ HS0 ?n5
      case r5 => intro w' hS; obtain ⟨q1, q2, q3, q4, q5, q6⟩ := hS; go_simp
      simp only [List.setIfInBounds_toArray, List.set_cons_zero, List.set_cons_succ]
      refine wpAnyS_take 6 25 (v := ptrTo a) rfl rfl rfl (by kernel_rfl) (by kernel_rfl) (by kernel_rfl) (fun _ _ _ h => h) ⟨.inl ⟨by rfl, ?r6⟩, fun _ => rfl⟩ HS0 ?n6
      case r6 => intro w' hS; obtain ⟨q1, q2, q3, q4, q5, q6⟩ := hS; go_simp
      simp only [List.setIfInBounds_toArray, List.set_cons_zero, List.set_cons_succ]
      refine wpAnyS_take 7 26 (v := ptrTo a) rfl rfl rfl (by kernel_rfl) (by kernel_rfl) (by kernel_rfl) (fun _ _ _ h => h) ⟨.inl ⟨by rfl, ?r7⟩, fun _ => rfl⟩ HS0 ?n7
      case r7 => intro w' hS; obtain ⟨q1, q2, q3, q4, q5, q6⟩ := hS; go_simp
      simp only [List.setIfInBounds_toArray, List.set_cons_zero, List.set_cons_succ]
      refine wpAnyS_take 8 27 (v := .pointer (some ⟨a, 0, none⟩)) rfl rfl rfl (by kernel_rfl) (by kernel_rfl) (by kernel_rfl) (fun _ _ _ h => h) ⟨.inl ⟨by rfl, ?r8⟩, fun _ => rfl⟩ HS0 ?n8
      case r8 => intro w' hS; obtain ⟨q1, q2, q3, q4, q5, q6⟩ := hS; go_simp
      simp only [List.setIfInBounds_toArray, List.set_cons_zero, List.set_cons_succ]
      refine wpAnyS_take 9 28 (v := .map (some mb)) rfl rfl rfl (by kernel_rfl) (by kernel_rfl) (by kernel_rfl) (fun _ _ _ h => h) ⟨.inl ⟨by rfl, ?r9⟩, fun _ => rfl⟩ HS0 ?n9
      case r9 => intro w' hS; obtain ⟨q1, q2, q3, q4, q5, q6⟩ := hS; go_simp
      simp only [List.setIfInBounds_toArray, List.set_cons_zero, List.set_cons_succ]
      refine wpAnyS_take 10 29 (v := .agg #[.string x1, .string x2]) rfl rfl rfl (by kernel_rfl) (by kernel_rfl) (by kernel_rfl) (fun _ _ _ h => h) ⟨.inl ⟨by rfl, ?r10⟩, fun _ => rfl⟩ HS0 ?n10
      case r10 => intro w' hS; obtain ⟨q1, q2, q3, q4, q5, q6⟩ := hS; go_simp
      simp only [List.setIfInBounds_toArray, List.set_cons_zero, List.set_cons_succ]
      refine wpAnyS_take 11 30 (v := .string (strOr (f (x1, x2)))) rfl rfl rfl (by kernel_rfl) (by kernel_rfl) (by kernel_rfl) (fun _ _ _ h => h) ⟨.inl ⟨by rfl, ?r11⟩, fun _ => rfl⟩ HS0 ?n11
      case r11 => intro w' hS; obtain ⟨q1, q2, q3, q4, q5, q6⟩ := hS; go_simp
      simp only [List.setIfInBounds_toArray, List.set_cons_zero, List.set_cons_succ]
      refine wpAnyS_take 12 31 (v := .agg #[.int .i64 num, .string x1, .string x2, .string (strOr (f (x1, x2)))]) rfl rfl rfl (by kernel_rfl) (by kernel_rfl) (by kernel_rfl) (fun _ _ _ h => h) ⟨.inl ⟨by rfl, ?r12⟩, fun _ => rfl⟩ HS0 ?n12
      case r12 => intro w' hS; obtain ⟨q1, q2, q3, q4, q5, q6⟩ := hS; go_simp
      simp only [List.setIfInBounds_toArray, List.set_cons_zero, List.set_cons_succ]
      have hke : k < (entsOf num ss f).length := by unfold entsOf; simpa using hlt
      have hxe : (entsOf num ss f)[k] = ⟨num, x1, x2, strOr (f (x1, x2))⟩ := by
        have h1 : (entsOf num ss f)[k] = ⟨num, ss[k].1, ss[k].2, strOr (f ss[k])⟩ := by simp [entsOf]
        rw [h1, HX.out]
      have hoke : Ent.okE ⟨num, x1, x2, strOr (f (x1, x2))⟩ := ⟨hnum, hokk.1, hokk.2, by
        show (strOr (f (x1, x2))).size ≤ _
        cases hf : f (x1, x2) with
        | none => exact Nat.zero_le _
        | some v => exact HI.out.gm.val hf⟩
      have hsplit : entsOf num ss f = (entsOf num ss f).take k ++ ⟨num, x1, x2, strOr (f (x1, x2))⟩ :: (entsOf num ss f).drop (k + 1) := by
        conv => lhs; rw [← List.take_append_drop k (entsOf num ss f), List.drop_eq_getElem_cons hke, hxe]
      have hpre : ((entsOf num ss f).take k).length < n := by rw [List.length_take]; omega
      have hy := HY.out ((entsOf num ss f).take k) ⟨num, x1, x2, strOr (f (x1, x2))⟩ W3.drew ⟨⟨ss, _, HKS.out, hsplit⟩, hpre, hoke⟩ (HJ.out _ _ _ HJk.out HB3.out.drew)
      have HT := Lib.hid (show (entsOf num ss f).take (k + 1) = (entsOf num ss f).take k ++ [⟨num, x1, x2, strOr (f (x1, x2))⟩] by rw [List.take_succ_eq_append_getElem hke, hxe])
      clear hsplit hxe hoke hpre
      refine wpAnyS_yield 13 32 (l := l) (v := .agg #[.int .i64 num, .string x1, .string x2, .string (strOr (f (x1, x2)))]) (u := .bool true) (R := fun W' => J ((entsOf num ss f).take k ++ [⟨num, x1, x2, strOr (f (x1, x2))⟩]) W' ∧ KeepsB okB W3.drew W') rfl rfl rfl ?e1 rfl rfl rfl ?e2 ?e3 ?e4 ?e5
      case e1 => kernel_rfl
      case e2 => kernel_rfl
      case e3 => kernel_rfl
      case e4 => exact hy
      rintro w5 ⟨hJ5, hk5⟩
      have HI5 := Lib.hid (HI3.out.keeps (W' := w5) ((show KeepsB okB W3 W3.drew from ⟨Nat.le_refl _, fun _ _ h _ => h⟩).trans hk5))
      have HV5 := Lib.hid (hk5.same vb _ HV.out rfl)
      have HS5 := HS1.out w5 HI5.out HV5.out
      have HJ5 := Lib.hid (show J ((entsOf num ss f).take (k + 1)) w5 by rw [HT.out]; exact hJ5)
      have HK5 := Lib.hid (HK.out.trans ((keepsB_below (HB3.out.drew)).trans hk5))
      clear hJ5 hk5 HS0
      refine ⟨HS5, ?_⟩
      simp only [List.setIfInBounds_toArray, List.set_cons_zero, List.set_cons_succ]
      refine wpAnyS_take 14 33 (v := .bool false) rfl rfl rfl (by kernel_rfl) (by kernel_rfl) (by kernel_rfl) (fun _ _ _ h => h) ⟨.inl ⟨by rfl, ?r14⟩, fun _ => rfl⟩ HS5 ?n14
      case r14 => intro w' hS; go_simp
      simp only [List.setIfInBounds_toArray, List.set_cons_zero, List.set_cons_succ]
      refine wpAnyS_done (by kernel_rfl) ?_ _
      clear HS5 HS1 HI HI3 HI5 HV HV5 HX HOK HTY HRV HKS HY HJ H0 HB2 HB3 hy HT HIr
      simp only [Exit.then]
      go_at_K
      gi_wp2
      go_roundw
      case rel => exact ⟨k + 1, by omega, by go_num, HJ5, HK5⟩
      case measure => simp [intOf]; omega
    · obtain rfl : k = ss.length := by omega
      have HF := Lib.hid (show J (entsOf num ss f) wr from by have := HJk.out; rwa [List.take_of_length_le (by unfold entsOf; simp)] at this)
      clear HJk
      gi_wp2
      go_end0
      exact ⟨⟨_, rfl⟩, _, ⟨ss, HKS.out, rfl⟩, HF.out⟩
end Go.Proofs.Ytbmpoecmjmmngaa
