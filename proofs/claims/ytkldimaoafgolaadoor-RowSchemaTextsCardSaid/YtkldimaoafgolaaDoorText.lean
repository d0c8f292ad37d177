/- row.Text at this program, and chapter 2's example. -/
import Derived.Test.YtkldimaoafgolaaDoorQuote
import Derived.Lib.ItoaLen
import Derived.Lib.SmallJoins
import Derived.Lib.Join
namespace Go.Proofs.YtkldimaoafgolaaDoor
open Go.RowKit

def valText (x : Val) : List UInt8 := if x.kind = 1 then Lib.itoa x.n else if x.kind = 2 then quoteList x.s.data.toList else [126]
def rowText (xs : List Val) : List UInt8 := if validRow xs = true then Lib.join (xs.map valText) [44] else []
theorem joinTail_le (sep : List UInt8) (N : Nat) (l : List (List UInt8)) (h : ∀ x ∈ l, x.length ≤ N) : (Lib.joinTail sep l).length ≤ l.length * (N + sep.length) := by
  induction l with
  | nil => simp [Lib.joinTail]
  | cons x l ih =>
    have h1 := ih (fun y hy => h y (List.mem_cons_of_mem _ hy))
    have h2 := h x List.mem_cons_self
    unfold Lib.joinTail at h1 ⊢
    rw [List.map_cons, List.flatten_cons, List.length_append, List.length_append, List.length_cons, Nat.add_mul]
    omega
theorem join_le (sep : List UInt8) (N : Nat) (l : List (List UInt8)) (h : ∀ x ∈ l, x.length ≤ N) : (Lib.join l sep).length ≤ l.length * (N + sep.length) := by
  cases l with
  | nil => simp [Lib.join_nil]
  | cons x l =>
    have h1 := joinTail_le sep N l (fun y hy => h y (List.mem_cons_of_mem _ hy))
    have h2 := h x List.mem_cons_self
    rw [Lib.join_cons, List.length_append, List.length_cons, Nat.add_mul]
    omega
theorem validVal_kinds {x : Val} (h : validVal x = true) : x.kind = 0 ∨ x.kind = 1 ∨ x.kind = 2 := by
  unfold validVal at h
  by_cases h0 : x.kind = 0
  · exact .inl h0
  by_cases h1 : x.kind = 1
  · exact .inr (.inl h1)
  by_cases h2 : x.kind = 2
  · exact .inr (.inr h2)
  simp [h0, h1, h2] at h
theorem validVal_size {x : Val} (h : validVal x = true) : x.s.size ≤ 200 := by
  obtain ⟨k, n, s⟩ := x
  rcases validVal_kinds h with h0 | h0 | h0 <;> simp only at h0 <;> subst h0
  · rw [validVal_0, empty_iff] at h; simp only [Bool.and_eq_true, decide_eq_true_eq] at h; show s.size ≤ 200; omega
  · rw [validVal_1, empty_iff] at h; simp only [Bool.and_eq_true, decide_eq_true_eq] at h; show s.size ≤ 200; omega
  · rw [validVal_2] at h; simp at h; show s.size ≤ 200; omega
theorem valText_length {x : Val} (h : validVal x = true) (hn : inI64 x.n) : (valText x).length ≤ 802 := by
  have h1 := Lib.itoa_length_le x.n hn.1 hn.2
  have h2 := quoteList_length x.s.data.toList
  have h3 := validVal_size h
  have h4 : x.s.data.toList.length = x.s.size := rfl
  unfold valText
  split
  · omega
  · split
    · omega
    · simp

abbrev Tryd.Tab (w : World) : Prop := Lib.TabIs Tryd.prog w "internal/strconv.uint64pow10" .u64 Lib.pow10Tab
theorem Tryd.tabSome : (Tryd.prog.globalNamed "internal/strconv.uint64pow10").isSome = true := by kernel_rfl
theorem Tryd.tabAt : ∃ g, Tryd.prog.globalNamed "internal/strconv.uint64pow10" = some g := Option.isSome_iff_exists.1 Tryd.tabSome
theorem Tryd.tabStays {w w' : World} (h : Tryd.Tab w) (hb : Below w.heap.size w w') : Tryd.Tab w' := by
  obtain ⟨g, hg⟩ := Tryd.tabAt
  exact Joins.tab_stays hg h hb (Nat.le_refl _)
theorem itoa_any (n : Int) (hn : inI64 n) (w : World) (ht : Tryd.Tab w) :
    Calls Tryd.prog 81 #[.int .i64 n] w fun e w' => e = .returned (.string ⟨(Lib.itoa n).toArray⟩) ∧ Below w.heap.size w w' := by
  refine (Tryd.strconv_Itoa n hn.1 hn.2 w ht).mono ?_
  rintro e w' ⟨rfl, k, os, rfl⟩
  exact ⟨rfl, ⟨rfl, rfl, rfl, by simp [Sort.grow], fun i hi => by
    show ((w.drewN k).heap ++ os)[i]? = _
    rw [Array.getElem?_append_left (by show i < w.heap.size; omega)]
    rfl⟩⟩
theorem Tryd.infoStr : (Tryd.prog.info? 9).map (fun i => (i.zero, i.size, i.bytes)) = some (some (.string ⟨#[]⟩), tStr.sz, 16) := by kernel_rfl

theorem owns_cells {w : World} {B : Nat} {e : TypeId} {v : Value} {l : List ByteArray} (h : Owns tStr w B e v l) (hpos : 0 < l.length) :
    ∃ g cap, v = .slice (some ⟨g, 0, none⟩) l.length cap ∧ l.length ≤ cap ∧ g < w.heap.size ∧ ∀ (j : Nat) x, l[j]? = some x → w.cell? ⟨g, 0 + j, none⟩ = some (.string x) := by
  have hr := h.rv'
  obtain ⟨a, cap, rfl, hl, hm, hr⟩ := slice_form hr
  obtain ⟨b, o, rfl, hat⟩ := slice_at hr hpos
  rcases h with ⟨css, h1, h2, h4, h5⟩
  rcases h2.2 with ⟨_, h6⟩ | ⟨g, cap', cur, hv, hg, hh, _⟩
  · omega
  · injection hv with hv1 hv2 hv3
    injection hv1 with hv1
    injection hv1 with hb ho
    subst hb; subst ho
    refine ⟨b, cap, rfl, hl, lt_of_block hh, fun j x hj => ?_⟩
    obtain ⟨hj1, hj2⟩ := List.getElem?_eq_some_iff.1 hj
    obtain ⟨b', o', hb', hat'⟩ := slice_at hr hj1
    injection hb' with hb'
    injection hb' with e1 e2
    subst e1; subst e2
    have := (str_at hat').1
    rw [hj2] at this
    have e : j * tStr.sz = j := Nat.mul_one j
    rw [e] at this
    exact this

/-- Append of one text. -/
theorem wpList_append_str {P : Program} {ops : Array Oper} {rest : List Oper} {o : Oper} {a : Act} {Q : Exit → Act → World → Prop} {w : World} (hgd : o.guard = none) (s x : Operand) (T : TypeId)
    (ho : o.op = .call { callee := .builtin .append, args := #[s, x], argTypes := #[T, T] }) {e : TypeId} (hT : P.underlying T = some (.slice e))
    (hinf : (P.info? e).map (fun i => (i.zero, i.size, i.bytes)) = some (some (.string ⟨#[]⟩), tStr.sz, 16)) (B : Nat) (v : Value) (xs : List ByteArray) (hs : a.eval s = v) (hown : Owns tStr w B e v xs)
    (nb c : Nat) (y : ByteArray) (hx : a.eval x = .slice (some ⟨nb, 0, none⟩) 1 c) (hc : w.cell? ⟨nb, 0, none⟩ = some (.string y)) (hin : y.size ≤ maxLen) (hlen : xs.length ≤ 1000000000) (hbase : B ≤ w.heap.size)
    (h : ∀ v' w', Owns tStr w' B e v' (xs ++ [y]) → w.grownBy w' v.ownBlock → (v'.ownBlock = v.ownBlock ∨ ∀ k, v'.ownBlock = some k → w.heap.size ≤ k) → wpList P ops Q rest (a.put o.dst v') w') : wpList P ops Q (o :: rest) a w :=
  wpList_append_one hgd s x T ho tStr hT hinf rfl (by decide) B v xs hs hown nb c y hx [.string y] (fun j u hj => by match j, hj with | 0, hj => simp at hj; subst hj; exact hc) ⟨rfl, hin⟩ (fun u hu => by simp at hu; subst hu; rfl) (by unfold maxLen; omega) (by omega) hbase h

set_option maxRecDepth 100000 in
set_option maxHeartbeats 2000000 in
theorem rowText_any (xs : List Val) (v : Value) (w : World) (hv : tRow.rv (mem w) [v] xs) (ht : Tryd.Tab w) :
    Calls Tryd.prog 46 #[v] w fun e w' => e = .returned (.string ⟨(rowText xs).toArray⟩) ∧ Below w.heap.size w w' := by
  have HV := Lib.hid (rowValid_any xs v w hv)
  obtain ⟨a, cap, rfl, hl, hm, hv⟩ := slice_form hv
  have hcap : cap ≤ 9223372036854775807 := by unfold maxLen at hm; exact hm
  clear hm
  have HT := Lib.hid (show rowText xs = if validRow xs = true then Lib.join (xs.map valText) [44] else [] from rfl)
  have HIN := Lib.hid (show ∀ x ∈ xs, inI64 x.n from fun x hx => by
    obtain ⟨k, hk, rfl⟩ := List.getElem_of_mem hx
    obtain ⟨b, o, rfl, hat⟩ := slice_at hv hk
    exact (val_at hat).2.2.2.2.1)
  have HA := Lib.hid (show validRow xs = true → xs.length ≤ 8 ∧ ∀ x ∈ xs, validVal x = true from fun h => by
    unfold validRow at h
    simpa using h)
  generalize validRow xs = r at HV HT HA
  go_enter Tryd.func46, Tryd.ntmps46
  go_wp2_with fail
  refine HV.out.mono ?_
  rintro e w1 ⟨rfl, hB1⟩
  cases r
  · go_wp2
    go_ret
    exact ⟨by rw [HT.out]; rfl, hB1⟩
  · obtain ⟨h8, hall⟩ := HA.out rfl
    have HALL := Lib.hid hall
    clear hall HA HV
    go_wp2
    go_loopw [3, 11] (fun ov i wr => ∃ k : Nat, k ≤ xs.length ∧ i = .int .i64 k ∧ Owns tStr wr w.heap.size 9 ov ((xs.take k).map fun x => ⟨(valText x).toArray⟩) ∧ Below w.heap.size w wr) (fun _ i _ => xs.length - (intOf i).toNat)
    case atStart => exact ⟨0, by omega, rfl, Owns.nil _ _ _ _, hB1⟩
    case round =>
      obtain ⟨k, hk, rfl, hown, hB⟩ := hrel
      by_cases hlt : k < xs.length
      · obtain ⟨b, o, rfl, hat⟩ := slice_at hv hlt
        have hat := tVal.at_mono (below_mem hB) hat
        obtain ⟨c0, c1, c2, i0, i1, i2⟩ := val_at hat
        have c0 : wr.cell? ⟨b, o + k * 3, none⟩ = some (.int .i64 xs[k].kind) := c0
        have c1 : wr.cell? ⟨b, o + k * 3 + 1, none⟩ = some (.int .i64 xs[k].n) := c1
        have c2 : wr.cell? ⟨b, o + k * 3 + 2, none⟩ = some (.string xs[k].s) := c2
        have hkind := validVal_kinds (HALL.out _ (List.getElem_mem hlt))
        have hsize := validVal_size (HALL.out _ (List.getElem_mem hlt))
        have HSNOC := Lib.hid (show ((xs.take (k + 1)).map fun x => (⟨(valText x).toArray⟩ : ByteArray)) = ((xs.take k).map fun x => (⟨(valText x).toArray⟩ : ByteArray)) ++ [⟨(valText xs[k]).toArray⟩] by
          rw [List.take_add_one, List.getElem?_eq_getElem hlt, List.map_append]; rfl)
        have HLEN := Lib.hid (show ((xs.take k).map fun x => (⟨(valText x).toArray⟩ : ByteArray)).length = k by
          rw [List.length_map, List.length_take]; omega)
        have HVT := Lib.hid (show valText xs[k] = if xs[k].kind = 1 then Lib.itoa xs[k].n else if xs[k].kind = 2 then quoteList xs[k].s.data.toList else [126] from rfl)
        clear hat hv
        generalize ((xs.take k).map fun x => (⟨(valText x).toArray⟩ : ByteArray)) = l at hown HSNOC HLEN
        generalize hL : ((xs.take (k + 1)).map fun x => (⟨(valText x).toArray⟩ : ByteArray)) = l' at HSNOC
        have HL := Lib.hid hL
        clear hL
        generalize xs[k] = x at *
        obtain ⟨xk, xn, xs'⟩ := x
        simp only at c0 c1 c2 i0 i1 i2 hkind hsize HVT
        have hBa : ∀ ob, Below w.heap.size w (wr.alloc ob) := fun ob => hB.alloc hB.size _
        rcases hkind with rfl | rfl | rfl
        · go_wp2_with (at_builtin; refine wpList_append_str rfl _ _ 86 rfl Tryd.underlying86 Tryd.infoStr w.heap.size _ l rfl ((hown.alloc _).alloc _) _ _ ⟨#[126]⟩ rfl ?c1 ?c2 ?c3 ?c4 ?_)
          case c2 => decide
          case c3 => rw [HLEN.out]; omega
          case c4 => have := hB.size; simp; omega
          intro v' w3 hown' hgrow _
          have hB3 : Below w.heap.size w w3 := ((hB.alloc hB.size _).alloc (by have := hB.size; simp; omega) _).grown hgrow (by have := hB.size; simp; omega) (fun k hk => (hown.lt k hk).1)
          have hown' : Owns tStr w3 w.heap.size 9 v' l' := by
            rw [HSNOC.out, HVT.out]; exact hown'
          clear hown hgrow c0 c1 c2
          go_wp2
          go_roundw
          case rel => exact ⟨k + 1, by omega, by go_num, by rw [HL.out]; exact hown', hB3⟩
          case measure => simp [intOf]; omega

        · go_wp2_with fail
          refine (itoa_any xn i1 _ (Tryd.tabStays ht (hBa _))).mono ?_
          rintro e w2 ⟨rfl, hb2⟩
          have hB2 := (hBa _).trans (hb2.mono (by have := hB.size; simp; omega))
          have hown := (hown.alloc _).keeps hb2
          have hlen := Lib.itoa_length_le xn i1.1 i1.2
          go_wp2_with (at_builtin; refine wpList_append_str rfl _ _ 86 rfl Tryd.underlying86 Tryd.infoStr w.heap.size _ l rfl (hown.alloc _) _ _ ⟨(Lib.itoa xn).toArray⟩ rfl ?d1 ?d2 ?d3 ?d4 ?_)
          case d1 => simp
          case d2 => simp [ByteArray.size]; unfold maxLen; omega
          case d3 => rw [HLEN.out]; omega
          case d4 => have := hB2.size; simp; omega
          intro v' w3 hown' hgrow _
          have hB3 : Below w.heap.size w w3 := (hB2.alloc hB2.size _).grown hgrow (by have := hB2.size; simp; omega) (fun k hk => (hown.lt k hk).1)
          have hown' : Owns tStr w3 w.heap.size 9 v' l' := by
            rw [HSNOC.out, HVT.out]; exact hown'
          clear hown hgrow c0 c1 c2
          go_wp2
          go_roundw
          case rel => exact ⟨k + 1, by omega, by go_num, by rw [HL.out]; exact hown', hB3⟩
          case measure => simp [intOf]; omega

        · go_wp2_with fail
          refine (quoted_any xs' _ (by omega)).mono ?_
          rintro e w2 ⟨rfl, hb2⟩
          have hB2 := (hBa _).trans (hb2.mono (by have := hB.size; simp; omega))
          have hown := (hown.alloc _).keeps hb2
          have hlen := quoteList_length xs'.data.toList
          have hlen2 : xs'.data.toList.length = xs'.size := rfl
          go_wp2_with (at_builtin; refine wpList_append_str rfl _ _ 86 rfl Tryd.underlying86 Tryd.infoStr w.heap.size _ l rfl (hown.alloc _) _ _ ⟨(quoteList xs'.data.toList).toArray⟩ rfl ?e1 ?e2 ?e3 ?e4 ?_)
          case e1 => simp
          case e2 => simp [ByteArray.size]; unfold maxLen; omega
          case e3 => rw [HLEN.out]; omega
          case e4 => have := hB2.size; simp; omega
          intro v' w3 hown' hgrow _
          have hB3 : Below w.heap.size w w3 := (hB2.alloc hB2.size _).grown hgrow (by have := hB2.size; simp; omega) (fun k hk => (hown.lt k hk).1)
          have hown' : Owns tStr w3 w.heap.size 9 v' l' := by
            rw [HSNOC.out, HVT.out]; exact hown'
          clear hown hgrow c0 c1 c2
          go_wp2
          go_roundw
          case rel => exact ⟨k + 1, by omega, by go_num, by rw [HL.out]; exact hown', hB3⟩
          case measure => simp [intOf]; omega

      · obtain rfl : k = xs.length := by omega
        rw [List.take_length] at hown
        rcases Nat.eq_zero_or_pos xs.length with h0 | hpos
        · obtain rfl : xs = [] := List.length_eq_zero_iff.1 h0
          obtain ⟨a', cap', rfl, _⟩ := hown.len
          go_wp2_with fail
          refine (Tryd.strings_Join_none _ _ _ _).mono ?_
          rintro e w2 ⟨rfl, rfl⟩
          go_wp2
          go_ret
          exact ⟨by rw [HT.out]; rfl, hB⟩
        · have hjl := join_le [44] 802 (xs.map valText) (fun y hy => by
            obtain ⟨x, hx, rfl⟩ := List.mem_map.1 hy
            exact valText_length (HALL.out x hx) (HIN.out x hx))
          have hmm : ((xs.map fun x => (⟨(valText x).toArray⟩ : ByteArray)).map (·.data.toList)) = xs.map valText := by
            rw [List.map_map]; exact List.map_congr_left (fun x _ => by simp)
          obtain ⟨g, cap', rfl, hle, hg, hcells⟩ := owns_cells hown (by simpa using hpos)
          have hJ := Tryd.strings_Join g 0 cap' _ ⟨#[44]⟩ wr hcells hg (by rw [List.length_map]; omega) hle (by rw [hmm]; rw [List.length_map] at hjl; show (Lib.join (xs.map valText) [44]).length ≤ _; simp only [List.length_cons, List.length_nil] at hjl; omega)
          rw [List.length_map, hmm] at hJ
          have HJ := Lib.hid hJ
          clear hJ hmm hcells hjl hown hle
          go_wp2_with fail
          refine HJ.out.mono ?_
          rintro e w2 ⟨rfl, hb2⟩
          go_wp2
          go_ret
          exact ⟨by rw [HT.out, if_pos trivial]; rfl, hB.trans (hb2.mono hB.size)⟩
end Go.Proofs.YtkldimaoafgolaaDoor
