/- The readers of package row: text, number, null. -/
import Derived.Test.YtkldimaoafgolaaDoorPUint
import Derived.Laws.IdiomStrings
import Derived.Laws.BytesArg
namespace Go.Proofs.YtkldimaoafgolaaDoor
open Go.RowKit

def bl (s : ByteArray) : List UInt8 := s.data.toList
theorem bl_len (s : ByteArray) : (bl s).length = s.size := rfl
theorem bl_mk (l : List UInt8) : bl ⟨l.toArray⟩ = l := rfl
theorem bl_inj {s t : ByteArray} (h : bl s = bl t) : s = t := by
  obtain ⟨s⟩ := s; obtain ⟨t⟩ := t
  congr 1
  exact Array.ext' h
theorem bl_extract (s : ByteArray) (a b : Nat) : bl (s.extract a b) = ((bl s).drop a).take (b - a) := Lib.extract_data s a b
theorem bl_tail (s : ByteArray) (a : Nat) : bl (s.extract a s.size) = (bl s).drop a := by
  rw [bl_extract, List.take_of_length_le]
  rw [List.length_drop, bl_len]; omega
theorem bl_get (s : ByteArray) (k : Nat) (h : k < s.size) : (bl s).drop k = s[k] :: (bl s).drop (k + 1) := List.drop_eq_getElem_cons (l := bl s) h
def tByte : Ty UInt8 := ⟨1, fun _ cs x => cs = [.int .u8 x.toNat], fun _ _ _ h => by rw [h]; rfl, fun _ _ _ _ _ h => h⟩
theorem infoU8 : (Tryd.prog.info? 5).map (fun i => (i.zero, i.size, i.bytes)) = some (some (.int .u8 0), tByte.sz, 1) := by kernel_rfl
theorem wpList_append_byte {ops : Array Oper} {rest : List Oper} {o : Oper} {a : Act} {Q : Exit → Act → World → Prop} {w : World} (hgd : o.guard = none) (s x : Operand) (T : TypeId)
    (ho : o.op = .call { callee := .builtin .append, args := #[s, x], argTypes := #[T, T] }) (hT : Tryd.prog.underlying T = some (.slice 5)) (B : Nat) (v : Value) (xs : List UInt8) (hs : a.eval s = v) (hown : Owns tByte w B 5 v xs)
    (nb c : Nat) (y : UInt8) (hx : a.eval x = .slice (some ⟨nb, 0, none⟩) 1 c) (hc : w.cell? ⟨nb, 0, none⟩ = some (.int .u8 y.toNat)) (hlen : xs.length ≤ 1000000000) (hbase : B ≤ w.heap.size)
    (h : ∀ v' w', Owns tByte w' B 5 v' (xs ++ [y]) → w.grownBy w' v.ownBlock → (v'.ownBlock = v.ownBlock ∨ ∀ k, v'.ownBlock = some k → w.heap.size ≤ k) → wpList Tryd.prog ops Q rest (a.put o.dst v') w') : wpList Tryd.prog ops Q (o :: rest) a w :=
  wpList_append_one hgd s x T ho tByte hT infoU8 rfl (by decide) B v xs hs hown nb c y hx [.int .u8 y.toNat] (fun j u hj => by match j, hj with | 0, hj => simp at hj; subst hj; exact hc) rfl (fun u hu => by simp at hu; subst hu; rfl) (by unfold maxLen; omega) (by omega) hbase h
theorem bytes_str {w : World} {B : Nat} {v : Value} {bs : List UInt8} (h : Owns tByte w B 5 v bs) : (convert 111 9 v).run Tryd.prog w = .ok (.string ⟨bs.toArray⟩) w := by
  have hr := h.rv'
  obtain ⟨a, cap, rfl, hl, hm, hr⟩ := slice_form hr
  cases a with
  | none =>
    have : bs = [] := by
      rcases Nat.eq_zero_or_pos bs.length with e | e
      · exact List.length_eq_zero_iff.1 e
      · obtain ⟨_, _, e2, _⟩ := slice_at hr (k := 0) e
        cases e2
    subst this
    exact run_convert_bytes_nil w 111 5 Tryd.underlying111 Tryd.underlying5 _ _ _ Tryd.underlying9
  | some ad =>
    refine run_convert_bytes_back w 111 9 5 ad cap bs Tryd.underlying111 Tryd.underlying5 Tryd.underlying9 (fun j hj => ?_)
    obtain ⟨b, o, e, hat⟩ := slice_at hr hj
    injection e with e
    subst e
    obtain ⟨cs, hc, hcs⟩ := hat
    rw [hcs] at hc
    have := hc 0 _ rfl
    rw [Addr.add_lit]
    have e2 : o + j * tByte.sz + 0 = o + j := by show o + j * 1 + 0 = o + j; omega
    rw [e2] at this
    exact this
def Rd (w : World) (b : Nat) (s : ByteArray) : Prop := w.heap[b]? = some (.cells #[.string s] 99 (0, 0))
@[reducible] def valV (x : Val) : Value := .agg #[.int .i64 x.kind, .int .i64 x.n, .string x.s]
def set3 (w : World) (b : Nat) (v0 v1 v2 : Value) : World := ((w.setCell ⟨b, 0, none⟩ v0).setCell ⟨b, 1, none⟩ v1).setCell ⟨b, 2, none⟩ v2
theorem setC_block {w : World} {g o : Nat} {v : Value} {cur : Array Value} {t : TypeId} {f : Nat × Nat} (h : w.heap[g]? = some (.cells cur t f)) : (w.setCell ⟨g, o, none⟩ v).heap[g]? = some (.cells (cur.setIfInBounds o v) t f) := by
  simp [World.setCell, Array.getElem?_modify, h]
theorem set3_block {w : World} {b : Nat} {T : TypeId} {a0 a1 a2 : Value} (h : w.heap[b]? = some (.cells #[a0, a1, a2] T (0, 0))) (v0 v1 v2 : Value) : (set3 w b v0 v1 v2).heap[b]? = some (.cells #[v0, v1, v2] T (0, 0)) := by
  have h0 : (w.setCell ⟨b, 0, none⟩ v0).heap[b]? = some (.cells #[v0, a1, a2] T (0, 0)) := setC_block h
  have h1 : ((w.setCell ⟨b, 0, none⟩ v0).setCell ⟨b, 1, none⟩ v1).heap[b]? = some (.cells #[v0, v1, a2] T (0, 0)) := setC_block h0
  exact setC_block h1
theorem keepC {w w1 : World} {F : Nat → Prop} (h : Keeps F w w1) {b : Nat} (hb : F b) (i : Nat) (v : Value) : Keeps F w (w1.setCell ⟨b, i, none⟩ v) := h.setCell (p := ⟨b, i, none⟩) (fun _ => hb) v
theorem set3_keeps (w : World) (b : Nat) (v0 v1 v2 : Value) : Keeps (fun k => k = b) w (set3 w b v0 v1 v2) := keepC (F := fun k => k = b) (keepC (F := fun k => k = b) (keepC (F := fun k => k = b) (Keeps.refl _ w) rfl 0 v0) rfl 1 v1) rfl 2 v2
theorem tByte_flat : tByte.flat := fun _ _ _ _ h => h
/-- Behind a walk that made its result in the block next to come: the reader's block may have been written. -/
theorem keeps_out {w Y wr X : World} {b : Nat} (h1 : Below w.heap.size w Y) (h2 : Below (w.heap.size + 1) Y wr) (h3 : Keeps (fun k => k = b ∨ w.heap.size ≤ k) wr X) : Keeps (fun k => k = b) w X :=
  ⟨h3.os.trans (h2.os.trans h1.os), h3.tape.trans (h2.tape.trans h1.tape), h3.output.trans (h2.output.trans h1.output), Nat.le_trans h1.size (Nat.le_trans h2.size h3.size), fun k hk hn => by
    have ha := h1.size; have hb := h2.size
    exact (h3.block k (by omega) (fun e => e.elim hn (by omega))).trans ((h2.block k (by omega)).trans (h1.block k hk))⟩
def vlen : Value → Nat | .string s => s.size | _ => 0

set_option maxRecDepth 100000 in
set_option maxHeartbeats 4000000 in
theorem readText_any (b : Nat) (s : ByteArray) (w : World) (h : Rd w b s) (hs : s.size ≤ 100000) (h0 : 0 < s.size) (hq : bl s = 34 :: bl (s.extract 1 s.size)) (he : Tryd.Errs w) :
    Calls Tryd.prog 85 #[.pointer (some ⟨b, 0, none⟩)] w fun e W' => ∃ (ok : Bool) (x : Val) (s' : ByteArray), e = .returned (.tuple #[valV x, .bool ok]) ∧ Rd W' b s' ∧ Keeps (fun k => k = b) w W' ∧ s'.size ≤ s.size ∧ (inI64 x.kind ∧ inI64 x.n ∧ x.s.size ≤ 100000) ∧
      ∀ q rest, bl s = 34 :: qrest q rest → ok = true ∧ x = ⟨2, 0, ⟨q.toArray⟩⟩ ∧ bl s' = rest := by
  have c0 : w.cell? ⟨b, 0, none⟩ = some (.string s) := mem_cells h 0
  have hlt : b < w.heap.size := lt_of_block h
  go_enter Tryd.func85, Tryd.ntmps85
  go_upto_region 3 with fail
  have HY := Lib.hid (And.intro ((Below.refl w.heap.size w).alloc (Nat.le_refl _) (.cells #[.int .i64 0, .int .i64 0, .string ⟨#[]⟩] 30)) (heap_alloc_new w (.cells #[.int .i64 0, .int .i64 0, .string ⟨#[]⟩] 30)))
  have hszY : (w.alloc (.cells #[.int .i64 0, .int .i64 0, .string ⟨#[]⟩] 30)).heap.size = w.heap.size + 1 := by simp
  generalize w.alloc (.cells #[.int .i64 0, .int .i64 0, .string ⟨#[]⟩] 30) = Y at HY hszY ⊢
  have HQ0 := Lib.hid (QCond.start (bl s) _ hq)
  have hes : (s.extract 1 s.size).size + 1 ≤ s.size := by rw [ByteArray.size_extract]; omega
  have HH := Lib.hid h
  have HE := Lib.hid he
  clear h c0 hq he
  go_loopw [4, 5] (fun bv sv wr => ∃ (bs : List UInt8) (sl : ByteArray), sv = .string sl ∧ Owns tByte wr (w.heap.size + 1) 5 bv bs ∧ Hid (QCond (bl s) bs (bl sl)) ∧ Hid (Below (w.heap.size + 1) Y wr) ∧ bs.length + sl.size + 1 ≤ s.size) (fun _ sv _ => vlen sv)
  case atStart => exact ⟨[], _, rfl, Owns.nil _ _ _ _, HQ0, Lib.hid (Below.refl _ _), by simpa using hes⟩
  case round =>
    clear HQ0 hes
    obtain ⟨bs, sl, rfl, hown, HQ, HB, hlen⟩ := hrel
    have HYB := Lib.hid (show wr.heap[b]? = some (.cells #[.string s] 99 (0, 0)) from (HB.out.block b (by omega)).trans ((HY.out.1.block b hlt).trans HH.out))
    have HYR := Lib.hid (show wr.heap[w.heap.size]? = some (.cells #[.int .i64 0, .int .i64 0, .string ⟨#[]⟩] 30 (0, 0)) from (HB.out.block w.heap.size (by omega)).trans HY.out.2)
    by_cases hz : sl.size = 0
    · have hsl : sl = ⟨#[]⟩ := bl_inj (List.length_eq_zero_iff.1 hz)
      have hem : sl.toList.isEmpty = true := by
        rw [← decide_eq_emptyBytes]
        exact decide_eq_true (by rw [hsl]; rfl)
      have HN := Lib.hid (show ∀ q rest, bl s = 34 :: qrest q rest → False from fun q rest e => by
        have h := HQ.out
        rw [hsl] at h
        exact h.none e)
      have m0 : wr.cell? ⟨w.heap.size, 0, none⟩ = some (.int .i64 0) := mem_cells HYR.out 0
      have m1 : wr.cell? ⟨w.heap.size, 1, none⟩ = some (.int .i64 0) := mem_cells HYR.out 1
      have m2 : wr.cell? ⟨w.heap.size, 2, none⟩ = some (.string ⟨#[]⟩) := mem_cells HYR.out 2
      have fR : ∀ o, wr.frozen? ⟨w.heap.size, o, none⟩ = false := frozen_cells HYR.out
      have yR := HYR.out
      have HRD := Lib.hid (show Rd wr b s from HYB.out)
      have HKX := Lib.hid (show Keeps (fun k => k = b ∨ w.heap.size ≤ k) wr wr from Keeps.refl _ _)
      clear hown HQ HYR HYB hsl hz
      go_wp2
      have r1 := set3_block yR (.int .i64 0) (.int .i64 0) (.string ⟨#[]⟩)
      have hk3 := set3_keeps wr w.heap.size (.int .i64 0) (.int .i64 0) (.string ⟨#[]⟩)
      show bodyPost _ _ _ _ _ (set3 wr w.heap.size (.int .i64 0) (.int .i64 0) (.string ⟨#[]⟩))
      generalize set3 wr w.heap.size (.int .i64 0) (.int .i64 0) (.string ⟨#[]⟩) = w9 at r1 hk3 ⊢
      have hrd : Rd w9 b s := (hk3.block b (lt_of_block HRD.out) (by omega)).trans HRD.out
      have hK9 : Keeps (fun k => k = b) w w9 := keeps_out HY.out.1 HB.out (HKX.out.trans (hk3.wide (fun k _ e => .inr (by omega))))
      have g0 : w9.cell? ⟨w.heap.size, 0, none⟩ = some (.int .i64 0) := mem_cells r1 0
      have g1 : w9.cell? ⟨w.heap.size, 1, none⟩ = some (.int .i64 0) := mem_cells r1 1
      have g2 : w9.cell? ⟨w.heap.size, 2, none⟩ = some (.string ⟨#[]⟩) := mem_cells r1 2
      exact bodyPost_ret (v := .tuple #[.agg #[.int .i64 0, .int .i64 0, .string ⟨#[]⟩], .bool false]) (by simp [results, Tryd.results85, go_sem, g0, g1, g2]) rfl ⟨false, ⟨0, 0, ⟨#[]⟩⟩, s, rfl, hrd, hK9, Nat.le_refl _, ⟨by unfold inI64; simp, by unfold inI64; simp, by show 0 ≤ 100000; omega⟩, fun q rest e => (HN.out q rest e).elim⟩
    · have hpos : (0 : Int) < (sl.size : Int) := by omega
      have hemp : sl.toList.isEmpty = false := by
        rw [← decide_eq_emptyBytes]
        exact decide_eq_false (fun h => hz (by rw [h]; rfl))
      have hb0 : bl sl = sl[0] :: bl (sl.extract 1 sl.size) := by rw [bl_tail]; exact bl_get sl 0 (by omega)
      have hc256 : sl[0].toNat < 256 := UInt8.toNat_lt _
      by_cases h34 : sl[0].toNat = 34
      · have h34f : ((sl[0].toNat : Int) != 34) = false := by simp; omega
        have HQN := Lib.hid (show ∀ q rest, bl s = 34 :: qrest q rest → bs = q ∧ bl (sl.extract 1 sl.size) = rest from fun q rest e => by
          have h := HQ.out
          rw [hb0, show sl[0] = 34 from UInt8.toNat_inj.1 h34] at h
          exact h.done e)
        have mb : wr.cell? ⟨b, 0, none⟩ = some (.string s) := mem_cells HYB.out 0
        have fb : ∀ o, wr.frozen? ⟨b, o, none⟩ = false := frozen_cells HYB.out
        go_upto_region 19 with fail
        have hkX : Keeps (fun k => k = b) wr (wr.setCell ⟨b, 0, none⟩ (.string (sl.extract 1 sl.size))) := keepC (F := fun k => k = b) (Keeps.refl _ wr) rfl 0 _
        have HRD := Lib.hid (show Rd (wr.setCell ⟨b, 0, none⟩ (.string (sl.extract 1 sl.size))) b (sl.extract 1 sl.size) from setC_block HYB.out)
        have yR := (hkX.block w.heap.size (lt_of_block HYR.out) (by omega)).trans HYR.out
        have HKX := Lib.hid (hkX.wide (G := fun k => k = b ∨ w.heap.size ≤ k) (fun k _ e => .inl e))
        have ownX := hown.keepsFlat tByte_flat hkX (fun k e => by have := (hown.lt k e).1; omega)
        generalize wr.setCell ⟨b, 0, none⟩ (.string (sl.extract 1 sl.size)) = X at hkX HRD yR HKX ownX ⊢
        have hconv := bytes_str ownX
        have m0 : X.cell? ⟨w.heap.size, 0, none⟩ = some (.int .i64 0) := mem_cells yR 0
        have m1 : X.cell? ⟨w.heap.size, 1, none⟩ = some (.int .i64 0) := mem_cells yR 1
        have m2 : X.cell? ⟨w.heap.size, 2, none⟩ = some (.string ⟨#[]⟩) := mem_cells yR 2
        have fR : ∀ o, X.frozen? ⟨w.heap.size, o, none⟩ = false := frozen_cells yR
        clear hown HQ HYR HYB hkX hb0 ownX mb fb
        go_wp2
        have r1 := set3_block yR (.int .i64 2) (.int .i64 0) (.string ⟨bs.toArray⟩)
        have hk3 := set3_keeps X w.heap.size (.int .i64 2) (.int .i64 0) (.string ⟨bs.toArray⟩)
        show bodyPost _ _ _ _ _ (set3 X w.heap.size (.int .i64 2) (.int .i64 0) (.string ⟨bs.toArray⟩))
        generalize set3 X w.heap.size (.int .i64 2) (.int .i64 0) (.string ⟨bs.toArray⟩) = w9 at r1 hk3 ⊢
        have hrd : Rd w9 b (sl.extract 1 sl.size) := (hk3.block b (lt_of_block HRD.out) (by omega)).trans HRD.out
        have hK9 : Keeps (fun k => k = b) w w9 := keeps_out HY.out.1 HB.out (HKX.out.trans (hk3.wide (fun k _ e => .inr (by omega))))
        have g0 : w9.cell? ⟨w.heap.size, 0, none⟩ = some (.int .i64 2) := mem_cells r1 0
        have g1 : w9.cell? ⟨w.heap.size, 1, none⟩ = some (.int .i64 0) := mem_cells r1 1
        have g2 : w9.cell? ⟨w.heap.size, 2, none⟩ = some (.string ⟨bs.toArray⟩) := mem_cells r1 2
        exact bodyPost_ret (v := .tuple #[.agg #[.int .i64 2, .int .i64 0, .string ⟨bs.toArray⟩], .bool true]) (by simp [results, Tryd.results85, go_sem, g0, g1, g2]) rfl ⟨true, ⟨2, 0, ⟨bs.toArray⟩⟩, sl.extract 1 sl.size, rfl, hrd, hK9, by rw [ByteArray.size_extract]; omega, ⟨by unfold inI64; simp, by unfold inI64; simp, by show bs.length ≤ 100000; omega⟩, fun q rest e => by obtain ⟨e1, e2⟩ := HQN.out q rest e; exact ⟨rfl, by rw [e1], e2⟩⟩
      · have h34f : ((sl[0].toNat : Int) != 34) = true := by simp; omega
        by_cases h92 : sl[0].toNat = 92
        · have h92f : ((sl[0].toNat : Int) != 92) = false := by simp; omega
          by_cases h2 : sl.size < 2
          · have h2f : decide ((sl.size : Int) < 2) = true := by simp; omega
            have HQN := Lib.hid (show QCond (bl s) (bs ++ [sl[0]]) (bl (sl.extract 1 sl.size)) from by
              have e1 : bl (sl.extract 1 sl.size) = [] := by rw [bl_tail]; exact List.drop_eq_nil_of_le (by rw [bl_len]; omega)
              have h := HQ.out
              rw [hb0, e1, show sl[0] = 92 from UInt8.toNat_inj.1 h92] at h
              rw [e1]
              exact h.short)
            clear HQ hb0 HYB HYR
            go_wp2_with (at_builtin; refine wpList_append_byte rfl _ _ 111 rfl Tryd.underlying111 (w.heap.size + 1) _ bs rfl (hown.alloc _) _ _ sl[0] rfl ?c1 ?c2 ?c3 ?_)
            case c1 => simp [h92]
            case c2 => omega
            case c3 => have := HB.out.size; simp; omega
            intro v' w3 hown' hgrow _
            have HB3 := Lib.hid ((HB.out.alloc (by have := HB.out.size; omega) _).grown hgrow (by have := HB.out.size; simp; omega) (fun k hk => (hown.lt k hk).1))
            clear hown hgrow
            go_wp2
            go_roundw
            case rel => exact ⟨bs ++ [sl[0]], _, rfl, hown', HQN, HB3, by simp [ByteArray.size_extract]; omega⟩
            case measure => simp [vlen, ByteArray.size_extract]; omega
          have h2f : decide ((sl.size : Int) < 2) = false := by simp; omega
          have hpos1 : (1 : Int) < (sl.size : Int) := by omega
          have hb1 : bl sl = (92 : UInt8) :: sl[1] :: bl (sl.extract 2 sl.size) := by
            have e1 := bl_get sl 0 (by omega)
            have e2 := bl_get sl 1 (by omega)
            rw [bl_tail]
            rw [e2, show sl[0] = 92 from UInt8.toNat_inj.1 h92] at e1
            exact e1
          have hc256b : sl[1].toNat < 256 := UInt8.toNat_lt _
          have hle2 : (2 : Int) ≤ (sl.size : Int) := by omega
          by_cases h110 : sl[1].toNat = 110
          · have h110f : ((sl[1].toNat : Int) == 110) = true := by simp; omega
            have HQN := Lib.hid (show QCond (bl s) (bs ++ [10]) (bl (sl.extract 2 sl.size)) from by
              have h := HQ.out
              rw [hb1, show sl[1] = 110 from UInt8.toNat_inj.1 h110] at h
              exact h.nl)
            clear HQ hb0 hb1 HYB HYR
            go_wp2_with (at_builtin; refine wpList_append_byte rfl _ _ 111 rfl Tryd.underlying111 (w.heap.size + 1) _ bs rfl (hown.alloc _) _ _ 10 rfl ?c1 ?c2 ?c3 ?_)
            case c1 => simp
            case c2 => omega
            case c3 => have := HB.out.size; simp; omega
            intro v' w3 hown' hgrow _
            have HB3 := Lib.hid ((HB.out.alloc (by have := HB.out.size; omega) _).grown hgrow (by have := HB.out.size; simp; omega) (fun k hk => (hown.lt k hk).1))
            clear hown hgrow
            go_wp2
            go_roundw
            case rel => exact ⟨bs ++ [10], _, rfl, hown', HQN, HB3, by simp [ByteArray.size_extract]; omega⟩
            case measure => simp [vlen, ByteArray.size_extract]; omega
          have h110f : ((sl[1].toNat : Int) == 110) = false := by simp; omega
          by_cases h120 : sl[1].toNat = 120
          · have h120f : ((sl[1].toNat : Int) == 120) = true := by simp; omega
            by_cases h4 : 4 ≤ sl.size
            · have h4f : decide ((4 : Int) ≤ (sl.size : Int)) = true := by simp; omega
              have hle4 : (4 : Int) ≤ (sl.size : Int) := by omega
              have hb3 : bl (sl.extract 2 sl.size) = sl[2] :: sl[3] :: bl ((sl.extract 2 sl.size).extract 2 (sl.size - 2)) := by
                have hz2 : (sl.extract 2 sl.size).size = sl.size - 2 := by rw [ByteArray.size_extract]; omega
                have e1 := bl_get sl 2 (by omega)
                have e2 := bl_get sl 3 (by omega)
                rw [← hz2, bl_tail (sl.extract 2 sl.size), bl_tail, List.drop_drop, e1, e2]
              have HXX := Lib.hid (fun (n : Nat) (hn : HexIs sl[2] sl[3] n) => show QCond (bl s) (bs ++ [UInt8.ofNat n]) (bl ((sl.extract 2 sl.size).extract 2 (sl.size - 2))) from by
                have h := HQ.out
                rw [hb1, hb3, show sl[1] = 120 from UInt8.toNat_inj.1 h120] at h
                exact h.hex hn)
              have hx4 : sl.extract 2 4 = ⟨#[sl[2], sl[3]]⟩ := bl_inj (by
                have e1 := bl_get sl 2 (by omega)
                have e2 := bl_get sl 3 (by omega)
                rw [bl_extract, e1, e2]; rfl)
              have HP := Lib.hid (puint_any sl[2] sl[3] wr (Tryd.errsStay HE.out (HY.out.1.trans (HB.out.mono (by omega)))))
              rw [← hx4] at HP
              clear HQ hb0 hb1 hb3 hx4 HYB HYR
              go_wp2_with fail
              refine HP.out.mono ?_
              rintro e w2 ⟨hb2, n, hn, hx, ev, rfl⟩
              have hown2 := hown.keeps hb2
              have HB2 := Lib.hid (HB.out.trans (hb2.mono (by have := HB.out.size; omega)))
              have HQN := Lib.hid (HXX.out n hx)
              have hwr : IntKind.u8.wrap (n : Int) = n := by rw [IntKind.wrap_u8]; omega
              have hun : (UInt8.ofNat n).toNat = n := by simp; omega
              clear hb2 hx HXX HP hown
              go_wp2_with (at_builtin; refine wpList_append_byte rfl _ _ 111 rfl Tryd.underlying111 (w.heap.size + 1) _ bs rfl (hown2.alloc _) _ _ (UInt8.ofNat n) rfl ?c1 ?c2 ?c3 ?_)
              case c1 => simp [hun]
              case c2 => omega
              case c3 => have := HB2.out.size; simp; omega
              intro v' w3 hown' hgrow _
              have HB3 := Lib.hid ((HB2.out.alloc (by have := HB2.out.size; omega) _).grown hgrow (by have := HB2.out.size; simp; omega) (fun k hk => (hown2.lt k hk).1))
              clear hown2 hgrow
              go_wp2
              go_roundw
              case rel => exact ⟨bs ++ [(UInt8.ofNat n)], _, rfl, hown', HQN, HB3, by simp [ByteArray.size_extract]; omega⟩
              case measure => simp [vlen, ByteArray.size_extract]; omega
            have h4f : decide ((4 : Int) ≤ (sl.size : Int)) = false := by simp; omega
            have HQN := Lib.hid (show QCond (bl s) (bs ++ [sl[1]]) (bl (sl.extract 2 sl.size)) from by
              have h := HQ.out
              rw [hb1] at h
              exact h.esc h110 (fun _ => by rw [bl_len, ByteArray.size_extract]; omega))
            clear HQ hb0 hb1 HYB HYR
            go_wp2_with (at_builtin; refine wpList_append_byte rfl _ _ 111 rfl Tryd.underlying111 (w.heap.size + 1) _ bs rfl (hown.alloc _) _ _ sl[1] rfl ?c1 ?c2 ?c3 ?_)
            case c1 => simp [h120]
            case c2 => omega
            case c3 => have := HB.out.size; simp; omega
            intro v' w3 hown' hgrow _
            have HB3 := Lib.hid ((HB.out.alloc (by have := HB.out.size; omega) _).grown hgrow (by have := HB.out.size; simp; omega) (fun k hk => (hown.lt k hk).1))
            clear hown hgrow
            go_wp2
            go_roundw
            case rel => exact ⟨bs ++ [sl[1]], _, rfl, hown', HQN, HB3, by simp [ByteArray.size_extract]; omega⟩
            case measure => simp [vlen, ByteArray.size_extract]; omega
          have h120f : ((sl[1].toNat : Int) == 120) = false := by simp; omega
          have HQN := Lib.hid (show QCond (bl s) (bs ++ [sl[1]]) (bl (sl.extract 2 sl.size)) from by
            have h := HQ.out
            rw [hb1] at h
            exact h.esc h110 (fun e => absurd e h120))
          clear HQ hb0 hb1 HYB HYR
          go_wp2_with (at_builtin; refine wpList_append_byte rfl _ _ 111 rfl Tryd.underlying111 (w.heap.size + 1) _ bs rfl (hown.alloc _) _ _ sl[1] rfl ?c1 ?c2 ?c3 ?_)
          case c1 => simp
          case c2 => omega
          case c3 => have := HB.out.size; simp; omega
          intro v' w3 hown' hgrow _
          have HB3 := Lib.hid ((HB.out.alloc (by have := HB.out.size; omega) _).grown hgrow (by have := HB.out.size; simp; omega) (fun k hk => (hown.lt k hk).1))
          clear hown hgrow
          go_wp2
          go_roundw
          case rel => exact ⟨bs ++ [sl[1]], _, rfl, hown', HQN, HB3, by simp [ByteArray.size_extract]; omega⟩
          case measure => simp [vlen, ByteArray.size_extract]; omega
        · have h92f : ((sl[0].toNat : Int) != 92) = true := by simp; omega
          have HQN := Lib.hid (show QCond (bl s) (bs ++ [sl[0]]) (bl (sl.extract 1 sl.size)) from (hb0 ▸ HQ.out : QCond (bl s) bs (sl[0] :: bl (sl.extract 1 sl.size))).plain h34 h92)
          clear HQ hb0 HYB HYR
          go_wp2_with (at_builtin; refine wpList_append_byte rfl _ _ 111 rfl Tryd.underlying111 (w.heap.size + 1) _ bs rfl (hown.alloc _) _ _ sl[0] rfl ?c1 ?c2 ?c3 ?_)
          case c1 => simp
          case c2 => omega
          case c3 => have := HB.out.size; simp; omega
          intro v' w3 hown' hgrow _
          have HB3 := Lib.hid ((HB.out.alloc (by have := HB.out.size; omega) _).grown hgrow (by have := HB.out.size; simp; omega) (fun k hk => (hown.lt k hk).1))
          clear hown hgrow
          go_wp2
          go_roundw
          case rel => exact ⟨bs ++ [sl[0]], _, rfl, hown', HQN, HB3, by simp [ByteArray.size_extract]; omega⟩
          case measure => simp [vlen, ByteArray.size_extract]; omega
end Go.Proofs.YtkldimaoafgolaaDoor
