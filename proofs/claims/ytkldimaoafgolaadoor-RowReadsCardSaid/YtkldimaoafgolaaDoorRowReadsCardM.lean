/- The tied card of RowReads: for every input the law returns true and leaves its arguments as they were. -/
import Derived.Test.YtkldimaoafgolaaDoorRows
import Derived.Test.YtkldimaoafgolaaDoorRc04
set_option linter.unusedVariables false
set_option linter.unusedSimpArgs false
/- Appends as one step of a region that draws its order. No program in sight. -/
namespace Go.Proofs.YtkldimaoafgolaaDoor
open Go.RowKit
section
variable {P : Program}
/-- APPEND OF ONE ELEMENT to a row of the call's own, as one step of a region that draws its order. -/
theorem step_append_one {α : Type} {ops : Array Oper} {o : Oper} {a : Act} {w : World} {K : Act → World → Prop} {Q : Exit → Act → World → Prop} {E : Prop} (hgd : o.guard = none) (s x : Operand) (T : TypeId)
    (ho : o.op = .call { callee := .builtin .append, args := #[s, x], argTypes := #[T, T] }) (t : Ty α) {e : TypeId} {z : Value} {bytes : Nat} (hT : P.underlying T = some (.slice e))
    (hinf : (P.info? e).map (fun i => (i.zero, i.size, i.bytes)) = some (some z, t.sz, bytes)) (hzs : z.cells.size = t.sz) (hsz : 0 < t.sz) (B : Nat) (v : Value) (xs : List α) (hs : a.eval s = v) (hown : Owns t w B e v xs)
    (nb c : Nat) (y : α) (hx : a.eval x = .slice (some ⟨nb, 0, none⟩) 1 c) (cs : List Value) (hat : At (mem w) nb 0 cs) (hrv : t.rv ((mem w).on (fun b => some b ≠ v.ownBlock)) cs y) (h1 : ∀ u ∈ cs, u.oneCell' = true)
    (h63 : xs.length + 1 ≤ maxLen) (hbytes : (xs.length + 1) * bytes ≤ 140737488355328) (hbase : B ≤ w.heap.size)
    (h : ∀ v' w', Owns t w' B e v' (xs ++ [y]) → w.grownBy w' v.ownBlock → (v'.ownBlock = v.ownBlock ∨ ∀ k, v'.ownBlock = some k → w.heap.size ≤ k) → K (a.put o.dst v') w') :
    if Region.wanted o (yielded ops a.tmps) = true then Oper.wp P o a w K Q else E := by
  have hw : Region.wanted o (yielded ops a.tmps) = true := by simp [Region.wanted, hgd]
  rw [if_pos hw]
  obtain ⟨i, hi, hz, hsize, hby⟩ := info_parts hinf
  have hown' := hown
  obtain ⟨css, g1, g2, g4, g5⟩ := hown
  have hl : cs.length = 1 * t.sz := by rw [t.len _ _ _ hrv, Nat.one_mul]
  have hnews : ∀ j u, cs[j]? = some u → w.cell? ((⟨nb, 0, none⟩ : Addr).add j) = some u := fun j u hj => by rw [Addr.add_lit]; exact hat j u hj
  obtain ⟨v', w', hr, h2, h3, _⟩ := run_append_own (P := P) w B T o.type e i z t.sz bytes hT hi hz hsize hby hzs hsz v xs.length css.flatten g2 ⟨nb, 0, none⟩ 1 c cs hl hnews h1 h63 hbytes hbase
  have hblk := append_block w B T o.type e i z t.sz bytes hT hi hz hsize hby v xs.length css.flatten g2 ⟨nb, 0, none⟩ 1 c cs hl hnews h1 (by omega) h63 hbytes hr
  have key : Owns t w' B e v' (xs ++ [y]) := by
    refine hown'.snoc (fun css' hc' => ?_) h3 hblk hrv
    obtain ⟨v2, w2, hr2, h22, _, _⟩ := run_append_own (P := P) w B T o.type e i z t.sz bytes hT hi hz hsize hby hzs hsz v xs.length css'.flatten hc' ⟨nb, 0, none⟩ 1 c cs hl hnews h1 h63 hbytes hbase
    rw [hr] at hr2
    injection hr2 with ev ew
    subst ev; subst ew
    exact h22
  unfold Oper.wp execOp
  simp only [ho, resolve, invoke, builtin, Sem.run_bind, Sem.run_pure, Result.andThen_ok, List.map_toArray, List.map_cons, List.map_nil, hs, hx, hr]
  exact h v' w' key h3 hblk
end
end Go.Proofs.YtkldimaoafgolaaDoor
/- The reference's digit and Unquoted. -/
namespace Go.Proofs.YtkldimaoafgolaaDoor
open Go.RowKit

def digV (c : UInt8) : Int := if 48 ≤ c.toNat ∧ c.toNat ≤ 57 then (c.toNat : Int) - 48 else if 97 ≤ c.toNat ∧ c.toNat ≤ 102 then (c.toNat : Int) - 87 else -1
theorem digV_hex {d : Nat} (h : d < 16) : digV (hexDigit d) = d := by
  have : ∀ n : Fin 16, digV (hexDigit n.val) = n.val := by decide
  exact this ⟨d, h⟩
theorem digV_lt (c : UInt8) : -1 ≤ digV c ∧ digV c < 16 := by unfold digV; split <;> (try split) <;> omega
set_option maxHeartbeats 1000000 in
theorem refDigit_any (c : UInt8) (w : World) : Calls Tryd.prog 121 #[.int .u8 c.toNat] w fun e w' => e = .returned (.int .i64 (digV c)) ∧ w' = w := by
  have hc := c.toNat_lt
  go_enter Tryd.func121, Tryd.ntmps121
  by_cases h1 : 48 ≤ c.toNat
  · by_cases h2 : c.toNat ≤ 57
    · have HD := Lib.hid (show digV c = (c.toNat : Int) - 48 by unfold digV; rw [if_pos ⟨h1, h2⟩])
      go_wp2
      go_ret
      exact ⟨by rw [HD.out]; rfl, rfl⟩
    · by_cases h3 : 97 ≤ c.toNat
      · by_cases h4 : c.toNat ≤ 102
        · have HD := Lib.hid (show digV c = (c.toNat : Int) - 97 + 10 by unfold digV; rw [if_neg (by omega), if_pos ⟨h3, h4⟩]; omega)
          go_wp2
          go_ret
          exact ⟨by rw [HD.out]; rfl, rfl⟩
        · have HD := Lib.hid (show digV c = -1 by unfold digV; rw [if_neg (by omega), if_neg (by omega)])
          go_wp2
          go_ret
          exact ⟨by rw [HD.out]; rfl, rfl⟩
      · have HD := Lib.hid (show digV c = -1 by unfold digV; rw [if_neg (by omega), if_neg (by omega)])
        go_wp2
        go_ret
        exact ⟨by rw [HD.out]; rfl, rfl⟩
  · have HD := Lib.hid (show digV c = -1 by unfold digV; rw [if_neg (by omega), if_neg (by omega)])
    go_wp2
    go_ret
    exact ⟨by rw [HD.out]; rfl, rfl⟩
theorem QCond.bad {all b s : List UInt8} (h : QCond all b (92 :: s)) (h0 : ∀ c l, s = c :: l → c.toNat ≠ 34 ∧ c.toNat ≠ 92 ∧ c.toNat ≠ 110) (hx : ∀ h1 h2 l, s = 120 :: h1 :: h2 :: l → digV h1 < 0 ∨ digV h2 < 0) : ∀ q rest, all ≠ 34 :: qrest q rest := fun q rest e => by
  rcases h.next e with ⟨_, hs⟩ | ⟨i, hi, hb, hs⟩
  · injection hs with hs _; cases hs
  · rcases quote_cases q[i] with ⟨k, g⟩ | ⟨k, g⟩ | ⟨_, _, g⟩ | ⟨_, k, g⟩ <;> rw [g] at hs <;> injection hs with hs1 hs2
    · have := h0 _ _ hs2; omega
    · exact (h0 _ _ hs2).2.2 rfl
    · have hc := q[i].toNat_lt
      rcases hx _ _ _ hs2 with h | h
      · rw [digV_hex (by omega)] at h; omega
      · rw [digV_hex (by omega)] at h; omega
    · rw [← hs1] at k; exact absurd rfl k
theorem hexIs_dig (h1 h2 : UInt8) : HexIs h1 h2 (16 * digV h1 + digV h2).toNat := fun c e1 e2 => by
  have hc := c.toNat_lt
  rw [e1, e2, digV_hex (by omega), digV_hex (by omega)]
  omega
theorem wrap_byte (n : Int) (h0 : 0 ≤ n) (h1 : n < 256) : IntKind.u8.wrap n = ((UInt8.ofNat n.toNat).toNat : Int) := by
  rw [IntKind.wrap_u8, UInt8.toNat_ofNat']
  omega
/-- What Unquoted gives. -/
def UnqPost (s : ByteArray) (a : Nat) (w : World) (e : Ending) (w' : World) : Prop := Below w.heap.size w w' ∧ ∃ (t : ByteArray) (n : Int), e = .returned (.tuple #[.string t, .int .i64 n]) ∧
  ((n = -1 ∧ t = ⟨#[]⟩ ∧ ∀ q rest, (bl s).drop a ≠ 34 :: qrest q rest) ∨ ∃ m : Nat, n = m ∧ a < m ∧ m ≤ s.size ∧ t.size ≤ s.size ∧ (bl s).drop a = quoteList (bl t) ++ (bl s).drop m ∧ ∀ q rest, (bl s).drop a = 34 :: qrest q rest → q = bl t ∧ rest = (bl s).drop m)
set_option maxRecDepth 100000 in
set_option maxHeartbeats 4000000 in
theorem refUnq_any (s : ByteArray) (a : Nat) (w : World) (ha : a < s.size) (h34 : s[a].toNat = 34) (hs : s.size ≤ 100000) :
    Calls Tryd.prog 106 #[.string s, .int .i64 a] w (UnqPost s a w) := by
  have HQ0 := Lib.hid (QCond.start ((bl s).drop a) ((bl s).drop (a + 1)) (by rw [bl_get s a ha, show s[a] = 34 from UInt8.toNat_inj.1 h34]))
  go_enter Tryd.func106, Tryd.ntmps106
  go_wp2
  go_loopw [6, 7] (fun bv iv wr => ∃ (bs : List UInt8) (i : Nat), i ≤ s.size ∧ iv = .int .i64 i ∧ Owns tByte wr w.heap.size 5 bv bs ∧ Hid (QCond ((bl s).drop a) bs ((bl s).drop i)) ∧ Hid (Below w.heap.size w wr) ∧ bs.length + a < i) (fun _ iv _ => s.size - (intOf iv).toNat)
  case atStart => exact ⟨[], a + 1, by omega, by go_num, Owns.nil _ _ _ _, HQ0, Lib.hid (Below.refl _ _), by simp⟩
  case round =>
    clear HQ0
    obtain ⟨bs, i, hi, rfl, hown, HQ, HB, hlen⟩ := hrel
    by_cases hlt : i < s.size
    · have hb0 := bl_get s i hlt
      have hc256 : s[i].toNat < 256 := UInt8.toNat_lt _
      by_cases hq : s[i].toNat = 34
      · have hqf : ((s[i].toNat : Int) != 34) = false := by simp; omega
        have HDN := Lib.hid (show ∀ q rest, (bl s).drop a = 34 :: qrest q rest → bs = q ∧ (bl s).drop (i + 1) = rest from fun q rest e => by
          have h := HQ.out
          rw [hb0, show s[i] = 34 from UInt8.toNat_inj.1 hq] at h
          exact h.done e)
        have hge : ¬ (s.size : Int) ≤ (i : Int) := by omega
        have hconv := bytes_str hown.drew
        have HQT := Lib.hid (fun wq => show Calls Tryd.prog 102 #[.string ⟨bs.toArray⟩] wq (fun e w' => e = .returned (.string ⟨(quoteList bs).toArray⟩) ∧ Below wq.heap.size wq w') from refQuoted_any ⟨bs.toArray⟩ wq (by show bs.length ≤ 1000000; omega))
        have hw1 : IntKind.i64.wrap ((i : Int) + 1) = ((i + 1 : Nat) : Int) := IntWalk.i64_in _ (by omega)
        have hai : a ≤ i + 1 := by omega
        have hil : i + 1 ≤ s.size := by omega
        have hai' : (a : Int) ≤ (i : Int) + 1 := by omega
        have hil' : (i : Int) + 1 ≤ (s.size : Int) := by omega
        have h0i : (0 : Int) ≤ (i : Int) + 1 := by omega
        have hti : ((i : Int) + 1).toNat = i + 1 := by omega
        have HEX := Lib.hid (show bl (s.extract a (i + 1)) = ((bl s).drop a).take (i + 1 - a) from bl_extract s a (i + 1))
        have HTD := Lib.hid (show (bl s).drop a = ((bl s).drop a).take (i + 1 - a) ++ (bl s).drop (i + 1) from by
          have h := List.take_append_drop (i + 1 - a) ((bl s).drop a)
          rw [List.drop_drop, show a + (i + 1 - a) = i + 1 by omega] at h
          exact h.symm)
        clear HQ hb0
        by_cases heq : quoteList bs = bl (s.extract a (i + 1))
        · have hc : (quoteList bs == (s.extract a (i + 1)).toList) = true := by rw [Lib.toList_data]; exact beq_iff_eq.2 heq
          have HOK := Lib.hid (show (bl s).drop a = quoteList bs ++ (bl s).drop (i + 1) from by rw [heq, HEX.out]; exact HTD.out)
          clear heq HEX HTD
          go_upto_region 17 with fail
          go_region_held3 (fun w' => (convert 111 9 u6).run Tryd.prog w' = .ok (.string ⟨bs.toArray⟩) w') (first | with_reducible exact hconv | with_reducible exact hconv5) ((go_at_call 102; refine (HQT.out _).mono ?_; rintro e w5 ⟨rfl, hb5⟩; have own5 := hown.drew.keeps hb5; have hconv5 := bytes_str own5; have HB5 := Lib.hid (HB.out.trans (((Below.refl _ _).drew.trans hb5).mono HB.out.size)); clear hb5))
          all_goals
            go_wp2
            go_ret2
            exact ⟨HB5.out, ⟨bs.toArray⟩, ((i + 1 : Nat) : Int), rfl, .inr ⟨i + 1, rfl, by omega, by omega, by show bs.length ≤ s.size; omega, HOK.out, fun q rest e => by obtain ⟨e1, e2⟩ := HDN.out q rest e; exact ⟨e1.symm, e2.symm⟩⟩⟩
        · have hc : (quoteList bs == (s.extract a (i + 1)).toList) = false := by rw [Lib.toList_data]; exact beq_eq_false_iff_ne.2 heq
          have HBAD := Lib.hid (show ∀ q rest, (bl s).drop a ≠ 34 :: qrest q rest from fun q rest e => by
            obtain ⟨e1, e2⟩ := HDN.out q rest e
            have h := HTD.out
            rw [← HEX.out] at h
            rw [e, ← quote_rest, ← e1, ← e2] at h
            exact heq (List.append_cancel_right h))
          clear heq HEX HTD
          go_upto_region 17 with fail
          go_region_held3 (fun w' => (convert 111 9 u6).run Tryd.prog w' = .ok (.string ⟨bs.toArray⟩) w') (first | with_reducible exact hconv | with_reducible exact hconv5) ((go_at_call 102; refine (HQT.out _).mono ?_; rintro e w5 ⟨rfl, hb5⟩; have own5 := hown.drew.keeps hb5; have hconv5 := bytes_str own5; have HB5 := Lib.hid (HB.out.trans (((Below.refl _ _).drew.trans hb5).mono HB.out.size)); clear hb5))
          all_goals
            go_wp2
            go_ret2
            exact ⟨HB5.out, ⟨#[]⟩, -1, rfl, .inl ⟨rfl, rfl, HBAD.out⟩⟩
      have hqf : ((s[i].toNat : Int) != 34) = true := by simp; omega
      by_cases h92 : s[i].toNat = 92
      · have h92f : ((s[i].toNat : Int) != 92) = false := by simp; omega
        have hb92 : (bl s).drop i = (92 : UInt8) :: (bl s).drop (i + 1) := by rw [hb0, show s[i] = 92 from UInt8.toNat_inj.1 h92]
        by_cases h1 : i + 1 < s.size
        · have hb1 := bl_get s (i + 1) h1
          have hc256b : s[i + 1].toNat < 256 := UInt8.toNat_lt _
          by_cases h110 : s[i + 1].toNat = 110
          · have h110f : ((s[i + 1].toNat : Int) == 110) = true := by simp; omega
            have HQN := Lib.hid (show QCond ((bl s).drop a) (bs ++ [10]) ((bl s).drop (i + 2)) from by
              have h := HQ.out
              rw [hb92, hb1, show s[i + 1] = 110 from UInt8.toNat_inj.1 h110] at h
              exact h.nl)
            clear HQ hb0 hb1 hb92
            go_wp2_with (at_builtin; refine wpList_append_byte rfl _ _ 111 rfl Tryd.underlying111 w.heap.size _ bs rfl (hown.alloc _) _ _ 10 rfl ?c1 ?c2 ?c3 ?_)
            case c1 => simp
            case c2 => omega
            case c3 => have := HB.out.size; simp; omega
            intro v' w3 hown' hgrow _
            have HB3 := Lib.hid ((HB.out.alloc HB.out.size _).grown hgrow (by have := HB.out.size; simp; omega) (fun k hk => (hown.lt k hk).1))
            clear hown hgrow
            go_wp2
            go_roundw
            case rel => exact ⟨bs ++ [10], i + 2, by omega, by go_num, hown', HQN, HB3, by simp; omega⟩
            case measure => simp [intOf]; omega
          have h110f : ((s[i + 1].toNat : Int) == 110) = false := by simp; omega
          by_cases hes : s[i + 1].toNat = 34 ∨ s[i + 1].toNat = 92
          · have HQN := Lib.hid (show QCond ((bl s).drop a) (bs ++ [s[i + 1]]) ((bl s).drop (i + 2)) from by
              have h := HQ.out
              rw [hb92, hb1] at h
              exact h.esc h110 (fun e => by omega))
            clear HQ hb0 hb1 hb92
            rcases hes with hes | hes
            · have q34 : ((s[i + 1].toNat : Int) == 34) = true := by simp; omega
              go_wp2_with (at_builtin; refine wpList_append_byte rfl _ _ 111 rfl Tryd.underlying111 w.heap.size _ bs rfl (hown.alloc _) _ _ s[i + 1] rfl ?c1 ?c2 ?c3 ?_)
              case c1 => simp [hes]
              case c2 => omega
              case c3 => have := HB.out.size; simp; omega
              intro v' w3 hown' hgrow _
              have HB3 := Lib.hid ((HB.out.alloc HB.out.size _).grown hgrow (by have := HB.out.size; simp; omega) (fun k hk => (hown.lt k hk).1))
              clear hown hgrow
              go_wp2
              go_roundw
              case rel => exact ⟨bs ++ [s[i + 1]], i + 2, by omega, by go_num, hown', HQN, HB3, by simp; omega⟩
              case measure => simp [intOf]; omega
            · have q34 : ((s[i + 1].toNat : Int) == 34) = false := by simp; omega
              have q92 : ((s[i + 1].toNat : Int) == 92) = true := by simp; omega
              go_wp2_with (at_builtin; refine wpList_append_byte rfl _ _ 111 rfl Tryd.underlying111 w.heap.size _ bs rfl (hown.alloc _) _ _ s[i + 1] rfl ?c1 ?c2 ?c3 ?_)
              case c1 => simp [hes]
              case c2 => omega
              case c3 => have := HB.out.size; simp; omega
              intro v' w3 hown' hgrow _
              have HB3 := Lib.hid ((HB.out.alloc HB.out.size _).grown hgrow (by have := HB.out.size; simp; omega) (fun k hk => (hown.lt k hk).1))
              clear hown hgrow
              go_wp2
              go_roundw
              case rel => exact ⟨bs ++ [s[i + 1]], i + 2, by omega, by go_num, hown', HQN, HB3, by simp; omega⟩
              case measure => simp [intOf]; omega
          have q34 : ((s[i + 1].toNat : Int) == 34) = false := by simp; omega
          have q92 : ((s[i + 1].toNat : Int) == 92) = false := by simp; omega
          have hne3 : s[i + 1].toNat ≠ 34 ∧ s[i + 1].toNat ≠ 92 ∧ s[i + 1].toNat ≠ 110 := by omega
          clear hes
          by_cases h120 : s[i + 1].toNat = 120
          · have q120 : ((s[i + 1].toNat : Int) == 120) = true := by simp; omega
            by_cases h3 : i + 3 < s.size
            · have q3 : (i : Int) + 3 < (s.size : Int) := by omega
              have hb2 := bl_get s (i + 2) (by omega)
              have hb3 := bl_get s (i + 3) h3
              have hx2 : s[i + 2].toNat < 256 := UInt8.toNat_lt _
              have hx3 : s[i + 3].toNat < 256 := UInt8.toNat_lt _
              have hl2 := digV_lt s[i + 2]
              have hl3 := digV_lt s[i + 3]
              have HXX := Lib.hid (show QCond ((bl s).drop a) (bs ++ [UInt8.ofNat (16 * digV s[i + 2] + digV s[i + 3]).toNat]) ((bl s).drop (i + 4)) from by
                have h := HQ.out
                rw [hb92, hb1, hb2, hb3, show s[i + 1] = 120 from UInt8.toNat_inj.1 h120] at h
                exact h.hex (hexIs_dig _ _))
              have HBX := Lib.hid (fun (hd : digV s[i + 2] < 0 ∨ digV s[i + 3] < 0) => show ∀ q rest, (bl s).drop a ≠ 34 :: qrest q rest from by
                have h := HQ.out
                rw [hb92] at h
                refine h.bad (fun c l e => ?_) (fun g1 g2 l e => ?_)
                · rw [hb1] at e; injection e with e _; rw [← e]; exact hne3
                · rw [hb1, hb2, hb3] at e; injection e with _ e; injection e with e1 e; injection e with e2 _; rw [← e1, ← e2]; exact hd)
              clear HQ hb0 hb1 hb92 hb2 hb3
              by_cases hd1 : 0 ≤ digV s[i + 2]
              · by_cases hd2 : 0 ≤ digV s[i + 3]
                · go_wp2_with (go_at_call 121; refine (refDigit_any _ _).mono ?_; rintro e w' ⟨rfl, rfl⟩)
                  have HV := Lib.hid (show (IntKind.u8.wrap (16 * digV s[i + 2] + digV s[i + 3])) = ((UInt8.ofNat (16 * digV s[i + 2] + digV s[i + 3]).toNat).toNat : Int) from wrap_byte _ (by omega) (by omega))
                  have hw2 : IntKind.i64.wrap ((i : Int) + 2) = ((i + 2 : Nat) : Int) := IntWalk.i64_in _ (by omega)
                  have hw3 : IntKind.i64.wrap ((i : Int) + 3) = ((i + 3 : Nat) : Int) := IntWalk.i64_in _ (by omega)
                  have hwm : IntKind.i64.wrap (16 * digV s[i + 2]) = 16 * digV s[i + 2] := IntWalk.i64_in _ (by omega)
                  have hwa : IntKind.i64.wrap (16 * digV s[i + 2] + digV s[i + 3]) = 16 * digV s[i + 2] + digV s[i + 3] := IntWalk.i64_in _ (by omega)
                  have hn2 : i + 2 < s.size := by omega
                  have ht2 : ((i : Int) + 2).toNat = i + 2 := by omega
                  have ht3 : ((i : Int) + 3).toNat = i + 3 := by omega
                  have h16 : 0 ≤ 16 * digV s[i + 2] ∧ 16 * digV s[i + 2] < 256 := by omega
                  go_region_law (first
                    | (go_simp; go_at_call 121; refine (refDigit_any _ _).mono ?_; rintro e w5 ⟨rfl, rfl⟩)
                    | (refine step_append_one rfl (.tmp 109) (.tmp 123) 111 rfl tByte Tryd.underlying111 infoU8 rfl (by decide) w.heap.size _ bs rfl (hown.drew.alloc _) _ _ (UInt8.ofNat (16 * digV s[i + 2] + digV s[i + 3]).toNat) rfl [.int .u8 (IntKind.u8.wrap (16 * digV s[i + 2] + digV s[i + 3]))] (fun j u hj => by
                        match j, hj with
                        | 0, hj => simp at hj; subst hj; simp [mem]) (by show [_] = [_]; rw [HV.out]) (fun u hu => by simp at hu; subst hu; rfl) (by unfold maxLen; omega) (by omega) (by simp; have := HB.out.size; omega) ?_; intro v' w3 hown' hgrow _))
                  all_goals
                    have HB3 := Lib.hid (((Below.trans HB.out (Below.refl _ _).drew).alloc HB.out.size _).grown hgrow (by have := HB.out.size; simp; omega) (fun k hk => (hown.lt k hk).1))
                    clear hown hgrow
                    go_wp2
                    go_roundw
                    case rel => exact ⟨bs ++ [UInt8.ofNat (16 * digV s[i + 2] + digV s[i + 3]).toNat], i + 4, by omega, by go_num, hown', HXX, HB3, by simp; omega⟩
                    case measure => simp [intOf]; omega
                · have HBAD := Lib.hid (HBX.out (.inr (by omega)))
                  go_wp2_with (go_at_call 121; refine (refDigit_any _ _).mono ?_; rintro e w' ⟨rfl, rfl⟩)
                  try rw [Exit.noGoto_ret]
                  go_ret2
                  exact ⟨HB.out, ⟨#[]⟩, -1, rfl, .inl ⟨rfl, rfl, HBAD.out⟩⟩
              · have HBAD := Lib.hid (HBX.out (.inl (by omega)))
                go_wp2_with (go_at_call 121; refine (refDigit_any _ _).mono ?_; rintro e w' ⟨rfl, rfl⟩)
                try rw [Exit.noGoto_ret]
                go_ret2
                exact ⟨HB.out, ⟨#[]⟩, -1, rfl, .inl ⟨rfl, rfl, HBAD.out⟩⟩
            · have q3 : ¬ (i : Int) + 3 < (s.size : Int) := by omega
              have HBAD := Lib.hid (show ∀ q rest, (bl s).drop a ≠ 34 :: qrest q rest from by
                have h := HQ.out
                rw [hb92] at h
                refine h.bad (fun c l e => ?_) (fun g1 g2 l e => ?_)
                · rw [hb1] at e; injection e with e _; rw [← e]; exact hne3
                · have := congrArg List.length e; rw [List.length_drop, bl_len] at this; simp at this; omega)
              clear HQ hb0 hb1 hb92
              go_wp2
              try rw [Exit.noGoto_ret]
              go_ret2
              exact ⟨HB.out, ⟨#[]⟩, -1, rfl, .inl ⟨rfl, rfl, HBAD.out⟩⟩
          · have q120 : ((s[i + 1].toNat : Int) == 120) = false := by simp; omega
            have HBAD := Lib.hid (show ∀ q rest, (bl s).drop a ≠ 34 :: qrest q rest from by
              have h := HQ.out
              rw [hb92] at h
              refine h.bad (fun c l e => ?_) (fun g1 g2 l e => ?_)
              · rw [hb1] at e; injection e with e _; rw [← e]; exact hne3
              · rw [hb1] at e; injection e with e _; exact absurd (by rw [e]; rfl) h120)
            clear HQ hb0 hb1 hb92
            go_wp2
            all_goals
              try rw [Exit.noGoto_ret]
              go_ret2
              exact ⟨HB.out, ⟨#[]⟩, -1, rfl, .inl ⟨rfl, rfl, HBAD.out⟩⟩
        · have q1 : ¬ (i : Int) + 1 < (s.size : Int) := by omega
          have HBAD := Lib.hid (show ∀ q rest, (bl s).drop a ≠ 34 :: qrest q rest from by
            have h := HQ.out
            rw [hb92] at h
            have hn : (bl s).drop (i + 1) = [] := List.drop_eq_nil_of_le (by rw [bl_len]; omega)
            refine h.bad (fun c l e => ?_) (fun g1 g2 l e => ?_)
            · rw [hn] at e; cases e
            · rw [hn] at e; cases e)
          clear HQ hb0 hb92
          go_wp2
          try rw [Exit.noGoto_ret]
          go_ret2
          exact ⟨HB.out, ⟨#[]⟩, -1, rfl, .inl ⟨rfl, rfl, HBAD.out⟩⟩
      · have h92f : ((s[i].toNat : Int) != 92) = true := by simp; omega
        have HQN := Lib.hid (show QCond ((bl s).drop a) (bs ++ [s[i]]) ((bl s).drop (i + 1)) from (hb0 ▸ HQ.out : QCond ((bl s).drop a) bs (s[i] :: (bl s).drop (i + 1))).plain hq h92)
        clear HQ hb0
        go_wp2_with (at_builtin; refine wpList_append_byte rfl _ _ 111 rfl Tryd.underlying111 w.heap.size _ bs rfl (hown.alloc _) _ _ s[i] rfl ?c1 ?c2 ?c3 ?_)
        case c1 => simp
        case c2 => omega
        case c3 => have := HB.out.size; simp; omega
        intro v' w3 hown' hgrow _
        have HB3 := Lib.hid ((HB.out.alloc HB.out.size _).grown hgrow (by have := HB.out.size; simp; omega) (fun k hk => (hown.lt k hk).1))
        clear hown hgrow
        go_wp2
        go_roundw
        case rel => exact ⟨bs ++ [s[i]], i + 1, by omega, by go_num, hown', HQN, HB3, by simp; omega⟩
        case measure => simp [intOf]; omega
    · obtain rfl : i = s.size := by omega
      have HBAD := Lib.hid (show ∀ q rest, (bl s).drop a ≠ 34 :: qrest q rest from fun q rest e => by
        have h := HQ.out
        rw [show (bl s).drop s.size = [] from List.drop_eq_nil_of_le (by rw [bl_len]; exact Nat.le_refl _)] at h
        exact h.none e)
      clear HQ
      have hge : (s.size : Int) ≤ (s.size : Int) := Int.le_refl _
      go_upto_region 17 with fail
      go_quiet (fail)
      all_goals
        go_wp2
        go_ret2
        exact ⟨HB.out.trans ⟨rfl, rfl, rfl, Nat.le_refl _, fun _ _ => rfl⟩, ⟨#[]⟩, -1, rfl, .inl ⟨rfl, rfl, HBAD.out⟩⟩
end Go.Proofs.YtkldimaoafgolaaDoor
/- The reference's Number at this program. -/
namespace Go.Proofs.YtkldimaoafgolaaDoor
open Go.RowKit Go.Lib

/-- What is known of a numeral read up to place k. -/
structure DigUpto (l : List UInt8) (f k N : Nat) : Prop where
  dig : ∀ j (hj : j < l.length), f ≤ j → j < k → isDig l[j] = true
  val : N = dval 0 ((l.drop f).take (k - f))
theorem DigUpto.start (l : List UInt8) (f : Nat) : DigUpto l f f 0 := ⟨fun j _ h1 h2 => by omega, by rw [Nat.sub_self, List.take_zero]; rfl⟩
theorem DigUpto.next {l : List UInt8} {f k N : Nat} (h : DigUpto l f k N) (hf : f ≤ k) (hk : k < l.length) (hd : isDig l[k] = true) : Hid (DigUpto l f (k + 1) (10 * N + (l[k].toNat - 48))) := Lib.hid (by
  refine ⟨fun j hj h1 h2 => ?_, ?_⟩
  · by_cases e : j = k
    · subst e; exact hd
    · exact h.dig j hj h1 (by omega)
  · have e : k + 1 - f = (k - f) + 1 := by omega
    have hlen : k - f < (l.drop f).length := by rw [List.length_drop]; omega
    rw [e, List.take_succ_eq_append_getElem hlen, dval_snoc, ← h.val, List.getElem_drop]
    have e2 : f + (k - f) = k := by omega
    simp only [e2]
    omega)
/-- The sign ahead: f bytes are passed by. -/
structure Ahead (l : List UInt8) (f : Nat) : Prop where
  tail : numTail l = l.drop f
  neg : numNeg l = decide (f = 1)
  le : f ≤ l.length
theorem DigUpto.bad {l : List UInt8} {f k N : Nat} (a : Ahead l f) (h : DigUpto l f k N) (hk : k < l.length) (hf : f ≤ k) (hd : isDig l[k] = false) : numberOf l = (0, false) := by
  unfold numberOf
  rw [if_neg]
  rintro ⟨h1, _⟩
  rw [a.tail, List.all_eq_true] at h1
  have := h1 l[k] (List.mem_drop_iff_getElem.2 ⟨k - f, by omega, by congr 1; omega⟩)
  rw [hd] at this; cases this
theorem DigUpto.long {l : List UInt8} {f k N : Nat} (a : Ahead l f) (h : DigUpto l f k N) (hk : k < l.length) (hd : isDig l[k] = true) (e : k = f + 18) : numberOf l = (0, false) := by
  unfold numberOf
  rw [if_neg]
  rintro ⟨_, h2⟩
  rw [a.tail, List.length_drop] at h2
  omega
theorem DigUpto.done {l : List UInt8} {f N : Nat} (a : Ahead l f) (h : DigUpto l f l.length N) (h18 : l.length ≤ f + 18) : numberOf l = (if f = 1 then -(N : Int) else (N : Int), decide (f < l.length)) := by
  have hle := a.le
  have e : (l.drop f).take (l.length - f) = l.drop f := List.take_of_length_le (by rw [List.length_drop]; exact Nat.le_refl _)
  have hv := h.val
  rw [e] at hv
  have hall : (l.drop f).all isDig = true := List.all_eq_true.2 (fun c hc => by
    obtain ⟨i, hi, rfl⟩ := List.getElem_of_mem hc
    rw [List.getElem_drop]
    rw [List.length_drop] at hi
    exact h.dig (f + i) (by omega) (by omega) (by omega))
  have hl18 : (l.drop f).length ≤ 18 := by rw [List.length_drop]; omega
  unfold numberOf
  rw [a.tail, a.neg, if_pos ⟨hall, hl18⟩, ← hv, List.length_drop]
  refine Prod.ext ?_ (decide_eq_decide.2 (by omega))
  simp only [decide_eq_true_eq]
theorem ahead_empty {l : List UInt8} (h : l.length = 0) : Ahead l 0 := by
  obtain rfl := List.length_eq_zero_iff.1 h
  exact ⟨rfl, rfl, Nat.le_refl _⟩
theorem ahead_minus {l : List UInt8} (h : 0 < l.length) (e : l[0] = 45) : Ahead l 1 := by
  cases l with
  | nil => simp at h
  | cons c r =>
    obtain rfl : c = 45 := e
    exact ⟨by simp [numTail], by simp [numNeg], by simp⟩
theorem ahead_plain {l : List UInt8} (h : 0 < l.length) (e : l[0] ≠ 45) : Ahead l 0 := by
  cases l with
  | nil => simp at h
  | cons c r =>
    have e : c ≠ 45 := e
    exact ⟨by simp [numTail, e], by simp [numNeg, e], by simp⟩

set_option maxRecDepth 100000 in
set_option maxHeartbeats 4000000 in
theorem number_any (s : ByteArray) (w : World) (hs : s.size ≤ maxLen) :
    Calls Tryd.prog 107 #[.string s] w fun e w' => e = .returned (.tuple #[.int .i64 (numberOf s.data.toList).1, .bool (numberOf s.data.toList).2]) ∧ w = w' := by
  unfold maxLen at hs
  have hlen : s.data.toList.length = s.size := rfl
  by_cases h0 : s.size = 0
  · have HE := Lib.hid (ahead_empty (l := s.data.toList) (by rw [hlen]; exact h0))
    have h0' : ¬ 0 < s.size := by omega
    clear h0
    go_enter Tryd.func107, Tryd.ntmps107
    go_wp2
    go_loop [5, 6] (fun nv i => ∃ k : Nat, 0 ≤ k ∧ k ≤ s.size ∧ k ≤ 0 + 18 ∧ i = .int .i64 k ∧ ∃ N : Nat, nv = .int .i64 (N : Int) ∧ N < 10 ^ (k - 0) ∧ Hid (DigUpto s.data.toList 0 k N)) (fun _ i => s.size - (RowKit.intOf i).toNat)
    case atStart => exact ⟨0, by omega, by omega, by omega, rfl, 0, rfl, by simp, Lib.hid (DigUpto.start _ _)⟩
    case round =>
      obtain ⟨k, hk0, hk, hk18, rfl, N, rfl, hN, HT⟩ := hrel
      have hN18 : N < 1000000000000000000 := by
        have : 10 ^ (k - 0) ≤ 10 ^ 18 := Nat.pow_le_pow_right (by decide) (by omega)
        have e18 : (10 : Nat) ^ 18 = 1000000000000000000 := by decide
        omega
      by_cases hlt : k < s.size
      · exact absurd hlt (by omega)
      · obtain rfl : k = s.size := by omega
        have HQ := Lib.hid (show numberOf s.data.toList = ((N : Int), false) from (DigUpto.done HE.out HT.out hk18).trans (Prod.ext (by simp) (by show decide _ = _; rw [hlen]; first | exact decide_eq_true (by omega) | exact decide_eq_false (by omega) | exact decide_eq_decide.2 (by omega))))
        clear HT hN
        go_wp2
        go_ret2
        exact ⟨by rw [HQ.out]; rfl, rfl⟩

  · have h0' : 0 < s.size := by omega
    have hc0 : (s.data.toList[0]'(by rw [hlen]; exact h0')) = s[0] := rfl
    by_cases h45 : s[0] = 45
    · have HE := Lib.hid (ahead_minus (l := s.data.toList) (by rw [hlen]; exact h0') (hc0.trans h45))
      have e45 : (((s[0]).toNat : Int) == 45) = true := by rw [h45]; rfl
      clear h0 h45 hc0
      go_enter Tryd.func107, Tryd.ntmps107
      go_wp2
      go_loop [5, 6] (fun nv i => ∃ k : Nat, 1 ≤ k ∧ k ≤ s.size ∧ k ≤ 1 + 18 ∧ i = .int .i64 k ∧ ∃ N : Nat, nv = .int .i64 (N : Int) ∧ N < 10 ^ (k - 1) ∧ Hid (DigUpto s.data.toList 1 k N)) (fun _ i => s.size - (RowKit.intOf i).toNat)
      case atStart => exact ⟨1, by omega, by omega, by omega, rfl, 0, rfl, by simp, Lib.hid (DigUpto.start _ _)⟩
      case round =>
        obtain ⟨k, hk0, hk, hk18, rfl, N, rfl, hN, HT⟩ := hrel
        have hN18 : N < 1000000000000000000 := by
          have : 10 ^ (k - 1) ≤ 10 ^ 18 := Nat.pow_le_pow_right (by decide) (by omega)
          have e18 : (10 : Nat) ^ 18 = 1000000000000000000 := by decide
          omega
        by_cases hlt : k < s.size
        · have hb1 : 0 ≤ ((s[k]).toNat : Int) := by omega
          have hb2 : ((s[k]).toNat : Int) ≤ 255 := by have := (s[k]).toNat_lt; omega
          have HX := Lib.hid (fun (h : isDig (s.data.toList[k]'(by simpa using hlt)) = false) => DigUpto.bad HE.out HT.out (k := k) (by simpa using hlt) hk0 h)
          have HL := Lib.hid (fun (h : isDig (s.data.toList[k]'(by simpa using hlt)) = true) h2 => DigUpto.long HE.out HT.out (k := k) (by simpa using hlt) h h2)
          have HN := Lib.hid (fun (h : isDig (s.data.toList[k]'(by simpa using hlt)) = true) => DigUpto.next HT.out hk0 (k := k) (by simpa using hlt) h)
          have HP := Lib.hid hN
          have hcd : (s.data.toList[k]'(by simpa using hlt)) = s[k] := rfl
          rw [hcd] at HX HL HN
          clear HT hN hcd
          by_cases h1 : ((s[k]).toNat : Int) < 48
          · have HQ := Lib.hid (HX.out (by unfold isDig; simp; omega))
            clear HX HL HN
            go_wp2
            go_ret2
            exact ⟨by rw [HQ.out]; rfl, rfl⟩
          · by_cases h2 : 57 < ((s[k]).toNat : Int)
            · have HQ := Lib.hid (HX.out (by unfold isDig; simp; omega))
              clear HX HL HN
              go_wp2
              go_ret2
              exact ⟨by rw [HQ.out]; rfl, rfl⟩
            · have HD := Lib.hid (show isDig s[k] = true by unfold isDig; simp; omega)
              by_cases h3 : k = 1 + 18
              · have HQ := Lib.hid (HL.out HD.out h3)
                clear HX HL HN
                have h4 : 18 ≤ (k : Int) - 1 := by omega
                clear h3
                go_wp2
                go_ret2
                exact ⟨by rw [HQ.out]; rfl, rfl⟩
              · have HQ := Lib.hid (HN.out HD.out)
                have hN17 : N < 100000000000000000 := by
                  have : 10 ^ (k - 1) ≤ 10 ^ 17 := Nat.pow_le_pow_right (by decide) (by omega)
                  have e17 : (10 : Nat) ^ 17 = 100000000000000000 := by decide
                  have := HP.out
                  omega
                have HPN := Lib.hid (show 10 * N + ((s[k]).toNat - 48) < 10 ^ (k + 1 - 1) by
                  have e : k + 1 - 1 = (k - 1) + 1 := by omega
                  rw [e, Nat.pow_succ]
                  have := HP.out
                  omega)
                have h4 : ¬ 18 ≤ (k : Int) - 1 := by omega
                clear HX HL HN HP
                go_wp2
                go_round
                case rel => exact ⟨k + 1, by omega, by omega, by omega, by go_num, 10 * N + ((s[k]).toNat - 48), by congr 1; omega, HPN.out, HQ.out⟩
                case measure => simp [RowKit.intOf]; omega
        · obtain rfl : k = s.size := by omega
          have HQ := Lib.hid (show numberOf s.data.toList = (-(N : Int), decide ((1 : Int) < (s.size : Int))) from (DigUpto.done HE.out HT.out hk18).trans (Prod.ext (by simp) (by show decide _ = _; rw [hlen]; first | exact decide_eq_true (by omega) | exact decide_eq_false (by omega) | exact decide_eq_decide.2 (by omega))))
          clear HT hN
          go_wp2
          go_ret2
          exact ⟨by rw [HQ.out]; rfl, rfl⟩

    · have HE := Lib.hid (ahead_plain (l := s.data.toList) (by rw [hlen]; exact h0') (fun e => h45 (hc0.symm.trans e)))
      have e45 : (((s[0]).toNat : Int) == 45) = false := by
        simp only [beq_eq_false_iff_ne]
        intro e
        exact h45 (UInt8.toNat_inj.1 (by show (s[0]).toNat = 45; omega))
      clear h0 h45 hc0
      go_enter Tryd.func107, Tryd.ntmps107
      go_wp2
      go_loop [5, 6] (fun nv i => ∃ k : Nat, 0 ≤ k ∧ k ≤ s.size ∧ k ≤ 0 + 18 ∧ i = .int .i64 k ∧ ∃ N : Nat, nv = .int .i64 (N : Int) ∧ N < 10 ^ (k - 0) ∧ Hid (DigUpto s.data.toList 0 k N)) (fun _ i => s.size - (RowKit.intOf i).toNat)
      case atStart => exact ⟨0, by omega, by omega, by omega, rfl, 0, rfl, by simp, Lib.hid (DigUpto.start _ _)⟩
      case round =>
        obtain ⟨k, hk0, hk, hk18, rfl, N, rfl, hN, HT⟩ := hrel
        have hN18 : N < 1000000000000000000 := by
          have : 10 ^ (k - 0) ≤ 10 ^ 18 := Nat.pow_le_pow_right (by decide) (by omega)
          have e18 : (10 : Nat) ^ 18 = 1000000000000000000 := by decide
          omega
        by_cases hlt : k < s.size
        · have hb1 : 0 ≤ ((s[k]).toNat : Int) := by omega
          have hb2 : ((s[k]).toNat : Int) ≤ 255 := by have := (s[k]).toNat_lt; omega
          have HX := Lib.hid (fun (h : isDig (s.data.toList[k]'(by simpa using hlt)) = false) => DigUpto.bad HE.out HT.out (k := k) (by simpa using hlt) hk0 h)
          have HL := Lib.hid (fun (h : isDig (s.data.toList[k]'(by simpa using hlt)) = true) h2 => DigUpto.long HE.out HT.out (k := k) (by simpa using hlt) h h2)
          have HN := Lib.hid (fun (h : isDig (s.data.toList[k]'(by simpa using hlt)) = true) => DigUpto.next HT.out hk0 (k := k) (by simpa using hlt) h)
          have HP := Lib.hid hN
          have hcd : (s.data.toList[k]'(by simpa using hlt)) = s[k] := rfl
          rw [hcd] at HX HL HN
          clear HT hN hcd
          by_cases h1 : ((s[k]).toNat : Int) < 48
          · have HQ := Lib.hid (HX.out (by unfold isDig; simp; omega))
            clear HX HL HN
            go_wp2
            go_ret2
            exact ⟨by rw [HQ.out]; rfl, rfl⟩
          · by_cases h2 : 57 < ((s[k]).toNat : Int)
            · have HQ := Lib.hid (HX.out (by unfold isDig; simp; omega))
              clear HX HL HN
              go_wp2
              go_ret2
              exact ⟨by rw [HQ.out]; rfl, rfl⟩
            · have HD := Lib.hid (show isDig s[k] = true by unfold isDig; simp; omega)
              by_cases h3 : k = 0 + 18
              · have HQ := Lib.hid (HL.out HD.out h3)
                clear HX HL HN
                have h4 : 18 ≤ (k : Int) - 0 := by omega
                clear h3
                go_wp2
                go_ret2
                exact ⟨by rw [HQ.out]; rfl, rfl⟩
              · have HQ := Lib.hid (HN.out HD.out)
                have hN17 : N < 100000000000000000 := by
                  have : 10 ^ (k - 0) ≤ 10 ^ 17 := Nat.pow_le_pow_right (by decide) (by omega)
                  have e17 : (10 : Nat) ^ 17 = 100000000000000000 := by decide
                  have := HP.out
                  omega
                have HPN := Lib.hid (show 10 * N + ((s[k]).toNat - 48) < 10 ^ (k + 1 - 0) by
                  have e : k + 1 - 0 = (k - 0) + 1 := by omega
                  rw [e, Nat.pow_succ]
                  have := HP.out
                  omega)
                have h4 : ¬ 18 ≤ (k : Int) - 0 := by omega
                clear HX HL HN HP
                go_wp2
                go_round
                case rel => exact ⟨k + 1, by omega, by omega, by omega, by go_num, 10 * N + ((s[k]).toNat - 48), by congr 1; omega, HPN.out, HQ.out⟩
                case measure => simp [RowKit.intOf]; omega
        · obtain rfl : k = s.size := by omega
          have HQ := Lib.hid (show numberOf s.data.toList = ((N : Int), true) from (DigUpto.done HE.out HT.out hk18).trans (Prod.ext (by simp) (by show decide _ = _; rw [hlen]; first | exact decide_eq_true (by omega) | exact decide_eq_false (by omega) | exact decide_eq_decide.2 (by omega))))
          clear HT hN
          go_wp2
          go_ret2
          exact ⟨by rw [HQ.out]; rfl, rfl⟩

end Go.Proofs.YtkldimaoafgolaaDoor
/- The reference's value: one value of a text from a place on. -/
namespace Go.Proofs.YtkldimaoafgolaaDoor
open Go.RowKit

theorem below_then {w X w9 : World} (h1 : Below w.heap.size w X) (h2 : Keeps (fun k => k = w.heap.size) X w9) : Below w.heap.size w w9 :=
  ⟨h2.os.trans h1.os, h2.tape.trans h1.tape, h2.output.trans h1.output, Nat.le_trans h1.size h2.size, fun k hk => (h2.block k (by have := h1.size; omega) (by omega)).trans (h1.block k hk)⟩
/-- What value gives. -/
def VPost (s : ByteArray) (a : Nat) (w : World) (e : Ending) (w' : World) : Prop := Below w.heap.size w w' ∧ ∃ (x : Val) (n : Int), e = .returned (.tuple #[valV x, .int .i64 n]) ∧ (inI64 x.kind ∧ inI64 x.n ∧ x.s.size ≤ s.size) ∧
  ((n = -1 ∧ ∀ y rest, validVal y = true → (bl s).drop a = valText y ++ rest → Ends rest → False) ∨ ∃ m : Nat, n = m ∧ a < m ∧ m ≤ s.size ∧ (bl s).drop a = valText x ++ (bl s).drop m ∧ ∀ y rest, validVal y = true → (bl s).drop a = valText y ++ rest → Ends rest → x = y ∧ (bl s).drop m = rest)
theorem val_small {y : Val} (h : validVal y = true) (k : y.kind = 1) : -1000000000000000 ≤ y.n ∧ y.n ≤ 1000000000000000 := by
  obtain ⟨yk, yn, ys⟩ := y
  simp only at k
  subst k
  rw [validVal_1] at h
  simp only [Bool.and_eq_true, decide_eq_true_eq] at h
  exact h.1
theorem numberOf_i64 {l : List UInt8} {n : Int} (h : numberOf l = (n, true)) : inI64 n := by
  unfold numberOf at h
  split at h
  · rename_i hc
    have hd := dval_lt (numTail l) 0 0 (by decide) (fun c hc' => List.all_eq_true.1 hc.1 c hc')
    have h18 : 10 ^ (0 + (numTail l).length) ≤ 10 ^ 18 := Nat.pow_le_pow_right (by decide) (by have := hc.2; omega)
    have e18 : (10 : Nat) ^ 18 = 1000000000000000000 := by decide
    injection h with h _
    unfold inI64
    split at h <;> omega
  · injection h with h _
    rw [← h]; unfold inI64; simp
/-- What was read up to the first comma is the text of a number, or no canonical text lies there. -/
theorem num_place (s : ByteArray) (a j : Nat) (haj : a ≤ j) (hj : j ≤ s.size) (hno : ∀ k (hk : k < s.size), a ≤ k → k < j → s[k].toNat ≠ 44) (hend : j = s.size ∨ ∃ h : j < s.size, s[j].toNat = 44) (hf : ∀ h : a < s.size, s[a].toNat ≠ 34 ∧ s[a].toNat ≠ 126) :
    ∀ y rest, validVal y = true → (bl s).drop a = valText y ++ rest → Ends rest → y = ⟨1, y.n, ⟨#[]⟩⟩ ∧ bl (s.extract a j) = Lib.itoa y.n ∧ (bl s).drop j = rest ∧ numberOf (bl (s.extract a j)) = (y.n, true) := fun y rest hv e hr => by
  have hfst : ∀ c l, (bl s).drop a = c :: l → c.toNat ≠ 34 ∧ c.toNat ≠ 126 := fun c l e => by
    have h0 : a < s.size := by
      rcases Nat.lt_or_ge a s.size with h | h
      · exact h
      · rw [List.drop_eq_nil_of_le (by rw [bl_len]; exact h)] at e; cases e
    have := bl_get s a h0
    rw [e] at this
    injection this with e1 _
    rw [e1]; exact hf h0
  rcases val_first hv with ⟨k, e1⟩ | ⟨k, e1, _⟩ | ⟨k, e1⟩
  · rw [e1] at e; exact absurd rfl (hfst _ _ e).2
  · obtain ⟨g1, g2⟩ := val_eq1 hv k
    obtain ⟨g3, g4⟩ := val_small hv k
    rw [e1] at e
    have hL : (Lib.itoa y.n).length = j - a := by
      have hlen := congrArg List.length e
      rw [List.length_drop, List.length_append, bl_len] at hlen
      rcases Nat.lt_trichotomy (Lib.itoa y.n).length (j - a) with g | g | g
      · -- the rest begins with a comma, ahead of j
        rcases hr with rfl | ⟨r, rfl⟩
        · rw [List.length_nil] at hlen
          rcases hend with rfl | ⟨h, _⟩ <;> omega
        · have hk : a + (Lib.itoa y.n).length < s.size := by omega
          have h44 : (bl s)[a + (Lib.itoa y.n).length]? = some 44 := by
            rw [← List.getElem?_drop, e, List.getElem?_append_right (Nat.le_refl _)]; simp
          have h2 : (bl s)[a + (Lib.itoa y.n).length]? = some s[a + (Lib.itoa y.n).length] := List.getElem?_eq_getElem (l := bl s) hk
          rw [h2] at h44
          injection h44 with h44
          exact absurd (by rw [h44]; rfl) (hno _ hk (by omega) (by omega))
      · exact g
      · rcases hend with rfl | ⟨h, h44⟩
        · omega
        · have h2 : (bl s)[j]? = some s[j] := List.getElem?_eq_getElem (l := bl s) h
          have h3 : (Lib.itoa y.n)[j - a]? = some 44 := by
            rw [← List.getElem?_append_left (l₂ := rest) g, ← e, List.getElem?_drop, show a + (j - a) = j by omega, h2, show s[j] = 44 from UInt8.toNat_inj.1 h44]
          exact absurd h3 itoa_no44
    have hx : bl (s.extract a j) = Lib.itoa y.n := by
      rw [bl_extract, e, ← hL]; simp
    refine ⟨g1, hx, ?_, by rw [hx]; exact numberOf_itoa y.n (by omega) (by omega)⟩
    have := congrArg (List.drop (Lib.itoa y.n).length) e
    rw [List.drop_drop, List.drop_left, hL, show a + (j - a) = j by omega] at this
    exact this
  · rw [e1, quote_rest] at e; exact absurd rfl (hfst _ _ e).1

set_option maxRecDepth 100000 in
set_option maxHeartbeats 4000000 in
theorem refValue_any (s : ByteArray) (a : Nat) (w : World) (ha : a ≤ s.size) (hs : s.size ≤ 100000) (ht : Tryd.Tab w) :
    Calls Tryd.prog 87 #[.string s, .int .i64 a] w (VPost s a w) := by
  have HT := Lib.hid ht
  clear ht
  go_enter Tryd.func87, Tryd.ntmps87
  go_upto_region 1 with fail
  have HY := Lib.hid (And.intro ((Below.refl w.heap.size w).alloc (Nat.le_refl _) (.cells #[.int .i64 0, .int .i64 0, .string ⟨#[]⟩] 30)) (heap_alloc_new w (.cells #[.int .i64 0, .int .i64 0, .string ⟨#[]⟩] 30)))
  have HSY := Lib.hid (show (w.alloc (.cells #[.int .i64 0, .int .i64 0, .string ⟨#[]⟩] 30)).heap.size = w.heap.size + 1 by simp)
  generalize w.alloc (.cells #[.int .i64 0, .int .i64 0, .string ⟨#[]⟩] 30) = Y at HY HSY ⊢
  by_cases hlt : a < s.size
  · have hb0 := Lib.hid (bl_get s a hlt)
    have hc256 : s[a].toNat < 256 := UInt8.toNat_lt _
    by_cases h126 : s[a].toNat = 126
    · have q126 : ((s[a].toNat : Int) == 126) = true := by simp; omega
      have HP := Lib.hid (show (bl s).drop a = valText ⟨0, 0, ⟨#[]⟩⟩ ++ (bl s).drop (a + 1) ∧ ∀ y rest, validVal y = true → (bl s).drop a = valText y ++ rest → Ends rest → (⟨0, 0, ⟨#[]⟩⟩ : Val) = y ∧ (bl s).drop (a + 1) = rest from by
        have hq := hb0.out
        rw [show s[a] = 126 from UInt8.toNat_inj.1 h126] at hq
        refine ⟨hq, fun y rest hv e _ => ?_⟩
        rcases val_first hv with ⟨k, e1⟩ | ⟨_, _, c, l, e1, _, e2⟩ | ⟨k, e1⟩
        · rw [e1, hq] at e; injection e with _ e
          exact ⟨(val_eq0 hv k).symm, e⟩
        · rw [e1, hq] at e; injection e with e _; exact absurd (by rw [← e]; rfl) e2
        · rw [e1, hq, quote_rest] at e; injection e with e _; cases e)
      have yR := HY.out.2
      clear hb0
      have m0 : Y.cell? ⟨w.heap.size, 0, none⟩ = some (.int .i64 0) := mem_cells yR 0
      have m1 : Y.cell? ⟨w.heap.size, 1, none⟩ = some (.int .i64 0) := mem_cells yR 1
      have m2 : Y.cell? ⟨w.heap.size, 2, none⟩ = some (.string ⟨#[]⟩) := mem_cells yR 2
      have fR : ∀ o, Y.frozen? ⟨w.heap.size, o, none⟩ = false := frozen_cells yR
      go_wp2
      have r1 := set3_block yR (.int .i64 0) (.int .i64 0) (.string ⟨#[]⟩)
      have hk3 := set3_keeps Y w.heap.size (.int .i64 0) (.int .i64 0) (.string ⟨#[]⟩)
      show bodyPost _ _ _ _ _ (set3 Y w.heap.size (.int .i64 0) (.int .i64 0) (.string ⟨#[]⟩))
      generalize set3 Y w.heap.size (.int .i64 0) (.int .i64 0) (.string ⟨#[]⟩) = w9 at r1 hk3 ⊢
      have hK9 : Below w.heap.size w w9 := below_then HY.out.1 hk3
      have g0 : w9.cell? ⟨w.heap.size, 0, none⟩ = some (.int .i64 0) := mem_cells r1 0
      have g1 : w9.cell? ⟨w.heap.size, 1, none⟩ = some (.int .i64 0) := mem_cells r1 1
      have g2 : w9.cell? ⟨w.heap.size, 2, none⟩ = some (.string ⟨#[]⟩) := mem_cells r1 2
      exact bodyPost_ret (v := .tuple #[.agg #[.int .i64 0, .int .i64 0, .string ⟨#[]⟩], .int .i64 ((a + 1 : Nat) : Int)]) (by simp [results, Tryd.results87, go_sem, g0, g1, g2]) rfl ⟨hK9, ⟨0, 0, ⟨#[]⟩⟩, ((a + 1 : Nat) : Int), rfl, ⟨by unfold inI64; simp, by unfold inI64; simp, by show 0 ≤ s.size; omega⟩, .inr ⟨a + 1, rfl, by omega, by omega, HP.out⟩⟩
    have q126 : ((s[a].toNat : Int) == 126) = false := by simp; omega
    by_cases h34 : s[a].toNat = 34
    · have q34 : ((s[a].toNat : Int) == 34) = true := by simp; omega
      have HU := Lib.hid (refUnq_any s a Y hlt h34 hs)
      have hq := hb0.out
      rw [show s[a] = 34 from UInt8.toNat_inj.1 h34] at hq
      have HQ := Lib.hid hq
      clear hb0 hq
      go_wp2_with fail
      refine HU.out.mono ?_
      rintro e w5 ⟨hb5, t, n, rfl, hpost⟩
      have yR := (hb5.block w.heap.size (by have := HSY.out; omega)).trans HY.out.2
      have HB5 := Lib.hid (HY.out.1.trans (hb5.mono (by have := HSY.out; omega)))
      have HTT := Lib.hid (show ∀ y rest, validVal y = true → (bl s).drop a = valText y ++ rest → y.kind = 2 ∧ (bl s).drop a = 34 :: qrest (bl y.s) rest from fun y rest hv e => by
        rcases val_first hv with ⟨k, e1⟩ | ⟨_, _, c, l, e1, e2, _⟩ | ⟨k, e1⟩
        · rw [e1, HQ.out] at e; injection e with e _; cases e
        · rw [e1, HQ.out] at e; injection e with e _; exact absurd (by rw [← e]; rfl) e2
        · exact ⟨k, by rw [e, e1, quote_rest]⟩)
      rcases hpost with ⟨rfl, rfl, hno⟩ | ⟨m, rfl, hm1, hm2, hm3, hm4, hm5⟩
      · have HNO := Lib.hid (show ∀ y rest, validVal y = true → (bl s).drop a = valText y ++ rest → Ends rest → False from fun y rest hv e _ => hno _ _ (HTT.out y rest hv e).2)
        clear hno hb5
        have m0 : w5.cell? ⟨w.heap.size, 0, none⟩ = some (.int .i64 0) := mem_cells yR 0
        have m1 : w5.cell? ⟨w.heap.size, 1, none⟩ = some (.int .i64 0) := mem_cells yR 1
        have m2 : w5.cell? ⟨w.heap.size, 2, none⟩ = some (.string ⟨#[]⟩) := mem_cells yR 2
        have fR : ∀ o, w5.frozen? ⟨w.heap.size, o, none⟩ = false := frozen_cells yR
        go_wp2
        have r1 := set3_block yR (.int .i64 2) (.int .i64 0) (.string ⟨#[]⟩)
        have hk3 := set3_keeps w5 w.heap.size (.int .i64 2) (.int .i64 0) (.string ⟨#[]⟩)
        show bodyPost _ _ _ _ _ (set3 w5 w.heap.size (.int .i64 2) (.int .i64 0) (.string ⟨#[]⟩))
        generalize set3 w5 w.heap.size (.int .i64 2) (.int .i64 0) (.string ⟨#[]⟩) = w9 at r1 hk3 ⊢
        have hK9 : Below w.heap.size w w9 := below_then HB5.out hk3
        have g0 : w9.cell? ⟨w.heap.size, 0, none⟩ = some (.int .i64 2) := mem_cells r1 0
        have g1 : w9.cell? ⟨w.heap.size, 1, none⟩ = some (.int .i64 0) := mem_cells r1 1
        have g2 : w9.cell? ⟨w.heap.size, 2, none⟩ = some (.string ⟨#[]⟩) := mem_cells r1 2
        exact bodyPost_ret (v := .tuple #[.agg #[.int .i64 2, .int .i64 0, .string ⟨#[]⟩], .int .i64 (-1)]) (by simp [results, Tryd.results87, go_sem, g0, g1, g2]) rfl ⟨hK9, ⟨2, 0, ⟨#[]⟩⟩, (-1), rfl, ⟨by unfold inI64; simp, by unfold inI64; simp, by show 0 ≤ s.size; omega⟩, .inl ⟨rfl, HNO.out⟩⟩
      · have HP := Lib.hid (show (bl s).drop a = valText ⟨2, 0, t⟩ ++ (bl s).drop m ∧ ∀ y rest, validVal y = true → (bl s).drop a = valText y ++ rest → Ends rest → (⟨2, 0, t⟩ : Val) = y ∧ (bl s).drop m = rest from ⟨hm4, fun y rest hv e _ => by
          obtain ⟨k, e2⟩ := HTT.out y rest hv e
          obtain ⟨g1, g2⟩ := hm5 _ _ e2
          exact ⟨by rw [val_eq2 hv k, g1]; rfl, g2.symm⟩⟩)
        clear hm4 hm5 hb5
        have m0 : w5.cell? ⟨w.heap.size, 0, none⟩ = some (.int .i64 0) := mem_cells yR 0
        have m1 : w5.cell? ⟨w.heap.size, 1, none⟩ = some (.int .i64 0) := mem_cells yR 1
        have m2 : w5.cell? ⟨w.heap.size, 2, none⟩ = some (.string ⟨#[]⟩) := mem_cells yR 2
        have fR : ∀ o, w5.frozen? ⟨w.heap.size, o, none⟩ = false := frozen_cells yR
        go_wp2
        have r1 := set3_block yR (.int .i64 2) (.int .i64 0) (.string t)
        have hk3 := set3_keeps w5 w.heap.size (.int .i64 2) (.int .i64 0) (.string t)
        show bodyPost _ _ _ _ _ (set3 w5 w.heap.size (.int .i64 2) (.int .i64 0) (.string t))
        generalize set3 w5 w.heap.size (.int .i64 2) (.int .i64 0) (.string t) = w9 at r1 hk3 ⊢
        have hK9 : Below w.heap.size w w9 := below_then HB5.out hk3
        have g0 : w9.cell? ⟨w.heap.size, 0, none⟩ = some (.int .i64 2) := mem_cells r1 0
        have g1 : w9.cell? ⟨w.heap.size, 1, none⟩ = some (.int .i64 0) := mem_cells r1 1
        have g2 : w9.cell? ⟨w.heap.size, 2, none⟩ = some (.string t) := mem_cells r1 2
        exact bodyPost_ret (v := .tuple #[.agg #[.int .i64 2, .int .i64 0, .string t], .int .i64 (m : Int)]) (by simp [results, Tryd.results87, go_sem, g0, g1, g2]) rfl ⟨hK9, ⟨2, 0, t⟩, (m : Int), rfl, ⟨by unfold inI64; simp, by unfold inI64; simp, hm3⟩, .inr ⟨m, rfl, hm1, hm2, HP.out⟩⟩
    have q34 : ((s[a].toNat : Int) == 34) = false := by simp; omega
    have HF := Lib.hid (show ∀ h : a < s.size, s[a].toNat ≠ 34 ∧ s[a].toNat ≠ 126 from fun _ => ⟨h34, h126⟩)
    clear hb0
    go_wp2
    go_loopw [8] (fun jv wr => ∃ j, a ≤ j ∧ j ≤ s.size ∧ jv = .int .i64 j ∧ Y = wr ∧ Hid (∀ k (hk : k < s.size), a ≤ k → k < j → s[k].toNat ≠ 44)) (fun jv _ => s.size - (intOf jv).toNat)
    case atStart => exact ⟨a, by omega, ha, rfl, by first | trivial | rfl, Lib.hid (fun k hk h1 h2 => by omega)⟩
    case round =>
      obtain ⟨j, haj, hj, rfl, rfl, HNC⟩ := hrel
      by_cases hjl : j < s.size
      · have hjc : s[j].toNat < 256 := UInt8.toNat_lt _
        by_cases h44 : s[j].toNat = 44
        · have q44 : ((s[j].toNat : Int) != 44) = false := by simp; omega
          have HEND := Lib.hid (show j = s.size ∨ ∃ h : j < s.size, s[j].toNat = 44 from .inr ⟨hjl, h44⟩)
          have HPL := Lib.hid (num_place s a j haj hj HNC.out HEND.out HF.out)
          have HNU := Lib.hid (number_any (s.extract a j) Y (by rw [ByteArray.size_extract]; unfold maxLen; omega))
          clear HNC HEND
          go_wp2_with fail
          refine HNU.out.mono ?_
          rintro e w' ⟨rfl, rfl⟩
          clear HNU
          generalize hnum : numberOf (s.extract a j).data.toList = no
          obtain ⟨n, ok⟩ := no
          have HNM := Lib.hid (show numberOf (bl (s.extract a j)) = (n, ok) from hnum)
          clear hnum
          cases ok with
          | false =>
            have HNO := Lib.hid (show ∀ y rest, validVal y = true → (bl s).drop a = valText y ++ rest → Ends rest → False from fun y rest hv e hr => by
              have h := (HPL.out y rest hv e hr).2.2.2
              rw [HNM.out] at h
              injection h with _ h; cases h)
            clear HNM HPL
            go_upto_region 10 with fail
            go_quiet (fail)
            have HBX := Lib.hid (show Below w.heap.size w (Y.drewN nq) from HY.out.1.trans ⟨rfl, rfl, rfl, Nat.le_refl _, fun _ _ => rfl⟩)
            have yR : (Y.drewN nq).heap[w.heap.size]? = some (.cells #[.int .i64 0, .int .i64 0, .string ⟨#[]⟩] 30 (0, 0)) := HY.out.2
            generalize Y.drewN nq = X at HBX yR ⊢
            have m0 : X.cell? ⟨w.heap.size, 0, none⟩ = some (.int .i64 0) := mem_cells yR 0
            have m1 : X.cell? ⟨w.heap.size, 1, none⟩ = some (.int .i64 0) := mem_cells yR 1
            have m2 : X.cell? ⟨w.heap.size, 2, none⟩ = some (.string ⟨#[]⟩) := mem_cells yR 2
            have fR : ∀ o, X.frozen? ⟨w.heap.size, o, none⟩ = false := frozen_cells yR
            go_wp2
            have r1 := set3_block yR (.int .i64 0) (.int .i64 0) (.string ⟨#[]⟩)
            have hk3 := set3_keeps X w.heap.size (.int .i64 0) (.int .i64 0) (.string ⟨#[]⟩)
            show bodyPost _ _ _ _ _ (set3 X w.heap.size (.int .i64 0) (.int .i64 0) (.string ⟨#[]⟩))
            generalize set3 X w.heap.size (.int .i64 0) (.int .i64 0) (.string ⟨#[]⟩) = w9 at r1 hk3 ⊢
            have hK9 : Below w.heap.size w w9 := below_then HBX.out hk3
            have g0 : w9.cell? ⟨w.heap.size, 0, none⟩ = some (.int .i64 0) := mem_cells r1 0
            have g1 : w9.cell? ⟨w.heap.size, 1, none⟩ = some (.int .i64 0) := mem_cells r1 1
            have g2 : w9.cell? ⟨w.heap.size, 2, none⟩ = some (.string ⟨#[]⟩) := mem_cells r1 2
            exact bodyPost_ret (v := .tuple #[.agg #[.int .i64 0, .int .i64 0, .string ⟨#[]⟩], .int .i64 (-1)]) (by simp [results, Tryd.results87, go_sem, g0, g1, g2]) rfl ⟨hK9, ⟨0, 0, ⟨#[]⟩⟩, (-1), rfl, ⟨by unfold inI64; simp, by unfold inI64; simp, by show 0 ≤ s.size; omega⟩, .inl ⟨rfl, HNO.out⟩⟩
          | true =>
            have HNI := Lib.hid (numberOf_i64 HNM.out)
            have HI := Lib.hid (fun wq h => itoa_any n HNI.out wq (Tryd.tabStays HT.out h))
            have haj' : (a : Int) ≤ (j : Int) := by omega
            have hj' : (j : Int) ≤ (s.size : Int) := by omega
            by_cases heq : Lib.itoa n = bl (s.extract a j)
            · have hc : (Lib.itoa n == (s.extract a j).toList) = true := by rw [Lib.toList_data]; exact beq_iff_eq.2 heq
              have HP := Lib.hid (show a < j ∧ (bl s).drop a = valText ⟨1, n, ⟨#[]⟩⟩ ++ (bl s).drop j ∧ ∀ y rest, validVal y = true → (bl s).drop a = valText y ++ rest → Ends rest → (⟨1, n, ⟨#[]⟩⟩ : Val) = y ∧ (bl s).drop j = rest from by
                have hx : bl (s.extract a j) = ((bl s).drop a).take (j - a) := bl_extract s a j
                refine ⟨?_, ?_, fun y rest hv e hr => ?_⟩
                · rcases Nat.lt_or_ge a j with g | g
                  · exact g
                  · rw [show j - a = 0 by omega, List.take_zero, ← heq] at hx
                    exact absurd hx (itoa_ne n)
                · have h := List.take_append_drop (j - a) ((bl s).drop a)
                  rw [← hx, ← heq, List.drop_drop, show a + (j - a) = j by omega] at h
                  exact h.symm
                · obtain ⟨g1, _, g3, g4⟩ := HPL.out y rest hv e hr
                  rw [HNM.out] at g4
                  injection g4 with g4 _
                  exact ⟨by rw [g1, g4], g3⟩)
              clear HNM HPL heq
              have y0 : Y.drew.heap[w.heap.size]? = some (.cells #[.int .i64 0, .int .i64 0, .string ⟨#[]⟩] 30 (0, 0)) := HY.out.2
              go_upto_region 10 with fail
              go_region_held3 (fun w' => w'.heap[w.heap.size]? = some (.cells #[.int .i64 0, .int .i64 0, .string ⟨#[]⟩] 30 (0, 0))) (first | with_reducible exact y0 | with_reducible exact yR) ((go_at_call 81; refine (HI.out _ HY.out.1.drew).mono ?_; rintro e w5 ⟨rfl, hb5⟩; have yR : w5.heap[w.heap.size]? = some (.cells #[.int .i64 0, .int .i64 0, .string ⟨#[]⟩] 30 (0, 0)) := (hb5.block w.heap.size (by show _ < Y.heap.size; have := HSY.out; omega)).trans HY.out.2))
              have HB5 := Lib.hid (HY.out.1.drew.trans (hb5.mono (by show _ ≤ Y.heap.size; have := HSY.out; omega)))
              clear hb5
              have m0 : w5.cell? ⟨w.heap.size, 0, none⟩ = some (.int .i64 0) := mem_cells yR 0
              have m1 : w5.cell? ⟨w.heap.size, 1, none⟩ = some (.int .i64 0) := mem_cells yR 1
              have m2 : w5.cell? ⟨w.heap.size, 2, none⟩ = some (.string ⟨#[]⟩) := mem_cells yR 2
              have fR : ∀ o, w5.frozen? ⟨w.heap.size, o, none⟩ = false := frozen_cells yR
              go_wp2
              have r1 := set3_block yR (.int .i64 1) (.int .i64 n) (.string ⟨#[]⟩)
              have hk3 := set3_keeps w5 w.heap.size (.int .i64 1) (.int .i64 n) (.string ⟨#[]⟩)
              show bodyPost _ _ _ _ _ (set3 w5 w.heap.size (.int .i64 1) (.int .i64 n) (.string ⟨#[]⟩))
              generalize set3 w5 w.heap.size (.int .i64 1) (.int .i64 n) (.string ⟨#[]⟩) = w9 at r1 hk3 ⊢
              have hK9 : Below w.heap.size w w9 := below_then HB5.out hk3
              have g0 : w9.cell? ⟨w.heap.size, 0, none⟩ = some (.int .i64 1) := mem_cells r1 0
              have g1 : w9.cell? ⟨w.heap.size, 1, none⟩ = some (.int .i64 n) := mem_cells r1 1
              have g2 : w9.cell? ⟨w.heap.size, 2, none⟩ = some (.string ⟨#[]⟩) := mem_cells r1 2
              exact bodyPost_ret (v := .tuple #[.agg #[.int .i64 1, .int .i64 n, .string ⟨#[]⟩], .int .i64 (j : Int)]) (by simp [results, Tryd.results87, go_sem, g0, g1, g2]) rfl ⟨hK9, ⟨1, n, ⟨#[]⟩⟩, (j : Int), rfl, ⟨by unfold inI64; simp, HNI.out, by show 0 ≤ s.size; omega⟩, .inr ⟨j, rfl, HP.out.1, hj, HP.out.2⟩⟩
            · have hc : (Lib.itoa n == (s.extract a j).toList) = false := by rw [Lib.toList_data]; exact beq_eq_false_iff_ne.2 heq
              have HNO := Lib.hid (show ∀ y rest, validVal y = true → (bl s).drop a = valText y ++ rest → Ends rest → False from fun y rest hv e hr => by
                obtain ⟨_, g2, _, g4⟩ := HPL.out y rest hv e hr
                rw [HNM.out] at g4
                injection g4 with g4 _
                exact heq (by rw [g4, g2]))
              clear HNM HPL heq
              have y0 : Y.drew.heap[w.heap.size]? = some (.cells #[.int .i64 0, .int .i64 0, .string ⟨#[]⟩] 30 (0, 0)) := HY.out.2
              go_upto_region 10 with fail
              go_region_held3 (fun w' => w'.heap[w.heap.size]? = some (.cells #[.int .i64 0, .int .i64 0, .string ⟨#[]⟩] 30 (0, 0))) (first | with_reducible exact y0 | with_reducible exact yR) ((go_at_call 81; refine (HI.out _ HY.out.1.drew).mono ?_; rintro e w5 ⟨rfl, hb5⟩; have yR : w5.heap[w.heap.size]? = some (.cells #[.int .i64 0, .int .i64 0, .string ⟨#[]⟩] 30 (0, 0)) := (hb5.block w.heap.size (by show _ < Y.heap.size; have := HSY.out; omega)).trans HY.out.2))
              have HB5 := Lib.hid (HY.out.1.drew.trans (hb5.mono (by show _ ≤ Y.heap.size; have := HSY.out; omega)))
              clear hb5
              have m0 : w5.cell? ⟨w.heap.size, 0, none⟩ = some (.int .i64 0) := mem_cells yR 0
              have m1 : w5.cell? ⟨w.heap.size, 1, none⟩ = some (.int .i64 0) := mem_cells yR 1
              have m2 : w5.cell? ⟨w.heap.size, 2, none⟩ = some (.string ⟨#[]⟩) := mem_cells yR 2
              have fR : ∀ o, w5.frozen? ⟨w.heap.size, o, none⟩ = false := frozen_cells yR
              go_wp2
              have r1 := set3_block yR (.int .i64 0) (.int .i64 0) (.string ⟨#[]⟩)
              have hk3 := set3_keeps w5 w.heap.size (.int .i64 0) (.int .i64 0) (.string ⟨#[]⟩)
              show bodyPost _ _ _ _ _ (set3 w5 w.heap.size (.int .i64 0) (.int .i64 0) (.string ⟨#[]⟩))
              generalize set3 w5 w.heap.size (.int .i64 0) (.int .i64 0) (.string ⟨#[]⟩) = w9 at r1 hk3 ⊢
              have hK9 : Below w.heap.size w w9 := below_then HB5.out hk3
              have g0 : w9.cell? ⟨w.heap.size, 0, none⟩ = some (.int .i64 0) := mem_cells r1 0
              have g1 : w9.cell? ⟨w.heap.size, 1, none⟩ = some (.int .i64 0) := mem_cells r1 1
              have g2 : w9.cell? ⟨w.heap.size, 2, none⟩ = some (.string ⟨#[]⟩) := mem_cells r1 2
              exact bodyPost_ret (v := .tuple #[.agg #[.int .i64 0, .int .i64 0, .string ⟨#[]⟩], .int .i64 (-1)]) (by simp [results, Tryd.results87, go_sem, g0, g1, g2]) rfl ⟨hK9, ⟨0, 0, ⟨#[]⟩⟩, (-1), rfl, ⟨by unfold inI64; simp, by unfold inI64; simp, by show 0 ≤ s.size; omega⟩, .inl ⟨rfl, HNO.out⟩⟩
        · have q44 : ((s[j].toNat : Int) != 44) = true := by simp; omega
          have HNC2 := Lib.hid (show ∀ k (hk : k < s.size), a ≤ k → k < j + 1 → s[k].toNat ≠ 44 from fun k hk h1 h2 => by
            rcases Nat.lt_or_ge k j with g | g
            · exact HNC.out k hk h1 g
            · obtain rfl : k = j := by omega
              exact h44)
          clear HNC
          go_wp2
          go_roundw
          case rel => exact ⟨j + 1, by omega, by omega, by go_num, by first | trivial | rfl, HNC2⟩
          case measure => simp [intOf]; omega
      · have HEND := Lib.hid (show j = s.size ∨ ∃ h : j < s.size, s[j].toNat = 44 from .inl (by omega))
        have HPL := Lib.hid (num_place s a j haj hj HNC.out HEND.out HF.out)
        have HNU := Lib.hid (number_any (s.extract a j) Y (by rw [ByteArray.size_extract]; unfold maxLen; omega))
        clear HNC HEND
        go_wp2_with fail
        refine HNU.out.mono ?_
        rintro e w' ⟨rfl, rfl⟩
        clear HNU
        generalize hnum : numberOf (s.extract a j).data.toList = no
        obtain ⟨n, ok⟩ := no
        have HNM := Lib.hid (show numberOf (bl (s.extract a j)) = (n, ok) from hnum)
        clear hnum
        cases ok with
        | false =>
          have HNO := Lib.hid (show ∀ y rest, validVal y = true → (bl s).drop a = valText y ++ rest → Ends rest → False from fun y rest hv e hr => by
            have h := (HPL.out y rest hv e hr).2.2.2
            rw [HNM.out] at h
            injection h with _ h; cases h)
          clear HNM HPL
          go_upto_region 10 with fail
          go_quiet (fail)
          have HBX := Lib.hid (show Below w.heap.size w (Y.drewN nq) from HY.out.1.trans ⟨rfl, rfl, rfl, Nat.le_refl _, fun _ _ => rfl⟩)
          have yR : (Y.drewN nq).heap[w.heap.size]? = some (.cells #[.int .i64 0, .int .i64 0, .string ⟨#[]⟩] 30 (0, 0)) := HY.out.2
          generalize Y.drewN nq = X at HBX yR ⊢
          have m0 : X.cell? ⟨w.heap.size, 0, none⟩ = some (.int .i64 0) := mem_cells yR 0
          have m1 : X.cell? ⟨w.heap.size, 1, none⟩ = some (.int .i64 0) := mem_cells yR 1
          have m2 : X.cell? ⟨w.heap.size, 2, none⟩ = some (.string ⟨#[]⟩) := mem_cells yR 2
          have fR : ∀ o, X.frozen? ⟨w.heap.size, o, none⟩ = false := frozen_cells yR
          go_wp2
          have r1 := set3_block yR (.int .i64 0) (.int .i64 0) (.string ⟨#[]⟩)
          have hk3 := set3_keeps X w.heap.size (.int .i64 0) (.int .i64 0) (.string ⟨#[]⟩)
          show bodyPost _ _ _ _ _ (set3 X w.heap.size (.int .i64 0) (.int .i64 0) (.string ⟨#[]⟩))
          generalize set3 X w.heap.size (.int .i64 0) (.int .i64 0) (.string ⟨#[]⟩) = w9 at r1 hk3 ⊢
          have hK9 : Below w.heap.size w w9 := below_then HBX.out hk3
          have g0 : w9.cell? ⟨w.heap.size, 0, none⟩ = some (.int .i64 0) := mem_cells r1 0
          have g1 : w9.cell? ⟨w.heap.size, 1, none⟩ = some (.int .i64 0) := mem_cells r1 1
          have g2 : w9.cell? ⟨w.heap.size, 2, none⟩ = some (.string ⟨#[]⟩) := mem_cells r1 2
          exact bodyPost_ret (v := .tuple #[.agg #[.int .i64 0, .int .i64 0, .string ⟨#[]⟩], .int .i64 (-1)]) (by simp [results, Tryd.results87, go_sem, g0, g1, g2]) rfl ⟨hK9, ⟨0, 0, ⟨#[]⟩⟩, (-1), rfl, ⟨by unfold inI64; simp, by unfold inI64; simp, by show 0 ≤ s.size; omega⟩, .inl ⟨rfl, HNO.out⟩⟩
        | true =>
          have HNI := Lib.hid (numberOf_i64 HNM.out)
          have HI := Lib.hid (fun wq h => itoa_any n HNI.out wq (Tryd.tabStays HT.out h))
          have haj' : (a : Int) ≤ (j : Int) := by omega
          have hj' : (j : Int) ≤ (s.size : Int) := by omega
          by_cases heq : Lib.itoa n = bl (s.extract a j)
          · have hc : (Lib.itoa n == (s.extract a j).toList) = true := by rw [Lib.toList_data]; exact beq_iff_eq.2 heq
            have HP := Lib.hid (show a < j ∧ (bl s).drop a = valText ⟨1, n, ⟨#[]⟩⟩ ++ (bl s).drop j ∧ ∀ y rest, validVal y = true → (bl s).drop a = valText y ++ rest → Ends rest → (⟨1, n, ⟨#[]⟩⟩ : Val) = y ∧ (bl s).drop j = rest from by
              have hx : bl (s.extract a j) = ((bl s).drop a).take (j - a) := bl_extract s a j
              refine ⟨?_, ?_, fun y rest hv e hr => ?_⟩
              · rcases Nat.lt_or_ge a j with g | g
                · exact g
                · rw [show j - a = 0 by omega, List.take_zero, ← heq] at hx
                  exact absurd hx (itoa_ne n)
              · have h := List.take_append_drop (j - a) ((bl s).drop a)
                rw [← hx, ← heq, List.drop_drop, show a + (j - a) = j by omega] at h
                exact h.symm
              · obtain ⟨g1, _, g3, g4⟩ := HPL.out y rest hv e hr
                rw [HNM.out] at g4
                injection g4 with g4 _
                exact ⟨by rw [g1, g4], g3⟩)
            clear HNM HPL heq
            have y0 : Y.drew.heap[w.heap.size]? = some (.cells #[.int .i64 0, .int .i64 0, .string ⟨#[]⟩] 30 (0, 0)) := HY.out.2
            go_upto_region 10 with fail
            go_region_held3 (fun w' => w'.heap[w.heap.size]? = some (.cells #[.int .i64 0, .int .i64 0, .string ⟨#[]⟩] 30 (0, 0))) (first | with_reducible exact y0 | with_reducible exact yR) ((go_at_call 81; refine (HI.out _ HY.out.1.drew).mono ?_; rintro e w5 ⟨rfl, hb5⟩; have yR : w5.heap[w.heap.size]? = some (.cells #[.int .i64 0, .int .i64 0, .string ⟨#[]⟩] 30 (0, 0)) := (hb5.block w.heap.size (by show _ < Y.heap.size; have := HSY.out; omega)).trans HY.out.2))
            have HB5 := Lib.hid (HY.out.1.drew.trans (hb5.mono (by show _ ≤ Y.heap.size; have := HSY.out; omega)))
            clear hb5
            have m0 : w5.cell? ⟨w.heap.size, 0, none⟩ = some (.int .i64 0) := mem_cells yR 0
            have m1 : w5.cell? ⟨w.heap.size, 1, none⟩ = some (.int .i64 0) := mem_cells yR 1
            have m2 : w5.cell? ⟨w.heap.size, 2, none⟩ = some (.string ⟨#[]⟩) := mem_cells yR 2
            have fR : ∀ o, w5.frozen? ⟨w.heap.size, o, none⟩ = false := frozen_cells yR
            go_wp2
            have r1 := set3_block yR (.int .i64 1) (.int .i64 n) (.string ⟨#[]⟩)
            have hk3 := set3_keeps w5 w.heap.size (.int .i64 1) (.int .i64 n) (.string ⟨#[]⟩)
            show bodyPost _ _ _ _ _ (set3 w5 w.heap.size (.int .i64 1) (.int .i64 n) (.string ⟨#[]⟩))
            generalize set3 w5 w.heap.size (.int .i64 1) (.int .i64 n) (.string ⟨#[]⟩) = w9 at r1 hk3 ⊢
            have hK9 : Below w.heap.size w w9 := below_then HB5.out hk3
            have g0 : w9.cell? ⟨w.heap.size, 0, none⟩ = some (.int .i64 1) := mem_cells r1 0
            have g1 : w9.cell? ⟨w.heap.size, 1, none⟩ = some (.int .i64 n) := mem_cells r1 1
            have g2 : w9.cell? ⟨w.heap.size, 2, none⟩ = some (.string ⟨#[]⟩) := mem_cells r1 2
            exact bodyPost_ret (v := .tuple #[.agg #[.int .i64 1, .int .i64 n, .string ⟨#[]⟩], .int .i64 (j : Int)]) (by simp [results, Tryd.results87, go_sem, g0, g1, g2]) rfl ⟨hK9, ⟨1, n, ⟨#[]⟩⟩, (j : Int), rfl, ⟨by unfold inI64; simp, HNI.out, by show 0 ≤ s.size; omega⟩, .inr ⟨j, rfl, HP.out.1, hj, HP.out.2⟩⟩
          · have hc : (Lib.itoa n == (s.extract a j).toList) = false := by rw [Lib.toList_data]; exact beq_eq_false_iff_ne.2 heq
            have HNO := Lib.hid (show ∀ y rest, validVal y = true → (bl s).drop a = valText y ++ rest → Ends rest → False from fun y rest hv e hr => by
              obtain ⟨_, g2, _, g4⟩ := HPL.out y rest hv e hr
              rw [HNM.out] at g4
              injection g4 with g4 _
              exact heq (by rw [g4, g2]))
            clear HNM HPL heq
            have y0 : Y.drew.heap[w.heap.size]? = some (.cells #[.int .i64 0, .int .i64 0, .string ⟨#[]⟩] 30 (0, 0)) := HY.out.2
            go_upto_region 10 with fail
            go_region_held3 (fun w' => w'.heap[w.heap.size]? = some (.cells #[.int .i64 0, .int .i64 0, .string ⟨#[]⟩] 30 (0, 0))) (first | with_reducible exact y0 | with_reducible exact yR) ((go_at_call 81; refine (HI.out _ HY.out.1.drew).mono ?_; rintro e w5 ⟨rfl, hb5⟩; have yR : w5.heap[w.heap.size]? = some (.cells #[.int .i64 0, .int .i64 0, .string ⟨#[]⟩] 30 (0, 0)) := (hb5.block w.heap.size (by show _ < Y.heap.size; have := HSY.out; omega)).trans HY.out.2))
            have HB5 := Lib.hid (HY.out.1.drew.trans (hb5.mono (by show _ ≤ Y.heap.size; have := HSY.out; omega)))
            clear hb5
            have m0 : w5.cell? ⟨w.heap.size, 0, none⟩ = some (.int .i64 0) := mem_cells yR 0
            have m1 : w5.cell? ⟨w.heap.size, 1, none⟩ = some (.int .i64 0) := mem_cells yR 1
            have m2 : w5.cell? ⟨w.heap.size, 2, none⟩ = some (.string ⟨#[]⟩) := mem_cells yR 2
            have fR : ∀ o, w5.frozen? ⟨w.heap.size, o, none⟩ = false := frozen_cells yR
            go_wp2
            have r1 := set3_block yR (.int .i64 0) (.int .i64 0) (.string ⟨#[]⟩)
            have hk3 := set3_keeps w5 w.heap.size (.int .i64 0) (.int .i64 0) (.string ⟨#[]⟩)
            show bodyPost _ _ _ _ _ (set3 w5 w.heap.size (.int .i64 0) (.int .i64 0) (.string ⟨#[]⟩))
            generalize set3 w5 w.heap.size (.int .i64 0) (.int .i64 0) (.string ⟨#[]⟩) = w9 at r1 hk3 ⊢
            have hK9 : Below w.heap.size w w9 := below_then HB5.out hk3
            have g0 : w9.cell? ⟨w.heap.size, 0, none⟩ = some (.int .i64 0) := mem_cells r1 0
            have g1 : w9.cell? ⟨w.heap.size, 1, none⟩ = some (.int .i64 0) := mem_cells r1 1
            have g2 : w9.cell? ⟨w.heap.size, 2, none⟩ = some (.string ⟨#[]⟩) := mem_cells r1 2
            exact bodyPost_ret (v := .tuple #[.agg #[.int .i64 0, .int .i64 0, .string ⟨#[]⟩], .int .i64 (-1)]) (by simp [results, Tryd.results87, go_sem, g0, g1, g2]) rfl ⟨hK9, ⟨0, 0, ⟨#[]⟩⟩, (-1), rfl, ⟨by unfold inI64; simp, by unfold inI64; simp, by show 0 ≤ s.size; omega⟩, .inl ⟨rfl, HNO.out⟩⟩
  · have hltI : ¬ (a : Int) < (s.size : Int) := by omega
    have HF := Lib.hid (show ∀ h : a < s.size, s[a].toNat ≠ 34 ∧ s[a].toNat ≠ 126 from fun h => absurd h hlt)
    go_wp2
    go_loopw [8] (fun jv wr => ∃ j, a ≤ j ∧ j ≤ s.size ∧ jv = .int .i64 j ∧ Y = wr ∧ Hid (∀ k (hk : k < s.size), a ≤ k → k < j → s[k].toNat ≠ 44)) (fun jv _ => s.size - (intOf jv).toNat)
    case atStart => exact ⟨a, by omega, ha, rfl, by first | trivial | rfl, Lib.hid (fun k hk h1 h2 => by omega)⟩
    case round =>
      obtain ⟨j, haj, hj, rfl, rfl, HNC⟩ := hrel
      have HEND := Lib.hid (show j = s.size ∨ ∃ h : j < s.size, s[j].toNat = 44 from .inl (by omega))
      have HPL := Lib.hid (num_place s a j haj hj HNC.out HEND.out HF.out)
      have HNU := Lib.hid (number_any (s.extract a j) Y (by rw [ByteArray.size_extract]; unfold maxLen; omega))
      clear HNC HEND
      go_wp2_with fail
      refine HNU.out.mono ?_
      rintro e w' ⟨rfl, rfl⟩
      clear HNU
      generalize hnum : numberOf (s.extract a j).data.toList = no
      obtain ⟨n, ok⟩ := no
      have HNM := Lib.hid (show numberOf (bl (s.extract a j)) = (n, ok) from hnum)
      clear hnum
      cases ok with
      | false =>
        have HNO := Lib.hid (show ∀ y rest, validVal y = true → (bl s).drop a = valText y ++ rest → Ends rest → False from fun y rest hv e hr => by
          have h := (HPL.out y rest hv e hr).2.2.2
          rw [HNM.out] at h
          injection h with _ h; cases h)
        clear HNM HPL
        go_upto_region 10 with fail
        go_quiet (fail)
        have HBX := Lib.hid (show Below w.heap.size w (Y.drewN nq) from HY.out.1.trans ⟨rfl, rfl, rfl, Nat.le_refl _, fun _ _ => rfl⟩)
        have yR : (Y.drewN nq).heap[w.heap.size]? = some (.cells #[.int .i64 0, .int .i64 0, .string ⟨#[]⟩] 30 (0, 0)) := HY.out.2
        generalize Y.drewN nq = X at HBX yR ⊢
        have m0 : X.cell? ⟨w.heap.size, 0, none⟩ = some (.int .i64 0) := mem_cells yR 0
        have m1 : X.cell? ⟨w.heap.size, 1, none⟩ = some (.int .i64 0) := mem_cells yR 1
        have m2 : X.cell? ⟨w.heap.size, 2, none⟩ = some (.string ⟨#[]⟩) := mem_cells yR 2
        have fR : ∀ o, X.frozen? ⟨w.heap.size, o, none⟩ = false := frozen_cells yR
        go_wp2
        have r1 := set3_block yR (.int .i64 0) (.int .i64 0) (.string ⟨#[]⟩)
        have hk3 := set3_keeps X w.heap.size (.int .i64 0) (.int .i64 0) (.string ⟨#[]⟩)
        show bodyPost _ _ _ _ _ (set3 X w.heap.size (.int .i64 0) (.int .i64 0) (.string ⟨#[]⟩))
        generalize set3 X w.heap.size (.int .i64 0) (.int .i64 0) (.string ⟨#[]⟩) = w9 at r1 hk3 ⊢
        have hK9 : Below w.heap.size w w9 := below_then HBX.out hk3
        have g0 : w9.cell? ⟨w.heap.size, 0, none⟩ = some (.int .i64 0) := mem_cells r1 0
        have g1 : w9.cell? ⟨w.heap.size, 1, none⟩ = some (.int .i64 0) := mem_cells r1 1
        have g2 : w9.cell? ⟨w.heap.size, 2, none⟩ = some (.string ⟨#[]⟩) := mem_cells r1 2
        exact bodyPost_ret (v := .tuple #[.agg #[.int .i64 0, .int .i64 0, .string ⟨#[]⟩], .int .i64 (-1)]) (by simp [results, Tryd.results87, go_sem, g0, g1, g2]) rfl ⟨hK9, ⟨0, 0, ⟨#[]⟩⟩, (-1), rfl, ⟨by unfold inI64; simp, by unfold inI64; simp, by show 0 ≤ s.size; omega⟩, .inl ⟨rfl, HNO.out⟩⟩
      | true =>
        have HNI := Lib.hid (numberOf_i64 HNM.out)
        have HI := Lib.hid (fun wq h => itoa_any n HNI.out wq (Tryd.tabStays HT.out h))
        have haj' : (a : Int) ≤ (j : Int) := by omega
        have hj' : (j : Int) ≤ (s.size : Int) := by omega
        by_cases heq : Lib.itoa n = bl (s.extract a j)
        · have hc : (Lib.itoa n == (s.extract a j).toList) = true := by rw [Lib.toList_data]; exact beq_iff_eq.2 heq
          have HP := Lib.hid (show a < j ∧ (bl s).drop a = valText ⟨1, n, ⟨#[]⟩⟩ ++ (bl s).drop j ∧ ∀ y rest, validVal y = true → (bl s).drop a = valText y ++ rest → Ends rest → (⟨1, n, ⟨#[]⟩⟩ : Val) = y ∧ (bl s).drop j = rest from by
            have hx : bl (s.extract a j) = ((bl s).drop a).take (j - a) := bl_extract s a j
            refine ⟨?_, ?_, fun y rest hv e hr => ?_⟩
            · rcases Nat.lt_or_ge a j with g | g
              · exact g
              · rw [show j - a = 0 by omega, List.take_zero, ← heq] at hx
                exact absurd hx (itoa_ne n)
            · have h := List.take_append_drop (j - a) ((bl s).drop a)
              rw [← hx, ← heq, List.drop_drop, show a + (j - a) = j by omega] at h
              exact h.symm
            · obtain ⟨g1, _, g3, g4⟩ := HPL.out y rest hv e hr
              rw [HNM.out] at g4
              injection g4 with g4 _
              exact ⟨by rw [g1, g4], g3⟩)
          clear HNM HPL heq
          have y0 : Y.drew.heap[w.heap.size]? = some (.cells #[.int .i64 0, .int .i64 0, .string ⟨#[]⟩] 30 (0, 0)) := HY.out.2
          go_upto_region 10 with fail
          go_region_held3 (fun w' => w'.heap[w.heap.size]? = some (.cells #[.int .i64 0, .int .i64 0, .string ⟨#[]⟩] 30 (0, 0))) (first | with_reducible exact y0 | with_reducible exact yR) ((go_at_call 81; refine (HI.out _ HY.out.1.drew).mono ?_; rintro e w5 ⟨rfl, hb5⟩; have yR : w5.heap[w.heap.size]? = some (.cells #[.int .i64 0, .int .i64 0, .string ⟨#[]⟩] 30 (0, 0)) := (hb5.block w.heap.size (by show _ < Y.heap.size; have := HSY.out; omega)).trans HY.out.2))
          have HB5 := Lib.hid (HY.out.1.drew.trans (hb5.mono (by show _ ≤ Y.heap.size; have := HSY.out; omega)))
          clear hb5
          have m0 : w5.cell? ⟨w.heap.size, 0, none⟩ = some (.int .i64 0) := mem_cells yR 0
          have m1 : w5.cell? ⟨w.heap.size, 1, none⟩ = some (.int .i64 0) := mem_cells yR 1
          have m2 : w5.cell? ⟨w.heap.size, 2, none⟩ = some (.string ⟨#[]⟩) := mem_cells yR 2
          have fR : ∀ o, w5.frozen? ⟨w.heap.size, o, none⟩ = false := frozen_cells yR
          go_wp2
          have r1 := set3_block yR (.int .i64 1) (.int .i64 n) (.string ⟨#[]⟩)
          have hk3 := set3_keeps w5 w.heap.size (.int .i64 1) (.int .i64 n) (.string ⟨#[]⟩)
          show bodyPost _ _ _ _ _ (set3 w5 w.heap.size (.int .i64 1) (.int .i64 n) (.string ⟨#[]⟩))
          generalize set3 w5 w.heap.size (.int .i64 1) (.int .i64 n) (.string ⟨#[]⟩) = w9 at r1 hk3 ⊢
          have hK9 : Below w.heap.size w w9 := below_then HB5.out hk3
          have g0 : w9.cell? ⟨w.heap.size, 0, none⟩ = some (.int .i64 1) := mem_cells r1 0
          have g1 : w9.cell? ⟨w.heap.size, 1, none⟩ = some (.int .i64 n) := mem_cells r1 1
          have g2 : w9.cell? ⟨w.heap.size, 2, none⟩ = some (.string ⟨#[]⟩) := mem_cells r1 2
          exact bodyPost_ret (v := .tuple #[.agg #[.int .i64 1, .int .i64 n, .string ⟨#[]⟩], .int .i64 (j : Int)]) (by simp [results, Tryd.results87, go_sem, g0, g1, g2]) rfl ⟨hK9, ⟨1, n, ⟨#[]⟩⟩, (j : Int), rfl, ⟨by unfold inI64; simp, HNI.out, by show 0 ≤ s.size; omega⟩, .inr ⟨j, rfl, HP.out.1, hj, HP.out.2⟩⟩
        · have hc : (Lib.itoa n == (s.extract a j).toList) = false := by rw [Lib.toList_data]; exact beq_eq_false_iff_ne.2 heq
          have HNO := Lib.hid (show ∀ y rest, validVal y = true → (bl s).drop a = valText y ++ rest → Ends rest → False from fun y rest hv e hr => by
            obtain ⟨_, g2, _, g4⟩ := HPL.out y rest hv e hr
            rw [HNM.out] at g4
            injection g4 with g4 _
            exact heq (by rw [g4, g2]))
          clear HNM HPL heq
          have y0 : Y.drew.heap[w.heap.size]? = some (.cells #[.int .i64 0, .int .i64 0, .string ⟨#[]⟩] 30 (0, 0)) := HY.out.2
          go_upto_region 10 with fail
          go_region_held3 (fun w' => w'.heap[w.heap.size]? = some (.cells #[.int .i64 0, .int .i64 0, .string ⟨#[]⟩] 30 (0, 0))) (first | with_reducible exact y0 | with_reducible exact yR) ((go_at_call 81; refine (HI.out _ HY.out.1.drew).mono ?_; rintro e w5 ⟨rfl, hb5⟩; have yR : w5.heap[w.heap.size]? = some (.cells #[.int .i64 0, .int .i64 0, .string ⟨#[]⟩] 30 (0, 0)) := (hb5.block w.heap.size (by show _ < Y.heap.size; have := HSY.out; omega)).trans HY.out.2))
          have HB5 := Lib.hid (HY.out.1.drew.trans (hb5.mono (by show _ ≤ Y.heap.size; have := HSY.out; omega)))
          clear hb5
          have m0 : w5.cell? ⟨w.heap.size, 0, none⟩ = some (.int .i64 0) := mem_cells yR 0
          have m1 : w5.cell? ⟨w.heap.size, 1, none⟩ = some (.int .i64 0) := mem_cells yR 1
          have m2 : w5.cell? ⟨w.heap.size, 2, none⟩ = some (.string ⟨#[]⟩) := mem_cells yR 2
          have fR : ∀ o, w5.frozen? ⟨w.heap.size, o, none⟩ = false := frozen_cells yR
          go_wp2
          have r1 := set3_block yR (.int .i64 0) (.int .i64 0) (.string ⟨#[]⟩)
          have hk3 := set3_keeps w5 w.heap.size (.int .i64 0) (.int .i64 0) (.string ⟨#[]⟩)
          show bodyPost _ _ _ _ _ (set3 w5 w.heap.size (.int .i64 0) (.int .i64 0) (.string ⟨#[]⟩))
          generalize set3 w5 w.heap.size (.int .i64 0) (.int .i64 0) (.string ⟨#[]⟩) = w9 at r1 hk3 ⊢
          have hK9 : Below w.heap.size w w9 := below_then HB5.out hk3
          have g0 : w9.cell? ⟨w.heap.size, 0, none⟩ = some (.int .i64 0) := mem_cells r1 0
          have g1 : w9.cell? ⟨w.heap.size, 1, none⟩ = some (.int .i64 0) := mem_cells r1 1
          have g2 : w9.cell? ⟨w.heap.size, 2, none⟩ = some (.string ⟨#[]⟩) := mem_cells r1 2
          exact bodyPost_ret (v := .tuple #[.agg #[.int .i64 0, .int .i64 0, .string ⟨#[]⟩], .int .i64 (-1)]) (by simp [results, Tryd.results87, go_sem, g0, g1, g2]) rfl ⟨hK9, ⟨0, 0, ⟨#[]⟩⟩, (-1), rfl, ⟨by unfold inI64; simp, by unfold inI64; simp, by show 0 ≤ s.size; omega⟩, .inl ⟨rfl, HNO.out⟩⟩
end Go.Proofs.YtkldimaoafgolaaDoor
/- The reference's Parse, walked. -/
namespace Go.Proofs.YtkldimaoafgolaaDoor
open Go.RowKit

theorem left_snocF (l : List Val) (x : Val) : leftText (l ++ [x]) = l.flatMap (fun x => valText x ++ [44]) ++ valText x := by
  induction l with
  | nil => rw [List.nil_append, left_one]; rfl
  | cons y l ih =>
    cases l with
    | nil => simp [left_more, left_one]
    | cons z l =>
      show leftText (y :: z :: (l ++ [x])) = _
      rw [left_more, show z :: (l ++ [x]) = z :: l ++ [x] from rfl, ih]
      simp
/-- What the reference has read so far is the text ahead of the place. -/
def PSnd (t : ByteArray) (outs : List Val) (i : Nat) : Prop := (∀ x ∈ outs, validVal x = true) ∧ bl t = outs.flatMap (fun x => valText x ++ [44]) ++ (bl t).drop i
theorem PSnd.done {t : ByteArray} {outs : List Val} {i m : Nat} {x : Val} (h : PSnd t outs i) (hv : validVal x = true) (hx : (bl t).drop i = valText x ++ (bl t).drop m) (hm : t.size ≤ m) (h8 : outs.length < 8) : IsRow (outs ++ [x]) t := by
  have hr : validRow (outs ++ [x]) = true := by
    unfold validRow
    rw [Bool.and_eq_true, decide_eq_true_eq, List.all_eq_true]
    refine ⟨by simp; omega, fun y hy => ?_⟩
    rcases List.mem_append.1 hy with h1 | h1
    · exact h.1 y h1
    · rw [List.mem_singleton.1 h1]; exact hv
  refine ⟨hr, ?_⟩
  rw [left_row hr, left_snocF, h.2, hx, List.drop_eq_nil_of_le (by rw [bl_len]; exact hm), List.append_nil]
theorem PSnd.next {t : ByteArray} {outs : List Val} {i m : Nat} {x : Val} (h : PSnd t outs i) (hv : validVal x = true) (hx : (bl t).drop i = valText x ++ (bl t).drop m) (hm : m < t.size) (h44 : t[m].toNat = 44) : PSnd t (outs ++ [x]) (m + 1) := by
  refine ⟨fun y hy => ?_, ?_⟩
  · rcases List.mem_append.1 hy with h1 | h1
    · exact h.1 y h1
    · rw [List.mem_singleton.1 h1]; exact hv
  · refine h.2.trans ?_
    rw [hx, bl_get t m hm, show t[m] = 44 from UInt8.toNat_inj.1 h44]
    simp [List.flatMap_append]
theorem mid_next {t : ByteArray} {outs : List Val} {m : Nat} (h : PMid t outs (t.extract m t.size)) (hm : m < t.size) : (t[m].toNat = 44 → PCond t outs (t.extract (m + 1) t.size)) ∧ (t[m].toNat ≠ 44 → ∀ r, ¬ IsRow r t) := by
  have h0 : 0 < (t.extract m t.size).size := by rw [ByteArray.size_extract]; omega
  have e0 : (t.extract m t.size)[0] = t[m] := by
    have h1 := bl_get (t.extract m t.size) 0 h0
    rw [List.drop_zero, bl_tail, bl_get t m hm] at h1
    injection h1 with h1 _
    exact h1.symm
  have e1 : (t.extract m t.size).extract 1 (t.extract m t.size).size = t.extract (m + 1) t.size := bl_inj (by rw [bl_tail, bl_tail, bl_tail, List.drop_drop])
  have h2 := h.next h0
  rw [e0, e1] at h2
  exact h2
set_option maxRecDepth 100000 in
set_option maxHeartbeats 8000000 in
theorem refParse_any (t : ByteArray) (w : World) (hs : t.size ≤ 200000) (ht : Tryd.Tab w) :
    Calls Tryd.prog 49 #[.string t] w (ParseOut t w) := by
  have HT := Lib.hid ht
  clear ht
  go_enter Tryd.func49, Tryd.ntmps49
  by_cases h64 : 65536 < t.size
  · have h64i : (65536 : Int) < (t.size : Int) := by omega
    go_wp2
    go_ret2
    exact ⟨Below.refl _ _, .inl ⟨h64, rfl⟩⟩
  have h64i : (t.size : Int) ≤ 65536 := by omega
  have H64 := Lib.hid h64
  clear h64
  by_cases hz : t.size = 0
  · have hsl : t = ⟨#[]⟩ := bl_inj (List.length_eq_zero_iff.1 hz)
    have hem : t.toList.isEmpty = true := by
      rw [← decide_eq_emptyBytes]
      exact decide_eq_true (by rw [hsl]; rfl)
    have HR := Lib.hid (show IsRow [] t ∧ ∀ r', IsRow r' t → r' = [] from ⟨⟨rfl, by rw [hsl]; rfl⟩, fun r hr => row_empty hr (by rw [hsl]; rfl)⟩)
    have HO := Lib.hid (Owns.nil tVal w w.heap.size 30)
    clear hsl
    go_wp2
    go_ret2
    exact ⟨Below.refl _ _, .inr (.inr ⟨by have := H64.out; omega, [], _, HR.out, rfl, HO.out.rv (S := fun b => w.heap.size ≤ b) (fun b hb => by omega) (fun _ _ _ h => h)⟩)⟩
  have hemt : t.toList.isEmpty = false := by
    rw [← decide_eq_emptyBytes]
    exact decide_eq_false (fun h => hz (by rw [h]; rfl))
  have hz0 : PCond t [] (t.extract 0 t.size) := by
    rw [show t.extract 0 t.size = t from bl_inj (by rw [bl_tail, List.drop_zero])]
    exact PCond.start hz
  have HP0 := Lib.hid hz0
  have HS0 := Lib.hid (show PSnd t [] 0 from ⟨fun x hx => (by cases hx), by simp⟩)
  clear hz0
  go_wp2
  go_loopw [4, 5] (fun ov av wr => ∃ (outs : List Val) (i : Nat), i ≤ t.size ∧ av = .int .i64 i ∧ Owns tVal wr w.heap.size 30 ov outs ∧ Hid (Below w.heap.size w wr) ∧ Hid (PCond t outs (t.extract i t.size)) ∧ Hid (PSnd t outs i) ∧ outs.length ≤ 8) (fun _ av _ => t.size - (intOf av).toNat)
  case atStart => exact ⟨[], 0, by omega, rfl, Owns.nil _ _ _ _, Lib.hid (Below.refl _ _), HP0, HS0, by simp⟩
  case round =>
    clear HP0 HS0
    obtain ⟨outs, i, hi, rfl, hown, HB, HPC, HPS, hlen⟩ := hrel
    have HRV := Lib.hid (refValue_any t i wr hi (by have := H64.out; omega) (Tryd.tabStays HT.out HB.out))
    go_wp2_with fail
    refine HRV.out.mono ?_
    rintro e w2 ⟨hb2, x, n, rfl, ⟨hx1, hx2, hx3⟩, hpost⟩
    have own2 := hown.keeps hb2
    have HB3 := Lib.hid ((HB.out.trans (hb2.mono HB.out.size)).alloc (by have := HB.out.size; have := hb2.size; omega) (.cells #[.int .i64 x.kind, .int .i64 x.n, .string x.s] 30))
    have HV3 := Lib.hid (show At (mem (w2.alloc (.cells #[.int .i64 x.kind, .int .i64 x.n, .string x.s] 30))) w2.heap.size 0 [.int .i64 x.kind, .int .i64 x.n, .string x.s] from val_cells)
    have HXI := Lib.hid (And.intro hx1 (And.intro hx2 hx3))
    have own3 := own2.alloc (.cells #[.int .i64 x.kind, .int .i64 x.n, .string x.s] 30)
    have HS3 := Lib.hid (show w.heap.size ≤ (w2.alloc (.cells #[.int .i64 x.kind, .int .i64 x.n, .string x.s] 30)).heap.size from HB3.out.size)
    obtain ⟨ao, co, rfl, hml⟩ := hown.len
    have HPO := Lib.hid hpost
    clear hown own2 hb2 hx1 hx2 hx3 HRV hpost
    rcases HPO.out with ⟨rfl, hno⟩ | ⟨m, rfl, hm1, hm2, hm3, hm4⟩
    · have HNC := Lib.hid (show ∀ r, ¬ IsRow r t from fun r hr => by
        have := ((HPC.out.read (ok := false) (x := x) (s' := t) (fun y rest hv e he => (hno y rest hv (by rw [bl_tail] at e; exact e) he).elim)).1 r hr).1
        cases this)
      clear HPC HPS HPO hno
      go_wp2
      try rw [Exit.noGoto_ret]
      go_ret2
      exact ⟨HB3.out, .inr (.inl ⟨by have := H64.out; omega, HNC.out, rfl⟩)⟩
    have hrd := HPC.out.read (ok := validVal x) (x := x) (s' := t.extract m t.size) (fun y rest hv e he => by
      rw [bl_tail] at e
      obtain ⟨g1, g2⟩ := hm4 y rest hv e he
      exact ⟨by rw [g1]; exact hv, g1, by rw [bl_tail]; exact g2⟩)
    have HALL := Lib.hid hrd.1
    have HMID := Lib.hid hrd.2
    have HM3 := Lib.hid hm3
    clear hrd hm3 hm4 HPC HPO
    go_upto_region 8 with fail
    generalize hX3 : w2.alloc (.cells #[.int .i64 x.kind, .int .i64 x.n, .string x.s] 30) = w3 at HB3 HV3 own3 HS3 ⊢
    clear hX3
    generalize w2.heap.size = xb at HV3 ⊢
    have x0 : w3.cell? ⟨xb, 0, none⟩ = some (.int .i64 x.kind) := HV3.out 0 _ rfl
    have x1 : w3.cell? ⟨xb, 1, none⟩ = some (.int .i64 x.n) := HV3.out 1 _ rfl
    have x2 : w3.cell? ⟨xb, 2, none⟩ = some (.string x.s) := HV3.out 2 _ rfl
    have HVV := Lib.hid (refValidValue_any x w3 (by have := HXI.out.2.2; unfold maxLen; omega))
    go_wp2_with fail
    refine HVV.out.mono ?_
    rintro e w4 ⟨rfl, hb4⟩
    have own4 := own3.keeps hb4
    have HB4 := Lib.hid (HB3.out.trans (hb4.mono HS3.out))
    have HS4 := Lib.hid (show w.heap.size ≤ w4.heap.size from HB4.out.size)
    have HV4 := Lib.hid (show At (mem w4) xb 0 [.int .i64 x.kind, .int .i64 x.n, .string x.s] from fun j u hj => below_mem hb4 _ _ _ (HV3.out j u hj))
    clear x0 x1 x2 own3 HB3 HV3 HS3 HVV hb4
    have x0 : w4.cell? ⟨xb, 0, none⟩ = some (.int .i64 x.kind) := HV4.out 0 _ rfl
    have x1 : w4.cell? ⟨xb, 1, none⟩ = some (.int .i64 x.n) := HV4.out 1 _ rfl
    have x2 : w4.cell? ⟨xb, 2, none⟩ = some (.string x.s) := HV4.out 2 _ rfl
    cases hvv : validVal x with
    | false =>
      have HNC := Lib.hid (show ∀ r, ¬ IsRow r t from fun r hr => by have := (HALL.out r hr).1; rw [hvv] at this; cases this)
      clear HALL HMID hvv
      go_wp2
      try rw [Exit.noGoto_ret]
      go_ret2
      exact ⟨HB4.out, .inr (.inl ⟨by have := H64.out; omega, HNC.out, rfl⟩)⟩
    | true =>
    by_cases h8 : outs.length = 8
    · have h8f : ((outs.length : Int) == 8) = true := by simp; omega
      have HNC := Lib.hid (show ∀ r, ¬ IsRow r t from fun r hr => by have := (HALL.out r hr).2; omega)
      clear HALL HMID hvv
      go_wp2
      try rw [Exit.noGoto_ret]
      go_ret2
      exact ⟨HB4.out, .inr (.inl ⟨by have := H64.out; omega, HNC.out, rfl⟩)⟩
    have h8f : ((outs.length : Int) == 8) = false := by simp; omega
    have HVX := Lib.hid hvv
    clear hvv HALL
    go_wp2_with (at_builtin; refine wpList_append_one rfl _ _ 25 rfl tVal Tryd.underlying25 infoVal rfl (by decide) w.heap.size _ outs rfl (own4.alloc _) _ _ x rfl _ val_cells ⟨rfl, HXI.out.1, HXI.out.2.1, (by have := HXI.out.2.2; unfold maxLen; omega)⟩ ?c1 ?c2 ?c3 ?c4 ?_)
    case c1 => intro u hu; simp at hu; rcases hu with rfl | rfl | rfl <;> rfl
    case c2 => unfold maxLen; omega
    case c3 => omega
    case c4 => have := HS4.out; simp; omega
    intro v' w5 own5 hgrow _
    obtain ⟨a5, cq5, rfl, _⟩ := own5.len
    have HB5 := Lib.hid ((HB4.out.alloc (by have := HS4.out; omega) _).grown hgrow (by have := HS4.out; simp; omega) (fun k hk => by have := (own4.lt k hk).1; omega))
    clear own4 hgrow HV4 HS4 HB4 x0 x1 x2
    by_cases hz5 : m = t.size
    · have heq5 : ((m : Int) == (t.size : Int)) = true := by simp; omega
      have HR := Lib.hid (show IsRow (outs ++ [x]) t ∧ ∀ r', IsRow r' t → r' = outs ++ [x] from ⟨HPS.out.done HVX.out HM3.out (by omega) (by omega), fun r hr => ((HMID.out.done (by rw [ByteArray.size_extract]; omega)) r hr).symm⟩)
      clear HMID HPS HM3
      generalize outs ++ [x] = outs5 at own5 HR ⊢
      go_wp2
      try rw [Exit.noGoto_ret]
      go_ret2
      exact ⟨HB5.out, .inr (.inr ⟨by have := H64.out; omega, _, _, HR.out, rfl, own5.rv (S := fun b => w.heap.size ≤ b) (fun b hb => by omega) (fun _ _ _ h => h)⟩)⟩
    have heq5 : ((m : Int) == (t.size : Int)) = false := by simp; omega
    have hm5 : m < t.size := by omega
    have hmc : t[m].toNat < 256 := UInt8.toNat_lt _
    obtain ⟨hn1, hn2⟩ := mid_next HMID.out hm5
    by_cases h44 : t[m].toNat = 44
    · have h44f : ((t[m].toNat : Int) != 44) = false := by simp; omega
      have HPN := Lib.hid (hn1 h44)
      have HSN := Lib.hid (HPS.out.next HVX.out HM3.out hm5 h44)
      have hl6 : (outs ++ [x]).length ≤ 8 := by simp; omega
      generalize outs ++ [x] = outs5 at own5 HPN HSN hl6 ⊢
      clear hn1 hn2 HMID HPS HM3
      go_wp2
      go_roundw
      case rel => exact ⟨outs5, m + 1, by omega, by go_num, own5, HB5, HPN, HSN, hl6⟩
      case measure => simp [intOf]; omega
    · have h44f : ((t[m].toNat : Int) != 44) = true := by simp; omega
      have HNC := Lib.hid (hn2 h44)
      clear hn1 hn2 HMID HPS HM3
      go_wp2
      try rw [Exit.noGoto_ret]
      go_ret2
      exact ⟨HB5.out, .inr (.inl ⟨by have := H64.out; omega, HNC.out, rfl⟩)⟩
end Go.Proofs.YtkldimaoafgolaaDoor
/- Both Hash. -/
namespace Go.Proofs.YtkldimaoafgolaaDoor
open Go.RowKit
def hashI (l : List UInt8) : Int := l.foldl (fun h c => IntKind.u64.wrap (bits BinOp.xor IntKind.u64 h (c.toNat : Int) * 1099511628211)) 14695981039346656037
theorem hashI_next (s : ByteArray) (i : Nat) (h : i < s.size) {z : Int} (hz : z = hashI ((bl s).take i)) : IntKind.u64.wrap (bits BinOp.xor IntKind.u64 z (s[i].toNat : Int) * 1099511628211) = hashI ((bl s).take (i + 1)) := by
  have e : (bl s).take (i + 1) = (bl s).take i ++ [s[i]] := List.take_succ_eq_append_getElem (l := bl s) h
  rw [e, hz]
  unfold hashI
  rw [List.foldl_append]
  rfl
theorem hashI_all (s : ByteArray) : hashI ((bl s).take s.size) = hashI (bl s) := by
  rw [List.take_of_length_le (by rw [bl_len]; exact Nat.le_refl _)]
set_option maxRecDepth 100000 in
set_option maxHeartbeats 2000000 in
theorem refHash_any (s : ByteArray) (w : World) (hs : s.size ≤ 200000) :
    Calls Tryd.prog 51 #[.string s] w fun e w' => e = .returned (.int .u64 (hashI (bl s))) ∧ w' = w := by
  go_enter Tryd.func51, Tryd.ntmps51
  go_wp2
  go_loopw [3, 4] (fun hv iv wr => ∃ (h : Int) (i : Nat), i ≤ s.size ∧ iv = .int .i64 i ∧ hv = .int .u64 h ∧ Hid (h = hashI ((bl s).take i)) ∧ w = wr) (fun _ iv _ => s.size - (intOf iv).toNat)
  case atStart => exact ⟨_, 0, by omega, rfl, rfl, Lib.hid rfl, by first | trivial | rfl⟩
  case round =>
    obtain ⟨h, i, hi, rfl, rfl, HH, hw⟩ := hrel
    subst hw
    by_cases hlt : i < s.size
    · have hc256 : s[i].toNat < 256 := UInt8.toNat_lt _
      have HN := Lib.hid (hashI_next s i hlt HH.out)
      clear HH
      go_wp2
      go_roundw
      case rel => exact ⟨_, i + 1, by omega, by go_num, rfl, HN, by first | trivial | rfl⟩
      case measure => simp [intOf]; omega
    · obtain rfl : i = s.size := by omega
      have HD := Lib.hid (HH.out.trans (hashI_all s))
      clear HH
      go_wp2
      go_ret
      exact ⟨by rw [← HD.out]; rfl, rfl⟩
set_option maxRecDepth 100000 in
set_option maxHeartbeats 2000000 in
theorem rowHash_any (s : ByteArray) (w : World) (hs : s.size ≤ 200000) :
    Calls Tryd.prog 50 #[.string s] w fun e w' => e = .returned (.int .u64 (hashI (bl s))) ∧ w' = w := by
  go_enter Tryd.func50, Tryd.ntmps50
  go_wp2
  go_loopw [3, 7] (fun hv iv wr => ∃ (h : Int) (i : Nat), i ≤ s.size ∧ iv = .int .i64 i ∧ hv = .int .u64 h ∧ Hid (h = hashI ((bl s).take i)) ∧ w = wr) (fun _ iv _ => s.size - (intOf iv).toNat)
  case atStart => exact ⟨_, 0, by omega, rfl, rfl, Lib.hid rfl, by first | trivial | rfl⟩
  case round =>
    obtain ⟨h, i, hi, rfl, rfl, HH, hw⟩ := hrel
    subst hw
    by_cases hlt : i < s.size
    · have hc256 : s[i].toNat < 256 := UInt8.toNat_lt _
      have HN := Lib.hid (hashI_next s i hlt HH.out)
      clear HH
      go_wp2
      go_roundw
      case rel => exact ⟨_, i + 1, by omega, by go_num, rfl, HN, by first | trivial | rfl⟩
      case measure => simp [intOf]; omega
    · obtain rfl : i = s.size := by omega
      have HD := Lib.hid (HH.out.trans (hashI_all s))
      clear HH
      go_wp2
      go_ret
      exact ⟨by rw [← HD.out]; rfl, rfl⟩
end Go.Proofs.YtkldimaoafgolaaDoor
/- The law RowTexts, walked. -/
namespace Go.Proofs.YtkldimaoafgolaaDoor
open Go.RowKit

theorem valEq_eq {x y : Val} (h : valEq x y = true) : x = y := by
  obtain ⟨k, n, s⟩ := x
  obtain ⟨k', n', s'⟩ := y
  obtain ⟨e1, e2, e3⟩ := (valEq_mk _ _ _ _ _ _).1 h
  rw [e1, e2, bl_inj (show bl s = bl s' by rw [Lib.toList_data, Lib.toList_data] at e3; exact e3)]
theorem sameRow_eq {a b : List Val} (h : sameRow a b = true) : a = b := by
  unfold sameRow at h
  rw [Bool.and_eq_true, beq_iff_eq, List.all_eq_true] at h
  obtain ⟨hl, h⟩ := h
  refine List.ext_getElem hl fun j h1 h2 => valEq_eq ?_
  have := h (a[j], b[j]) (by
    rw [List.mem_iff_getElem]
    exact ⟨j, by rw [List.length_zip]; omega, by rw [List.getElem_zip]⟩)
  exact this
theorem isRow_text {r : List Val} (h : validRow r = true) : IsRow r ⟨(rowText r).toArray⟩ := ⟨h, rfl⟩
theorem rowText_size {r : List Val} (h : validRow r = true) (hn : ∀ x ∈ r, inI64 x.n) : (rowText r).length ≤ 6424 := by
  have h2 : r.length ≤ 8 ∧ ∀ x ∈ r, validVal x = true := by unfold validRow at h; simpa using h
  have := join_le [44] 802 (r.map valText) (fun x hx => by
    obtain ⟨y, hy, rfl⟩ := List.mem_map.1 hx
    exact valText_length (h2.2 y hy) (hn y hy))
  rw [List.length_map] at this
  unfold rowText
  rw [if_pos h]
  have h3 : r.length * (802 + [(44 : UInt8)].length) ≤ 8 * 803 := Nat.mul_le_mul h2.1 (by decide)
  omega
/-- What the law knows of two rows and their texts. -/
theorem text_same {a b : List Val} (ha : validRow a = true) (hb : validRow b = true) (hu : ∀ r', IsRow r' ⟨(rowText a).toArray⟩ → r' = a) : (rowText a == rowText b) = sameRow a b := by
  by_cases h : rowText a = rowText b
  · have : b = a := hu b ⟨hb, h⟩
    subst this
    rw [sameRow_refl]; simp
  · rw [beq_eq_false_iff_ne.2 h]
    cases hs : sameRow a b with
    | false => rfl
    | true => exact absurd (by rw [sameRow_eq hs]) h
set_option maxRecDepth 100000 in
set_option maxHeartbeats 4000000 in
theorem rowTexts_any (a b : List Val) (va vb : Value) (w : World) (hva : tRow.rv (mem w) [va] a) (hvb : tRow.rv (mem w) [vb] b) (ht : Tryd.Tab w) (he : Tryd.Errs w) :
    Calls Tryd.prog 9 #[va, vb] w fun e w' => e = .returned (.bool true) ∧ Below w.heap.size w w' := by
  have hb0 : ∀ o, Below w.heap.size w (w.alloc o) := fun o => (Below.refl _ _).alloc (Nat.le_refl _) o
  have HAW := Lib.hid (fun (wr : World) (h : Below w.heap.size w wr) => awake_any wr (Tryd.tabStays ht h))
  have HL := Lib.hid (fun (m : Mem) bk h0 h1 hx hy => rows2 (m := m) (b := bk) (x := a) (y := b) (u := va) (v := vb) h0 h1 hx hy)
  have HVa := Lib.hid hva
  have HVb := Lib.hid hvb
  have HTa := Lib.hid (fun wr (h : Below w.heap.size w wr) => rowText_any a va wr (tRow.mono _ _ _ _ (below_mem h) hva) (Tryd.tabStays ht h))
  have HTb := Lib.hid (fun wr (h : Below w.heap.size w wr) => rowText_any b vb wr (tRow.mono _ _ _ _ (below_mem h) hvb) (Tryd.tabStays ht h))
  have HRa := Lib.hid (fun wr (h : Below w.heap.size w wr) => refText_any a va wr (tRow.mono _ _ _ _ (below_mem h) hva) (Tryd.tabStays ht h))
  have HRb := Lib.hid (fun wr (h : Below w.heap.size w wr) => refText_any b vb wr (tRow.mono _ _ _ _ (below_mem h) hvb) (Tryd.tabStays ht h))
  have HWa := Lib.hid (fun wr (h : Below w.heap.size w wr) => refValid_any a va wr (tRow.mono _ _ _ _ (below_mem h) hva))
  have HWb := Lib.hid (fun wr (h : Below w.heap.size w wr) => refValid_any b vb wr (tRow.mono _ _ _ _ (below_mem h) hvb))
  have HSab := Lib.hid (fun wr (h : Below w.heap.size w wr) => same_any a b va vb wr (tRow.mono _ _ _ _ (below_mem h) hva) (tRow.mono _ _ _ _ (below_mem h) hvb))
  have HIN := Lib.hid (show ∀ x ∈ a, inI64 x.n from fun x hx => by
    obtain ⟨k, hk, rfl⟩ := List.getElem_of_mem hx
    obtain ⟨a1, cap1, rfl, _, _, hva⟩ := slice_form hva
    obtain ⟨b, o, rfl, hat⟩ := slice_at hva hk
    exact (val_at hat).2.2.2.2.1)
  have HP := Lib.hid (fun (t : ByteArray) wr (hs : t.size ≤ 200000) (h : Below w.heap.size w wr) => rowParse_any t wr hs (Tryd.tabStays ht h) (Tryd.errsStay he h))
  obtain ⟨a1, cap1, rfl, hl1, hm1, hva⟩ := slice_form hva
  have hcap1 : cap1 ≤ 9223372036854775807 := by unfold maxLen at hm1; exact hm1
  obtain ⟨a2, cap2, rfl, hl2, hm2, hvb⟩ := slice_form hvb
  have hcap2 : cap2 ≤ 9223372036854775807 := by unfold maxLen at hm2; exact hm2
  clear hm1 hm2 hva hvb ht he
  go_enter Tryd.func9, Tryd.ntmps9
  go_wp2_with fail
  refine (long_any [a, b] _ _ (HL.out _ _ (by simp [mem]) (by simp [mem]) (tRow.mono _ _ _ _ (below_mem (hb0 _)) HVa.out) (tRow.mono _ _ _ _ (below_mem (hb0 _)) HVb.out))).mono ?_
  rintro e w1 ⟨⟨r, rfl⟩, hb1⟩
  have hB := pure_trans (hb0 _) hb1
  clear hb0 hb1 HL
  cases r with
  | true =>
    go_wp2_with fail
    refine (HAW.out _ hB).mono ?_
    rintro e wz ⟨rfl, hz⟩
    have hz := pure_trans hB hz
    go_wp2
    go_ret
    exact ⟨rfl, hz⟩
  | false =>
  go_wp2_with fail
  refine (HTa.out _ hB).mono ?_
  rintro e w2 ⟨rfl, hb2⟩
  have hB2 := pure_trans hB hb2
  clear hB hb2
  go_wp2_with fail
  refine (HTb.out _ hB2).mono ?_
  rintro e w3 ⟨rfl, hb3⟩
  have hB3 := pure_trans hB2 hb3
  clear hB2 hb3
  have HS := Lib.hid (fun (h : validRow a = true) => (⟨rowText_size h HIN.out, isRow_text h⟩ : (rowText a).length ≤ 6424 ∧ IsRow a ⟨(rowText a).toArray⟩))
  have HTS := Lib.hid (fun (ha : validRow a = true) (hb : validRow b = true) hu => text_same ha hb hu)
  go_wp2_with fail
  refine (HRa.out _ hB3).mono ?_
  rintro e w4 ⟨rfl, hb4⟩
  have hB4 := pure_trans hB3 hb4
  clear hB3 hb4
  generalize hta : rowText a = ta at *
  generalize htb : rowText b = tb at *
  have qa : (ta == ta) = true := by simp
  have qb : (tb == tb) = true := by simp
  clear hta htb
  go_wp2_with fail
  refine (HRb.out _ hB4).mono ?_
  rintro e w5 ⟨rfl, hb5⟩
  have hB5 := pure_trans hB4 hb5
  clear hB4 hb5
  go_wp2_with fail
  refine (HWa.out _ hB5).mono ?_
  rintro e w6 ⟨rfl, hb6⟩
  have hB6 := pure_trans hB5 hb6
  clear hB5 hb6
  cases hva : validRow a with
  | false =>
    clear hva
    go_wp2_with fail
    refine (HAW.out _ hB6).mono ?_
    rintro e wz ⟨rfl, hz⟩
    have hz := pure_trans hB6 hz
    go_wp2
    go_ret
    exact ⟨rfl, hz⟩
  | true =>
  have HVA := Lib.hid hva
  clear hva
  go_wp2_with fail
  refine (HWb.out _ hB6).mono ?_
  rintro e w7 ⟨rfl, hb7⟩
  have hB7 := pure_trans hB6 hb7
  clear hB6 hb7
  cases hvb : validRow b with
  | false =>
    clear hvb
    go_wp2_with fail
    refine (HAW.out _ hB7).mono ?_
    rintro e wz ⟨rfl, hz⟩
    have hz := pure_trans hB7 hz
    go_wp2
    go_ret
    exact ⟨rfl, hz⟩
  | true =>
  have HVB := Lib.hid hvb
  clear hvb
  have HSZ := Lib.hid (show (⟨ta.toArray⟩ : ByteArray).size ≤ 6424 from (HS.out HVA.out).1)
  go_wp2_with fail
  refine (HP.out _ _ (by have := HSZ.out; omega) hB7).mono ?_
  rintro e w8 ⟨hb8, ⟨h1, _⟩ | ⟨_, h1, _⟩ | ⟨_, r, v8, ⟨hr, hu⟩, rfl, hr8⟩⟩
  · exact absurd h1 (by have := HSZ.out; omega)
  · exact absurd (HS.out HVA.out).2 (h1 a)
  obtain rfl : a = r := hu a (HS.out HVA.out).2
  have hB8 := pure_trans hB7 hb8
  have HTE := Lib.hid (HTS.out HVA.out HVB.out hu)
  obtain ⟨a8, c8, rfl, _, hm8, hr8⟩ := slice_form hr8
  have hc8 : c8 ≤ 9223372036854775807 := by unfold maxLen at hm8; exact hm8
  have HR8 := Lib.hid (tRow.mono _ _ _ _ (Mem.on_le _ _) hr8)
  clear hb8 hr hu hm8 hr8 hB7 HS HTS
  go_wp2_with fail
  refine (same_any a a _ _ w8 HR8.out (tRow.mono _ _ _ _ (below_mem hB8) HVa.out)).mono ?_
  rintro e w9 ⟨rfl, hb9⟩
  rw [sameRow_refl]
  have hB9 := pure_trans hB8 hb9
  clear hB8 hb9
  go_wp2_with fail
  refine (HSab.out _ hB9).mono ?_
  rintro e w10 ⟨rfl, hb10⟩
  have hB10 := pure_trans hB9 hb10
  clear hB9 hb10
  have hte := HTE.out
  generalize sameRow a b = sm at hte ⊢
  have hq : ((ta == tb) == sm) = true := by rw [hte]; simp
  clear HTE
  go_wp2_with fail
  refine (HAW.out _ hB10).mono ?_
  rintro e wz ⟨rfl, hz⟩
  have hz := pure_trans hB10 hz
  go_wp2
  go_ret
  exact ⟨rfl, hz⟩
end Go.Proofs.YtkldimaoafgolaaDoor
/- The law RowReads, walked. -/
namespace Go.Proofs.YtkldimaoafgolaaDoor
open Go.RowKit

theorem row_none (m : Mem) : tRow.rv m [.slice none 0 0] [] := slice_nil tVal m
theorem text_of {r : List Val} {t : ByteArray} (h : IsRow r t) : (⟨(rowText r).toArray⟩ : ByteArray) = t := bl_inj h.2.symm
set_option maxRecDepth 100000 in
set_option maxHeartbeats 4000000 in
theorem rowReads_any (t : ByteArray) (w : World) (hs : t.size ≤ maxLen) (ht : Tryd.Tab w) (he : Tryd.Errs w) :
    Calls Tryd.prog 10 #[.string t] w fun e w' => e = .returned (.bool true) ∧ Below w.heap.size w w' := by
  unfold maxLen at hs
  have HAW := Lib.hid (fun (wr : World) (h : Below w.heap.size w wr) => awake_any wr (Tryd.tabStays ht h))
  have HT := Lib.hid ht
  have HPA := Lib.hid (fun (hs : t.size ≤ 200000) wr (h : Below w.heap.size w wr) => rowParse_any t wr hs (Tryd.tabStays ht h) (Tryd.errsStay he h))
  have HPB := Lib.hid (fun (hs : t.size ≤ 200000) wr (h : Below w.heap.size w wr) => refParse_any t wr hs (Tryd.tabStays ht h))
  have hB := Below.refl w.heap.size w
  clear ht he
  go_enter Tryd.func10, Tryd.ntmps10
  by_cases hl : 131072 < t.size
  · have hlI : (131072 : Int) < (t.size : Int) := by omega
    go_wp2_with fail
    refine (HAW.out _ hB).mono ?_
    rintro e wz ⟨rfl, hz⟩
    have hz := pure_trans hB hz
    go_wp2
    go_ret
    exact ⟨rfl, hz⟩
  have hlI : (t.size : Int) ≤ 131072 := by omega
  have HSZ := Lib.hid (show t.size ≤ 200000 by omega)
  go_wp2_with fail
  refine (HPA.out HSZ.out _ hB).mono ?_
  rintro e w2 ⟨hb2, hp⟩
  have HPP := Lib.hid hp
  have hB2 := pure_trans hB hb2
  clear hB hb2 hp
  rcases HPP.out with ⟨hA1, rfl⟩ | ⟨hA1, hA2, rfl⟩ | ⟨hA1, r, va, ⟨hA2, hA3⟩, rfl, hA4⟩
  · go_wp2_with fail
    refine (HPB.out HSZ.out _ hB2).mono ?_
    rintro e w3 ⟨hb3, ⟨hC1, rfl⟩ | ⟨hC1, hC2, rfl⟩ | ⟨hC1, r, vb, ⟨hC2, hC3⟩, rfl, hC4⟩⟩
    · have hB3 := pure_trans hB2 hb3
      have HRA := Lib.hid (row_none (mem w3))
      have HRB := HRA
      clear hb3 HPP
      go_wp2_with fail
      refine (same_any [] [] _ _ w3 HRA.out HRB.out).mono ?_
      rintro e w4 ⟨rfl, hb4⟩
      rw [sameRow_refl]
      have hB4 := pure_trans hB3 hb4
      clear hB3 hb4
      go_wp2_with (first | (go_at_call 50; refine (rowHash_any t _ HSZ.out).mono ?_; rintro e w' ⟨rfl, rfl⟩) | (go_at_call 51; refine (refHash_any t _ HSZ.out).mono ?_; rintro e w' ⟨rfl, rfl⟩) | fail)
      refine (HAW.out _ hB4).mono ?_
      rintro e wz ⟨rfl, hz⟩
      have hz := pure_trans hB4 hz
      go_wp2
      go_ret
      exact ⟨rfl, hz⟩
    · exact absurd hA1 (by omega)
    · exact absurd hA1 (by omega)
  · go_wp2_with fail
    refine (HPB.out HSZ.out _ hB2).mono ?_
    rintro e w3 ⟨hb3, ⟨hC1, rfl⟩ | ⟨hC1, hC2, rfl⟩ | ⟨hC1, r, vb, ⟨hC2, hC3⟩, rfl, hC4⟩⟩
    · exact absurd hA1 (by omega)
    · have hB3 := pure_trans hB2 hb3
      have HRA := Lib.hid (row_none (mem w3))
      have HRB := HRA
      clear hb3 HPP hA2 hC2
      go_wp2_with fail
      refine (same_any [] [] _ _ w3 HRA.out HRB.out).mono ?_
      rintro e w4 ⟨rfl, hb4⟩
      rw [sameRow_refl]
      have hB4 := pure_trans hB3 hb4
      clear hB3 hb4
      go_wp2_with (first | (go_at_call 50; refine (rowHash_any t _ HSZ.out).mono ?_; rintro e w' ⟨rfl, rfl⟩) | (go_at_call 51; refine (refHash_any t _ HSZ.out).mono ?_; rintro e w' ⟨rfl, rfl⟩) | fail)
      refine (HAW.out _ hB4).mono ?_
      rintro e wz ⟨rfl, hz⟩
      have hz := pure_trans hB4 hz
      go_wp2
      go_ret
      exact ⟨rfl, hz⟩
    · exact absurd hC2 (hA2 r)
  · have HR2 := Lib.hid (tRow.mono _ _ _ _ (Mem.on_le _ _) hA4)
    have HAR := Lib.hid (And.intro hA2 hA3)
    have HTX := Lib.hid (text_of hA2)
    obtain ⟨a2, c2, rfl, _, hm2, _⟩ := slice_form hA4
    have hc2 : c2 ≤ 9223372036854775807 := by unfold maxLen at hm2; exact hm2
    clear hA2 hA3 hA4 hm2 HPP
    go_wp2_with fail
    refine (HPB.out HSZ.out _ hB2).mono ?_
    rintro e w3 ⟨hb3, ⟨hC1, rfl⟩ | ⟨hC1, hC2, rfl⟩ | ⟨hC1, r', vb, ⟨hC2, hC3⟩, rfl, hC4⟩⟩
    · exact absurd hA1 (by omega)
    · exact absurd HAR.out.1 (hC2 r)
    · obtain rfl : r' = r := HAR.out.2 r' hC2
      have hB3 := pure_trans hB2 hb3
      have HRA := Lib.hid (tRow.mono _ _ _ _ (below_mem hb3) HR2.out)
      have HRB := Lib.hid (tRow.mono _ _ _ _ (Mem.on_le _ _) hC4)
      obtain ⟨a3, c3, rfl, _, hm3, _⟩ := slice_form hC4
      have hc3 : c3 ≤ 9223372036854775807 := by unfold maxLen at hm3; exact hm3
      clear hb3 hC2 hC3 hC4 hm3 HR2 HAR
      go_wp2_with fail
      refine (same_any r' r' _ _ w3 HRA.out HRB.out).mono ?_
      rintro e w4 ⟨rfl, hb4⟩
      rw [sameRow_refl]
      have hB4 := pure_trans hB3 hb4
      have HB43 := Lib.hid hb4
      clear hB3 hb4
      go_wp2_with (first | (go_at_call 50; refine (rowHash_any t _ HSZ.out).mono ?_; rintro e w' ⟨rfl, rfl⟩) | (go_at_call 51; refine (refHash_any t _ HSZ.out).mono ?_; rintro e w' ⟨rfl, rfl⟩))
      refine (rowText_any r' _ _ (tRow.mono _ _ _ _ (below_mem HB43.out) HRA.out) (Tryd.tabStays HT.out hB4)).mono ?_
      rintro e w5 ⟨rfl, hb5⟩
      rw [HTX.out]
      have hB5 := pure_trans hB4 hb5
      clear hb5
      go_wp2_with fail
      refine (HAW.out _ hB5).mono ?_
      rintro e wz ⟨rfl, hz⟩
      have hz := pure_trans hB5 hz
      go_wp2
      go_ret
      exact ⟨rfl, hz⟩
end Go.Proofs.YtkldimaoafgolaaDoor
namespace Go.Proofs.YtkldimaoafgolaaDoor.lawRowReads
open Go.ChangeShapes Go.WideShapes Go.ChangeAt Go.RowKit

set_option maxRecDepth 100000 in
theorem contract (H : Type) (enc : TypeId × Value → H) (W : World) (base : Nat) (args : Array Value) (ds gs : List (DataW H)) (before : List MemPlace)
    (hval0 : ∀ (j : Nat) t v, Tryd.f10.params[j]? = some t → args[j]? = some v → Value.okWide Tryd.prog W .any base t v)
    (hW : DataW.Whole enc Tryd.prog Tryd.f10.params.toList Rows.rowReadsSpec.vars false W args.toList ds gs before) (hL : laidMetH Tryd.prog Rows.rowReadsRow.laid W) :
    Calls Tryd.prog 10 args W fun e W' => ∃ v, e = .returned v ∧ Rows.rowReadsSpec.post enc Tryd.prog Tryd.f10 false true false false W args v W' := by
  have ht := tabOf hL
  have hE := errsOf hL
  have hval : ∀ (j : Nat) t v, Tryd.f10.params[j]? = some t → args[j]? = some v → Value.okWide Tryd.prog W .any base t v := hval0
  have hW' := hW
  obtain ⟨p, q, hA0, hV, rfl, hfz, hnd⟩ := hW
  have hA : DataW.TrodAll enc Tryd.prog W 0 (fun _ => true) true Tryd.f10.params.toList args.toList ds p := hA0
  rw [Tryd.params10] at hA hval
  obtain ⟨v0, vs0, d0, ds0, p0, q0, hargs, rfl, rfl, h0, r0⟩ := trodAll_cons hA
  obtain ⟨rfl, rfl, rfl⟩ := trodAll_nil r0
  obtain rfl : args = #[v0] := by cases args; simp_all
  obtain ⟨rfl, rfl⟩ := trodVars_none hV
  obtain ⟨n0, rfl, w0⟩ := arg_str Tryd.underlying9 (hval 0 9 v0 rfl rfl) h0
  clear hA0 hval0
  refine (rowReads_any n0  W w0 ht hE).mono fun e W' ⟨he, bel⟩ => ?_
  subst he
  exact ⟨_, rfl, law_post Tryd.laidOut rfl (by rw [Tryd.params10]; intro t ht; have hs : Tryd.prog.types.size = Tryd.prog.types.size := rfl; simp only [List.mem_cons, List.not_mem_nil, or_false] at ht; rcases ht with rfl <;> exact ⟨by kernel_rfl, of_decide_eq_true (by kernel_rfl)⟩) (by kernel_rfl) Tryd.underlying4 rfl rfl rfl hW' bel⟩

theorem laid_met (os : Os) : laidMet Tryd.prog Rows.rowReadsRow.laid ((laidWorld os).forCall (fun _ _ => 0) ⟨#[], #[.string .empty], []⟩).memory :=
  laidMet_of_run' 8 (by kernel_rfl) (by kernel_rfl)
theorem readsW (os : Os) {H : Type} (enc : TypeId × Value → H) : (DataW.whole enc Tryd.prog ((laidWorld os).forCall (fun _ _ => 0) ⟨#[], #[.string .empty], []⟩).memory Tryd.f10.params.toList Rows.rowReadsSpec.vars false #[Value.string .empty].toList 8).isSome = true := by kernel_rfl

set_option maxRecDepth 100000 in
theorem lifted (os : Os) (started : os.Started) (H : Type) (enc : TypeId × Value → H) (F : Stop.Interp) :
    ReturnsInHanded {} Tryd.checked os 10 .any ((OpenSpec.ofChange Rows.rowReadsSpec).preRow enc Tryd.prog Tryd.f10 Rows.rowReadsRow.domain false Rows.rowReadsRow.laid) (((OpenSpec.ofChange Rows.rowReadsSpec).at F).post enc Tryd.prog Tryd.f10 false true false false) := by
  obtain ⟨⟨xd, xg, places⟩, hx⟩ := Option.isSome_iff_exists.1 (readsW os enc)
  refine returnsInHanded_of_row (C := Tryd.checked) (s := OpenSpec.ofChange Rows.rowReadsSpec) Tryd.own started (by kernel_rfl) Tryd.func10
    (witness_row_at (enc := enc) (C := Tryd.checked) false (laidWorld os) #[.string .empty] rfl (by kernel_rfl) (by kernel_rfl) (by kernel_rfl)
      (OpenSpec.preRow_of_cond 8 hx (by kernel_rfl) (fun k hk => by cases hk) (by kernel_rfl) (laid_met os))) ?_
  intro W base args ds gs before hval hW _ _ _ hL _ _
  exact contract H enc W base args ds gs before hval hW hL

theorem said : Rows.RowReadsSaid :=
  OpenClaim.holds_of_cond 10 Tryd.f10 rfl rfl rfl rfl rfl rfl rfl ⟨rfl, rfl, rfl, rfl, rfl⟩ rfl rfl rfl rfl rfl (by kernel_rfl) Tryd.func10 (by kernel_rfl)
    (of_decide_eq_true (by kernel_rfl)) (by unfold Func.isWrapper; first | (rw [if_pos (by decide +kernel)]; kernel_rfl) | (rw [if_neg (by decide +kernel)]; exact ⟨rfl, rfl⟩))
    (fun os started H enc _ F => by rw [OpenClaim.pre_eq_preRow]; exact lifted os started H enc F)

theorem plain (f : FuncId) (fn : Func) (hf : Tryd.pinned.checked.prog.funcNamed "tidewright/tidewrightlaw02.RowReads" = some f) (hfn : Tryd.pinned.checked.prog.funcs[f]? = some fn) :
    true = Tryd.pinned.checked.prog.looks [] ∧ ∀ (j : Nat) t, fn.params[j]? = some t → Tryd.pinned.checked.prog.wantsStandIn t = false := by
  obtain rfl : f = 10 := Option.some.inj ((show Tryd.prog.funcNamed "tidewright/tidewrightlaw02.RowReads" = some 10 by kernel_rfl).symm.trans hf) |>.symm
  obtain rfl : fn = Tryd.f10 := (Option.some.inj (Tryd.func10.symm.trans hfn)).symm
  refine ⟨by kernel_rfl, fun j t ht => ?_⟩
  rw [Tryd.params10] at ht
  have hm := Array.mem_of_getElem? ht
  simp only [List.mem_toArray, List.mem_cons, List.not_mem_nil, or_false] at hm
  rcases hm with rfl
  · exact (show Tryd.prog.wantsStandIn 9 = false by kernel_rfl)

theorem card : Rows.RowReadsCardSaid :=
  Claim7.holds_tied_plain_at .later [] _ _ _ _ said (fun _ h => by cases h) (by kernel_rfl) (fun _ h => by cases h) rowReads_row_tie rfl ⟨rfl, rfl⟩ (by kernel_rfl) rfl plain (by kernel_rfl)
#print axioms card
end Go.Proofs.YtkldimaoafgolaaDoor.lawRowReads
