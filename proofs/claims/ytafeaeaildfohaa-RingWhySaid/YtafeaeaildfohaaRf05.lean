/- Part 5 of the texts that the law's proof stands on, merged. -/
import Derived.Test.YtafeaeaildfohaaRf04
set_option linter.unusedVariables false
set_option linter.unusedSimpArgs false
/- The reference's bound (printed by gen_rbound.py). -/
namespace Go.Proofs.Ytafeaeaildfohaa
open Go.RowKit Go.Maps

theorem infoStrW : (Try.prog.info? 9).map (fun i => (i.zero, i.size, i.bytes)) = some (some (.string .empty), tStr.sz, 16) := by kernel_rfl
def store3 (w : World) (b : Nat) (x y z : Value) : World := ((w.setCell ⟨b, 0, none⟩ x).setCell ⟨b, 1, none⟩ y).setCell ⟨b, 2, none⟩ z
theorem store3_block {w : World} {b : Nat} {x0 y0 z0 : Value} {T : TypeId} {f : Nat × Nat} (h : w.heap[b]? = some (.cells #[x0, y0, z0] T f)) (x y z : Value) : (store3 w b x y z).heap[b]? = some (.cells #[x, y, z] T f) := by
  simp [store3, World.setCell, Array.getElem?_modify, h]
theorem store3_keeps (w : World) (b : Nat) (x y z : Value) : Keeps (fun k => k = b) w (store3 w b x y z) :=
  (((Keeps.refl (fun k => k = b) w).setCell (p := ⟨b, 0, none⟩) (fun _ => rfl) x).setCell (p := ⟨b, 1, none⟩) (fun _ => rfl) y).setCell (p := ⟨b, 2, none⟩) (fun _ => rfl) z
def bval (bx : Nat) (na va bv : Value) (n v : ByteArray) : Nat → Option Value
  | 1 => some (.pointer (some ⟨bx, 0, none⟩))
  | 2 => some na
  | 4 => some (.string n)
  | 8 => some (.pointer (some ⟨bx, 1, none⟩))
  | 9 => some va
  | 11 => some (.string v)
  | 14 => some (.pointer (some ⟨bx, 2, none⟩))
  | 15 => some bv
  | 18 => some (.bool true)
  | _ => none
theorem vsAdd {g : Nat → Option Value} {L : Nat → Bool} {f : Nat → Value} {i : Nat} {x : Value} (h : ∀ i u, g i = some u → L i = true → f i = u) (hx : ∀ u, g i = some u → x = u) : ∀ j u, g j = some u → setL L i j = true → setV f i x j = u := by
  intro j u e hl
  unfold setL at hl
  unfold setV
  split at hl
  · next h' => subst h'; rw [if_pos rfl]; exact hx u e
  · next h' => rw [if_neg h']; exact h j u e hl
structure BJ (W : World) (rb bx : Nat) (na va bv : Value) (n v : ByteArray) (ns vs : List ByteArray) (L : Nat → Bool) (f : Nat → Value) (w : World) : Prop where
  k : BK tStr W rb 9 ns vs n v #[.string n] #[.string v] (L 0) (L 3) (L 6) (L 5) (L 7) (L 10) (L 13) (L 12) (f 0) (f 3) (f 6) (f 5) (f 7) (f 10) (f 13) (f 12) w
  vs : ∀ i u, bval bx na va bv n v i = some u → L i = true → f i = u
  v16 : L 16 = true → f 16 = .agg #[f 6, f 13, bv]
  d16 : L 16 = true → L 6 = true ∧ L 13 = true
  d17 : L 17 = true → L 16 = true
  s1 : L 17 = false → w.heap[rb]? = some (.cells #[.slice none 0 0, .slice none 0 0, .slice none 0 0] 82 (0, 0))
  s2 : L 17 = true → w.heap[rb]? = some (.cells #[f 6, f 13, bv] 82 (0, 0))
def BoundOut (S : Nat → Prop) (av : Bnd) (a b c : Value) (n v : ByteArray) (w : World) (e : Ending) (w' : World) : Prop :=
  Below w.heap.size w w' ∧ ((bind1 av n v = none ∧ e = .returned (.tuple #[.agg #[a, b, c], .bool false])) ∨
    ∃ bs a' b', bind1 av n v = some bs ∧ e = .returned (.tuple #[.agg #[a', b', c], .bool true]) ∧ tStrs.rv ((mem w').on (fun k => S k ∨ w.heap.size ≤ k)) [a'] (bs.map Prod.fst) ∧ tStrs.rv ((mem w').on (fun k => S k ∨ w.heap.size ≤ k)) [b'] (bs.map Prod.snd))
theorem two_allocW {w X : World} {c1 c2 : Array Value} {t1 t2 : TypeId} (hX : X = (w.alloc (.cells c1 t1)).alloc (.cells c2 t2)) :
    Below w.heap.size w X ∧ X.heap.size = w.heap.size + 2 ∧ X.heap[w.heap.size]? = some (.cells c1 t1 (0, 0)) ∧ X.heap[w.heap.size + 1]? = some (.cells c2 t2 (0, 0)) := by
  subst hX
  refine ⟨((Below.refl _ _).alloc (Nat.le_refl _) _).alloc (by simp) _, by simp, (Below.heap_alloc _ _ _ (by simp)).trans (heap_alloc_new w _), ?_⟩
  have := heap_alloc_new (w.alloc (.cells c1 t1)) (.cells c2 t2)
  rwa [World.size_alloc] at this
set_option maxRecDepth 100000 in
set_option maxHeartbeats 8000000 in
theorem refBound_any (S : Nat → Prop) (av : Bnd) (a b : Value) (ac : Option Addr) (nc cc : Nat) (n v : ByteArray) (w : World) (ha : tStrs.rv ((mem w).on S) [a] (av.map Prod.fst)) (hbb : tStrs.rv ((mem w).on S) [b] (av.map Prod.snd)) (hl : av.length ≤ 1000) (hn : n.size ≤ maxLen) (hv : v.size ≤ maxLen) :
    Calls Try.prog 73 #[.agg #[a, b, .slice ac nc cc], .string n, .string v] w (BoundOut S av a b (.slice ac nc cc) n v w) := by
  have HVAL := Lib.hid (fun w' (hb' : Below w.heap.size w w') => refValue_any av a b n w' (tStrs.mono _ _ _ _ (Mem.le_trans (Mem.on_le _ _) (below_mem hb')) ha) (tStrs.mono _ _ _ _ (Mem.le_trans (Mem.on_le _ _) (below_mem hb')) hbb))
  obtain ⟨X, hX⟩ : ∃ X, X = (w.alloc (.cells #[a, b, .slice ac nc cc] 82)).alloc (.cells #[.slice none 0 0, .slice none 0 0, .slice none 0 0] 82) := ⟨_, rfl⟩
  have HX := Lib.hid hX
  obtain ⟨hb, hs, h1, h2⟩ := two_allocW hX
  have HB := Lib.hid hb
  have HVX := Lib.hid (HVAL.out X hb)
  have c0 : X.cell? ⟨w.heap.size, 0, none⟩ = some a := mem_cells h1 0
  have c1 : X.cell? ⟨w.heap.size, 1, none⟩ = some b := mem_cells h1 1
  have c2 : X.cell? ⟨w.heap.size, 2, none⟩ = some (.slice ac nc cc) := mem_cells h1 2
  have z0 : X.cell? ⟨w.heap.size + 1, 0, none⟩ = some (.slice none 0 0) := mem_cells h2 0
  have z1 : X.cell? ⟨w.heap.size + 1, 1, none⟩ = some (.slice none 0 0) := mem_cells h2 1
  have z2 : X.cell? ⟨w.heap.size + 1, 2, none⟩ = some (.slice none 0 0) := mem_cells h2 2
  have y0 : X.frozen? ⟨w.heap.size + 1, 0, none⟩ = false := frozen_cells h2 0
  have y1 : X.frozen? ⟨w.heap.size + 1, 1, none⟩ = false := frozen_cells h2 1
  have y2 : X.frozen? ⟨w.heap.size + 1, 2, none⟩ = false := frozen_cells h2 2
  have HRB := Lib.hid h2
  have H1 := Lib.hid h1
  have hlt : w.heap.size + 1 < X.heap.size := by omega
  cases hk : lkB av n with
  | some was =>
    rw [hk] at HVX
    simp only [strD, Option.isSome_some] at HVX
    have HE := Lib.hid (strEqW was v)
    have HBD := Lib.hid (show bind1 av n v = if was = v then some av else none from by unfold bind1; rw [hk])
    have HRA := Lib.hid (fun (w' : World) (hb : Below w.heap.size w w') => tStrs.mono _ _ _ _ (below_onS hb S) ha)
    have HRBB := Lib.hid (fun (w' : World) (hb : Below w.heap.size w w') => tStrs.mono _ _ _ _ (below_onS hb S) hbb)
    clear hX hb hs h1 h2 ha hbb hl hn hv HVAL hk
    obtain ⟨aa, ca, rfl, -⟩ := slice_form (HRA.out X HB.out)
    obtain ⟨ab, cb, rfl, -⟩ := slice_form (HRBB.out X HB.out)
    generalize (av.map Prod.fst).length = la at *
    generalize (av.map Prod.snd).length = lb at *
    cases h1 : (was.toList == v.toList)
    all_goals
      have HQ := Lib.hid (HE.out.symm.trans h1)
      clear HE
      go_enter Try.func73, Try.ntmps73
      go_wp2_with fail
      rw [← HX.out]
      refine HVX.out.mono ?_
      rintro e w1 ⟨rfl, rfl⟩
      go_wp2_with fail
    · refine bodyPost_ret (v := .tuple #[.agg #[.slice aa la ca, .slice ab lb cb, .slice ac nc cc], .bool false]) (by simp [results, Try.results73, go_sem, z0, z1, z2]) rfl ⟨((HB.out.setCell (by simp) _).setCell (by simp) _).setCell (by simp) _, .inl ⟨?_, rfl⟩⟩
      rw [HBD.out, if_neg (of_decide_eq_false HQ.out)]
    · have HB5 : Below w.heap.size w (((X.setCell ⟨w.heap.size + 1, 0, none⟩ (.slice aa la ca)).setCell ⟨w.heap.size + 1, 1, none⟩ (.slice ab lb cb)).setCell ⟨w.heap.size + 1, 2, none⟩ (.slice ac nc cc)) := ((HB.out.setCell (by simp) _).setCell (by simp) _).setCell (by simp) _
      refine bodyPost_ret (v := .tuple #[.agg #[.slice aa la ca, .slice ab lb cb, .slice ac nc cc], .bool true]) (by simp [results, Try.results73, go_sem, z0, z1, z2]) rfl ⟨HB5, .inr ⟨av, _, _, ?_, rfl, HRA.out _ HB5, HRBB.out _ HB5⟩⟩
      rw [HBD.out, if_pos (of_decide_eq_true HQ.out)]
  | none =>
    rw [hk] at HVX
    simp only [strD, Option.isSome_none] at HVX
    have HBD := Lib.hid (show bind1 av n v = some (av ++ [(n, v)]) from by unfold bind1; rw [hk])
    obtain ⟨aa, ca, rfl, -, -, ha⟩ := slice_form ha
    obtain ⟨ab, cb, rfl, -, -, hbb⟩ := slice_form hbb
    obtain ⟨ns, hns⟩ : ∃ ns, ns = av.map Prod.fst := ⟨_, rfl⟩
    obtain ⟨vs, hvs⟩ : ∃ vs, vs = av.map Prod.snd := ⟨_, rfl⟩
    have HL := Lib.hid (show ns.length ≤ 1000 from by rw [hns, List.length_map]; exact hl)
    have HLV := Lib.hid (show vs.length ≤ 1000 from by rw [hvs, List.length_map]; exact hl)
    have HXN := Lib.hid hn
    have HXV := Lib.hid hv
    rw [← hns] at ha
    rw [← hvs] at hbb
    have hMX : ((mem w).on S).le ((mem X.drew).on (fun k => k ≠ (w.heap.size + 1) ∧ k < X.drew.heap.size)) := fun bb o u e => by
      obtain ⟨hs', e⟩ := Mem.of_on e
      have := mem_lt e
      exact Mem.on_some (below_mem hb _ _ _ e) ⟨by omega, by show bb < X.heap.size; omega⟩
    have HN := Lib.hid (tStrs.mono _ _ _ _ hMX ha)
    have HW := Lib.hid (tStrs.mono _ _ _ _ hMX hbb)
    have HC := Lib.hid (show ∀ wz, Keeps (fun k => k = (w.heap.size + 1) ∨ X.drew.heap.size ≤ k) X.drew wz → wz.cell? ⟨w.heap.size, 0, none⟩ = some (.slice aa ns.length ca) ∧ wz.cell? ⟨w.heap.size, 1, none⟩ = some (.slice ab vs.length cb) ∧ wz.cell? ⟨w.heap.size, 2, none⟩ = some (.slice ac nc cc) from fun wz hk => by
      have hbk : wz.heap[w.heap.size]? = some (.cells #[.slice aa (av.map Prod.fst).length ca, .slice ab (av.map Prod.snd).length cb, .slice ac nc cc] 82 (0, 0)) := (hk.block w.heap.size (by show w.heap.size < X.heap.size; omega) (by rintro (e | e); omega; (have e : X.heap.size ≤ w.heap.size := e; omega))).trans H1.out
      rw [hns, hvs]
      exact ⟨mem_cells hbk 0, mem_cells hbk 1, mem_cells hbk 2⟩)
    have hrb : (w.heap.size + 1) < X.drew.heap.size := by show (w.heap.size + 1) < X.heap.size; omega
    have HEND := Lib.hid (show ∀ w5 a6 c6 a13 c13, Keeps (fun k => k = (w.heap.size + 1) ∨ X.drew.heap.size ≤ k) X.drew w5 → OwnsO tStr w5 9 (.slice a6 (ns ++ [n]).length c6) (ns ++ [n]) → (∀ k, (Value.slice a6 (ns ++ [n]).length c6).ownBlock = some k → X.drew.heap.size ≤ k) → OwnsO tStr w5 9 (.slice a13 (vs ++ [v]).length c13) (vs ++ [v]) → (∀ k, (Value.slice a13 (vs ++ [v]).length c13).ownBlock = some k → X.drew.heap.size ≤ k) →
        BoundOut S av (.slice aa ns.length ca) (.slice ab vs.length cb) (.slice ac nc cc) n v w (.returned (.tuple #[.agg #[.slice a6 (ns ++ [n]).length c6, .slice a13 (vs ++ [v]).length c13, .slice ac nc cc], .bool true])) w5 from fun w5 a6 c6 a13 c13 hkp o6 l6 o13 l13 => by
      have hbe : Below w.heap.size w w5 := hb.trans ((show Keeps _ X w5 from ⟨hkp.os, hkp.tape, hkp.output, hkp.size, hkp.block⟩).below (by omega) (fun k e => by rcases e with e | e; omega; (have e : X.heap.size ≤ k := e; omega)))
      refine ⟨hbe, .inr ⟨_, _, _, HBD.out, rfl, ?_, ?_⟩⟩
      · rw [List.map_append, ← hns]; exact o6.rv tStr_flat (fun k e => .inr (by have : X.heap.size ≤ k := l6 k e; omega))
      · rw [List.map_append, ← hvs]; exact o13.rv tStr_flat (fun k e => .inr (by have : X.heap.size ≤ k := l13 k e; omega)))
    rw [← hns, ← hvs] at HX HVX ⊢
    clear hX hb hs h1 h2 ha hbb hl hn hv HVAL hk hMX HBD H1 y0 y1 y2 z0 z1 z2 c2 hns hvs
    clear hlt
    go_enter Try.func73, Try.ntmps73
    go_wp2_with fail
    rw [← HX.out]
    refine HVX.out.mono ?_
    rintro e w1 ⟨rfl, rfl⟩
    go_wp2_with fail
    refine wp_region_inv (by kernel_rfl) (by kernel_rfl) (by kernel_rfl) (BJ X.drew (w.heap.size + 1) w.heap.size (.slice aa ns.length ca) (.slice ab vs.length cb) (.slice ac nc cc) n v ns vs) ?start (AllAt.all ?steps) ?ends
    case start => exact ⟨BK.start hrb, fun i u _ e => (by cases e), fun e => (by cases e), fun e => (by cases e), fun e => (by cases e), fun _ => HRB.out, fun e => (by cases e)⟩
    case steps =>
      refine AllAt.cons 1 ?s0 (AllAt.cons 2 ?s1 (AllAt.cons 3 ?s2 (AllAt.cons 4 ?s3 (AllAt.cons 5 ?s4 (AllAt.cons 6 ?s5 (AllAt.cons 7 ?s6 (AllAt.cons 8 ?s7 (AllAt.cons 9 ?s8 (AllAt.cons 10 ?s9 (AllAt.cons 11 ?s10 (AllAt.cons 12 ?s11 (AllAt.cons 13 ?s12 (AllAt.cons 14 ?s13 (AllAt.cons 15 ?s14 (AllAt.cons 16 ?s15 (AllAt.cons 17 ?s16 (AllAt.cons 18 ?s17 (AllAt.cons 19 ?s18 (AllAt.nil) rfl) rfl) rfl) rfl) rfl) rfl) rfl) rfl) rfl) rfl) rfl) rfl) rfl) rfl) rfl) rfl) rfl) rfl) rfl
      case s0 =>
        intro L f a wz hJ hLi hdep hv h0 K hK
        have hL16 : L 16 = false := by
          cases e : L 16 with
          | false => rfl
          | true => exact absurd (hJ.d16 e) (by intro h; first | (rw [hLi] at h; cases h.1) | (rw [hLi] at h; cases h.2) | (have h1 := hJ.k.A.d2 h.1; rw [hLi] at h1; cases h1) | (have h1 := hJ.k.B.d2 h.2; rw [hLi] at h1; cases h1) | (have h1 := hJ.k.A.d1 (hJ.k.A.d2 h.1); rw [hLi] at h1; cases h1) | (have h1 := hJ.k.B.d1 (hJ.k.B.d2 h.2); rw [hLi] at h1; cases h1))
        have hL17 : L 17 = false := by
          cases e : L 17 with
          | false => rfl
          | true => exact absurd (hJ.d17 e) (by rw [hL16]; simp)
        have hk := hJ.k
        rw [hLi] at hk
        have h5 := hk.lit
        refine step_val rfl (v := .slice (some ⟨wz.heap.size, 0, none⟩) 0 0) (w' := wz.alloc (.cells #[] 9)) ?_ (hK _ _ ⟨h5.1, vsAdd hJ.vs (fun u e => absurd (show (none : Option Value) = some u from e) (by simp)), fun e => absurd (show L 16 = true from e) (by rw [hL16]; simp), fun e => absurd (show L 16 = true from e) (by rw [hL16]; simp), hJ.d17, fun e => h5.2.trans (hJ.s1 e), fun e => absurd (show L 17 = true from e) (by rw [hL17]; simp)⟩)
        clear hJ hdep hv h0 hK
        simp [go_sem, execOp]
      case s1 =>
        intro L f a wz hJ hLi hdep hv h0 K hK
        have e3 : a.eval (.tmp 3) = .pointer (some ⟨w.heap.size, 0, none⟩) := (h0 3 (noDst_spec (by kernel_rfl))).trans rfl
        refine step_val rfl (v := .pointer (some ⟨w.heap.size, 0, none⟩)) (w' := wz) ?_ (hK _ _ ⟨hJ.k, vsAdd hJ.vs (fun u e => Option.some.inj e), hJ.v16, hJ.d16, hJ.d17, hJ.s1, hJ.s2⟩)
        clear hJ hdep hv h0 hK
        generalize a.eval = ρ at *
        simp [go_sem, execOp, *]
      case s2 =>
        intro L f a wz hJ hLi hdep hv h0 K hK
        have hL1 := hdep 1 (List.mem_of_elem_eq_true (by kernel_rfl))
        have e25 := (hv 1 25 rfl hL1).trans (hJ.vs 1 _ rfl hL1)
        have c0 := HC.out wz hJ.k.kp
        obtain ⟨c0, c1, c2⟩ := c0
        refine step_val rfl (v := .slice aa ns.length ca) (w' := wz) ?_ (hK _ _ ⟨hJ.k, vsAdd hJ.vs (fun u e => Option.some.inj e), hJ.v16, hJ.d16, hJ.d17, hJ.s1, hJ.s2⟩)
        clear hJ hdep hv h0 hK
        generalize a.eval = ρ at *
        simp [go_sem, execOp, *]
      case s3 =>
        intro L f a wz hJ hLi hdep hv h0 K hK
        have hL16 : L 16 = false := by
          cases e : L 16 with
          | false => rfl
          | true => exact absurd (hJ.d16 e) (by intro h; first | (rw [hLi] at h; cases h.1) | (rw [hLi] at h; cases h.2) | (have h1 := hJ.k.A.d2 h.1; rw [hLi] at h1; cases h1) | (have h1 := hJ.k.B.d2 h.2; rw [hLi] at h1; cases h1) | (have h1 := hJ.k.A.d1 (hJ.k.A.d2 h.1); rw [hLi] at h1; cases h1) | (have h1 := hJ.k.B.d1 (hJ.k.B.d2 h.2); rw [hLi] at h1; cases h1))
        have hL17 : L 17 = false := by
          cases e : L 17 with
          | false => rfl
          | true => exact absurd (hJ.d17 e) (by rw [hL16]; simp)
        have hL0 := hdep 0 (List.mem_of_elem_eq_true (by kernel_rfl))
        have hL2 := hdep 2 (List.mem_of_elem_eq_true (by kernel_rfl))
        have e26 := (hv 2 26 rfl hL2).trans (hJ.vs 2 _ rfl hL2)
        have hk := hJ.k
        have hLz : L 6 = false := by
          cases e : L 6 with
          | false => rfl
          | true => exact absurd (hk.A.d2 e) (by rw [hLi]; simp)
        obtain ⟨g, e0, hg⟩ := hk.A.a0 hL0 hLi hLz
        have e24 := (hv 0 24 rfl hL0).trans e0
        refine step_append_os rfl (.tmp 24) (.tmp 26) 48 rfl tStr tStr_flat tStr_one Try.underlying48 infoStrW rfl (by decide) _ [] ns e24 (lit0_of _ hg) _ _ _ e26 rfl (tStrs.mono _ _ _ _ (keeps_mem' hk.kp (fun b hb => by rintro (h | h); exact hb.1 h; exact absurd hb.2 (by omega))) HN.out) (by have := HL.out; have := HLV.out; simp; unfold maxLen; omega) (by have := HL.out; have := HLV.out; simp; omega) ?_
        intro v5 w5 own5 happ
        rw [List.nil_append] at own5
        have h5 := hk.copy hL0 hLi own5 (by rw [e0]; exact happ)
        exact hK _ _ ⟨h5.1, vsAdd hJ.vs (fun u e => absurd (show (none : Option Value) = some u from e) (by simp)), fun e => absurd (show L 16 = true from e) (by rw [hL16]; simp), fun e => absurd (show L 16 = true from e) (by rw [hL16]; simp), hJ.d17, fun e => h5.2.trans (hJ.s1 e), fun e => absurd (show L 17 = true from e) (by rw [hL17]; simp)⟩
      case s4 =>
        intro L f a wz hJ hLi hdep hv h0 K hK
        have e1 : a.eval (.tmp 1) = .string n := (h0 1 (noDst_spec (by kernel_rfl))).trans rfl
        refine step_val rfl (v := .string n) (w' := wz) ?_ (hK _ _ ⟨hJ.k, vsAdd hJ.vs (fun u e => Option.some.inj e), hJ.v16, hJ.d16, hJ.d17, hJ.s1, hJ.s2⟩)
        clear hJ hdep hv h0 hK
        generalize a.eval = ρ at *
        simp [go_sem, execOp, *]
      case s5 =>
        intro L f a wz hJ hLi hdep hv h0 K hK
        have hL4 := hdep 4 (List.mem_of_elem_eq_true (by kernel_rfl))
        have e28 := (hv 4 28 rfl hL4).trans (hJ.vs 4 _ rfl hL4)
        have hk := hJ.k
        rw [hLi] at hk
        have h5 := hk.one
        have S2 := Lib.hid (fun e => h5.2.trans (hJ.s2 e))
        have S1 := Lib.hid (fun e => h5.2.trans (hJ.s1 e))
        refine step_val rfl (v := .slice (some ⟨wz.heap.size, 0, none⟩) 1 1) (w' := wz.alloc (.cells #[.string n] 9)) ?_ (hK _ _ ⟨h5.1, vsAdd hJ.vs (fun u e => absurd (show (none : Option Value) = some u from e) (by simp)), hJ.v16, hJ.d16, hJ.d17, S1.out, S2.out⟩)
        clear hJ hdep hv h0 hK h5 S1 S2
        generalize a.eval = ρ at *
        simp [go_sem, execOp, e28]
      case s6 =>
        intro L f a wz hJ hLi hdep hv h0 K hK
        have hL16 : L 16 = false := by
          cases e : L 16 with
          | false => rfl
          | true => exact absurd (hJ.d16 e) (by intro h; first | (rw [hLi] at h; cases h.1) | (rw [hLi] at h; cases h.2) | (have h1 := hJ.k.A.d2 h.1; rw [hLi] at h1; cases h1) | (have h1 := hJ.k.B.d2 h.2; rw [hLi] at h1; cases h1) | (have h1 := hJ.k.A.d1 (hJ.k.A.d2 h.1); rw [hLi] at h1; cases h1) | (have h1 := hJ.k.B.d1 (hJ.k.B.d2 h.2); rw [hLi] at h1; cases h1))
        have hL17 : L 17 = false := by
          cases e : L 17 with
          | false => rfl
          | true => exact absurd (hJ.d17 e) (by rw [hL16]; simp)
        have hL3 := hdep 3 (List.mem_of_elem_eq_true (by kernel_rfl))
        have hL5 := hdep 5 (List.mem_of_elem_eq_true (by kernel_rfl))
        have hk := hJ.k
        obtain ⟨g, e1, -, hg, -⟩ := hk.la hL5
        have e27 := hv 3 27 rfl hL3
        have e29 := (hv 5 29 rfl hL5).trans e1
        refine step_append_os rfl (.tmp 27) (.tmp 29) 48 rfl tStr tStr_flat tStr_one Try.underlying48 infoStrW rfl (by decide) _ ns [n] e27 (hk.A.a1 hL3 hLi) _ _ _ e29 rfl (slice_one (cs := [.string n]) (fun j u hj => by match j, hj with | 0, hj => simp at hj; subst hj; exact mem_cells hg 0) ⟨rfl, HXN.out⟩) (by have := HL.out; have := HLV.out; simp; unfold maxLen; omega) (by have := HL.out; have := HLV.out; simp; omega) ?_
        intro v5 w5 own5 happ
        have h5 := hk.more hL3 hLi own5 happ
        exact hK _ _ ⟨h5.1, vsAdd hJ.vs (fun u e => absurd (show (none : Option Value) = some u from e) (by simp)), fun e => absurd (show L 16 = true from e) (by rw [hL16]; simp), fun e => absurd (show L 16 = true from e) (by rw [hL16]; simp), hJ.d17, fun e => h5.2.trans (hJ.s1 e), fun e => absurd (show L 17 = true from e) (by rw [hL17]; simp)⟩
      case s7 =>
        intro L f a wz hJ hLi hdep hv h0 K hK
        have hL16 : L 16 = false := by
          cases e : L 16 with
          | false => rfl
          | true => exact absurd (hJ.d16 e) (by intro h; first | (rw [hLi] at h; cases h.1) | (rw [hLi] at h; cases h.2) | (have h1 := hJ.k.A.d2 h.1; rw [hLi] at h1; cases h1) | (have h1 := hJ.k.B.d2 h.2; rw [hLi] at h1; cases h1) | (have h1 := hJ.k.A.d1 (hJ.k.A.d2 h.1); rw [hLi] at h1; cases h1) | (have h1 := hJ.k.B.d1 (hJ.k.B.d2 h.2); rw [hLi] at h1; cases h1))
        have hL17 : L 17 = false := by
          cases e : L 17 with
          | false => rfl
          | true => exact absurd (hJ.d17 e) (by rw [hL16]; simp)
        have hk := hJ.k.swap
        rw [hLi] at hk
        have h5 := hk.lit
        refine step_val rfl (v := .slice (some ⟨wz.heap.size, 0, none⟩) 0 0) (w' := wz.alloc (.cells #[] 9)) ?_ (hK _ _ ⟨(⟨h5.1.swap, h5.2⟩ : _ ∧ _).1, vsAdd hJ.vs (fun u e => absurd (show (none : Option Value) = some u from e) (by simp)), fun e => absurd (show L 16 = true from e) (by rw [hL16]; simp), fun e => absurd (show L 16 = true from e) (by rw [hL16]; simp), hJ.d17, fun e => (⟨h5.1.swap, h5.2⟩ : _ ∧ _).2.trans (hJ.s1 e), fun e => absurd (show L 17 = true from e) (by rw [hL17]; simp)⟩)
        clear hJ hdep hv h0 hK
        simp [go_sem, execOp]
      case s8 =>
        intro L f a wz hJ hLi hdep hv h0 K hK
        have e3 : a.eval (.tmp 3) = .pointer (some ⟨w.heap.size, 0, none⟩) := (h0 3 (noDst_spec (by kernel_rfl))).trans rfl
        refine step_val rfl (v := .pointer (some ⟨w.heap.size, 1, none⟩)) (w' := wz) ?_ (hK _ _ ⟨hJ.k, vsAdd hJ.vs (fun u e => Option.some.inj e), hJ.v16, hJ.d16, hJ.d17, hJ.s1, hJ.s2⟩)
        clear hJ hdep hv h0 hK
        generalize a.eval = ρ at *
        simp [go_sem, execOp, *]
      case s9 =>
        intro L f a wz hJ hLi hdep hv h0 K hK
        have hL8 := hdep 8 (List.mem_of_elem_eq_true (by kernel_rfl))
        have e32 := (hv 8 32 rfl hL8).trans (hJ.vs 8 _ rfl hL8)
        have c0 := HC.out wz hJ.k.kp
        obtain ⟨c0, c1, c2⟩ := c0
        refine step_val rfl (v := .slice ab vs.length cb) (w' := wz) ?_ (hK _ _ ⟨hJ.k, vsAdd hJ.vs (fun u e => Option.some.inj e), hJ.v16, hJ.d16, hJ.d17, hJ.s1, hJ.s2⟩)
        clear hJ hdep hv h0 hK
        generalize a.eval = ρ at *
        simp [go_sem, execOp, *]
      case s10 =>
        intro L f a wz hJ hLi hdep hv h0 K hK
        have hL16 : L 16 = false := by
          cases e : L 16 with
          | false => rfl
          | true => exact absurd (hJ.d16 e) (by intro h; first | (rw [hLi] at h; cases h.1) | (rw [hLi] at h; cases h.2) | (have h1 := hJ.k.A.d2 h.1; rw [hLi] at h1; cases h1) | (have h1 := hJ.k.B.d2 h.2; rw [hLi] at h1; cases h1) | (have h1 := hJ.k.A.d1 (hJ.k.A.d2 h.1); rw [hLi] at h1; cases h1) | (have h1 := hJ.k.B.d1 (hJ.k.B.d2 h.2); rw [hLi] at h1; cases h1))
        have hL17 : L 17 = false := by
          cases e : L 17 with
          | false => rfl
          | true => exact absurd (hJ.d17 e) (by rw [hL16]; simp)
        have hL7 := hdep 7 (List.mem_of_elem_eq_true (by kernel_rfl))
        have hL9 := hdep 9 (List.mem_of_elem_eq_true (by kernel_rfl))
        have e33 := (hv 9 33 rfl hL9).trans (hJ.vs 9 _ rfl hL9)
        have hk := hJ.k.swap
        have hLz : L 13 = false := by
          cases e : L 13 with
          | false => rfl
          | true => exact absurd (hk.A.d2 e) (by rw [hLi]; simp)
        obtain ⟨g, e0, hg⟩ := hk.A.a0 hL7 hLi hLz
        have e31 := (hv 7 31 rfl hL7).trans e0
        refine step_append_os rfl (.tmp 31) (.tmp 33) 48 rfl tStr tStr_flat tStr_one Try.underlying48 infoStrW rfl (by decide) _ [] vs e31 (lit0_of _ hg) _ _ _ e33 rfl (tStrs.mono _ _ _ _ (keeps_mem' hk.kp (fun b hb => by rintro (h | h); exact hb.1 h; exact absurd hb.2 (by omega))) HW.out) (by have := HL.out; have := HLV.out; simp; unfold maxLen; omega) (by have := HL.out; have := HLV.out; simp; omega) ?_
        intro v5 w5 own5 happ
        rw [List.nil_append] at own5
        have h5 := hk.copy hL7 hLi own5 (by rw [e0]; exact happ)
        exact hK _ _ ⟨(⟨h5.1.swap, h5.2⟩ : _ ∧ _).1, vsAdd hJ.vs (fun u e => absurd (show (none : Option Value) = some u from e) (by simp)), fun e => absurd (show L 16 = true from e) (by rw [hL16]; simp), fun e => absurd (show L 16 = true from e) (by rw [hL16]; simp), hJ.d17, fun e => (⟨h5.1.swap, h5.2⟩ : _ ∧ _).2.trans (hJ.s1 e), fun e => absurd (show L 17 = true from e) (by rw [hL17]; simp)⟩
      case s11 =>
        intro L f a wz hJ hLi hdep hv h0 K hK
        have e2 : a.eval (.tmp 2) = .string v := (h0 2 (noDst_spec (by kernel_rfl))).trans rfl
        refine step_val rfl (v := .string v) (w' := wz) ?_ (hK _ _ ⟨hJ.k, vsAdd hJ.vs (fun u e => Option.some.inj e), hJ.v16, hJ.d16, hJ.d17, hJ.s1, hJ.s2⟩)
        clear hJ hdep hv h0 hK
        generalize a.eval = ρ at *
        simp [go_sem, execOp, *]
      case s12 =>
        intro L f a wz hJ hLi hdep hv h0 K hK
        have hL11 := hdep 11 (List.mem_of_elem_eq_true (by kernel_rfl))
        have e35 := (hv 11 35 rfl hL11).trans (hJ.vs 11 _ rfl hL11)
        have hk := hJ.k.swap
        rw [hLi] at hk
        have h5 := hk.one
        have S2 := Lib.hid (fun e => h5.2.trans (hJ.s2 e))
        have S1 := Lib.hid (fun e => h5.2.trans (hJ.s1 e))
        refine step_val rfl (v := .slice (some ⟨wz.heap.size, 0, none⟩) 1 1) (w' := wz.alloc (.cells #[.string v] 9)) ?_ (hK _ _ ⟨h5.1.swap, vsAdd hJ.vs (fun u e => absurd (show (none : Option Value) = some u from e) (by simp)), hJ.v16, hJ.d16, hJ.d17, S1.out, S2.out⟩)
        clear hJ hdep hv h0 hK h5 S1 S2
        generalize a.eval = ρ at *
        simp [go_sem, execOp, e35]
      case s13 =>
        intro L f a wz hJ hLi hdep hv h0 K hK
        have hL16 : L 16 = false := by
          cases e : L 16 with
          | false => rfl
          | true => exact absurd (hJ.d16 e) (by intro h; first | (rw [hLi] at h; cases h.1) | (rw [hLi] at h; cases h.2) | (have h1 := hJ.k.A.d2 h.1; rw [hLi] at h1; cases h1) | (have h1 := hJ.k.B.d2 h.2; rw [hLi] at h1; cases h1) | (have h1 := hJ.k.A.d1 (hJ.k.A.d2 h.1); rw [hLi] at h1; cases h1) | (have h1 := hJ.k.B.d1 (hJ.k.B.d2 h.2); rw [hLi] at h1; cases h1))
        have hL17 : L 17 = false := by
          cases e : L 17 with
          | false => rfl
          | true => exact absurd (hJ.d17 e) (by rw [hL16]; simp)
        have hL10 := hdep 10 (List.mem_of_elem_eq_true (by kernel_rfl))
        have hL12 := hdep 12 (List.mem_of_elem_eq_true (by kernel_rfl))
        have hk := hJ.k.swap
        obtain ⟨g, e1, -, hg, -⟩ := hk.la hL12
        have e34 := hv 10 34 rfl hL10
        have e36 := (hv 12 36 rfl hL12).trans e1
        refine step_append_os rfl (.tmp 34) (.tmp 36) 48 rfl tStr tStr_flat tStr_one Try.underlying48 infoStrW rfl (by decide) _ vs [v] e34 (hk.A.a1 hL10 hLi) _ _ _ e36 rfl (slice_one (cs := [.string v]) (fun j u hj => by match j, hj with | 0, hj => simp at hj; subst hj; exact mem_cells hg 0) ⟨rfl, HXV.out⟩) (by have := HL.out; have := HLV.out; simp; unfold maxLen; omega) (by have := HL.out; have := HLV.out; simp; omega) ?_
        intro v5 w5 own5 happ
        have h5 := hk.more hL10 hLi own5 happ
        exact hK _ _ ⟨(⟨h5.1.swap, h5.2⟩ : _ ∧ _).1, vsAdd hJ.vs (fun u e => absurd (show (none : Option Value) = some u from e) (by simp)), fun e => absurd (show L 16 = true from e) (by rw [hL16]; simp), fun e => absurd (show L 16 = true from e) (by rw [hL16]; simp), hJ.d17, fun e => (⟨h5.1.swap, h5.2⟩ : _ ∧ _).2.trans (hJ.s1 e), fun e => absurd (show L 17 = true from e) (by rw [hL17]; simp)⟩
      case s14 =>
        intro L f a wz hJ hLi hdep hv h0 K hK
        have e3 : a.eval (.tmp 3) = .pointer (some ⟨w.heap.size, 0, none⟩) := (h0 3 (noDst_spec (by kernel_rfl))).trans rfl
        refine step_val rfl (v := .pointer (some ⟨w.heap.size, 2, none⟩)) (w' := wz) ?_ (hK _ _ ⟨hJ.k, vsAdd hJ.vs (fun u e => Option.some.inj e), hJ.v16, hJ.d16, hJ.d17, hJ.s1, hJ.s2⟩)
        clear hJ hdep hv h0 hK
        generalize a.eval = ρ at *
        simp [go_sem, execOp, *]
      case s15 =>
        intro L f a wz hJ hLi hdep hv h0 K hK
        have hL14 := hdep 14 (List.mem_of_elem_eq_true (by kernel_rfl))
        have e38 := (hv 14 38 rfl hL14).trans (hJ.vs 14 _ rfl hL14)
        have c0 := HC.out wz hJ.k.kp
        obtain ⟨c0, c1, c2⟩ := c0
        refine step_val rfl (v := .slice ac nc cc) (w' := wz) ?_ (hK _ _ ⟨hJ.k, vsAdd hJ.vs (fun u e => Option.some.inj e), hJ.v16, hJ.d16, hJ.d17, hJ.s1, hJ.s2⟩)
        clear hJ hdep hv h0 hK
        generalize a.eval = ρ at *
        simp [go_sem, execOp, *]
      case s16 =>
        intro L f a wz hJ hLi hdep hv h0 K hK
        have hL6 := hdep 6 (List.mem_of_elem_eq_true (by kernel_rfl))
        have hL13 := hdep 13 (List.mem_of_elem_eq_true (by kernel_rfl))
        have hL15 := hdep 15 (List.mem_of_elem_eq_true (by kernel_rfl))
        have e39 := (hv 15 39 rfl hL15).trans (hJ.vs 15 _ rfl hL15)
        obtain ⟨a6, c6, e6, -⟩ := (hJ.k.A.a2 hL6).form
        obtain ⟨a13, c13, e13, -⟩ := (hJ.k.B.a2 hL13).form
        have e30 := (hv 6 30 rfl hL6).trans e6
        have e37 := (hv 13 37 rfl hL13).trans e13
        have hL17 : L 17 = false := by
          cases e : L 17 with
          | false => rfl
          | true => exact absurd (hJ.d17 e) (by rw [hLi]; simp)
        refine step_val rfl (v := .agg #[.slice a6 (ns ++ [n]).length c6, .slice a13 (vs ++ [v]).length c13, .slice ac nc cc]) (w' := wz) ?_ (hK _ _ ⟨hJ.k, vsAdd hJ.vs (fun u e => absurd (show (none : Option Value) = some u from e) (by simp)), fun _ => by show _ = Value.agg #[f 6, f 13, _]; rw [e6, e13]; rfl, fun _ => ⟨hL6, hL13⟩, fun e => absurd (show L 17 = true from e) (by rw [hL17]; simp), hJ.s1, hJ.s2⟩)
        clear hJ hdep hv h0 hK
        generalize a.eval = ρ at *
        simp [go_sem, execOp, e30, e37, e39]
      case s17 =>
        intro L f a wz hJ hLi hdep hv h0 K hK
        have hL16 := hdep 16 (List.mem_of_elem_eq_true (by kernel_rfl))
        have hL6 := (hJ.d16 hL16).1
        have hL13 := (hJ.d16 hL16).2
        obtain ⟨a6, c6, q6, -⟩ := (hJ.k.A.a2 hL6).form
        obtain ⟨a13, c13, q13, -⟩ := (hJ.k.B.a2 hL13).form
        have e40 := (hv 16 40 rfl hL16).trans (hJ.v16 hL16)
        rw [q6, q13] at e40
        have hb := hJ.s1 hLi
        have z0 : wz.cell? ⟨(w.heap.size + 1), 0, none⟩ = some (.slice none 0 0) := mem_cells hb 0
        have z1 : wz.cell? ⟨(w.heap.size + 1), 1, none⟩ = some (.slice none 0 0) := mem_cells hb 1
        have z2 : wz.cell? ⟨(w.heap.size + 1), 2, none⟩ = some (.slice none 0 0) := mem_cells hb 2
        have y0 : wz.frozen? ⟨(w.heap.size + 1), 0, none⟩ = false := frozen_cells hb 0
        have y1 : wz.frozen? ⟨(w.heap.size + 1), 1, none⟩ = false := frozen_cells hb 1
        have y2 : wz.frozen? ⟨(w.heap.size + 1), 2, none⟩ = false := frozen_cells hb 2
        have e6 : a.eval (.tmp 6) = .pointer (some ⟨(w.heap.size + 1), 0, none⟩) := (h0 6 (noDst_spec (by kernel_rfl))).trans rfl
        have hst := store3_block hb (.slice a6 (ns ++ [n]).length c6) (.slice a13 (vs ++ [v]).length c13) (.slice ac nc cc)
        have hk2 := hJ.k.res (store3_keeps wz (w.heap.size + 1) (.slice a6 (ns ++ [n]).length c6) (.slice a13 (vs ++ [v]).length c13) (.slice ac nc cc))
        have hk := hK undef _ ⟨hk2, vsAdd hJ.vs (fun u e => absurd (show (none : Option Value) = some u from e) (by simp)), hJ.v16, hJ.d16, fun _ => hL16, fun e => (by cases e), fun _ => by rw [hst]; show _ = some (Obj.cells #[f 6, f 13, _] _ _); rw [q6, q13]⟩
        refine step_skip rfl ?_ hk
        clear hJ hdep hv h0 hK hk hst hk2 hb
        generalize a.eval = ρ at *
        simp [go_sem, execOp, store3, *]
      case s18 =>
        intro L f a wz hJ hLi hdep hv h0 K hK
        refine step_val rfl (v := .bool true) (w' := wz) ?_ (hK _ _ ⟨hJ.k, vsAdd hJ.vs (fun u e => Option.some.inj e), hJ.v16, hJ.d16, hJ.d17, hJ.s1, hJ.s2⟩)
        clear hJ hdep hv h0 hK
        simp [go_sem, execOp]
    case ends =>
      intro L f w5 hJ hall
      obtain ⟨a6, c6, e6, -⟩ := (hJ.k.A.a2 (hall 6 (by decide))).form
      obtain ⟨a13, c13, e13, -⟩ := (hJ.k.B.a2 (hall 13 (by decide))).form
      have hb := hJ.s2 (hall 17 (by decide))
      have e18 := hJ.vs 18 _ rfl (hall 18 (by decide))
      rw [e6, e13] at hb
      have z0 : w5.cell? ⟨(w.heap.size + 1), 0, none⟩ = some (.slice a6 (ns ++ [n]).length c6) := mem_cells hb 0
      have z1 : w5.cell? ⟨(w.heap.size + 1), 1, none⟩ = some (.slice a13 (vs ++ [v]).length c13) := mem_cells hb 1
      have z2 : w5.cell? ⟨(w.heap.size + 1), 2, none⟩ = some (.slice ac nc cc) := mem_cells hb 2
      have HOA := Lib.hid (hJ.k.A.a2 (hall 6 (by decide)))
      have HOB := Lib.hid (hJ.k.B.a2 (hall 13 (by decide)))
      rw [e6] at HOA
      rw [e13] at HOB
      have HLA := Lib.hid (fun k e => (hJ.k.A.lt k (show cblk (L 0) (L 3) (L 6) (f 0) (f 3) (f 6) = some k by rw [hall 6 (by decide), e6]; exact e)).1)
      have HLB := Lib.hid (fun k e => (hJ.k.B.lt k (show cblk (L 7) (L 10) (L 13) (f 7) (f 10) (f 13) = some k by rw [hall 13 (by decide), e13]; exact e)).1)
      have HKP := Lib.hid hJ.k.kp
      simp only [putAll, Exit.then]
      rw [e18]
      clear hJ hall hb e6 e13
      go_at_K
      go_wp2
      exact bodyPost_ret (v := .tuple #[.agg #[.slice a6 (ns ++ [n]).length c6, .slice a13 (vs ++ [v]).length c13, .slice ac nc cc], .bool true]) (by simp [results, Try.results73, go_sem, z0, z1, z2, Act.put]) rfl (HEND.out _ _ _ _ _ HKP.out HOA.out HLA.out HOB.out HLB.out)
end Go.Proofs.Ytafeaeaildfohaa
