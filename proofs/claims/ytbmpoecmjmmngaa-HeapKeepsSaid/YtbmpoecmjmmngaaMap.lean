/- Maps of the call's own, told by what stands at each key, for elements of any kind. No program in sight. -/
import Derived.Test.YtbmpoecmjmmngaaLib
import Derived.Maps.OwnSet
import Derived.Maps.Range
import Derived.Maps.RangeWalk
namespace Go.Proofs.Ytbmpoecmjmmngaa
open Go.RowKit Go.Maps

def rawE : Value → Option (DataW Value × List MemPlace) := fun v => some (.held v, [])
/-- How one value (an element of a map) reads. -/
structure VR (α : Type) where
  rel : Mem → Value → α → Prop
  mono : ∀ m m' v x, m.le m' → rel m v x → rel m' v x
def vBool : VR Bool := ⟨fun _ v x => v = .bool x, fun _ _ _ _ _ h => h⟩
def vInt : VR Int := ⟨fun _ v x => v = .int .i64 x ∧ inI64 x, fun _ _ _ _ _ h => h⟩
def Ty.one {α : Type} (t : Ty α) : VR α := ⟨fun m v x => t.rv m [v] x, fun _ _ _ _ h k => t.mono _ _ _ _ h k⟩

section
variable {κ α : Type} {P : Program} {k : TypeId} {lk : κ → Lit} {vr : VR α}
/-- What the entries are, key by key. -/
def MapSays (lk : κ → Lit) (vr : VR α) (m : Mem) (D : DataW Value) (f : κ → Option α) : Prop :=
  (∀ x, f x = none → Maps.has D (lk x) = false) ∧ (∀ x a, f x = some a → Maps.has D (lk x) = true ∧ ∃ v, (∀ z, D.atKey (lk x) z = .held v) ∧ vr.rel m v a) ∧ (∀ l, Maps.has D l = true → ∃ x, l = lk x)
theorem MapSays.mono {m m' : Mem} {D : DataW Value} {f : κ → Option α} (h : MapSays lk vr m D f) (hm : m.le m') : MapSays lk vr m' D f :=
  ⟨h.1, fun x a e => let ⟨g, v, g1, g2⟩ := h.2.1 x a e; ⟨g, v, g1, vr.mono _ _ _ _ hm g2⟩, h.2.2⟩
def MapOf (P : Program) (k : TypeId) (lk : κ → Lit) (vr : VR α) (w : World) (b n : Nat) (f : κ → Option α) : Prop :=
  ∃ D, w.ownsMap P k rawE b n D ∧ MapSays lk vr (mem w) D f

theorem mapBlock_mem {w : World} {b n : Nat} {D : DataW Value} (h : w.ownsMap P k rawE b n D) (o : Nat) : mem w b o = none := by
  obtain ⟨es, clock, hb, _⟩ := h
  simp [mem, World.cell?, hb]
theorem grown_mem {w w' : World} {b n : Nat} {D : DataW Value} (h : w.ownsMap P k rawE b n D) (hg : w.grownBy w' (some b)) : (mem w).le (mem w') := fun i o v e => by
  by_cases hi : i = b
  · subst hi; rw [mapBlock_mem h] at e; cases e
  · exact (mem_of_block (hg.block i (mem_lt e) (fun e => hi (by injection e))) o).trans e

theorem MapOf.made (w : World) : MapOf P k lk vr (w.alloc (.map #[] 0)) w.heap.size 0 (fun _ => (none : Option α)) :=
  ⟨.map [], World.ownsMap_made w P k rawE, fun _ _ => rfl, fun _ _ h => (by cases h), fun l h => (by simp [Maps.has] at h)⟩
theorem MapOf.lt {w : World} {b n : Nat} {f : κ → Option α} (h : MapOf P k lk vr w b n f) : b < w.heap.size := let ⟨_, h, _⟩ := h; h.lt
theorem MapOf.keeps {w w' : World} {b n : Nat} {f : κ → Option α} (h : MapOf P k lk vr w b n f) {F : Nat → Prop} (hk : Keeps F w w') (hF : ¬ F b) (hm : (mem w).le (mem w')) : MapOf P k lk vr w' b n f := by
  obtain ⟨D, ⟨es, clock, hb, r⟩, g⟩ := h
  exact ⟨D, ⟨es, clock, by rw [hk.block b (Array.getElem?_eq_some_iff.1 hb).1 hF]; exact hb, r⟩, g.mono hm⟩
theorem MapOf.below {w w' : World} {b n : Nat} {f : κ → Option α} (h : MapOf P k lk vr w b n f) (hb : Below w.heap.size w w') : MapOf P k lk vr w' b n f :=
  h.keeps (below_keeps hb) (by have := h.lt; omega) (below_mem hb)
theorem MapOf.mono {w : World} {b n n' : Nat} {f : κ → Option α} (h : MapOf P k lk vr w b n f) (hn : n ≤ n') : MapOf P k lk vr w b n' f :=
  let ⟨D, h1, h2⟩ := h; ⟨D, h1.mono hn, h2⟩
theorem MapOf.alloc {w : World} {b n : Nat} {f : κ → Option α} (h : MapOf P k lk vr w b n f) (o : Obj) : MapOf P k lk vr (w.alloc o) b n f :=
  h.below ((Below.refl _ _).alloc (Nat.le_refl _) o)
theorem MapOf.drew {w : World} {b n : Nat} {f : κ → Option α} (h : MapOf P k lk vr w b n f) : MapOf P k lk vr w.drew b n f :=
  h.below (Below.refl _ _).drew

open Classical in
noncomputable def putAt (f : κ → Option α) (x : κ) (a : α) : κ → Option α := fun y => if y = x then some a else f y
theorem putAt_same (f : κ → Option α) (x : κ) (a : α) : putAt f x a x = some a := by simp [putAt]
theorem putAt_other (f : κ → Option α) {x y : κ} (a : α) (h : y ≠ x) : putAt f x a y = f y := by simp [putAt, h]

theorem MapSays.put1 {m m' : Mem} {D : DataW Value} {f : κ → Option α} (h : MapSays lk vr m D f) (hm : m.le m') (hD : IsMap D) {x : κ} {a : α} {v : Value} (hinj : ∀ y, lk y = lk x → y = x) (hk : WideAt.IsKeyLit (lk x)) (hv : vr.rel m' v a) :
    MapSays lk vr m' (D.put (lk x) (.held v)) (putAt f x a) := by
  refine ⟨fun y hy => ?_, fun y c hy => ?_, fun l hl => ?_⟩
  · by_cases e : y = x
    · subst e; rw [putAt_same] at hy; cases hy
    · rw [putAt_other _ _ e] at hy
      rw [has_put_other (fun e' => e (hinj _ e'))]
      exact h.1 y hy
  · by_cases e : y = x
    · subst e
      rw [putAt_same] at hy
      cases hy
      exact ⟨has_put_same hD hk _, v, fun z => atKey_put_same hD hk _ z, hv⟩
    · rw [putAt_other _ _ e] at hy
      obtain ⟨g, u, g1, g2⟩ := h.2.1 y c hy
      have hne : lk y ≠ lk x := fun e' => e (hinj _ e')
      exact ⟨by rw [has_put_other hne]; exact g, u, fun z => by rw [atKey_put_other hne]; exact g1 z, vr.mono _ _ _ _ hm g2⟩
  · by_cases e : l = lk x
    · exact ⟨x, e⟩
    · rw [has_put_other e] at hl
      exact h.2.2 l hl
theorem MapSays.put {m m' : Mem} {D : DataW Value} {f : κ → Option α} (h : MapSays lk vr m D f) (hm : m.le m') (hD : IsMap D) {x : κ} {a : α} {v : Value} (hinj : ∀ x y, lk x = lk y → x = y) (hk : WideAt.IsKeyLit (lk x)) (hv : vr.rel m' v a) :
    MapSays lk vr m' (D.put (lk x) (.held v)) (putAt f x a) := h.put1 hm hD (fun _ e => hinj _ _ e) hk hv
end

/-- An operation that is carried out (unguarded, or its guard says yes). -/
theorem wpList_want {P : Program} {ops : Array Oper} {rest : List Oper} {o : Oper} {a : Act} {Q : Exit → Act → World → Prop} {w : World} (hw : Region.wanted o (yielded ops a.tmps) = true)
    (h : ∀ K : Act → World → Prop, (∀ a w, wpList P ops Q rest a w → K a w) → o.wp P a w K Q) : wpList P ops Q (o :: rest) a w :=
  wpList_step fun K hK => by rw [if_pos hw]; exact h K hK

section
variable {κ α : Type} {P : Program} {lk : κ → Lit} {vr : VR α} (w : World) {ops : Array Oper} {rest : List Oper} {o : Oper} {a : Act} {Q : Exit → Act → World → Prop}

/-- 'm[k]'. -/
theorem wpList_lookup_map (hg : Region.wanted o (yielded ops a.tmps) = true) (m x : Operand) (t : TypeId) (hop : o.op = Op.lookup t m x false)
    (k e : TypeId) (K : Keyed P k) (ht : P.underlying t = some (.map k e)) {z : Value} (hz : (zeroValue e).run P w = .ok z w) (b n : Nat) (f : κ → Option α)
    (hm : a.eval m = .map (some b)) (hown : MapOf P k lk vr w b n f) (key : Value) (y : κ) (hx : a.eval x = key) (hkey : keyOf P k key = some (lk y))
    (hK : ∀ v, (f y = none → v = z) → (∀ c, f y = some c → vr.rel (mem w) v c) → wpList P ops Q rest (a.put o.dst v) w) :
    wpList P ops Q (o :: rest) a w := by
  refine wpList_want hg fun K' hK' => ?_
  obtain ⟨D, hown, h1, h2, _⟩ := hown
  obtain ⟨v, ps, hrun, hv⟩ := hown.lookup K ht hz (zd := .held z) (zp := []) rfl hkey
  unfold Oper.wp
  simp [execOp, hop, hm, hx, hrun, Result.andThen]
  simp only [rawE, Option.some.injEq, Prod.mk.injEq] at hv
  refine hK' _ _ (hK v (fun e => ?_) (fun c e => ?_))
  · have := hv.1
    rw [atKey_of_not_has (h1 y e)] at this
    injection this
  · obtain ⟨_, u, g1, g2⟩ := h2 y c e
    have := hv.1
    rw [g1] at this
    injection this with this
    rw [this]; exact g2

theorem wpList_lookup_bool (hg : Region.wanted o (yielded ops a.tmps) = true) (m x : Operand) (t : TypeId) (hop : o.op = Op.lookup t m x false)
    (k e : TypeId) (K : Keyed P k) (ht : P.underlying t = some (.map k e)) (hz : (zeroValue e).run P w = .ok (.bool false) w) (b n : Nat) (f : κ → Option Bool)
    (hm : a.eval m = .map (some b)) (hown : MapOf P k lk vBool w b n f) (key : Value) (y : κ) (hx : a.eval x = key) (hkey : keyOf P k key = some (lk y)) (q : Bool) (hq : (f y).getD false = q)
    (hK : wpList P ops Q rest (a.put o.dst (.bool q)) w) :
    wpList P ops Q (o :: rest) a w := by
  subst hq
  exact wpList_lookup_map w hg m x t hop k e K ht hz b n f hm hown key y hx hkey (fun v g1 g2 => by
    cases hf : f y with
    | none => rw [g1 hf]; rw [hf] at hK; exact hK
    | some c => rw [show v = .bool c from g2 c hf]; rw [hf] at hK; exact hK)
theorem wpList_lookup_int (hg : Region.wanted o (yielded ops a.tmps) = true) (m x : Operand) (t : TypeId) (hop : o.op = Op.lookup t m x false)
    (k e : TypeId) (K : Keyed P k) (ht : P.underlying t = some (.map k e)) (hz : (zeroValue e).run P w = .ok (.int .i64 0) w) (b n : Nat) (f : κ → Option Int)
    (hm : a.eval m = .map (some b)) (hown : MapOf P k lk vInt w b n f) (key : Value) (y : κ) (hx : a.eval x = key) (hkey : keyOf P k key = some (lk y))
    (hK : wpList P ops Q rest (a.put o.dst (.int .i64 ((f y).getD 0))) w) :
    wpList P ops Q (o :: rest) a w :=
  wpList_lookup_map w hg m x t hop k e K ht hz b n f hm hown key y hx hkey (fun v g1 g2 => by
    cases hf : f y with
    | none => rw [g1 hf]; rw [hf] at hK; exact hK
    | some c => rw [(g2 c hf).1]; rw [hf] at hK; exact hK)

/-- 'v, ok := m[k]'. -/
theorem wpList_lookup_ok (hg : Region.wanted o (yielded ops a.tmps) = true) (m x : Operand) (t : TypeId) (hop : o.op = Op.lookup t m x true)
    (k e : TypeId) (K : Keyed P k) (ht : P.underlying t = some (.map k e)) {z : Value} (hz : (zeroValue e).run P w = .ok z w) (b n : Nat) (f : κ → Option α)
    (hm : a.eval m = .map (some b)) (hown : MapOf P k lk vr w b n f) (key : Value) (y : κ) (hx : a.eval x = key) (hkey : keyOf P k key = some (lk y))
    (hK : ∀ v, (f y = none → v = z) → (∀ c, f y = some c → vr.rel (mem w) v c) → wpList P ops Q rest (a.put o.dst (.tuple #[v, .bool (f y).isSome])) w) :
    wpList P ops Q (o :: rest) a w := by
  refine wpList_want hg fun K' hK' => ?_
  obtain ⟨D, hown, h1, h2, _⟩ := hown
  obtain ⟨v, ps, hrun, hv⟩ := hown.look_ok K ht hz (zd := .held z) (zp := []) rfl hkey
  have hs : Maps.has D (lk y) = (f y).isSome := by
    cases hf : f y with
    | none => exact h1 y hf
    | some c => exact (h2 y c hf).1
  rw [hs] at hrun
  unfold Oper.wp
  simp [execOp, hop, hm, hx, hrun, Result.andThen]
  simp only [rawE, Option.some.injEq, Prod.mk.injEq] at hv
  refine hK' _ _ (hK v (fun e => ?_) (fun c e => ?_))
  · have := hv.1
    rw [atKey_of_not_has (h1 y e)] at this
    injection this
  · obtain ⟨_, u, g1, g2⟩ := h2 y c e
    have := hv.1
    rw [g1] at this
    injection this with this
    rw [this]; exact g2

/-- 'm[k] = v'. -/
theorem wpList_update_map (hg : Region.wanted o (yielded ops a.tmps) = true) (m x v : Operand) (t : TypeId) (hop : o.op = Op.mapUpdate t m x v)
    (k e : TypeId) (K : Keyed P k) (ht : P.underlying t = some (.map k e)) (b n : Nat) (f : κ → Option α) (hinj : ∀ x y, lk x = lk y → x = y)
    (hm : a.eval m = .map (some b)) (hown : MapOf P k lk vr w b n f) (hn : n < maxLen) (key val : Value) (y : κ) (c : α) (hx : a.eval x = key) (hv : a.eval v = val) (hkey : keyOf P k key = some (lk y))
    (hval : vr.rel (mem w) val c)
    (hK : ∀ w', MapOf P k lk vr w' b (n + 1) (putAt f y c) → w.grownBy w' (some b) → (mem w).le (mem w') → wpList P ops Q rest (a.put o.dst undef) w') :
    wpList P ops Q (o :: rest) a w := by
  obtain ⟨D, hown, hs⟩ := hown
  refine wpList_want hg fun K' hK' => ?_
  obtain ⟨w', hrun, ho, hgr⟩ := hown.update K ht hn hkey (R := rawE) (val := val) (d := .held val) (ps := []) rfl
  have hle := grown_mem hown hgr
  unfold Oper.wp
  simp [execOp, hop, hm, hx, hv, hrun, Result.andThen]
  refine hK' _ _ ?_
  exact hK w' ⟨_, ho, hs.put hle hown.isMap hinj (K.key hkey) (vr.mono _ _ _ _ hle hval)⟩ hgr hle

/-- 'len(m)'. -/
theorem wpList_len_map (hg : Region.wanted o (yielded ops a.tmps) = true) (m : Operand) (t : TypeId) (hop : o.op = Op.call { callee := Callee.builtin Builtin.len, args := #[m], argTypes := #[t] })
    (k e : TypeId) (ht : P.underlying t = some (.map k e)) (b n : Nat) (f : κ → Option α) (hm : a.eval m = .map (some b)) (hown : MapOf P k lk vr w b n f)
    (hK : ∀ D, w.ownsMap P k rawE b n D → MapSays lk vr (mem w) D f → wpList P ops Q rest (a.put o.dst (.int .i64 (Maps.size D))) w) :
    wpList P ops Q (o :: rest) a w := by
  obtain ⟨D, hown, hs⟩ := hown
  refine wpList_want hg fun K' hK' => ?_
  unfold Oper.wp
  simp [execOp, hop, resolve, invoke, builtin, hm, hown.len ht o.type, Result.andThen]
  exact hK' _ _ (hK D hown hs)
end

/-! ### texts as keys -/
def strKey (s : ByteArray) : Lit := .string s.data.toList
theorem strKey_inj (x y : ByteArray) (h : strKey x = strKey y) : x = y := by
  obtain ⟨⟨l⟩⟩ := x
  obtain ⟨⟨l'⟩⟩ := y
  simpa [strKey] using h
theorem keyOf_str {P : Program} {k : TypeId} (hk : P.underlying k = some .string) {s : ByteArray} (hs : s.size ≤ maxLen) : keyOf P k (.string s) = some (strKey s) := Go.WideMaps.keyOf_string_mk hk hs
end Go.Proofs.Ytbmpoecmjmmngaa
