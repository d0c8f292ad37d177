/- package heap: placed (entries by their places). -/
import Derived.Test.YtbmpoecmjmmngaaHEnt
import Derived.Maps.Views
namespace Go.Proofs.Ytbmpoecmjmmngaa
open Go.RowKit Go.Maps

/-- Where an entry stands. -/
abbrev Place := Int × ByteArray × ByteArray
def Ent.pl (x : Ent) : Place := (x.g, x.nm, x.key)
abbrev placeV (x : Place) : Value := .agg #[.int .i64 x.1, .string x.2.1, .string x.2.2]
def okPlace (x : Place) : Prop := inI64 x.1 ∧ x.2.1.size ≤ maxLen ∧ x.2.2.size ≤ maxLen
open Classical in
noncomputable def lkPlace (x : Place) : Lit := if okPlace x then .string (keyBytes [.int .i64 x.1, .string x.2.1.data.toList, .string x.2.2.data.toList]) else .bool false
theorem cellsPlace : Try.prog.cellsOf 104 = 3 := by kernel_rfl
theorem cellsIntP : Try.prog.cellsOf 3 = 1 := by kernel_rfl
theorem keyTypePlace : Try.prog.keyType 104 = true := by kernel_rfl
theorem rowPlace : (104 : TypeId) < Try.prog.types.size := of_decide_eq_true (by kernel_rfl)
theorem keyP : Keyed Try.prog 104 := Keyed.of_law (deep_law_laid Try.laidOut (m := 2) (by omega) rowPlace (by kernel_rfl) (by rw [Try.underlying104]))
def intLits : Value → Option (List Lit)
  | .int q n => if q = .i64 ∧ (Lit.int .i64 n).wf = true then some [.int .i64 n] else none
  | _ => none
theorem lits_int (n : Nat) (c : Value) : Try.prog.keyLits (n + 1) 3 [c] = intLits c := by
  unfold Program.keyLits
  rw [Try.underlying3]
  cases c <;> rfl
theorem wf_i64 (n : Int) : (Lit.int .i64 n).wf = true ↔ inI64 n := by
  unfold inI64
  simp [Lit.wf, IntKind.min, IntKind.max, IntKind.signed, IntKind.bits]
set_option maxRecDepth 100000 in
theorem keyOf_place_eq (c0 c1 c2 : Value) : keyOf Try.prog 104 (.agg #[c0, c1, c2]) =
    match c0, c1, c2 with | .int q z, .string s, .string t => (if q = .i64 ∧ (Lit.int .i64 z).wf = true ∧ s.size ≤ maxLen ∧ t.size ≤ maxLen then some (.string (keyBytes [.int .i64 z, .string s.data.toList, .string t.data.toList])) else none) | _, _, _ => none := by
  obtain ⟨n, hn⟩ := size_pos
  unfold keyOf
  rw [Try.underlying104]
  simp only [keyTypePlace, Value.formed, Try.underlying104, cellsPlace]
  rw [hn]
  unfold Program.keyLits
  rw [Try.underlying104]
  simp only [cellsPlace, Value.cells, cellsStr, cellsIntP]
  simp [lits_str, lits_int, cellsStr, cellsIntP]
  cases c0 <;> cases c1 <;> cases c2 <;> simp [intLits, strLits]
  rename_i q z s t
  by_cases hq : q = .i64 <;> by_cases hz : (Lit.int .i64 z).wf = true <;> by_cases hs : s.size ≤ maxLen <;> by_cases ht : t.size ≤ maxLen <;> simp [hq, hz, hs, ht]
theorem keyOf_place {x : Place} (h : okPlace x) : keyOf Try.prog 104 (placeV x) = some (lkPlace x) := by
  rw [keyOf_place_eq]
  unfold lkPlace
  rw [if_pos h]
  exact if_pos ⟨rfl, (wf_i64 _).2 h.1, h.2⟩
set_option maxRecDepth 100000 in
theorem keyOf_place_inv {v : Value} {l : Lit} (h : keyOf Try.prog 104 v = some l) : ∃ x, v = placeV x ∧ l = lkPlace x ∧ okPlace x := by
  have hf : v.formed Try.prog 104 = true := by
    unfold keyOf at h
    rw [Try.underlying104] at h
    cases hv : v.formed Try.prog 104 with
    | true => rfl
    | false => simp [hv] at h
  have : ∃ c0 c1 c2, v = .agg #[c0, c1, c2] := by
    cases v with
    | agg cs =>
      simp only [Value.formed, Try.underlying104, cellsPlace, beq_iff_eq] at hf
      obtain ⟨l⟩ := cs
      match l, hf with
      | [c0, c1, c2], _ => exact ⟨c0, c1, c2, rfl⟩
    | _ => simp [Value.formed, Try.underlying104] at hf
  obtain ⟨c0, c1, c2, rfl⟩ := this
  rw [keyOf_place_eq] at h
  cases c0 <;> cases c1 <;> cases c2 <;> simp at h
  rename_i q z s t
  obtain ⟨⟨rfl, hz, hs, ht⟩, rfl⟩ := h
  have hok' : okPlace (z, s, t) := ⟨(wf_i64 _).1 hz, hs, ht⟩
  exact ⟨(z, s, t), rfl, by unfold lkPlace; rw [if_pos hok'], hok'⟩
theorem placeV_inj {x y : Place} (h : placeV x = placeV y) : x = y := by
  simp at h
  exact Prod.ext h.1 (Prod.ext h.2.1 h.2.2)
theorem lkPlace_inj {x : Place} (hx : okPlace x) (y : Place) (h : lkPlace y = lkPlace x) : y = x := by
  by_cases hy : okPlace y
  · have h1 := keyOf_place hx
    have h2 := keyOf_place hy
    rw [h] at h2
    exact placeV_inj (keyP.inj h2 h1)
  · unfold lkPlace at h
    rw [if_pos hx, if_neg hy] at h
    cases h
theorem lkPlace_key {x : Place} (hx : okPlace x) : WideAt.IsKeyLit (lkPlace x) := keyP.key (keyOf_place hx)
@[reducible] def LMap (W : World) (b n : Nat) (f : Place → Option ByteArray) : Prop := MapOf Try.prog 104 lkPlace vStr W b n f
theorem LMap.put {W : World} {b n : Nat} {f : Place → Option ByteArray} (h : LMap W b n f) (hn : n < maxLen) {x : Place} (hx : okPlace x) (s : ByteArray) (hsz : s.size ≤ maxLen) :
    ∃ W', (Instr.mapUpdate 66 (.map (some b)) (placeV x) (.string s)).run Try.prog W = .ok () W' ∧ LMap W' b (n + 1) (putAt f x s) ∧ W.grownBy W' (some b) := by
  obtain ⟨D, hown, hs⟩ := h
  obtain ⟨W', hrun, ho, hgr⟩ := hown.update keyP Try.underlying66 hn (keyOf_place hx) (R := rawE) (val := .string s) (d := .held (.string s)) (ps := []) rfl
  have hle := grown_mem hown hgr
  exact ⟨W', hrun, ⟨_, ho, hs.put1 hle hown.isMap (fun y e => lkPlace_inj hx y e) (lkPlace_key hx) ⟨rfl, hsz⟩⟩, hgr⟩
theorem LMap.card {W : World} {b n : Nat} {f : Place → Option ByteArray} {D : DataW Value} (hown : W.ownsMap Try.prog 104 rawE b n D) (hs : MapSays lkPlace vStr (mem W) D f) {ks : List Place} (hn : ks.Nodup) (hok : ∀ k ∈ ks, okPlace k) (hk : ∀ k, k ∈ ks ↔ (f k).isSome = true) : Maps.size D = ks.length := by
  obtain ⟨es, hD, hpw⟩ := hown.tidy keyP
  have hko : ∀ p ∈ es, ∃ x, p.1 = lkPlace x ∧ okPlace x := fun p hp => by
    obtain ⟨es', hD', hko⟩ := hown.keysOf
    obtain rfl : es = es' := by rw [hD] at hD'; simpa using hD'
    obtain ⟨v, hv⟩ := hko p hp
    obtain ⟨x, _, hx, hx2⟩ := keyOf_place_inv hv
    exact ⟨x, hx, hx2⟩
  have hstr : ∀ {x : Place}, okPlace x → lkPlace x = .string (keyBytes [.int .i64 x.1, .string x.2.1.data.toList, .string x.2.2.data.toList]) := fun {x} hx => by unfold lkPlace; rw [if_pos hx]
  have hh : ∀ k, okPlace k → (k ∈ ks ↔ lkPlace k ∈ es.map (·.1)) := fun k hkk => by
    rw [hk]
    have h1 : Maps.has D (lkPlace k) = (f k).isSome := by
      cases hf : f k with
      | none => exact hs.1 k hf
      | some a => exact (hs.2.1 k a hf).1
    rw [← h1]
    subst hD
    rw [has_eq, List.any_eq_true, List.mem_map]
    constructor
    · rintro ⟨p, hp', hsk⟩
      obtain ⟨a, ha, hao⟩ := hko p hp'
      refine ⟨p, hp', ?_⟩
      rw [ha, hstr hao, hstr hkk] at hsk ⊢
      simpa [Lit.sameKey] using hsk
    · rintro ⟨p, hp', e⟩
      exact ⟨p, hp', by rw [e, hstr hkk]; simp [Lit.sameKey]⟩
  have hd : (es.map (·.1)).Nodup := List.pairwise_map.2 (hpw.imp fun h => h)
  have h1 : (ks.map lkPlace).length ≤ (es.map (·.1)).length := nodup_le (List.pairwise_map.2 (hn.imp_of_mem fun {a b} ha hb h e => h (lkPlace_inj (hok b hb) a e))) (fun l hl => by
    obtain ⟨k, hk', rfl⟩ := List.mem_map.1 hl
    exact (hh k (hok k hk')).1 hk')
  have h2 : (es.map (·.1)).length ≤ (ks.map lkPlace).length := nodup_le hd (fun l hl => by
    obtain ⟨p, hp, rfl⟩ := List.mem_map.1 hl
    obtain ⟨a, ha, hao⟩ := hko p hp
    rw [ha]
    exact List.mem_map.2 ⟨a, (hh a hao).2 (List.mem_map.2 ⟨p, hp, ha⟩), rfl⟩)
  subst hD
  show es.length = _
  simp only [List.length_map] at h1 h2
  omega
open Classical in
/-- Without the doubles. -/
theorem dedup {β : Type} : ∀ (ps : List β), ∃ ks : List β, ks.Nodup ∧ (∀ x, x ∈ ks ↔ x ∈ ps) ∧ ks.length ≤ ps.length ∧ (ks.length = ps.length → ps.Nodup)
  | [] => ⟨[], List.nodup_nil, fun _ => Iff.rfl, Nat.le_refl _, fun _ => List.nodup_nil⟩
  | p :: ps => by
    obtain ⟨ks, h1, h2, h3, h4⟩ := dedup ps
    by_cases hp : p ∈ ks
    · refine ⟨ks, h1, fun x => ?_, by simp; omega, fun e => by simp at e; omega⟩
      rw [h2, List.mem_cons]
      constructor
      · exact .inr
      · rintro (rfl | h)
        · exact (h2 x).1 hp
        · exact h
    · refine ⟨p :: ks, List.nodup_cons.2 ⟨hp, h1⟩, fun x => by rw [List.mem_cons, List.mem_cons, h2], by simp; omega, fun e => ?_⟩
      simp at e
      exact List.nodup_cons.2 ⟨fun h => hp ((h2 p).2 h), h4 e⟩
end Go.Proofs.Ytbmpoecmjmmngaa
