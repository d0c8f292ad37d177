/- package heap: placed's walk. -/
import Derived.Test.YtbmpoecmjmmngaaHPlace
namespace Go.Proofs.Ytbmpoecmjmmngaa
open Go.RowKit Go.Maps

/-- Entries by their places. -/
noncomputable def placesF (l : List Ent) : Place → Option ByteArray := l.foldl (fun f e => putAt f e.pl e.val) (fun _ => none)
theorem placesF_snoc (l : List Ent) (x : Ent) : placesF (l ++ [x]) = putAt (placesF l) x.pl x.val := by
  unfold placesF
  rw [List.foldl_append]
  rfl
theorem placesF_some (l : List Ent) : ∀ k, k ∈ l.map Ent.pl ↔ (placesF l k).isSome = true := by
  have h : ∀ (l : List Ent) (f : Place → Option ByteArray) k, (l.foldl (fun f e => putAt f e.pl e.val) f k).isSome = true ↔ (k ∈ l.map Ent.pl ∨ (f k).isSome = true) := by
    intro l
    induction l with
    | nil => intro f k; simp
    | cons x l ih =>
      intro f k
      rw [List.foldl_cons, ih, List.map_cons, List.mem_cons]
      unfold putAt
      by_cases e : k = x.pl
      · simp [e]
      · simp [e]
  intro k
  rw [show placesF l = l.foldl (fun f e => putAt f e.pl e.val) (fun _ => none) from rfl, h]
  simp
theorem ents_all {m : Mem} {l : List Ent} {v : Value} (h : tEnts.rv m [v] l) : ∀ x ∈ l, x.okE := fun x hx => by
  obtain ⟨k, hk, rfl⟩ := List.getElem_of_mem hx
  obtain ⟨a, cap, rfl, _, _, h⟩ := slice_form h
  obtain ⟨b, o, _, _, hok⟩ := ents_at h hk
  exact hok
theorem Ent.okE.place {x : Ent} (h : x.okE) : okPlace x.pl := ⟨h.1, h.2.1, h.2.2.1⟩
set_option maxRecDepth 100000 in
set_option maxHeartbeats 4000000 in
theorem placed_any (l : List Ent) (v : Value) (w : World) (hv : tEnts.rv (mem w) [v] l) (hl : l.length ≤ 4000) :
    Calls Try.prog 30 #[v] w fun e w' => ∃ b, e = .returned (.tuple #[.map (some w.heap.size), .bool b]) ∧ LMap w' w.heap.size l.length (placesF l) ∧ Below w.heap.size w w' ∧ (b = true ↔ (l.map Ent.pl).Nodup) := by
  have HALL := Lib.hid (ents_all hv)
  obtain ⟨a, cap, rfl, hlc, hm, hv⟩ := slice_form hv
  have hcap : cap ≤ 9223372036854775807 := by unfold maxLen at hm; exact hm
  have H0 := Lib.hid (show LMap (w.alloc (.map #[] 0)) w.heap.size 0 (placesF (l.take 0)) from MapOf.made w)
  have HB0 := Lib.hid (show Below w.heap.size w (w.alloc (.map #[] 0)) from (Below.refl _ _).alloc (Nat.le_refl _) _)
  clear hm
  have hmm := @run_makeMap Try.prog
  go_enter Try.func30, Try.ntmps30
  go_wp2
  go_loopw [10] (fun i wr => ∃ k : Nat, k ≤ l.length ∧ i = .int .i64 k ∧ Hid (LMap wr w.heap.size k (placesF (l.take k)) ∧ Below w.heap.size w wr)) (fun i _ => l.length - (intOf i).toNat)
  case atStart => exact ⟨0, by omega, rfl, Lib.hid ⟨H0.out, HB0.out⟩⟩
  case round =>
    clear H0 HB0
    obtain ⟨k, hk, rfl, HK⟩ := hrel
    by_cases hlt : k < l.length
    · obtain ⟨b, o, rfl, hat, hok⟩ := ents_at (tEnts.mono _ _ _ _ (below_mem HK.out.2) hv) hlt
      have c0 : wr.cell? ⟨b, o + k * 4, none⟩ = some (.int .i64 l[k].g) := hat 0 _ rfl
      have c1 : wr.cell? ⟨b, o + k * 4 + 1, none⟩ = some (.string l[k].nm) := hat 1 _ rfl
      have c2 : wr.cell? ⟨b, o + k * 4 + 2, none⟩ = some (.string l[k].key) := hat 2 _ rfl
      have c3 : wr.cell? ⟨b, o + k * 4 + 3, none⟩ = some (.string l[k].val) := hat 3 _ rfl
      have HT := Lib.hid (show placesF (l.take (k + 1)) = putAt (placesF (l.take k)) l[k].pl l[k].val by rw [List.take_succ_eq_append_getElem hlt, placesF_snoc])
      have HPUT := Lib.hid (fun (o : Obj) => (show ∃ W6, (Instr.mapUpdate 66 (.map (some w.heap.size)) (.agg #[.int .i64 l[k].g, .string l[k].nm, .string l[k].key]) (.string l[k].val)).run Try.prog (wr.alloc o) = .ok () W6 ∧ LMap W6 w.heap.size (k + 1) (placesF (l.take (k + 1))) ∧ (wr.alloc o).grownBy W6 (some w.heap.size) from by
        rw [HT.out]
        exact LMap.put (HK.out.1.alloc _) (by unfold maxLen; omega) (Ent.okE.place hok) _ hok.2.2.2))
      clear hat HT hok
      generalize hx : l[k] = x at *
      clear hx
      have hob : HK.out.2 = HK.out.2 := rfl
      obtain ⟨W6, hput, hL, hG⟩ := HPUT.out (.cells #[.int .i64 x.g, .string x.nm, .string x.key, .string x.val] 24)
      have HL := Lib.hid (show LMap W6 w.heap.size (k + 1) (placesF (l.take (k + 1))) ∧ Below w.heap.size w W6 from ⟨hL, (HK.out.2.alloc HK.out.2.size _).grown hG (Nat.le_trans HK.out.2.size (by simp)) (fun k e => by cases e; exact Nat.le_refl _)⟩)
      clear hL hG HPUT hob
      go_wp2
      go_roundw
      case rel => exact ⟨k + 1, by omega, by go_num, HL⟩
      case measure => simp [intOf]; omega
    · obtain rfl : k = l.length := by omega
      rw [List.take_length] at HK
      obtain ⟨ks, hks⟩ := dedup (l.map Ent.pl)
      have HC := Lib.hid (show (ks.length = l.length) ↔ (l.map Ent.pl).Nodup from by
        obtain ⟨h1, h2, h3, h4⟩ := hks
        rw [List.length_map] at h3 h4
        refine ⟨h4, fun h => Nat.le_antisymm h3 ?_⟩
        have := nodup_le h (fun x hx => (h2 x).2 hx)
        rwa [List.length_map] at this)
      have hlen : (Builtin.len_ #[66] 3 #[.map (some w.heap.size)]).run Try.prog wr = .ok (.int .i64 ks.length) wr := by
        obtain ⟨D, hown, hs⟩ := HK.out.1
        have := hown.len Try.underlying66 3
        rwa [LMap.card hown hs hks.1 (fun x hx => by obtain ⟨e, he, rfl⟩ := List.mem_map.1 ((hks.2.1 x).1 hx); exact (HALL.out e he).place) (fun x => (hks.2.1 x).trans (placesF_some l x))] at this
      generalize hbb : ((ks.length : Int) == (l.length : Int)) = bb at *
      have HBB := Lib.hid (show bb = true ↔ (l.map Ent.pl).Nodup from by rw [← HC.out, ← hbb]; simp; omega)
      clear hks HC
      go_wp2
      go_ret2
      exact ⟨_, rfl, HK.out.1, HK.out.2, HBB.out⟩
end Go.Proofs.Ytbmpoecmjmmngaa
