/- HeapKeeps: the walk. -/
import Derived.Test.YtbmpoecmjmmngaaHKeepP
import Derived.Test.YtbmpoecmjmmngaaHAwake
namespace Go.Proofs.Ytbmpoecmjmmngaa
open Go.RowKit Go.Maps

theorem ent_one {W : World} {a : Nat} {x : Ent} (h : ∀ j v, x.cs[j]? = some v → mem W a j = some v) (hok : x.okE) : tEnts.rv (mem W) [.slice (some ⟨a, 0, none⟩) 1 1] [x] := by
  refine ⟨some ⟨a, 0, none⟩, 1, rfl, Nat.le_refl _, by unfold maxLen; decide, fun _ => ⟨a, 0, rfl, fun k hk => ?_⟩⟩
  match k, hk with
  | 0, _ => exact ⟨x.cs, fun j v hj => by rw [show 0 + 0 * tEnt.sz + j = j by omega]; exact h j v hj, rfl, hok⟩
set_option maxRecDepth 100000 in
set_option maxHeartbeats 8000000 in
theorem heapKeeps_any (n : Int) (l : List Ent) (v : Value) (x : Ent) (w : World) (hn : inI64 n) (hv : tEnts.rv (mem w) [v] l) (hx : x.okE) :
    Calls Try.prog 3 #[.int .i64 n, v, x.v] w fun e w' => e = .returned (.bool true) ∧ Below w.heap.size w w' := by
  obtain ⟨xg, nm, key, val⟩ := x
  have HX := Lib.hid hx
  have HB0 := Lib.hid (show Below w.heap.size w (w.alloc (.cells #[.int .i64 xg, .string nm, .string key, .string val] 24)) from (Below.refl _ _).alloc (Nat.le_refl _) _)
  have HBK := Lib.hid (heap_alloc_new w (.cells #[.int .i64 xg, .string nm, .string key, .string val] 24))
  have HV := Lib.hid (fun wr (hb : Below w.heap.size w wr) => (show tEnts.rv (mem wr) [v] l from tEnts.mono _ _ _ _ (below_mem hb) hv))
  obtain ⟨a, cap, rfl, hlc, hm, -⟩ := slice_form hv
  have hcap : cap ≤ 9223372036854775807 := by unfold maxLen at hm; exact hm
  clear hx hv hm
  go_enter Try.func3, Try.ntmps3
  go_wp2_with fail
  refine (awake_any _).mono ?_
  rintro e w1 ⟨rfl, hb⟩
  have HB1 := Lib.hid (pure_trans HB0.out hb)
  have HBK1 := Lib.hid ((hb.block w.heap.size (by simp)).trans HBK.out)
  clear hb HB0 HBK
  go_wp2_with fail
  refine (heavy_any l _ _ (HV.out _ HB1.out)).mono ?_
  rintro e w2 ⟨b, rfl, hb, hlb⟩
  have HB2 := Lib.hid (pure_trans HB1.out hb)
  have HBK2 := Lib.hid ((hb.block w.heap.size (Array.getElem?_eq_some_iff.1 HBK1.out).1).trans HBK1.out)
  have HLB := Lib.hid hlb
  clear hb HB1 HBK1 hlb
  have c0 : w2.cell? ⟨w.heap.size, 0, none⟩ = some (.int .i64 xg) := mem_cells HBK2.out 0
  have c1 : w2.cell? ⟨w.heap.size, 1, none⟩ = some (.string nm) := mem_cells HBK2.out 1
  have c2 : w2.cell? ⟨w.heap.size, 2, none⟩ = some (.string key) := mem_cells HBK2.out 2
  have c3 : w2.cell? ⟨w.heap.size, 3, none⟩ = some (.string val) := mem_cells HBK2.out 3
  cases b with
  | true =>
    go_wp2
    go_ret
    exact ⟨rfl, HB2.out⟩
  | false =>
  have HLL := Lib.hid (show l.length ≤ 60 from HLB.out rfl)
  clear HLB
  have HHV := Lib.hid (fun (T : TypeId) => heavy_any [⟨xg, nm, key, val⟩] (.slice (some ⟨w2.heap.size, 0, none⟩) 1 1) (w2.alloc (.cells #[.int .i64 xg, .string nm, .string key, .string val] T)) (ent_one (x := ⟨xg, nm, key, val⟩) (fun j v hj => by
    have := mem_cells_new w2 #[.int .i64 xg, .string nm, .string key, .string val] T (0, 0) j
    have h2 : (#[.int .i64 xg, .string nm, .string key, .string val] : Array Value)[j]? = some v := by simpa using hj
    rw [h2] at this
    exact this) HX.out))
  go_wp2_with fail
  refine (HHV.out _).mono ?_
  rintro e w3 ⟨b, rfl, hb, -⟩
  have hb' : Below w2.heap.size w2 w3 := pure_trans ((Below.refl w2.heap.size w2).alloc (Nat.le_refl _) _) hb
  have HB3 := Lib.hid (pure_trans HB2.out hb')
  have HBK3 := Lib.hid ((hb'.block w.heap.size (Array.getElem?_eq_some_iff.1 HBK2.out).1).trans HBK2.out)
  clear hb hb' HB2 HBK2 HHV c0 c1 c2 c3
  cases b with
  | true =>
    go_wp2
    go_ret
    exact ⟨rfl, HB3.out⟩
  | false =>
  go_wp2_with fail
  refine (restore_any n l _ w3 (HV.out _ HB3.out) (by have := HLL.out; omega)).mono ?_
  intro e w4 hR
  obtain ⟨hb4, ⟨hne, rfl⟩ | ⟨h0, p, r, rfl, hI, hvw, hnn⟩⟩ := hR
  · have HB4 := Lib.hid (pure_trans HB3.out hb4)
    generalize restAns n l = c at *
    have hcb : (c == 0) = false := by simp [hne]
    clear hb4
    go_wp2
    go_ret
    exact ⟨rfl, HB4.out⟩
  have HR0 := Lib.hid h0
  have HB4 := Lib.hid hb4
  have HI4 := Lib.hid hI
  have HVW := Lib.hid hvw
  have hrl : r.cur.length = n.toNat := (view_len hvw).trans (restPS_len _ _)
  have hcnt : r.cnt = l.length := congrArg PS.cnt hvw
  have HPUT := Lib.hid (show Calls Try.prog 9 #[ptrTo p, .int .i64 xg, .string nm, .string key, .string val] w4 fun e w' => ∃ z r', e = .returned (.int .i64 z) ∧ Below w3.heap.size w3 w' ∧ HeapInv w' w3.heap.size p r' ∧ r'.cur.length = n.toNat ∧ (z = 0 → getAns n.toNat (grpF r' xg) xg nm key = (val, 0) ∧ ∀ y ∈ l, ∃ s, getAns n.toNat (grpF r' y.g) y.g y.nm y.key = (s, 0) ∧ (y.pl ≠ (⟨xg, nm, key, val⟩ : Ent).pl → s = y.val)) from by
    have hx := HX.out
    have hll := HLL.out
    refine (put_any xg nm key val w4 hI hx.1 hx.2.1 hx.2.2.1 hx.2.2.2 (by omega) (by omega) (by omega)).mono ?_
    rintro e w' ⟨rfl, r', hP⟩
    refine ⟨_, r', rfl, hb4.trans (hP.st.below hI), hP.st.inv, hP.len.trans hrl, fun hz => ?_⟩
    rw [hrl] at hz
    exact keeps_get (x := ⟨xg, nm, key, val⟩) h0 hvw hz (by rw [← hrl]; exact hP.vw))
  have HBK4 := Lib.hid ((hb4.block w.heap.size (Array.getElem?_eq_some_iff.1 HBK3.out).1).trans HBK3.out)
  have c0 : w4.cell? ⟨w.heap.size, 0, none⟩ = some (.int .i64 xg) := mem_cells HBK4.out 0
  have c1 : w4.cell? ⟨w.heap.size, 1, none⟩ = some (.string nm) := mem_cells HBK4.out 1
  have c2 : w4.cell? ⟨w.heap.size, 2, none⟩ = some (.string key) := mem_cells HBK4.out 2
  have c3 : w4.cell? ⟨w.heap.size, 3, none⟩ = some (.string val) := mem_cells HBK4.out 3
  clear h0 hb4 hI hvw hnn hrl hcnt
  go_wp2_with fail
  refine HPUT.out.mono ?_
  rintro e w5 ⟨z, r', rfl, hb5, hI5, hl5, hz⟩
  have HB5 := Lib.hid hb5
  have HI5 := Lib.hid hI5
  have HL5 := Lib.hid hl5
  have HZ := Lib.hid hz
  have HBK5 := Lib.hid ((hb5.block w.heap.size (Array.getElem?_eq_some_iff.1 HBK3.out).1).trans HBK3.out)
  clear hb5 hI5 hl5 hz HPUT HBK4 c0 c1 c2 c3 HI4 HVW HR0 HB4
  by_cases hz0 : z = 0
  case neg =>
    have hcb : (z == 0) = false := by simp [hz0]
    have HB6 := Lib.hid (pure_trans HB3.out HB5.out)
    clear hz0
    go_wp2
    go_ret
    exact ⟨rfl, HB6.out⟩
  subst hz0
  obtain ⟨hg0, hgl⟩ := HZ.out rfl
  have HG0 := Lib.hid hg0
  have HGL := Lib.hid hgl
  have HGET := Lib.hid (fun wr (hb : Below w5.heap.size w5 wr) g nm key (h1 : inI64 g) (h2 : nm.size ≤ maxLen) (h3 : key.size ≤ maxLen) => (show Calls Try.prog 10 #[ptrTo p, .int .i64 g, .string nm, .string key] wr fun e w' => e = .returned (.tuple #[.string (getAns n.toNat (grpF r' g) g nm key).1, .int .i64 (getAns n.toNat (grpF r' g) g nm key).2]) ∧ Below w5.heap.size w5 w' from by
    refine (get_any g nm key wr (HI5.out.pure hb) h1 h2 h3).mono ?_
    rintro e w' ⟨rfl, h⟩
    rw [HL5.out]
    exact ⟨rfl, pure_trans hb h⟩))
  have HXX := HX.out
  have HG1 := Lib.hid (HGET.out w5 (Below.refl _ _) xg nm key HX.out.1 HX.out.2.1 HX.out.2.2.1)
  rw [HG0.out] at HG1
  have c0 : w5.cell? ⟨w.heap.size, 0, none⟩ = some (.int .i64 xg) := mem_cells HBK5.out 0
  have c1 : w5.cell? ⟨w.heap.size, 1, none⟩ = some (.string nm) := mem_cells HBK5.out 1
  have c2 : w5.cell? ⟨w.heap.size, 2, none⟩ = some (.string key) := mem_cells HBK5.out 2
  have c3 : w5.cell? ⟨w.heap.size, 3, none⟩ = some (.string val) := mem_cells HBK5.out 3
  clear hg0 hgl HZ HXX HG0
  go_wp2_with fail
  refine HG1.out.mono ?_
  rintro e w6 ⟨rfl, hb6⟩
  have HB6 := Lib.hid hb6
  have HBL := Lib.hid (fun wr (h : Below w5.heap.size w5 wr) => (show Below w.heap.size w wr from pure_trans (pure_trans HB3.out HB5.out) h))
  have HBK6 := Lib.hid (fun wr (h : Below w5.heap.size w5 wr) => (h.block w.heap.size (Array.getElem?_eq_some_iff.1 HBK5.out).1).trans HBK5.out)
  clear c0 c1 c2 c3 hb6 HG1 HB5 HBK5 HBK3 HB3
  have c3 : w6.cell? ⟨w.heap.size, 3, none⟩ = some (.string val) := mem_cells (HBK6.out _ HB6.out) 3
  go_wp2
  go_loopw [10] (fun i wr => ∃ k : Nat, k ≤ l.length ∧ i = .int .i64 k ∧ Hid (Below w5.heap.size w5 wr)) (fun i _ => l.length - (intOf i).toNat)
  case atStart => exact ⟨0, by omega, rfl, HB6⟩
  case round =>
    clear HB6 c3
    obtain ⟨k, hk, rfl, HK⟩ := hrel
    by_cases hlt : k < l.length
    · obtain ⟨b, o, ha, hat, hok⟩ := ents_at (HV.out _ (HBL.out _ HK.out)) hlt
      subst ha
      obtain ⟨s, hs, hse⟩ := HGL.out _ (List.getElem_mem hlt)
      have HAT := Lib.hid (fun wr (h : Below w5.heap.size w5 wr) => (show ∀ j v, l[k].cs[j]? = some v → wr.cell? ⟨b, o + k * 4 + j, none⟩ = some v from by
        obtain ⟨b', o', e', hat', _⟩ := ents_at (HV.out _ (HBL.out _ h)) hlt
        obtain ⟨rfl, rfl⟩ : b = b' ∧ o = o' := by simpa using e'
        exact fun j v h => hat' j v h))
      have HG1 := Lib.hid (fun wr hb => HGET.out wr hb l[k].g l[k].nm l[k].key hok.1 hok.2.1 hok.2.2.1)
      rw [hs] at HG1
      have HSE := Lib.hid hse
      clear hat hok hs hse HGET HGL
      generalize l[k] = y at *
      obtain ⟨yg, ynm, ykey, yval⟩ := y
      have HKD := Lib.hid HK.out.drew
      have d0 : wr.drew.cell? ⟨b, o + k * 4, none⟩ = some (.int .i64 yg) := HAT.out _ HKD.out 0 _ rfl
      have d1 : wr.drew.cell? ⟨b, o + k * 4 + 1, none⟩ = some (.string ynm) := HAT.out _ HKD.out 1 _ rfl
      have d2 : wr.drew.cell? ⟨b, o + k * 4 + 2, none⟩ = some (.string ykey) := HAT.out _ HKD.out 2 _ rfl
      go_wp2_with fail
      go_region_held3 (fun w' => w'.cell? ⟨b, o + k * 4, none⟩ = some (.int .i64 yg) ∧ w'.cell? ⟨b, o + k * 4 + 1, none⟩ = some (.string ynm) ∧ w'.cell? ⟨b, o + k * 4 + 2, none⟩ = some (.string ykey))
        (first | exact ⟨by assumption, by assumption, by assumption⟩ | go_keep)
        ((first | (go_at_call 10; refine (HG1.out _ HKD.out).mono ?_; rintro e w7 ⟨rfl, hb7⟩; have HB7 := Lib.hid hb7; have d0' : w7.cell? ⟨b, o + k * 4, none⟩ = some (.int .i64 yg) := HAT.out _ hb7 0 _ rfl; have d1' : w7.cell? ⟨b, o + k * 4 + 1, none⟩ = some (.string ynm) := HAT.out _ hb7 1 _ rfl; have d2' : w7.cell? ⟨b, o + k * 4 + 2, none⟩ = some (.string ykey) := HAT.out _ hb7 2 _ rfl)))
      have HX7 := Lib.hid (HBK6.out _ HB7.out)
      have y0 : w7.cell? ⟨b, o + k * 4, none⟩ = some (.int .i64 yg) := HAT.out _ HB7.out 0 _ rfl
      have y1 : w7.cell? ⟨b, o + k * 4 + 1, none⟩ = some (.string ynm) := HAT.out _ HB7.out 1 _ rfl
      have y2 : w7.cell? ⟨b, o + k * 4 + 2, none⟩ = some (.string ykey) := HAT.out _ HB7.out 2 _ rfl
      have y3 : w7.cell? ⟨b, o + k * 4 + 3, none⟩ = some (.string yval) := HAT.out _ HB7.out 3 _ rfl
      have x0 : w7.cell? ⟨w.heap.size, 0, none⟩ = some (.int .i64 xg) := mem_cells HX7.out 0
      have x1 : w7.cell? ⟨w.heap.size, 1, none⟩ = some (.string nm) := mem_cells HX7.out 1
      have x2 : w7.cell? ⟨w.heap.size, 2, none⟩ = some (.string key) := mem_cells HX7.out 2
      rename_i hHeld
      clear hHeld d0' d1' d2' d0 d1 d2 hb7 HG1 HAT HX7 HKD HK
      simp only [Exit.then]
      go_at_K
      cases hE0 : (yg == xg) with
      | false =>
        obtain rfl : s = yval := HSE.out (fun e => by have e2 : yg = xg := congrArg (fun q : Place => q.1) e; rw [e2] at hE0; simp at hE0)
        have hss : (s.toList == s.toList) = true := by simp
        clear HSE
        go_wp2_with fail
        go_quiet (fail)
        all_goals
          go_wp2
          exact ⟨⟨k + 1, by omega, by go_num, Lib.hid (HB7.out.trans ⟨rfl, rfl, rfl, Nat.le_refl _, fun _ _ => rfl⟩)⟩, by simp [intOf]; omega⟩
      | true =>
      cases hE1 : (ynm.toList == nm.toList) with
      | false =>
        obtain rfl : s = yval := HSE.out (fun e => by have e2 : ynm = nm := congrArg (fun q : Place => q.2.1) e; rw [e2] at hE1; simp at hE1)
        have hss : (s.toList == s.toList) = true := by simp
        clear HSE
        go_wp2_with fail
        go_quiet (fail)
        all_goals
          go_wp2
          exact ⟨⟨k + 1, by omega, by go_num, Lib.hid (HB7.out.trans ⟨rfl, rfl, rfl, Nat.le_refl _, fun _ _ => rfl⟩)⟩, by simp [intOf]; omega⟩
      | true =>
      cases hE2 : (ykey.toList == key.toList) with
      | false =>
        obtain rfl : s = yval := HSE.out (fun e => by have e2 : ykey = key := congrArg (fun q : Place => q.2.2) e; rw [e2] at hE2; simp at hE2)
        have hss : (s.toList == s.toList) = true := by simp
        clear HSE
        go_wp2_with fail
        go_quiet (fail)
        all_goals
          go_wp2
          exact ⟨⟨k + 1, by omega, by go_num, Lib.hid (HB7.out.trans ⟨rfl, rfl, rfl, Nat.le_refl _, fun _ _ => rfl⟩)⟩, by simp [intOf]; omega⟩
      | true =>
        clear HSE
        go_wp2_with fail
        go_quiet (fail)
        all_goals
          go_wp2
          exact ⟨⟨k + 1, by omega, by go_num, Lib.hid (HB7.out.trans ⟨rfl, rfl, rfl, Nat.le_refl _, fun _ _ => rfl⟩)⟩, by simp [intOf]; omega⟩
    · obtain rfl : k = l.length := by omega
      go_wp2
      go_ret
      exact ⟨rfl, HBL.out _ HK.out⟩
end Go.Proofs.Ytbmpoecmjmmngaa
