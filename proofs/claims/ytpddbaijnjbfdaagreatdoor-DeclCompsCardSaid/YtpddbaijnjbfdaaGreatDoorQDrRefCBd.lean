import Derived.Test.YtpddbaijnjbfdaaGreatDoorQDrCheck
namespace Go.Proofs.YtpddbaijnjbfdaaGreatDoor
open Lib (hid)
section
open Go.RowKit Go.Maps Go.WideMaps
def zS : Sb := ⟨false, [], 0, [], [], []⟩
def cmpG (gs : List (List Sb)) (ids : List Int) (n want : Int) : Int × Sb :=
  if 0 ≤ n ∧ n < ids.length then
    match (if inTab gs (ids.getD n.toNat 0) = true then (tabL gs)[(ids.getD n.toNat 0).toNat]? else none) with
    | some y => if y.k = want then (0, ⟨false, [], y.k, y.ps, y.rs, y.fs⟩) else (123, zS)
    | none => (120, zS)
  else (120, zS)
section
variable {gs : List (List Sb)} {ids : List Int} {n want : Int}
theorem cmpG_out (h : ¬ (0 ≤ n ∧ n < ids.length)) : cmpG gs ids n want = (120, zS) := if_neg h
theorem cmpG_no {k : Nat} {id : Int} (h : ids[k]? = some id) (hi : inTab gs id = false) : cmpG gs ids k want = (120, zS) := by
  have hk := (List.getElem?_eq_some_iff.1 h).1
  unfold cmpG
  rw [if_pos (by omega), Int.toNat_natCast, List.getD_eq_getElem?_getD, h, Option.getD_some, hi]
  rfl
theorem cmpG_yes {k m : Nat} {y : Sb} (h : ids[k]? = some (m : Int)) (hy : (tabL gs)[m]? = some y) : cmpG gs ids k want = if y.k = want then (0, ⟨false, [], y.k, y.ps, y.rs, y.fs⟩) else (123, zS) := by
  have hk := (List.getElem?_eq_some_iff.1 h).1
  have hm := (List.getElem?_eq_some_iff.1 hy).1
  rw [tabL_len] at hm
  have hi : inTab gs (m : Int) = true := by simp [inTab]; omega
  unfold cmpG
  rw [if_pos (by omega), Int.toNat_natCast, List.getD_eq_getElem?_getD, h, Option.getD_some, if_pos hi, Int.toNat_natCast, hy]
end
def CmpAt (w : World) (cs : List Value) (y : Sb) : Prop := SubAt w (.bool false :: .slice none 0 0 :: cs) y
theorem cmp_zero (w : World) : CmpAt w [.int .i64 0, .slice none 0 0, .slice none 0 0, .slice none 0 0] zS :=
  ⟨⟨_, _, _, _, rfl, RowAt.nil w 2, RowAt.nil w 4, RowAt.nil w 4, RowAt.nil w 6⟩⟩
theorem SubAt.cmp {w : World} {a b c d e f : Value} {y : Sb} (h : SubAt w [a, b, c, d, e, f] y) : CmpAt w [c, d, e, f] ⟨false, [], y.k, y.ps, y.rs, y.fs⟩ := by
  obtain ⟨vs, vp, vr, vf, e, h1, h2, h3, h4⟩ := h.ex
  simp only [List.cons.injEq, and_true] at e
  obtain ⟨_, _, rfl, rfl, rfl, rfl⟩ := e
  exact ⟨⟨_, _, _, _, rfl, RowAt.nil w 2, h2, h3, h4⟩⟩
def CmpP (w : World) (A : Int × Sb) (e : Ending) (w' : World) : Prop :=
  ∃ cs : List Value, e = .returned (.tuple #[.agg cs.toArray, .int .i64 A.1]) ∧ (∀ w'', Below w'.heap.size w' w'' → CmpAt w'' cs A.2) ∧ Below w.heap.size w w'
theorem CmpP.zero {w w' : World} {A : Int × Sb} {e : Int} (h : A = (e, zS)) (hb : Below w.heap.size w w') : CmpP w A (.returned (.tuple #[.agg #[.int .i64 0, .slice none 0 0, .slice none 0 0, .slice none 0 0], .int .i64 e])) w' := by
  subst h
  exact ⟨[.int .i64 0, .slice none 0 0, .slice none 0 0, .slice none 0 0], rfl, fun w'' _ => cmp_zero w'', hb⟩
theorem box4' {w2 : World} {b0 : Nat} {d0 d1 d2 d3 : Value} {T : TypeId} (h : w2.heap[b0]? = some (.cells #[d0, d1, d2, d3] T (0, 0))) (c0 c1 c2 c3 : Value) :
    ((((w2.setCell ⟨b0, 0, none⟩ c0).setCell ⟨b0, 1, none⟩ c1).setCell ⟨b0, 2, none⟩ c2).setCell ⟨b0, 3, none⟩ c3).heap[b0]? = some (.cells #[c0, c1, c2, c3] T (0, 0)) := by
  have h1 := heap_set_at h 0 c0
  have h2 := heap_set_at h1 1 c1
  have h3 := heap_set_at h2 2 c2
  have h4 := heap_set_at h3 3 c3
  simpa using h4
theorem box4 {w2 : World} {b0 : Nat} {d0 d1 d2 d3 : Value} {T : TypeId} (h : w2.heap[b0]? = some (.cells #[d0, d1, d2, d3] T (0, 0))) (c0 c1 c2 c3 : Value) (o : Obj) :
    (((((w2.setCell ⟨b0, 0, none⟩ c0).setCell ⟨b0, 1, none⟩ c1).setCell ⟨b0, 2, none⟩ c2).setCell ⟨b0, 3, none⟩ c3).alloc o).heap[b0]? = some (.cells #[c0, c1, c2, c3] T (0, 0)) := by
  refine heap_alloc_keep ?_ o
  have h1 := heap_set_at h 0 c0
  have h2 := heap_set_at h1 1 c1
  have h3 := heap_set_at h2 2 c2
  have h4 := heap_set_at h3 3 c3
  simpa using h4
theorem below4 {w w2 : World} {b0 : Nat} (hb : Below w.heap.size w w2) (h0 : w.heap.size ≤ b0) (c0 c1 c2 c3 : Value) (o : Obj) :
    Below w.heap.size w (((((w2.setCell ⟨b0, 0, none⟩ c0).setCell ⟨b0, 1, none⟩ c1).setCell ⟨b0, 2, none⟩ c2).setCell ⟨b0, 3, none⟩ c3).alloc o) :=
  ((((hb.setCell h0 _).setCell h0 _).setCell h0 _).setCell h0 _).alloc (by have := hb.size; simp [World.setCell]; omega) _
variable {S R : Nat → Prop} {w : World} {t : Nat} {gs : List (List Sb)}
set_option maxRecDepth 100000 in
set_option maxHeartbeats 8000000 in
theorem dcComp_any (ht : TabK S R w t gs) (v : Value) (ids : List Int) (hi : IntsAt w v ids) (hl : ids.length ≤ 1000000) (n want : Int) :
    Calls Tryz.prog 12 #[.pointer (some ⟨t, 0, none⟩), v, .int .i64 n, .int .i64 want] w (CmpP w (cmpG gs ids n want)) := by
  obtain ⟨ao, cap, rfl⟩ := RowAt.form (v := v) hi
  obtain ⟨ln, hln⟩ : ∃ ln, ids.length = ln := ⟨_, rfl⟩
  obtain ⟨W0, hW⟩ : ∃ W0 : World, W0 = w.alloc (.cells #[.int .i64 0, .slice none 0 0, .slice none 0 0, .slice none 0 0] 39) := ⟨_, rfl⟩
  obtain ⟨b0, hb0⟩ : ∃ b0, w.heap.size = b0 := ⟨_, rfl⟩
  have hB : Below w.heap.size w W0 := by rw [hW]; exact (Below.refl _ _).alloc (Nat.le_refl _) _
  have hz : W0.heap[b0]? = some (.cells #[.int .i64 0, .slice none 0 0, .slice none 0 0, .slice none 0 0] 39 (0, 0)) := by rw [hW]; exact heap_alloc_at _ _ hb0.symm
  have C0 := Lib.hid (dcNone_any (ht.below hB).tab ht.ok.total)
  have H := Lib.hid (ht.below hB); have HI := Lib.hid (RowAt.below hi hB (Nat.le_refl _)); have HL := Lib.hid hl; have HLN := Lib.hid hln
  have HW := Lib.hid hW; have HB := Lib.hid hB; have HZ := Lib.hid hz; have HB0 := Lib.hid hb0
  rw [hln]
  clear ht hi hl hln hW hB hz hb0
  by_cases hn : 0 ≤ n ∧ n < (ln : Int)
  · obtain ⟨k, rfl⟩ : ∃ k : Nat, n = k := ⟨n.toNat, by omega⟩
    obtain ⟨id, hid⟩ : ∃ id, ids[k]? = some id := ⟨ids[k]'(by have := HLN.out; omega), by simp⟩
    have hk : (k : Int) < ln := hn.2
    have hk6 : (k : Int) < 1000000 := by have := HL.out; have := HLN.out; omega
    have k1 : ¬ (ln : Int) ≤ k := by omega
    have k2 : ¬ ln ≤ k := by omega
    have k3 : decide ((ln : Int) ≤ k) = false := decide_eq_false k1
    have k4 : decide (ln ≤ k) = false := decide_eq_false k2
    have k5 : ¬ (k : Int) < 0 := by omega
    have k6 : decide ((k : Int) < 0) = false := decide_eq_false k5
    have HID := Lib.hid hid
    clear hn hid
    go_enter Tryz.func12, Tryz.ntmps12
    go_wp2_with fail
    rw [← HW.out, HB0.out]
    refine C0.out.mono ?_
    rintro e w1 ⟨rfl, hb1⟩
    obtain ⟨ib, io, hai, -, z1⟩ := IntsAt.at (ao := ao) (cap := cap) (RowAt.below HI.out hb1 (Nat.le_refl _)) HID.out
    subst hai
    have h1 := H.out.below hb1
    have hz1 := (hb1.block _ (heap_lt HZ.out)).trans HZ.out
    have HZ1 := Lib.hid hz1
    have HB1 := Lib.hid (HB.out.trans (hb1.mono HB.out.size))
    clear hb1 hz1
    cases hit : inTab gs id with
    | false =>
      have C1 := Lib.hid (get_out h1.tab h1.ok.total id (fun q => by simp [inTab] at hit; omega))
      have HIT := Lib.hid hit
      clear h1 hit
      go_wp2_with fail
      refine C1.out.mono ?_
      rintro e w2 ⟨rfl, hb2⟩
      have hz2 := (hb2.block _ (heap_lt HZ1.out)).trans HZ1.out
      have HZ2 := Lib.hid hz2
      have f0 := heap_frozen hz2 0; have f1 := heap_frozen hz2 1; have f2 := heap_frozen hz2 2; have f3 := heap_frozen hz2 3
      have e0 := heap_cell hz2 0; have e1 := heap_cell hz2 1; have e2 := heap_cell hz2 2; have e3 := heap_cell hz2 3
      simp only [List.getElem?_toArray, List.getElem?_cons_succ, List.getElem?_cons_zero] at e0 e1 e2 e3
      have hl2 := heap_lt hz2
      have HB2 := Lib.hid (HB1.out.trans (hb2.mono HB1.out.size))
      clear hb2 C1 hz2
      go_wp2
      have hbx := box4 HZ2.out (.int .i64 0) (.slice none 0 0) (.slice none 0 0) (.slice none 0 0) (.cells #[.bool false, .slice none 0 0, .int .i64 0, .slice none 0 0, .slice none 0 0, .slice none 0 0] 46)
      have hc0 := heap_cell hbx 0; have hc1 := heap_cell hbx 1; have hc2 := heap_cell hbx 2; have hc3 := heap_cell hbx 3
      simp only [List.getElem?_toArray, List.getElem?_cons_succ, List.getElem?_cons_zero] at hc0 hc1 hc2 hc3
      refine bodyPost_ret (v := .tuple #[.agg #[.int .i64 0, .slice none 0 0, .slice none 0 0, .slice none 0 0], .int .i64 120]) (by simp [results, Tryz.results12, go_sem, hc0, hc1, hc2, hc3]) rfl ?_
      exact CmpP.zero (cmpG_no HID.out HIT.out) (below4 HB2.out (Nat.le_of_eq HB0.out) _ _ _ _ _)
    | true =>
      obtain ⟨m, rfl, y, hy⟩ := inTab_nat hit
      have C1 := Lib.hid (get_k h1 hy)
      have HY := Lib.hid hy
      clear h1 hit hy
      go_wp2_with fail
      refine C1.out.mono ?_
      rintro e w2 ⟨ds, rfl, hsub, hb2⟩
      obtain ⟨a1, l1, a2, l2, a3, l3, a4, l4, rfl⟩ := (hsub w2 (Upd.refl _ _)).out
      have hz2 := (hb2.block _ (heap_lt HZ1.out)).trans HZ1.out
      have HZ2 := Lib.hid hz2
      have f0 := heap_frozen hz2 0; have f1 := heap_frozen hz2 1; have f2 := heap_frozen hz2 2; have f3 := heap_frozen hz2 3
      have e0 := heap_cell hz2 0; have e1 := heap_cell hz2 1; have e2 := heap_cell hz2 2; have e3 := heap_cell hz2 3
      simp only [List.getElem?_toArray, List.getElem?_cons_succ, List.getElem?_cons_zero] at e0 e1 e2 e3
      have hl2 := heap_lt hz2
      have HSUB := Lib.hid hsub
      have HB2 := Lib.hid (HB1.out.trans (hb2.mono HB1.out.size))
      obtain ⟨yk, hyk⟩ : ∃ k, y.k = k := ⟨_, rfl⟩
      have HYK := Lib.hid hyk
      rw [hyk]
      clear hb2 C1 hsub hyk hz2
      by_cases hw : yk = want
      · subst hw
        go_wp2
        have hbx := box4 HZ2.out (.int .i64 yk) (.slice a2 y.ps.length l2) (.slice a3 y.rs.length l3) (.slice a4 y.fs.length l4) (.cells #[.bool y.fin, .slice a1 y.sups.length l1, .int .i64 yk, .slice a2 y.ps.length l2, .slice a3 y.rs.length l3, .slice a4 y.fs.length l4] 46)
        have hc0 := heap_cell hbx 0; have hc1 := heap_cell hbx 1; have hc2 := heap_cell hbx 2; have hc3 := heap_cell hbx 3
        simp only [List.getElem?_toArray, List.getElem?_cons_succ, List.getElem?_cons_zero] at hc0 hc1 hc2 hc3
        refine bodyPost_ret (v := .tuple #[.agg #[.int .i64 yk, .slice a2 y.ps.length l2, .slice a3 y.rs.length l3, .slice a4 y.fs.length l4], .int .i64 0]) (by simp [results, Tryz.results12, go_sem, hc0, hc1, hc2, hc3]) rfl ?_
        rw [cmpG_yes HID.out HY.out, if_pos HYK.out]
        refine ⟨[.int .i64 yk, .slice a2 y.ps.length l2, .slice a3 y.rs.length l3, .slice a4 y.fs.length l4], rfl, fun w'' hb => ?_, below4 HB2.out (Nat.le_of_eq HB0.out) _ _ _ _ _⟩
        have hs := (HSUB.out _ ((((((Upd.refl _ w2).setCell (.inl (heap_lt HZ1.out)) _).setCell (.inl (heap_lt HZ1.out)) _).setCell (.inl (heap_lt HZ1.out)) _).setCell (.inl (heap_lt HZ1.out)) _).alloc _)).below hb (Nat.le_refl _)
        rw [HYK.out] at hs
        have hs := hs.cmp
        exact hs
      · have hw' : (yk != want) = true := by simpa using hw
        have HW := Lib.hid hw
        clear hw
        go_wp2
        have hbx := box4 HZ2.out (.int .i64 0) (.slice none 0 0) (.slice none 0 0) (.slice none 0 0) (.cells #[.bool y.fin, .slice a1 y.sups.length l1, .int .i64 yk, .slice a2 y.ps.length l2, .slice a3 y.rs.length l3, .slice a4 y.fs.length l4] 46)
        have hc0 := heap_cell hbx 0; have hc1 := heap_cell hbx 1; have hc2 := heap_cell hbx 2; have hc3 := heap_cell hbx 3
        simp only [List.getElem?_toArray, List.getElem?_cons_succ, List.getElem?_cons_zero] at hc0 hc1 hc2 hc3
        refine bodyPost_ret (v := .tuple #[.agg #[.int .i64 0, .slice none 0 0, .slice none 0 0, .slice none 0 0], .int .i64 123]) (by simp [results, Tryz.results12, go_sem, hc0, hc1, hc2, hc3]) rfl ?_
        exact CmpP.zero (by rw [cmpG_yes HID.out HY.out, if_neg (by rw [HYK.out]; exact HW.out)]) (below4 HB2.out (Nat.le_of_eq HB0.out) _ _ _ _ _)
  · have HN := Lib.hid (cmpG_out (gs := gs) (want := want) (ids := ids) (n := n) (by rw [HLN.out]; exact hn))
    have hn2 : n < 0 ∨ ∃ k : Nat, n = k ∧ ln ≤ k := by
      by_cases h0 : n < 0
      · exact .inl h0
      · exact .inr ⟨n.toNat, by omega, by omega⟩
    clear hn
    rcases hn2 with h0 | ⟨k, rfl, hk⟩
    · have k6 : decide (n < 0) = true := decide_eq_true h0
      go_enter Tryz.func12, Tryz.ntmps12
      go_wp2_with fail
      rw [← HW.out, HB0.out]
      refine C0.out.mono ?_
      rintro e w1 ⟨rfl, hb1⟩
      have hz1 := (hb1.block _ (heap_lt HZ.out)).trans HZ.out
      have f0 := heap_frozen hz1 0; have f1 := heap_frozen hz1 1; have f2 := heap_frozen hz1 2; have f3 := heap_frozen hz1 3
      have e0 := heap_cell hz1 0; have e1 := heap_cell hz1 1; have e2 := heap_cell hz1 2; have e3 := heap_cell hz1 3
      simp only [List.getElem?_toArray, List.getElem?_cons_succ, List.getElem?_cons_zero] at e0 e1 e2 e3
      have HZ1 := Lib.hid hz1
      have HB1 := Lib.hid (HB.out.trans (hb1.mono HB.out.size))
      clear hb1 hz1
      go_wp2
      have hbx := box4' HZ1.out (.int .i64 0) (.slice none 0 0) (.slice none 0 0) (.slice none 0 0)
      have hc0 := heap_cell hbx 0; have hc1 := heap_cell hbx 1; have hc2 := heap_cell hbx 2; have hc3 := heap_cell hbx 3
      simp only [List.getElem?_toArray, List.getElem?_cons_succ, List.getElem?_cons_zero] at hc0 hc1 hc2 hc3
      refine bodyPost_ret (v := .tuple #[.agg #[.int .i64 0, .slice none 0 0, .slice none 0 0, .slice none 0 0], .int .i64 120]) (by simp [results, Tryz.results12, go_sem, hc0, hc1, hc2, hc3]) rfl ?_
      have h0 := Nat.le_of_eq HB0.out
      exact CmpP.zero HN.out ((((HB1.out.setCell h0 _).setCell h0 _).setCell h0 _).setCell h0 _)
    · have k1 : (ln : Int) ≤ k := by omega
      have k3 : decide ((ln : Int) ≤ k) = true := decide_eq_true k1
      have k4 : decide (ln ≤ k) = true := decide_eq_true hk
      have k5 : ¬ (k : Int) < 0 := by omega
      have k6 : decide ((k : Int) < 0) = false := decide_eq_false k5
      go_enter Tryz.func12, Tryz.ntmps12
      go_wp2_with fail
      rw [← HW.out, HB0.out]
      refine C0.out.mono ?_
      rintro e w1 ⟨rfl, hb1⟩
      have hz1 := (hb1.block _ (heap_lt HZ.out)).trans HZ.out
      have f0 := heap_frozen hz1 0; have f1 := heap_frozen hz1 1; have f2 := heap_frozen hz1 2; have f3 := heap_frozen hz1 3
      have e0 := heap_cell hz1 0; have e1 := heap_cell hz1 1; have e2 := heap_cell hz1 2; have e3 := heap_cell hz1 3
      simp only [List.getElem?_toArray, List.getElem?_cons_succ, List.getElem?_cons_zero] at e0 e1 e2 e3
      have HZ1 := Lib.hid hz1
      have HB1 := Lib.hid (HB.out.trans (hb1.mono HB.out.size))
      clear hb1 hz1
      go_wp2
      have hbx := box4' HZ1.out (.int .i64 0) (.slice none 0 0) (.slice none 0 0) (.slice none 0 0)
      have hc0 := heap_cell hbx 0; have hc1 := heap_cell hbx 1; have hc2 := heap_cell hbx 2; have hc3 := heap_cell hbx 3
      simp only [List.getElem?_toArray, List.getElem?_cons_succ, List.getElem?_cons_zero] at hc0 hc1 hc2 hc3
      refine bodyPost_ret (v := .tuple #[.agg #[.int .i64 0, .slice none 0 0, .slice none 0 0, .slice none 0 0], .int .i64 120]) (by simp [results, Tryz.results12, go_sem, hc0, hc1, hc2, hc3]) rfl ?_
      have h0 := Nat.le_of_eq HB0.out
      exact CmpP.zero HN.out ((((HB1.out.setCell h0 _).setCell h0 _).setCell h0 _).setCell h0 _)
set_option maxRecDepth 100000 in
theorem dcNone_nil {p : Value} (h : NoTab w p) : Calls Tryz.prog 25 #[p] w fun e w' => e = .returned (.bool true) ∧ Below w.heap.size w w' := by
  have C0 := Lib.hid (get_none h (-1))
  clear h
  go_enter Tryz.func25, Tryz.ntmps25
  go_wp2_with fail
  refine C0.out.mono ?_
  rintro e w1 ⟨rfl, hb1⟩
  have HB1 := Lib.hid hb1
  clear hb1
  unfold emptyS
  go_wp2
  go_ret
  exact ⟨rfl, HB1.out.alloc HB1.out.size _⟩
set_option maxRecDepth 100000 in
theorem dcCheck_nil (v : Value) (h : NoTab w (.pointer none)) : Calls Tryz.prog 10 #[.pointer none, v] w fun e w' => e = .returned (.tuple #[.slice none 0 0, .int .i64 1, .int .i64 0]) ∧ Below w.heap.size w w' := by
  have C0 := Lib.hid (dcNone_nil h)
  clear h
  go_enter Tryz.func10, Tryz.ntmps10
  go_wp2_with fail
  refine C0.out.mono ?_
  rintro e w1 ⟨rfl, hb1⟩
  have HB1 := Lib.hid hb1
  clear hb1
  go_wp2
  go_ret3
  exact ⟨rfl, HB1.out⟩
set_option maxRecDepth 100000 in
theorem dcComp_nil (v : Value) (n want : Int) : Calls Tryz.prog 12 #[.pointer none, v, .int .i64 n, .int .i64 want] w fun e w' => e = .returned (.tuple #[.agg #[.int .i64 0, .slice none 0 0, .slice none 0 0, .slice none 0 0], .int .i64 1]) ∧ Below w.heap.size w w' := by
  obtain ⟨W0, hW⟩ : ∃ W0 : World, W0 = w.alloc (.cells #[.int .i64 0, .slice none 0 0, .slice none 0 0, .slice none 0 0] 39) := ⟨_, rfl⟩
  obtain ⟨b0, hb0⟩ : ∃ b0, w.heap.size = b0 := ⟨_, rfl⟩
  have hB : Below w.heap.size w W0 := by rw [hW]; exact (Below.refl _ _).alloc (Nat.le_refl _) _
  have hz : W0.heap[b0]? = some (.cells #[.int .i64 0, .slice none 0 0, .slice none 0 0, .slice none 0 0] 39 (0, 0)) := by rw [hW]; exact heap_alloc_at _ _ hb0.symm
  have C0 := Lib.hid (dcNone_nil (w := W0) (p := .pointer none) .absent)
  have HW := Lib.hid hW; have HB := Lib.hid hB; have HZ := Lib.hid hz; have HB0 := Lib.hid hb0
  clear hW hB hz hb0
  go_enter Tryz.func12, Tryz.ntmps12
  go_wp2_with fail
  rw [← HW.out, HB0.out]
  refine C0.out.mono ?_
  rintro e w1 ⟨rfl, hb1⟩
  have hz1 := (hb1.block _ (heap_lt HZ.out)).trans HZ.out
  have f0 := heap_frozen hz1 0; have f1 := heap_frozen hz1 1; have f2 := heap_frozen hz1 2; have f3 := heap_frozen hz1 3
  have e0 := heap_cell hz1 0; have e1 := heap_cell hz1 1; have e2 := heap_cell hz1 2; have e3 := heap_cell hz1 3
  simp only [List.getElem?_toArray, List.getElem?_cons_succ, List.getElem?_cons_zero] at e0 e1 e2 e3
  have HZ1 := Lib.hid hz1
  have HB1 := Lib.hid (HB.out.trans (hb1.mono HB.out.size))
  clear hb1 hz1
  go_wp2
  have hbx := box4' HZ1.out (.int .i64 0) (.slice none 0 0) (.slice none 0 0) (.slice none 0 0)
  have hc0 := heap_cell hbx 0; have hc1 := heap_cell hbx 1; have hc2 := heap_cell hbx 2; have hc3 := heap_cell hbx 3
  simp only [List.getElem?_toArray, List.getElem?_cons_succ, List.getElem?_cons_zero] at hc0 hc1 hc2 hc3
  refine bodyPost_ret (v := .tuple #[.agg #[.int .i64 0, .slice none 0 0, .slice none 0 0, .slice none 0 0], .int .i64 1]) (by simp [results, Tryz.results12, go_sem, hc0, hc1, hc2, hc3]) rfl ?_
  have h0 := Nat.le_of_eq HB0.out
  exact ⟨rfl, (((HB1.out.setCell h0 _).setCell h0 _).setCell h0 _).setCell h0 _⟩
end
section
open Go.RowKit Go.Maps Go.WideMaps
variable {R : Nat → Prop} {w : World} {t : Nat} {gs : List (List Sb)}
set_option maxRecDepth 100000 in
set_option maxHeartbeats 8000000 in
theorem refComp_any (ht : RfK R w t gs) (v : Value) (ids : List Int) (hi : IntsAt w v ids) (hl : ids.length ≤ 1000000) (n want : Int) :
    Calls Tryz.prog 13 #[.pointer (some ⟨t, 0, none⟩), v, .int .i64 n, .int .i64 want] w (CmpP w (cmpG gs ids n want)) := by
  obtain ⟨ao, cap, rfl⟩ := RowAt.form (v := v) hi
  obtain ⟨ln, hln⟩ : ∃ ln, ids.length = ln := ⟨_, rfl⟩
  obtain ⟨W0, hW⟩ : ∃ W0 : World, W0 = w.alloc (.cells #[.int .i64 0, .slice none 0 0, .slice none 0 0, .slice none 0 0] 39) := ⟨_, rfl⟩
  obtain ⟨b0, hb0⟩ : ∃ b0, w.heap.size = b0 := ⟨_, rfl⟩
  have hB : Below w.heap.size w W0 := by rw [hW]; exact (Below.refl _ _).alloc (Nat.le_refl _) _
  have hz : W0.heap[b0]? = some (.cells #[.int .i64 0, .slice none 0 0, .slice none 0 0, .slice none 0 0] 39 (0, 0)) := by rw [hW]; exact heap_alloc_at _ _ hb0.symm
  have H := Lib.hid (ht.below hB); have HI := Lib.hid (RowAt.below hi hB (Nat.le_refl _)); have HL := Lib.hid hl; have HLN := Lib.hid hln
  have HW := Lib.hid hW; have HB := Lib.hid hB; have HZ := Lib.hid hz; have HB0 := Lib.hid hb0
  rw [hln]
  clear ht hi hl hln hW hB hz hb0
  by_cases hn : 0 ≤ n ∧ n < (ln : Int)
  · obtain ⟨k, rfl⟩ : ∃ k : Nat, n = k := ⟨n.toNat, by omega⟩
    obtain ⟨id, hid⟩ : ∃ id, ids[k]? = some id := ⟨ids[k]'(by have := HLN.out; omega), by simp⟩
    obtain ⟨ib, io, hai, -, z1⟩ := IntsAt.at (ao := ao) (cap := cap) HI.out hid
    subst hai
    have zz : ∀ x : Ext W0, x.val.cell? ⟨ib, io + k, none⟩ = some (.int .i64 id) := Ext.cells z1
    have hk : (k : Int) < ln := hn.2
    have k1 : ¬ (ln : Int) ≤ k := by omega
    have k2 : ¬ ln ≤ k := by omega
    have k3 : decide ((ln : Int) ≤ k) = false := decide_eq_false k1
    have k4 : decide (ln ≤ k) = false := decide_eq_false k2
    have k5 : ¬ (k : Int) < 0 := by omega
    have k6 : decide ((k : Int) < 0) = false := decide_eq_false k5
    have HID := Lib.hid hid
    clear hn hid z1
    obtain ⟨tt, htt⟩ : ∃ tt, total gs = tt := ⟨_, rfl⟩
    have HTT := Lib.hid htt
    cases hit : inTab gs id with
    | false =>
      have HIT := Lib.hid hit
      by_cases h0 : id < 0
      · have m1 : decide (id < 0) = true := decide_eq_true h0
        clear hit htt
        go_enter Tryz.func13, Tryz.ntmps13
        go_wp2
        rw [← HW.out, HB0.out]
        refine wp_region_calm (by kernel_rfl) (by kernel_rfl) ?_
        repeat (go_big_quiet_step (first | (go_at_call 31; exact Ext.call _ (rfLen (H.out.ext _)))))
        refine wpQuiet_nil ?_
        rintro _ ⟨x, rfl⟩
        have hz1 := (x.2.block _ (heap_lt HZ.out)).trans HZ.out
        have f0 := heap_frozen hz1 0; have f1 := heap_frozen hz1 1; have f2 := heap_frozen hz1 2; have f3 := heap_frozen hz1 3
        have e0 := heap_cell hz1 0; have e1 := heap_cell hz1 1; have e2 := heap_cell hz1 2; have e3 := heap_cell hz1 3
        simp only [List.getElem?_toArray, List.getElem?_cons_succ, List.getElem?_cons_zero] at e0 e1 e2 e3
        have HZ1 := Lib.hid hz1
        clear hz1
        go_wp2
        have hbx := box4' HZ1.out (.int .i64 0) (.slice none 0 0) (.slice none 0 0) (.slice none 0 0)
        have hc0 := heap_cell hbx 0; have hc1 := heap_cell hbx 1; have hc2 := heap_cell hbx 2; have hc3 := heap_cell hbx 3
        simp only [List.getElem?_toArray, List.getElem?_cons_succ, List.getElem?_cons_zero] at hc0 hc1 hc2 hc3
        refine bodyPost_ret (v := .tuple #[.agg #[.int .i64 0, .slice none 0 0, .slice none 0 0, .slice none 0 0], .int .i64 120]) (by simp [results, Tryz.results13, go_sem, hc0, hc1, hc2, hc3]) rfl ?_
        have h0 := Nat.le_of_eq HB0.out
        exact CmpP.zero (cmpG_no HID.out HIT.out) (((((HB.out.trans (x.2.mono HB.out.size)).setCell h0 _).setCell h0 _).setCell h0 _).setCell h0 _)
      · have m0 : ¬ id < 0 := h0
        have m1 : decide (id < 0) = false := decide_eq_false h0
        have m2 : (total gs : Int) ≤ id := by simp [inTab] at hit; omega
        have m3 : decide ((total gs : Int) ≤ id) = true := decide_eq_true m2
        clear hit htt h0
        go_enter Tryz.func13, Tryz.ntmps13
        go_wp2
        rw [← HW.out, HB0.out]
        refine wp_region_calm (by kernel_rfl) (by kernel_rfl) ?_
        repeat (go_big_quiet_step (first | (go_at_call 31; exact Ext.call _ (rfLen (H.out.ext _)))))
        refine wpQuiet_nil ?_
        rintro _ ⟨x, rfl⟩
        have hz1 := (x.2.block _ (heap_lt HZ.out)).trans HZ.out
        have f0 := heap_frozen hz1 0; have f1 := heap_frozen hz1 1; have f2 := heap_frozen hz1 2; have f3 := heap_frozen hz1 3
        have e0 := heap_cell hz1 0; have e1 := heap_cell hz1 1; have e2 := heap_cell hz1 2; have e3 := heap_cell hz1 3
        simp only [List.getElem?_toArray, List.getElem?_cons_succ, List.getElem?_cons_zero] at e0 e1 e2 e3
        have HZ1 := Lib.hid hz1
        clear hz1
        go_wp2
        have hbx := box4' HZ1.out (.int .i64 0) (.slice none 0 0) (.slice none 0 0) (.slice none 0 0)
        have hc0 := heap_cell hbx 0; have hc1 := heap_cell hbx 1; have hc2 := heap_cell hbx 2; have hc3 := heap_cell hbx 3
        simp only [List.getElem?_toArray, List.getElem?_cons_succ, List.getElem?_cons_zero] at hc0 hc1 hc2 hc3
        refine bodyPost_ret (v := .tuple #[.agg #[.int .i64 0, .slice none 0 0, .slice none 0 0, .slice none 0 0], .int .i64 120]) (by simp [results, Tryz.results13, go_sem, hc0, hc1, hc2, hc3]) rfl ?_
        have h0 := Nat.le_of_eq HB0.out
        exact CmpP.zero (cmpG_no HID.out HIT.out) (((((HB.out.trans (x.2.mono HB.out.size)).setCell h0 _).setCell h0 _).setCell h0 _).setCell h0 _)
    | true =>
      have m0 : ¬ id < 0 := by simp [inTab] at hit; omega
      have m1 : decide (id < 0) = false := decide_eq_false m0
      have m2 : ¬ (total gs : Int) ≤ id := by simp [inTab] at hit; omega
      have m3 : decide ((total gs : Int) ≤ id) = false := decide_eq_false m2
      obtain ⟨m, hm, y, hy⟩ := inTab_nat hit
      have C1 := Lib.hid (fun x : Ext W0 => rfGet (H.out.ext x) hy)
      have HY := Lib.hid hy; have HM := Lib.hid hm
      rw [hm] at HID
      rw [← hm] at C1
      clear hit hy hm htt
      go_enter Tryz.func13, Tryz.ntmps13
      go_wp2
      rw [← HW.out, HB0.out]
      refine wp_region_calm (by kernel_rfl) (by kernel_rfl) ?_
      repeat (go_big_quiet_step (first | (go_at_call 31; exact Ext.call _ (rfLen (H.out.ext _)))))
      refine wpQuiet_nil ?_
      rintro _ ⟨x, rfl⟩
      go_wp2_with fail
      refine (C1.out x).mono ?_
      rintro e w2 ⟨ds, rfl, hsub, hb2⟩
      obtain ⟨a1, l1, a2, l2, a3, l3, a4, l4, rfl⟩ := (hsub w2 (Upd.refl _ _)).out
      have hz2 := (hb2.block _ (Nat.lt_of_lt_of_le (heap_lt HZ.out) x.2.size)).trans ((x.2.block _ (heap_lt HZ.out)).trans HZ.out)
      have f0 := heap_frozen hz2 0; have f1 := heap_frozen hz2 1; have f2 := heap_frozen hz2 2; have f3 := heap_frozen hz2 3
      have e0 := heap_cell hz2 0; have e1 := heap_cell hz2 1; have e2 := heap_cell hz2 2; have e3 := heap_cell hz2 3
      simp only [List.getElem?_toArray, List.getElem?_cons_succ, List.getElem?_cons_zero] at e0 e1 e2 e3
      have hl2 := heap_lt hz2
      have HZ2 := Lib.hid hz2
      have HLX := Lib.hid (Nat.lt_of_lt_of_le (heap_lt HZ.out) x.2.size)
      have HSUB := Lib.hid hsub
      have HB2 := Lib.hid (HB.out.trans ((x.2.trans (hb2.mono x.2.size)).mono HB.out.size))
      obtain ⟨yk, hyk⟩ : ∃ k, y.k = k := ⟨_, rfl⟩
      have HYK := Lib.hid hyk
      rw [hyk]
      clear hb2 C1 hsub hyk hz2
      by_cases hw : yk = want
      · subst hw
        go_wp2
        have hbx := box4 HZ2.out (.int .i64 yk) (.slice a2 y.ps.length l2) (.slice a3 y.rs.length l3) (.slice a4 y.fs.length l4) (.cells #[.bool y.fin, .slice a1 y.sups.length l1, .int .i64 yk, .slice a2 y.ps.length l2, .slice a3 y.rs.length l3, .slice a4 y.fs.length l4] 46)
        have hc0 := heap_cell hbx 0; have hc1 := heap_cell hbx 1; have hc2 := heap_cell hbx 2; have hc3 := heap_cell hbx 3
        simp only [List.getElem?_toArray, List.getElem?_cons_succ, List.getElem?_cons_zero] at hc0 hc1 hc2 hc3
        refine bodyPost_ret (v := .tuple #[.agg #[.int .i64 yk, .slice a2 y.ps.length l2, .slice a3 y.rs.length l3, .slice a4 y.fs.length l4], .int .i64 0]) (by simp [results, Tryz.results13, go_sem, hc0, hc1, hc2, hc3]) rfl ?_
        rw [cmpG_yes HID.out HY.out, if_pos HYK.out]
        refine ⟨[.int .i64 yk, .slice a2 y.ps.length l2, .slice a3 y.rs.length l3, .slice a4 y.fs.length l4], rfl, fun w'' hb => ?_, below4 HB2.out (Nat.le_of_eq HB0.out) _ _ _ _ _⟩
        have hs := (HSUB.out _ ((((((Upd.refl _ w2).setCell (.inl HLX.out) _).setCell (.inl HLX.out) _).setCell (.inl HLX.out) _).setCell (.inl HLX.out) _).alloc _)).below hb (Nat.le_refl _)
        rw [HYK.out] at hs
        exact hs.cmp
      · have hw' : (yk != want) = true := by simpa using hw
        have HWW := Lib.hid hw
        clear hw
        go_wp2
        have hbx := box4 HZ2.out (.int .i64 0) (.slice none 0 0) (.slice none 0 0) (.slice none 0 0) (.cells #[.bool y.fin, .slice a1 y.sups.length l1, .int .i64 yk, .slice a2 y.ps.length l2, .slice a3 y.rs.length l3, .slice a4 y.fs.length l4] 46)
        have hc0 := heap_cell hbx 0; have hc1 := heap_cell hbx 1; have hc2 := heap_cell hbx 2; have hc3 := heap_cell hbx 3
        simp only [List.getElem?_toArray, List.getElem?_cons_succ, List.getElem?_cons_zero] at hc0 hc1 hc2 hc3
        refine bodyPost_ret (v := .tuple #[.agg #[.int .i64 0, .slice none 0 0, .slice none 0 0, .slice none 0 0], .int .i64 123]) (by simp [results, Tryz.results13, go_sem, hc0, hc1, hc2, hc3]) rfl ?_
        exact CmpP.zero (by rw [cmpG_yes HID.out HY.out, if_neg (by rw [HYK.out]; exact HWW.out)]) (below4 HB2.out (Nat.le_of_eq HB0.out) _ _ _ _ _)
  · have HN := Lib.hid (cmpG_out (gs := gs) (want := want) (ids := ids) (n := n) (by rw [HLN.out]; exact hn))
    have hn2 : n < 0 ∨ ∃ k : Nat, n = k ∧ ln ≤ k := by
      by_cases h0 : n < 0
      · exact .inl h0
      · exact .inr ⟨n.toNat, by omega, by omega⟩
    clear hn
    rcases hn2 with h0 | ⟨k, rfl, hk⟩
    · have k6 : decide (n < 0) = true := decide_eq_true h0
      go_enter Tryz.func13, Tryz.ntmps13
      go_wp2
      rw [← HW.out, HB0.out]
      refine wp_region_calm (by kernel_rfl) (by kernel_rfl) ?_
      repeat (go_big_quiet_step (first | (go_at_call 31; exact Ext.call _ (rfLen (H.out.ext _)))))
      refine wpQuiet_nil ?_
      rintro _ ⟨x, rfl⟩
      have hz1 := (x.2.block _ (heap_lt HZ.out)).trans HZ.out
      have f0 := heap_frozen hz1 0; have f1 := heap_frozen hz1 1; have f2 := heap_frozen hz1 2; have f3 := heap_frozen hz1 3
      have e0 := heap_cell hz1 0; have e1 := heap_cell hz1 1; have e2 := heap_cell hz1 2; have e3 := heap_cell hz1 3
      simp only [List.getElem?_toArray, List.getElem?_cons_succ, List.getElem?_cons_zero] at e0 e1 e2 e3
      have HZ1 := Lib.hid hz1
      clear hz1
      go_wp2
      have hbx := box4' HZ1.out (.int .i64 0) (.slice none 0 0) (.slice none 0 0) (.slice none 0 0)
      have hc0 := heap_cell hbx 0; have hc1 := heap_cell hbx 1; have hc2 := heap_cell hbx 2; have hc3 := heap_cell hbx 3
      simp only [List.getElem?_toArray, List.getElem?_cons_succ, List.getElem?_cons_zero] at hc0 hc1 hc2 hc3
      refine bodyPost_ret (v := .tuple #[.agg #[.int .i64 0, .slice none 0 0, .slice none 0 0, .slice none 0 0], .int .i64 120]) (by simp [results, Tryz.results13, go_sem, hc0, hc1, hc2, hc3]) rfl ?_
      have h0 := Nat.le_of_eq HB0.out
      exact CmpP.zero HN.out (((((HB.out.trans (x.2.mono HB.out.size)).setCell h0 _).setCell h0 _).setCell h0 _).setCell h0 _)
    · have k1 : (ln : Int) ≤ k := by omega
      have k3 : decide ((ln : Int) ≤ k) = true := decide_eq_true k1
      have k4 : decide (ln ≤ k) = true := decide_eq_true hk
      have k5 : ¬ (k : Int) < 0 := by omega
      have k6 : decide ((k : Int) < 0) = false := decide_eq_false k5
      go_enter Tryz.func13, Tryz.ntmps13
      go_wp2
      rw [← HW.out, HB0.out]
      refine wp_region_calm (by kernel_rfl) (by kernel_rfl) ?_
      repeat (go_big_quiet_step (first | (go_at_call 31; exact Ext.call _ (rfLen (H.out.ext _)))))
      refine wpQuiet_nil ?_
      rintro _ ⟨x, rfl⟩
      have hz1 := (x.2.block _ (heap_lt HZ.out)).trans HZ.out
      have f0 := heap_frozen hz1 0; have f1 := heap_frozen hz1 1; have f2 := heap_frozen hz1 2; have f3 := heap_frozen hz1 3
      have e0 := heap_cell hz1 0; have e1 := heap_cell hz1 1; have e2 := heap_cell hz1 2; have e3 := heap_cell hz1 3
      simp only [List.getElem?_toArray, List.getElem?_cons_succ, List.getElem?_cons_zero] at e0 e1 e2 e3
      have HZ1 := Lib.hid hz1
      clear hz1
      go_wp2
      have hbx := box4' HZ1.out (.int .i64 0) (.slice none 0 0) (.slice none 0 0) (.slice none 0 0)
      have hc0 := heap_cell hbx 0; have hc1 := heap_cell hbx 1; have hc2 := heap_cell hbx 2; have hc3 := heap_cell hbx 3
      simp only [List.getElem?_toArray, List.getElem?_cons_succ, List.getElem?_cons_zero] at hc0 hc1 hc2 hc3
      refine bodyPost_ret (v := .tuple #[.agg #[.int .i64 0, .slice none 0 0, .slice none 0 0, .slice none 0 0], .int .i64 120]) (by simp [results, Tryz.results13, go_sem, hc0, hc1, hc2, hc3]) rfl ?_
      have h0 := Nat.le_of_eq HB0.out
      exact CmpP.zero HN.out (((((HB.out.trans (x.2.mono HB.out.size)).setCell h0 _).setCell h0 _).setCell h0 _).setCell h0 _)
end
end Go.Proofs.YtpddbaijnjbfdaaGreatDoor
