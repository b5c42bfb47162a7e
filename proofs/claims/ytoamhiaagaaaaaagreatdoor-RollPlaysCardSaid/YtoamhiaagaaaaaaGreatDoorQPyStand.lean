/- geodelaw09: stands. -/
import Derived.Test.YtoamhiaagaaaaaaGreatDoorQPyP
import Derived.Test.YtoamhiaagaaaaaaGreatDoorQMaWalkP
import Derived.Test.YtoamhiaagaaaaaaGreatDoorQRfSame
namespace Go.Proofs.YtoamhiaagaaaaaaGreatDoor
open Go.RowKit Go.Maps Go.WideMaps

variable {S R Q : Nat → Prop} {w0 w : World} {t r n : Nat} {gs : List (List Sb)}
set_option maxRecDepth 100000 in
theorem group_out (ht : TabAt S R w t gs) (hok : total gs ≤ 10000) (id : Int) (hid : ¬ (0 ≤ id ∧ id < total gs)) : Calls Tryz.prog 54 #[.pointer (some ⟨t, 0, none⟩), .int .i64 id] w fun e w' => e = .returned (.tuple #[.int .i64 0, .int .i64 0, .int .i64 4]) ∧ w' = w := by
  have C := Lib.hid (made_any ht)
  have C2 := has_any ht id hok
  rw [show (decide (0 ≤ id) && decide (id < total gs)) = false by rw [Bool.eq_false_iff]; simpa using hid] at C2
  have HC2 := Lib.hid C2
  clear ht hok hid C2
  go_enter Tryz.func54, Tryz.ntmps54
  go_wp2_with fail
  refine C.out.mono ?_
  rintro e w1 ⟨rfl, rfl⟩
  go_wp2_with fail
  refine HC2.out.mono ?_
  rintro e w2 ⟨rfl, rfl⟩
  go_wp2
  refine bodyPost_ret (v := .tuple #[.int .i64 0, .int .i64 0, .int .i64 4]) (by simp [results, Tryz.results54, go_sem]) rfl ⟨rfl, rfl⟩
def emptyY : Sb := ⟨false, [], 0, [], [], []⟩
theorem sub_empty (w : World) : SubAt w emptyC emptyY := ⟨⟨_, _, _, _, rfl, RowAt.nil w 2, RowAt.nil w 4, RowAt.nil w 4, RowAt.nil w 6⟩⟩
set_option maxRecDepth 100000 in
set_option maxHeartbeats 16000000 in
theorem stands_out (h : Both w0 S R Q w t r n gs) (hn : n ≤ 100000) (id : Int) (hid : ¬ (0 ≤ id ∧ id < total gs)) :
    Calls Tryz.prog 16 #[.pointer (some ⟨t, 0, none⟩), .pointer (some ⟨r, 0, none⟩), .int .i64 id] w fun e w' => e = .returned (.bool true) ∧ Below w.heap.size w w' := by
  have H := Lib.hid h; have HID := Lib.hid hid
  have hno : inTab gs id = false := by
    unfold inTab
    rw [Bool.and_eq_false_iff, decide_eq_false_iff_not, decide_eq_false_iff_not]; omega
  have C1 := Lib.hid (get_out h.tab.tab h.tab.ok.total id hid)
  have HNO := Lib.hid hno
  clear h hid hno
  go_enter Tryz.func16, Tryz.ntmps16
  go_wp2_with fail
  refine C1.out.mono ?_
  rintro e w1 ⟨rfl, hb1⟩
  obtain ⟨W1, hW1⟩ : ∃ W1 : World, W1 = w1.alloc (.cells #[.bool false, .slice none 0 0, .int .i64 0, .slice none 0 0, .slice none 0 0, .slice none 0 0] 48) := ⟨_, rfl⟩
  have hbW : Below w.heap.size w W1 := by rw [hW1]; exact hb1.alloc hb1.size _
  have z1 : W1.heap[w1.heap.size]? = some (.cells #[.bool false, .slice none 0 0, .int .i64 0, .slice none 0 0, .slice none 0 0, .slice none 0 0] 48 (0, 0)) := by rw [hW1]; exact heap_alloc_at _ _ rfl
  obtain ⟨p1, hp1⟩ : ∃ p1, w1.heap.size = p1 := ⟨_, rfl⟩
  rw [hp1] at z1
  have C2 := Lib.hid (kGet_any (H.out.below hbW).ref H.out.tab.ok H.out.c (Nat.le_trans hn (by decide)) id)
  have HW1 := Lib.hid hW1; have HBW := Lib.hid hbW; have Z1 := Lib.hid z1; have HP1 := Lib.hid hp1
  clear hW1 hbW z1 hb1
  go_wp2_with fail
  rw [← HW1.out]
  clear hp1
  refine C2.out.mono ?_
  rintro e w2 ⟨hor, hb2⟩
  rcases hor with ⟨m', y', cs, hm', hy', -, -, -⟩ | ⟨-, rfl⟩
  · exfalso
    have h1 := (List.getElem?_eq_some_iff.1 hy').1
    rw [tabL_len] at h1
    exact HID.out ⟨by omega, by omega⟩
  obtain ⟨W2, hW2⟩ : ∃ W2 : World, W2 = w2.alloc (.cells emptyC.toArray 48) := ⟨_, rfl⟩
  have hb12 : Below W1.heap.size W1 W2 := by rw [hW2]; exact hb2.alloc hb2.size _
  have hbW2 : Below w.heap.size w W2 := HBW.out.trans (hb12.mono HBW.out.size)
  have z2 : W2.heap[w2.heap.size]? = some (.cells emptyC.toArray 48 (0, 0)) := by rw [hW2]; exact heap_alloc_at _ _ rfl
  have y1 := (hb12.block _ (heap_lt Z1.out)).trans Z1.out
  obtain ⟨p2, hp2⟩ : ∃ p2, w2.heap.size = p2 := ⟨_, rfl⟩
  rw [hp2] at z2
  have C3 := Lib.hid (group_out (H.out.below hbW2).tab.tab H.out.tab.ok.total id HID.out)
  obtain ⟨rs, q1, q2, q3⟩ := (H.out.below hbW2).ref.ex
  have C4 := Lib.hid (rFind_any q1 (by rw [q2.total]; exact H.out.tab.ok.total) (by omega) id)
  have HR := Lib.hid (q2.inTab : inTab rs = inTab gs)
  have HW2 := Lib.hid hW2; have HBW2 := Lib.hid hbW2; have Z2 := Lib.hid z2; have Y1 := Lib.hid y1; have HP2 := Lib.hid hp2
  clear hW2 hbW2 z2 y1 hb2 hb12 q1 q2 q3 hn
  simp only [emptyC]
  go_wp2_with fail
  rw [show (w2.alloc (.cells #[.bool false, .slice none 0 0, .int .i64 0, .slice none 0 0, .slice none 0 0, .slice none 0 0] 48)) = W2 from HW2.out.symm]
  clear hp2
  refine C3.out.mono ?_
  rintro e w3 ⟨rfl, rfl⟩
  go_wp2_with fail
  refine C4.out.mono ?_
  rintro e w4 ⟨i, first, k, rfl, hp, hb4⟩
  rcases hp with ⟨j', m', g', hg', hm', hid', -, -, -⟩ | ⟨-, rfl, rfl, rfl⟩
  · exfalso
    have h1 : inTab rs id = true := by
      have := firstOf_add hg'
      unfold inTab; rw [hid']; simp; omega
    rw [HR.out, HNO.out] at h1; cases h1
  have x1 := (hb4.block _ (heap_lt Y1.out)).trans Y1.out
  have x2 := (hb4.block _ (heap_lt Z2.out)).trans Z2.out
  have C5 := rSame_any emptyC emptyC emptyY emptyY w4 (sub_empty _) (sub_empty _) (by simp [cnt, emptyY]) (by simp [cnt, emptyY])
  rw [decide_eq_true rfl] at C5
  have HC5 := Lib.hid C5; have HB4 := Lib.hid (HBW2.out.trans (hb4.mono HBW2.out.size))
  have a0 := heap_cell x1 0; have a1 := heap_cell x1 1; have a2 := heap_cell x1 2; have a3 := heap_cell x1 3; have a4 := heap_cell x1 4; have a5 := heap_cell x1 5
  have b0 := heap_cell x2 0; have b1 := heap_cell x2 1; have b2 := heap_cell x2 2; have b3 := heap_cell x2 3; have b4 := heap_cell x2 4; have b5 := heap_cell x2 5
  simp [emptyC] at a0 a1 a2 a3 a4 a5 b0 b1 b2 b3 b4 b5
  clear C5 x1 x2 hb4
  go_wp2_with fail
  refine HC5.out.mono ?_
  rintro e w5 ⟨rfl, hb5⟩
  have HB5 := Lib.hid (HB4.out.trans (hb5.mono HB4.out.size))
  clear hb5
  go_wp2
  go_ret
  exact ⟨rfl, HB5.out⟩
theorem SubAt.outP {w : World} {ds : List Value} {y : Sb} (h : SubAt w ds y) : ∃ a1 c1 a2 c2 a3 c3 a4 c4, ds = [.bool y.fin, .slice a1 y.sups.length c1, .int .i64 y.k, .slice a2 y.ps.length c2, .slice a3 y.rs.length c3, .slice a4 y.fs.length c4] := by
  obtain ⟨vs, vp, vr, vf, rfl, k1, k2, k3, k4⟩ := h.ex
  obtain ⟨a1, c1, rfl⟩ := RowAt.form k1
  obtain ⟨a2, c2, rfl⟩ := RowAt.form k2
  obtain ⟨a3, c3, rfl⟩ := RowAt.form k3
  obtain ⟨a4, c4, rfl⟩ := RowAt.form k4
  exact ⟨_, _, _, _, _, _, _, _, rfl⟩
theorem tabL_cnt (hok : TabOk gs) {m : Nat} {y : Sb} (hy : (tabL gs)[m]? = some y) : cnt y ≤ 1000000 := by
  obtain ⟨j, k, g, x, h1, _, _, _, h5, h6⟩ := tabL_loc hy
  have h7 := ((hok.good g (List.mem_of_getElem? h1)).sm x (List.mem_of_getElem? h5)).cnt
  have h8 : cnt y = cnt x := by rw [h6]; simp [cnt, mapP]
  omega
set_option maxRecDepth 100000 in
set_option maxHeartbeats 32000000 in
theorem stands_in (h : Both w0 S R Q w t r n gs) (hn : n ≤ 100000) (id : Nat) (hid : id < total gs) :
    Calls Tryz.prog 16 #[.pointer (some ⟨t, 0, none⟩), .pointer (some ⟨r, 0, none⟩), .int .i64 id] w fun e w' => e = .returned (.bool true) ∧ Below w.heap.size w w' := by
  have H := Lib.hid h; have HID := Lib.hid hid
  obtain ⟨y, hy⟩ : ∃ y, (tabL gs)[id]? = some y := ⟨(tabL gs)[id]'(by rw [tabL_len]; exact hid), by simp⟩
  have HY := Lib.hid hy; have HCN := Lib.hid (tabL_cnt h.tab.ok hy)
  have C1 := Lib.hid (get_k (⟨h.tab.tab, h.tab.ok, h.c⟩ : TabK S R w t gs) hy)
  clear h hid hy
  go_enter Tryz.func16, Tryz.ntmps16
  go_wp2_with fail
  refine C1.out.mono ?_
  rintro e w1 ⟨ds, rfl, hsub, hb1⟩
  obtain ⟨a1, ac1, a2, ac2, a3, ac3, a4, ac4, rfl⟩ := (hsub w1 (Upd.refl _ _)).outP
  obtain ⟨W1, hW1⟩ : ∃ W1 : World, W1 = w1.alloc (.cells #[.bool y.fin, .slice a1 y.sups.length ac1, .int .i64 y.k, .slice a2 y.ps.length ac2, .slice a3 y.rs.length ac3, .slice a4 y.fs.length ac4] 48) := ⟨_, rfl⟩
  have hbW : Below w.heap.size w W1 := by rw [hW1]; exact hb1.alloc hb1.size _
  have z1 : W1.heap[w1.heap.size]? = some (.cells #[.bool y.fin, .slice a1 y.sups.length ac1, .int .i64 y.k, .slice a2 y.ps.length ac2, .slice a3 y.rs.length ac3, .slice a4 y.fs.length ac4] 48 (0, 0)) := by rw [hW1]; exact heap_alloc_at _ _ rfl
  have s1 : SubAt W1 [.bool y.fin, .slice a1 y.sups.length ac1, .int .i64 y.k, .slice a2 y.ps.length ac2, .slice a3 y.rs.length ac3, .slice a4 y.fs.length ac4] y := (hsub w1 (Upd.refl _ _)).below (by rw [hW1]; exact (Below.refl _ _).alloc (Nat.le_refl _) _) (Nat.le_refl _)
  have C2 := Lib.hid (kGet_any (H.out.below hbW).ref H.out.tab.ok H.out.c (Nat.le_trans hn (by decide)) (id : Int))
  obtain ⟨p1, hp1⟩ : ∃ p1, w1.heap.size = p1 := ⟨_, rfl⟩
  rw [hp1] at z1
  have HW1 := Lib.hid hW1; have HBW := Lib.hid hbW; have Z1 := Lib.hid z1; have S1 := Lib.hid s1; have HP1 := Lib.hid hp1
  clear hW1 hbW z1 s1 hb1 hsub
  go_wp2_with fail
  rw [← HW1.out]
  clear hp1
  refine C2.out.mono ?_
  rintro e w2 ⟨hor, hb2⟩
  rcases hor with ⟨m', y', cs, hm', hy', rfl, -, hs2⟩ | ⟨hno, -⟩
  case inr =>
    exfalso
    have h1 := HID.out
    simp only [inTab, Bool.and_eq_false_iff, decide_eq_false_iff_not] at hno; omega
  obtain rfl : m' = id := by omega
  obtain rfl : y' = y := by rw [HY.out] at hy'; exact (Option.some.inj hy').symm
  obtain ⟨b1, bc1, b2, bc2, b3, bc3, b4, bc4, rfl⟩ := (hs2 w2 (Upd.refl _ _)).outP
  obtain ⟨W2, hW2⟩ : ∃ W2 : World, W2 = w2.alloc (.cells #[.bool y'.fin, .slice b1 y'.sups.length bc1, .int .i64 y'.k, .slice b2 y'.ps.length bc2, .slice b3 y'.rs.length bc3, .slice b4 y'.fs.length bc4] 48) := ⟨_, rfl⟩
  have hb22 : Below w2.heap.size w2 W2 := by rw [hW2]; exact (Below.refl _ _).alloc (Nat.le_refl _) _
  have hb12 : Below W1.heap.size W1 W2 := hb2.trans (hb22.mono hb2.size)
  have hbW2 : Below w.heap.size w W2 := HBW.out.trans (hb12.mono HBW.out.size)
  have z2 : W2.heap[w2.heap.size]? = some (.cells #[.bool y'.fin, .slice b1 y'.sups.length bc1, .int .i64 y'.k, .slice b2 y'.ps.length bc2, .slice b3 y'.rs.length bc3, .slice b4 y'.fs.length bc4] 48 (0, 0)) := by rw [hW2]; exact heap_alloc_at _ _ rfl
  have s2 := (hs2 w2 (Upd.refl _ _)).below hb22 (Nat.le_refl _)
  have s11 := S1.out.below hb12 (Nat.le_refl _)
  have y1 := (hb12.block _ (heap_lt Z1.out)).trans Z1.out
  obtain ⟨p2, hp2⟩ : ∃ p2, w2.heap.size = p2 := ⟨_, rfl⟩
  rw [hp2] at z2
  obtain ⟨j, g, hj, ho, hf1, hf2⟩ := ofL_at gs m' HID.out
  have C3 := Lib.hid (group_any (H.out.below hbW2).tab.tab H.out.tab.ok hj ho HID.out)
  obtain ⟨rs, q1, q2, q3⟩ := (H.out.below hbW2).ref.ex
  have C4 := Lib.hid (rFind_any q1 (by rw [q2.total]; exact H.out.tab.ok.total) (by omega) (m' : Int))
  have HQ1 := Lib.hid q1; have HQ2 := Lib.hid q2; have HQ3 := Lib.hid (Nat.le_trans q3 hn)
  have HJ := Lib.hid hj; have HF := Lib.hid (⟨hf1, hf2⟩ : firstOf gs j ≤ m' ∧ m' < firstOf gs j + g.length)
  have HW2 := Lib.hid hW2; have HBW2 := Lib.hid hbW2; have Z2 := Lib.hid z2; have Y1 := Lib.hid y1; have HP2 := Lib.hid hp2; have S2 := Lib.hid s2; have S11 := Lib.hid s11
  clear hW2 hbW2 z2 y1 hb2 hb12 hb22 q1 q2 q3 hn s2 s11 hj ho hf1 hf2 hs2 hm' hy'
  go_wp2_with fail
  rw [← HW2.out]
  clear hp2
  refine C3.out.mono ?_
  rintro e w3 ⟨rfl, hb3⟩
  replace C4 := Lib.hid (rFind_any (HQ1.out.below hb3) (by rw [HQ2.out.total]; exact H.out.tab.ok.total) (by have := HQ3.out; omega) (m' : Int))
  have HB3 := Lib.hid hb3
  clear hb3
  go_wp2_with fail
  refine C4.out.mono ?_
  rintro e w4 ⟨i, first, k, rfl, hp, hb4⟩
  rcases hp with ⟨j', m2, g', hg', hm2, hid', rfl, rfl, rfl⟩ | ⟨hno, -, -, -⟩
  case inr =>
    exfalso
    have h1 := HID.out
    rw [HQ2.out.inTab] at hno
    simp only [inTab, Bool.and_eq_false_iff, decide_eq_false_iff_not] at hno; omega
  obtain ⟨i2, k1, k2, k3, k4⟩ := find_same HQ2.out hg' hm2 (id := m') (by omega)
  obtain rfl : i2 = j := entry_one k1 HJ.out (id := m') (by omega) HF.out
  obtain rfl : g' = g := by rw [HJ.out] at k1; exact (Option.some.inj k1).symm
  rw [k3]
  have hb24 := HB3.out.trans (hb4.mono HB3.out.size)
  have x1 := (hb24.block _ (heap_lt Y1.out)).trans Y1.out
  have x2 := (hb24.block _ (heap_lt Z2.out)).trans Z2.out
  have C5 := rSame_any _ _ y' y' w4 (S11.out.below hb24 (Nat.le_refl _)) (S2.out.below hb24 (Nat.le_refl _)) HCN.out HCN.out
  rw [decide_eq_true rfl] at C5
  have HC5 := Lib.hid C5; have HB4 := Lib.hid (HBW2.out.trans (hb24.mono HBW2.out.size))
  have a0' := heap_cell x1 0; have a1' := heap_cell x1 1; have a2' := heap_cell x1 2; have a3' := heap_cell x1 3; have a4' := heap_cell x1 4; have a5' := heap_cell x1 5
  have b0' := heap_cell x2 0; have b1' := heap_cell x2 1; have b2' := heap_cell x2 2; have b3' := heap_cell x2 3; have b4' := heap_cell x2 4; have b5' := heap_cell x2 5
  simp at a0' a1' a2' a3' a4' a5' b0' b1' b2' b3' b4' b5'
  have HG' := Lib.hid hg'; have HB24 := Lib.hid hb24
  obtain ⟨F, hF⟩ : ∃ F, firstOf rs j' = F := ⟨_, rfl⟩
  obtain ⟨L, hL⟩ : ∃ L, g'.length = L := ⟨_, rfl⟩
  rw [hF, hL]
  have HL := Lib.hid hL
  clear C5 x1 x2 hb4 hb24 hg' hm2 hid' k1 k2 k3 k4 hF hL
  go_wp2_with fail
  refine HC5.out.mono ?_
  rintro e w5 ⟨rfl, hb5⟩
  have HB5 := Lib.hid (HB4.out.trans (hb5.mono HB4.out.size))
  obtain ⟨ra, rc, hr1, hr2⟩ := (HQ1.out.below (HB24.out.trans (hb5.mono HB24.out.size))).grps
  obtain ⟨b, off, ga, gc, rfl, r1, -⟩ := GrpsAt.at (hr2 w5 (Upd.refl _ _)) HG'.out
  have r0 := heap_cell hr1 0
  simp at r0
  have hjl := (List.getElem?_eq_some_iff.1 HG'.out).1
  obtain ⟨N, hN⟩ : ∃ N, rs.length = N := ⟨_, rfl⟩
  rw [hN] at r0 hjl
  rw [HL.out] at r1
  have hj1 : (j' : Int) < N := by omega
  clear hb5 hr1 hr2 hN hjl
  go_wp2
  go_ret
  exact ⟨rfl, HB5.out⟩
theorem stands_any (h : Both w0 S R Q w t r n gs) (hn : n ≤ 100000) (id : Int) :
    Calls Tryz.prog 16 #[.pointer (some ⟨t, 0, none⟩), .pointer (some ⟨r, 0, none⟩), .int .i64 id] w fun e w' => e = .returned (.bool true) ∧ Below w.heap.size w w' := by
  by_cases hid : 0 ≤ id ∧ id < total gs
  · obtain ⟨m, rfl⟩ : ∃ m : Nat, id = m := ⟨id.toNat, by omega⟩
    exact stands_in h hn m (by omega)
  · exact stands_out h hn id hid
end Go.Proofs.YtoamhiaagaaaaaaGreatDoor
