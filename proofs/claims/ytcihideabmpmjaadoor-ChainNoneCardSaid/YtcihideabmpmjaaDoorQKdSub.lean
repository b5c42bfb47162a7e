/- package kind: PlainSub. -/
import Derived.Test.YtcihideabmpmjaaDoorQKdPlain
namespace Go.Proofs.YtcihideabmpmjaaDoor
open Go.RowKit

theorem indexed_h (x : Hp) (w : World) : Calls Tryd.prog 40 #[.agg (cellsH x).toArray] w fun e w' => e = .returned (.bool (indexedB x)) ∧ Below w.heap.size w w' := indexed_any x.k x.n w
theorem enters_indexed : ∀ args w, (callFunc 40 args).run Tryd.prog w = .ok (.enter 40 args) w := fun _ _ => by kernel_rfl
theorem enters_plainVal : ∀ args w, (callFunc 42 args).run Tryd.prog w = .ok (.enter 42 args) w := fun _ _ => by kernel_rfl
theorem enters_plainField : ∀ args w, (callFunc 44 args).run Tryd.prog w = .ok (.enter 44 args) w := fun _ _ => by kernel_rfl
/-- Lists of at most so many elements. -/
structure Small (s : Sb) : Prop where
  sups : s.sups.length ≤ 1000000
  ps : s.ps.length ≤ 1000000
  rs : s.rs.length ≤ 1000000
  fs : s.fs.length ≤ 1000000
def midS (s : Sb) : Bool := s.ps.all plainV && s.rs.all plainV && s.fs.all plainF
def endS (k : Int) (np nr nf : Nat) : Bool := if k = 1 then decide (nf = 0) else if k = 2 then decide (np + nr = 0) else if k = 3 then decide (np + nr = 0) && decide (nf = 1) else false
theorem plainS_eq (s : Sb) : plainS s = (s.sups.all indexedB && midS s && endS s.k s.ps.length s.rs.length s.fs.length) := by
  unfold plainS midS endS
  simp only [Bool.and_assoc]
set_option maxRecDepth 100000 in
set_option maxHeartbeats 4000000 in
theorem plainSub_any (cs : List Value) (s : Sb) (w : World) (hs : SubAt w cs s) (hm : Small s) : Calls Tryd.prog 22 #[.agg cs.toArray] w fun e w' => e = .returned (.bool (plainS s)) ∧ Below w.heap.size w w' := by
  have HM := Lib.hid hm
  obtain ⟨vs, vp, vr, vf, rfl, h1, h2, h3, h4⟩ := hs.ex
  obtain ⟨ps, pc, rfl⟩ := RowAt.form h2
  obtain ⟨rs, rc, rfl⟩ := RowAt.form h3
  obtain ⟨fs, fc, rfl⟩ := RowAt.form h4
  obtain ⟨fin, sups, k, lp, lr, lf⟩ := s
  dsimp only at h1 h2 h3 h4 ⊢
  obtain ⟨np, hnp⟩ : ∃ n, lp.length = n := ⟨_, rfl⟩
  obtain ⟨nr, hnr⟩ : ∃ n, lr.length = n := ⟨_, rfl⟩
  obtain ⟨nf, hnf⟩ : ∃ n, lf.length = n := ⟨_, rfl⟩
  have H1 := Lib.hid h1; have H2 := Lib.hid h2; have H3 := Lib.hid h3; have H4 := Lib.hid h4
  rw [hnp] at H2; rw [hnr] at H3; rw [hnf] at H4
  have hM1 := hm.ps; have hM2 := hm.rs; have hM3 := hm.fs
  dsimp only at hM1 hM2 hM3
  rw [hnp] at hM1; rw [hnr] at hM2; rw [hnf] at hM3
  rw [plainS_eq]
  dsimp only
  obtain ⟨b0, hb0⟩ : ∃ b, sups.all indexedB = b := ⟨_, rfl⟩
  obtain ⟨b1, hb1⟩ : ∃ b, lp.all plainV = b := ⟨_, rfl⟩
  obtain ⟨b2, hb2⟩ : ∃ b, lr.all plainV = b := ⟨_, rfl⟩
  obtain ⟨b3, hb3⟩ : ∃ b, lf.all plainF = b := ⟨_, rfl⟩
  rw [hnp, hnr, hnf, hb0, show midS ⟨fin, sups, k, lp, lr, lf⟩ = (b1 && b2 && b3) by unfold midS; rw [hb1, hb2, hb3]]
  have A0 := Lib.hid hb0; have A1 := Lib.hid hb1; have A2 := Lib.hid hb2; have A3 := Lib.hid hb3
  obtain ⟨W0, hW⟩ : ∃ W0 : World, W0 = ((w.alloc (.cells #[.bool fin, vs, .int .i64 k, .slice ps np pc, .slice rs nr rc, .slice fs nf fc] 41)).alloc (.cells #[.int .i64 k, .slice ps np pc, .slice rs nr rc, .slice fs nf fc] 39)) := ⟨_, rfl⟩
  have hB : Below w.heap.size w W0 := by rw [hW]; exact (((Below.refl _ _).alloc (by simp) _).alloc (by simp) _)
  have b0_0 : ∀ x : Ext W0, x.val.cell? ⟨w.heap.size, 0, none⟩ = some (.bool fin) := Ext.cells (by rw [hW]; exact heap_cell (heap_alloc_keep (heap_alloc_at _ _ (by simp)) _) 0)
  have b0_1 : ∀ x : Ext W0, x.val.cell? ⟨w.heap.size, 1, none⟩ = some (vs) := Ext.cells (by rw [hW]; exact heap_cell (heap_alloc_keep (heap_alloc_at _ _ (by simp)) _) 1)
  have b0_2 : ∀ x : Ext W0, x.val.cell? ⟨w.heap.size, 2, none⟩ = some (.int .i64 k) := Ext.cells (by rw [hW]; exact heap_cell (heap_alloc_keep (heap_alloc_at _ _ (by simp)) _) 2)
  have b0_3 : ∀ x : Ext W0, x.val.cell? ⟨w.heap.size, 3, none⟩ = some (.slice ps np pc) := Ext.cells (by rw [hW]; exact heap_cell (heap_alloc_keep (heap_alloc_at _ _ (by simp)) _) 3)
  have b0_4 : ∀ x : Ext W0, x.val.cell? ⟨w.heap.size, 4, none⟩ = some (.slice rs nr rc) := Ext.cells (by rw [hW]; exact heap_cell (heap_alloc_keep (heap_alloc_at _ _ (by simp)) _) 4)
  have b0_5 : ∀ x : Ext W0, x.val.cell? ⟨w.heap.size, 5, none⟩ = some (.slice fs nf fc) := Ext.cells (by rw [hW]; exact heap_cell (heap_alloc_keep (heap_alloc_at _ _ (by simp)) _) 5)
  have b1_0 : ∀ x : Ext W0, x.val.cell? ⟨w.heap.size + 1, 0, none⟩ = some (.int .i64 k) := Ext.cells (by rw [hW]; exact heap_cell (heap_alloc_at _ _ (by simp)) 0)
  have b1_1 : ∀ x : Ext W0, x.val.cell? ⟨w.heap.size + 1, 1, none⟩ = some (.slice ps np pc) := Ext.cells (by rw [hW]; exact heap_cell (heap_alloc_at _ _ (by simp)) 1)
  have b1_2 : ∀ x : Ext W0, x.val.cell? ⟨w.heap.size + 1, 2, none⟩ = some (.slice rs nr rc) := Ext.cells (by rw [hW]; exact heap_cell (heap_alloc_at _ _ (by simp)) 2)
  have b1_3 : ∀ x : Ext W0, x.val.cell? ⟨w.heap.size + 1, 3, none⟩ = some (.slice fs nf fc) := Ext.cells (by rw [hW]; exact heap_cell (heap_alloc_at _ _ (by simp)) 3)
  have HW := Lib.hid hW; have HB := Lib.hid hB
  clear hW hB
  have R1 := Lib.hid (RowAt.below h1 HB.out (Nat.le_refl _)); have R2 := Lib.hid (RowAt.below H2.out HB.out (Nat.le_refl _)); have R3 := Lib.hid (RowAt.below H3.out HB.out (Nat.le_refl _)); have R4 := Lib.hid (RowAt.below H4.out HB.out (Nat.le_refl _))
  have hs0 : (np : Int) ≤ 1000000 := by omega
  have hs1 : (nr : Int) ≤ 1000000 := by omega
  clear h1 h2 h3 h4 hs hm hnp hnr hnf hb0 hb1 hb2 hb3 hM1 hM2 hM3 H1 H2 H3 H4
  go_enter Tryd.func22, Tryd.ntmps22
  go_wp2_with fail
  rw [← HW.out]
  refine (Ext.call0 (allH_any _ enters_indexed indexedB indexed_h _ sups _ R1.out HM.out.sups)).mono ?_
  rintro e _ ⟨rfl, x1, rfl⟩
  rw [A0.out]
  cases b0
  · go_wp2
    go_ret
    exact ⟨retb (by simp), HB.out.trans (x1.2.mono HB.out.size)⟩
  go_wp2_with fail
  refine (Ext.call x1 (allV_any _ enters_plainVal plainV plainVal_any _ lp _ (RowAt.ext R2.out x1) HM.out.ps)).mono ?_
  rintro e _ ⟨rfl, x2, rfl⟩
  rw [A1.out]
  cases b1
  · go_wp2
    go_ret
    exact ⟨retb (by simp), HB.out.trans (x2.2.mono HB.out.size)⟩
  go_wp2_with fail
  refine (Ext.call x2 (allV_any _ enters_plainVal plainV plainVal_any _ lr _ (RowAt.ext R3.out x2) HM.out.rs)).mono ?_
  rintro e _ ⟨rfl, x3, rfl⟩
  rw [A2.out]
  cases b2
  · go_wp2
    go_ret
    exact ⟨retb (by simp), HB.out.trans (x3.2.mono HB.out.size)⟩
  go_wp2_with fail
  refine (Ext.call x3 (allF_any _ enters_plainField plainF plainField_any _ lf _ (RowAt.ext R4.out x3) HM.out.fs)).mono ?_
  rintro e _ ⟨rfl, x4, rfl⟩
  rw [A3.out]
  cases b3
  · go_wp2
    go_ret
    exact ⟨retb (by simp), HB.out.trans (x4.2.mono HB.out.size)⟩
  by_cases k1 : k = 1
  · subst k1
    go_wp2
    all_goals
      go_ret
      exact ⟨retb (by first | (simp_all [endS]; done) | (simp_all [endS]; omega) | (rw [Bool.eq_iff_iff]; simp_all [endS]; done) | (rw [Bool.eq_iff_iff]; simp_all [endS]; omega)), HB.out.trans (x4.2.mono HB.out.size)⟩
  by_cases k2 : k = 2
  · subst k2
    go_wp2
    all_goals
      go_ret
      exact ⟨retb (by first | (simp_all [endS]; done) | (simp_all [endS]; omega) | (rw [Bool.eq_iff_iff]; simp_all [endS]; done) | (rw [Bool.eq_iff_iff]; simp_all [endS]; omega)), HB.out.trans (x4.2.mono HB.out.size)⟩
  by_cases k3 : k = 3
  · subst k3
    go_wp2
    all_goals
      go_ret
      exact ⟨retb (by first | (simp_all [endS]; done) | (simp_all [endS]; omega) | (rw [Bool.eq_iff_iff]; simp_all [endS]; done) | (rw [Bool.eq_iff_iff]; simp_all [endS]; omega)), HB.out.trans (x4.2.mono HB.out.size)⟩
  · go_wp2
    all_goals
      go_ret
      exact ⟨retb (by first | (simp_all [endS]; done) | (simp_all [endS]; omega) | (rw [Bool.eq_iff_iff]; simp_all [endS]; done) | (rw [Bool.eq_iff_iff]; simp_all [endS]; omega)), HB.out.trans (x4.2.mono HB.out.size)⟩
end Go.Proofs.YtcihideabmpmjaaDoor
