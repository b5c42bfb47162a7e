/- package kind: Same, Default. -/
import Derived.Test.YtmjehnjodaicfaaDoorQKdEqual
namespace Go.Proofs.YtmjehnjodaicfaaDoor
open Go.RowKit

theorem sb_ne {s t : Sb} (h : s.fin ≠ t.fin ∨ s.sups ≠ t.sups ∨ s.k ≠ t.k ∨ s.ps ≠ t.ps ∨ s.rs ≠ t.rs ∨ s.fs ≠ t.fs) : decide (s = t) = false := decide_eq_false (fun e => by subst e; simp at h)
set_option maxRecDepth 100000 in
set_option maxHeartbeats 8000000 in
theorem same_any (cs ds : List Value) (s t : Sb) (w : World) (hs : SubAt w cs s) (ht : SubAt w ds t) (hm : Small s) (hm' : Small t) : Calls Tryd.prog 16 #[.agg cs.toArray, .agg ds.toArray] w fun e w' => e = .returned (.bool (decide (s = t))) ∧ Below w.heap.size w w' := by
  obtain ⟨vs, vp, vr, vf, rfl, h1, h2, h3, h4⟩ := hs.ex
  obtain ⟨us, up, ur, uf, rfl, g1, g2, g3, g4⟩ := ht.ex
  have M1 := Lib.hid hm; have M2 := Lib.hid hm'
  obtain ⟨fin, sups, k, lp, lr, lf⟩ := s
  obtain ⟨fin', sups', k', lp', lr', lf'⟩ := t
  dsimp only at h1 h2 h3 h4 g1 g2 g3 g4 ⊢
  obtain ⟨W0, hW⟩ : ∃ W0 : World, W0 = ((w.alloc (.cells #[.bool fin, vs, .int .i64 k, vp, vr, vf] 48)).alloc (.cells #[.bool fin', us, .int .i64 k', up, ur, uf] 48)) := ⟨_, rfl⟩
  have hB : Below w.heap.size w W0 := by rw [hW]; exact (((Below.refl _ _).alloc (by simp) _).alloc (by simp) _)
  have b0_0 : ∀ x : Ext W0, x.val.cell? ⟨w.heap.size, 0, none⟩ = some (.bool fin) := Ext.cells (by rw [hW]; exact heap_cell (heap_alloc_keep (heap_alloc_at _ _ (by simp)) _) 0)
  have b0_1 : ∀ x : Ext W0, x.val.cell? ⟨w.heap.size, 1, none⟩ = some (vs) := Ext.cells (by rw [hW]; exact heap_cell (heap_alloc_keep (heap_alloc_at _ _ (by simp)) _) 1)
  have b0_2 : ∀ x : Ext W0, x.val.cell? ⟨w.heap.size, 2, none⟩ = some (.int .i64 k) := Ext.cells (by rw [hW]; exact heap_cell (heap_alloc_keep (heap_alloc_at _ _ (by simp)) _) 2)
  have b0_3 : ∀ x : Ext W0, x.val.cell? ⟨w.heap.size, 3, none⟩ = some (vp) := Ext.cells (by rw [hW]; exact heap_cell (heap_alloc_keep (heap_alloc_at _ _ (by simp)) _) 3)
  have b0_4 : ∀ x : Ext W0, x.val.cell? ⟨w.heap.size, 4, none⟩ = some (vr) := Ext.cells (by rw [hW]; exact heap_cell (heap_alloc_keep (heap_alloc_at _ _ (by simp)) _) 4)
  have b0_5 : ∀ x : Ext W0, x.val.cell? ⟨w.heap.size, 5, none⟩ = some (vf) := Ext.cells (by rw [hW]; exact heap_cell (heap_alloc_keep (heap_alloc_at _ _ (by simp)) _) 5)
  have b1_0 : ∀ x : Ext W0, x.val.cell? ⟨w.heap.size + 1, 0, none⟩ = some (.bool fin') := Ext.cells (by rw [hW]; exact heap_cell (heap_alloc_at _ _ (by simp)) 0)
  have b1_1 : ∀ x : Ext W0, x.val.cell? ⟨w.heap.size + 1, 1, none⟩ = some (us) := Ext.cells (by rw [hW]; exact heap_cell (heap_alloc_at _ _ (by simp)) 1)
  have b1_2 : ∀ x : Ext W0, x.val.cell? ⟨w.heap.size + 1, 2, none⟩ = some (.int .i64 k') := Ext.cells (by rw [hW]; exact heap_cell (heap_alloc_at _ _ (by simp)) 2)
  have b1_3 : ∀ x : Ext W0, x.val.cell? ⟨w.heap.size + 1, 3, none⟩ = some (up) := Ext.cells (by rw [hW]; exact heap_cell (heap_alloc_at _ _ (by simp)) 3)
  have b1_4 : ∀ x : Ext W0, x.val.cell? ⟨w.heap.size + 1, 4, none⟩ = some (ur) := Ext.cells (by rw [hW]; exact heap_cell (heap_alloc_at _ _ (by simp)) 4)
  have b1_5 : ∀ x : Ext W0, x.val.cell? ⟨w.heap.size + 1, 5, none⟩ = some (uf) := Ext.cells (by rw [hW]; exact heap_cell (heap_alloc_at _ _ (by simp)) 5)
  have HW := Lib.hid hW; have HB := Lib.hid hB
  clear hW hB
  have R1 := Lib.hid (RowAt.below h1 HB.out (Nat.le_refl _)); have R2 := Lib.hid (RowAt.below h2 HB.out (Nat.le_refl _)); have R3 := Lib.hid (RowAt.below h3 HB.out (Nat.le_refl _)); have R4 := Lib.hid (RowAt.below h4 HB.out (Nat.le_refl _))
  have S1 := Lib.hid (RowAt.below g1 HB.out (Nat.le_refl _)); have S2 := Lib.hid (RowAt.below g2 HB.out (Nat.le_refl _)); have S3 := Lib.hid (RowAt.below g3 HB.out (Nat.le_refl _)); have S4 := Lib.hid (RowAt.below g4 HB.out (Nat.le_refl _))
  clear h1 h2 h3 h4 g1 g2 g3 g4 hs ht hm hm'
  by_cases e0 : fin = fin'
  · subst e0
    obtain ⟨b1, hb1⟩ : ∃ b, decide (sups = sups') = b := ⟨_, rfl⟩
    obtain ⟨b2, hb2⟩ : ∃ b, decide (lp = lp') = b := ⟨_, rfl⟩
    obtain ⟨b3, hb3⟩ : ∃ b, decide (lr = lr') = b := ⟨_, rfl⟩
    obtain ⟨b4, hb4⟩ : ∃ b, decide (lf = lf') = b := ⟨_, rfl⟩
    have A1 := Lib.hid hb1; have A2 := Lib.hid hb2; have A3 := Lib.hid hb3; have A4 := Lib.hid hb4
    clear hb1 hb2 hb3 hb4
    go_enter Tryd.func16, Tryd.ntmps16
    go_wp2_with fail
    rw [← HW.out]
    refine ((Ext.call_quiet ⟨W0, Below.refl _ _⟩ (equalH_any _ _ sups sups' _ R1.out S1.out M1.out.sups M2.out.sups))).mono ?_
    rintro e _ ⟨rfl, x1, rfl⟩
    rw [A1.out]
    cases b1
    · go_wp2
      go_ret
      exact ⟨retb (sb_ne (.inr (.inl (of_decide_eq_false A1.out)))).symm, HB.out.trans (x1.2.mono HB.out.size)⟩
    by_cases ek : k = k'
    · subst ek
      go_wp2_with fail
      refine (Ext.call_quiet x1 (sameVals_any _ _ lp lp' _ (RowAt.ext R2.out x1) (RowAt.ext S2.out x1) M1.out.ps M2.out.ps)).mono ?_
      rintro e _ ⟨rfl, x2, rfl⟩
      rw [A2.out]
      cases b2
      · go_wp2
        go_ret
        exact ⟨retb (sb_ne (.inr (.inr (.inr (.inl (of_decide_eq_false A2.out)))))).symm, HB.out.trans (x2.2.mono HB.out.size)⟩
      go_wp2_with fail
      refine (Ext.call_quiet x2 (sameVals_any _ _ lr lr' _ (RowAt.ext R3.out x2) (RowAt.ext S3.out x2) M1.out.rs M2.out.rs)).mono ?_
      rintro e _ ⟨rfl, x3, rfl⟩
      rw [A3.out]
      cases b3
      · go_wp2
        go_ret
        exact ⟨retb (sb_ne (.inr (.inr (.inr (.inr (.inl (of_decide_eq_false A3.out))))))).symm, HB.out.trans (x3.2.mono HB.out.size)⟩
      go_wp2_with fail
      refine (Ext.call_quiet x3 (equalF_any _ _ lf lf' _ (RowAt.ext R4.out x3) (RowAt.ext S4.out x3) M1.out.fs M2.out.fs)).mono ?_
      rintro e _ ⟨rfl, x4, rfl⟩
      rw [A4.out]
      cases b4
      · go_wp2
        go_ret
        exact ⟨retb (sb_ne (.inr (.inr (.inr (.inr (.inr (of_decide_eq_false A4.out))))))).symm, HB.out.trans (x4.2.mono HB.out.size)⟩
      go_wp2
      go_ret
      refine ⟨retb ?_, HB.out.trans (x4.2.mono HB.out.size)⟩
      rw [of_decide_eq_true A1.out, of_decide_eq_true A2.out, of_decide_eq_true A3.out, of_decide_eq_true A4.out]; simp
    · have ek' : (k == k') = false := by simpa using ek
      have NE := Lib.hid (sb_ne (s := ⟨fin, sups, k, lp, lr, lf⟩) (t := ⟨fin, sups', k', lp', lr', lf'⟩) (.inr (.inr (.inl ek))))
      clear ek
      go_wp2
      go_ret
      exact ⟨retb NE.out.symm, HB.out.trans (x1.2.mono HB.out.size)⟩
  · have e0' : (fin == fin') = false := by simpa using e0
    have NE := Lib.hid (sb_ne (s := ⟨fin, sups, k, lp, lr, lf⟩) (t := ⟨fin', sups', k', lp', lr', lf'⟩) (.inl e0))
    clear e0
    go_enter Tryd.func16, Tryd.ntmps16
    go_wp2
    all_goals
      go_ret
      refine ⟨retb ?_, ((Below.refl _ _).alloc (Nat.le_refl _) _).alloc (by simp) _⟩
      rw [NE.out]
def firstV (v : Vl) : Bool := v.k == 1 || v.k == 2 || (v.k == 3 && v.nl)
end Go.Proofs.YtmjehnjodaicfaaDoor
